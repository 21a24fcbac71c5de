/- The walks of SameBatch on two equal batches, and of Right on no batch. No condition. -/
import Derived.Test.YtpkmnfpbcakflaaWBeg
namespace Go.Proofs.Ytpkmnfpbcakflaa
open Go.ChangeShapes Go.WideShapes Go.ChangeAt Go.RowKit Go.Sort

set_option maxRecDepth 100000 in
set_option maxHeartbeats 4000000 in
theorem wright_zero (w : World) : Calls Try.prog 45 #[.agg batZ] w fun e w' => e = .returned (.bool false) ∧ Below w.heap.size w w' := by
  have hB := (Below.refl w.heap.size w).alloc (Nat.le_refl _) (.cells batZ 76)
  have HB := Lib.hid hB
  clear hB
  unfold batZ at *
  go_enter Try.func45, Try.ntmps45
  go_wp2_with fail
  go_ret
  exact ⟨rfl, HB.out⟩
theorem ord1 : (FloatKind.f64.format.order 4607182418800017408 4607182418800017408 == some .eq) = true := by
  have := order_fl_self 1 (by decide); rw [fl1] at this; exact this
theorem ord0 : (FloatKind.f64.format.order 0 0 == some .eq) = true := by
  have := order_fl_self 0 (by decide); rw [fl_zero] at this; exact this
theorem ord2 : (FloatKind.f64.format.order 4611686018427387904 4611686018427387904 == some .eq) = true := by
  have := order_fl_self 2 (by decide); rw [fl2] at this; exact this
set_option maxRecDepth 100000 in
set_option maxHeartbeats 8000000 in
theorem wsame_yes {w : World} (a b : Option Addr) (c d : Nat) (ha : Src w 1 (.slice a 2 c) 2 (byteCells [97, 98])) (hb : Src w 1 (.slice b 2 d) 2 (byteCells [97, 98])) :
    Calls Try.prog 71 #[.agg (bat 5 (.slice a 2 c)), .agg (bat 5 (.slice b 2 d))] w fun e w' => e = .returned (.bool true) ∧ Below w.heap.size w w' := by
  have hB := ((Below.refl w.heap.size w).alloc (Nat.le_refl _) (.cells (bat 5 (.slice a 2 c)) 76)).alloc (by simp) (.cells (bat 5 (.slice b 2 d)) 76)
  have ca := run_string_src (P := Try.prog) (ha.below hB) 25 5 9 Try.underlying25 Try.underlying5 Try.underlying9
  have cb := run_string_src (P := Try.prog) (hb.below hB) 25 5 9 Try.underlying25 Try.underlying5 Try.underlying9
  have o0 := ord0
  have o1 := ord1
  have o2 := ord2
  have HB := Lib.hid hB
  clear hB ha hb
  generalize strOfNums [97, 98] = s at *
  unfold bat at *
  go_enter Try.func71, Try.ntmps71
  go_wp2_with fail
  go_ret
  exact ⟨rfl, HB.out⟩
end Go.Proofs.Ytpkmnfpbcakflaa
