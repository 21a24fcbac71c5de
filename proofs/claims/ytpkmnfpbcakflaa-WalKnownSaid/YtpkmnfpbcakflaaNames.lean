/- The walk of disk's Names on a disk that is down. No condition. -/
import Derived.Test.YtpkmnfpbcakflaaSt
import Derived.Deep.DeepCutAuto
namespace Go.Proofs.Ytpkmnfpbcakflaa
open Go.ChangeShapes Go.WideShapes Go.ChangeAt Go.RowKit

set_option maxRecDepth 100000 in
theorem len64_zero (w : World) : Calls Try.prog 109 #[.int .u64 0] w fun e w' => e = .returned (.int .i64 0) ∧ w = w' := by
  go_enter Try.func109, Try.ntmps109
  go_wp2_with fail
  go_ret
  exact ⟨by kernel_rfl, rfl⟩
theorem blen_zero (w : World) : Calls Try.prog 79 #[.int .u64 0] w fun e w' => e = .returned (.int .i64 0) ∧ w = w' := by
  go_enter Try.func79, Try.ntmps79
  go_wp2_with fail
  refine (len64_zero w).mono ?_
  rintro e w1 ⟨rfl, rfl⟩
  go_wp2_with fail
  go_ret
  exact ⟨rfl, rfl⟩
theorem insertion_nil (w : World) : Calls Try.prog 99 #[.slice none 0 0, .int .i64 0, .int .i64 0] w fun e w' => e = .returned (.tuple #[]) ∧ w = w' := by
  go_enter Try.func99, Try.ntmps99
  go_wp2_with fail
  go_loopw [6] (fun i w' => i = .int .i64 1 ∧ w' = w) (fun _ _ => 0)
  case atStart => exact ⟨rfl, rfl⟩
  case round =>
    obtain ⟨rfl, rfl⟩ := hrel
    go_wp2_with fail
    go_end0
    exact ⟨rfl, rfl⟩
theorem pdq_nil (n : Int) (w : World) : Calls Try.prog 78 #[.slice none 0 0, .int .i64 0, .int .i64 0, .int .i64 n] w fun e w' => e = .returned (.tuple #[]) ∧ w = w' := by
  go_enter Try.func78, Try.ntmps78
  go_wp2_with fail
  go_loopw [1, 2] (fun a b w' => a = .int .i64 0 ∧ b = .int .i64 0 ∧ w' = w) (fun _ _ _ => 0)
  case atStart => exact ⟨rfl, rfl, rfl⟩
  case round =>
    obtain ⟨rfl, rfl, rfl⟩ := hrel
    go_wp2_with fail
    refine (insertion_nil _).mono ?_
    rintro e w1 ⟨rfl, rfl⟩
    go_wp2_with fail
    refine bodyPost_ret (results_none rfl _ _ _) rfl ?_
    exact ⟨rfl, rfl⟩
theorem sort_nil (w : World) : Calls Try.prog 53 #[.slice none 0 0] w fun e w' => e = .returned (.tuple #[]) ∧ w = w' := by
  go_enter Try.func53, Try.ntmps53
  go_wp2_with fail
  refine (blen_zero w).mono ?_
  rintro e w1 ⟨rfl, rfl⟩
  go_wp2_with fail
  refine (pdq_nil _ _).mono ?_
  rintro e w1 ⟨rfl, rfl⟩
  go_wp2_with fail
  go_end0
  exact ⟨rfl, rfl⟩

set_option maxRecDepth 100000 in
set_option maxHeartbeats 2000000 in
theorem names_down (S : Nat → Prop) (p : Nat) (room : Int) (bs bn : Nat) (vp : Value) (fuse : Int) (D : Fs) (w : World) (hH : HeadAt w p room bs bn vp fuse true) (hF : FilesAt S w bn D) :
    Calls Try.prog 26 #[.pointer (some ⟨p, 0, none⟩)] w fun e w' => e = .returned (.slice none 0 0) ∧ Below w.heap.size w w' := by
  obtain ⟨-, -, c2, -, -, c5, -⟩ := hH.cells
  have hpl := hH.lt
  have hown : w.ownsMap Try.prog 9 (RB S w) bn (Maps.size D) D := hF
  go_enter Try.func26, Try.ntmps26
  go_wp2_with (first
    | (at_range; refine wpList_range_own _ rfl _ 81 rfl 9 25 keyed Try.underlying81 _ bn (Maps.size D) _ rfl hown ?_; intro w0 hrg0 hg0 hs0))
  go_frame
  have hB0 : Below w.heap.size w w0 := (Below.refl _ w).grown hg0 (Nat.le_refl _) (by simp)
  clear hown hg0 hs0
  go_loopw [3, 4] (fun n _ wr => ∃ (left : Lit → Bool) (cnt : Nat), wr.ranges Try.prog 9 (RB S w) bn w.heap.size (Maps.size D) D left cnt ∧ n = .slice none 0 0 ∧ Below w.heap.size w wr)
    (fun _ _ wr => wr.rangeLeft bn w.heap.size)
  case atStart => exact ⟨_, _, hrg0, rfl, hB0⟩
  case round =>
    obtain ⟨left, cnt, hrg, rfl, hB⟩ := hrel
    clear hrg0 hB0
    go_wp2_with (at_next; refine wpList_next_ranges _ rfl _ rfl 9 keyed (RB S w) Value.string mkSl key_inv val_inv bn w.heap.size (Maps.size D) _ _ _ rfl hrg ?_ ?_)
    · intro hc0 hl0
      clear hl0 hc0 hrg
      go_wp2_with fail
      refine (sort_nil _).mono ?_
      rintro e w1 ⟨rfl, rfl⟩
      go_wp2_with fail
      go_ret
      exact ⟨rfl, hB⟩
    · intro x ca cn cc kl d ps w1 cnt1 hkey hlx hRv hat hrg1 hlt hg1 hs1 hen
      have hB1 := hB.grown hg1 hB.size (by intro k hk; simp at hk; omega)
      have c5' := (hB1.cell (p := ⟨p, 5, none⟩) hpl).trans c5
      have HRL := Lib.hid hrg.left_eq
      have HG := Lib.hid hrg1
      clear hkey hat hlx hrg hrg1 hg1 hs1 hRv
      go_wp2_with fail
      go_roundw
      case rel => exact ⟨_, cnt1, HG.out, rfl, hB1⟩
      case measure => rw [HG.out.left_eq, HRL.out]; exact hlt
end Go.Proofs.Ytpkmnfpbcakflaa
