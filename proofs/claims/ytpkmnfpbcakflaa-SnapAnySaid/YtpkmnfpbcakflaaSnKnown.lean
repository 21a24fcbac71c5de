/- The walks of chapter 6's closed sentence. No condition. -/
import Derived.Test.YtpkmnfpbcakflaaSnap
import Derived.Test.YtpkmnfpbcakflaaLaw
import Derived.Lib.SlBytesConst
namespace Go.Proofs.Ytpkmnfpbcakflaa
open Go.ChangeShapes Go.WideShapes Go.ChangeAt Go.RowKit

theorem sx_new {w w' : World} {e : Ending} (h : NewDisk w w' e 8388608) : ∃ p, e = .returned (.tuple #[.pointer (some ⟨p, 0, none⟩), .int .i64 0]) ∧ SX (fun k => k < w.heap.size) w w' p (sOn none none (-1) false) := by
  obtain ⟨p, he, hD, -, hB⟩ := h
  exact ⟨p, he, hD, Keep.of_below hB⟩
theorem saveM_up (o : Option (List Int)) (fr : List Int) : saveM o fr (-1) = (0, sOn (some fr) none (-1) false) := by simp [saveM, nf]
theorem saveM_two (o : Option (List Int)) (fr : List Int) : saveM o fr 2 = (3, sOn o (some fr) 0 true) := by simp [saveM, nf]
theorem crashD_on (o n : Option (List Int)) (f : Int) (dn : Bool) (k : Nat) (torn : Int) : crashD (sOn o n f dn) k torn = twoF o n := by
  simp [crashD, sOn, replay]
theorem crashed_on (o n : Option (List Int)) (f : Int) (dn : Bool) (k : Nat) (torn : Int) : crashed (sOn o n f dn) k torn = sOn o n (-1) false := by
  simp [crashed, crashD, sOn, replay]
section
variable {X : Nat → Prop} {wa w : World} {p : Nat}
theorem SX.saveUp {o : Option (List Int)} {a : Option Addr} {m c : Nat} (b : List Int) (h : SX X wa w p (sOn o none (-1) false)) (hsrc : Src w 1 (.slice a m c) m (byteCells b)) (hb : ∀ x ∈ b, 0 ≤ x ∧ x < 256) (hm : m ≤ 4194000) (ho : (o.getD []).length ≤ 4194100) :
    Calls Try.prog 29 #[.pointer (some ⟨p, 0, none⟩), .slice a m c] w fun e w' => e = .returned (.int .i64 0) ∧ SX X wa w' p (sOn (some (frameL b)) none (-1) false) := by
  have := save_any b h hsrc hb hm ho (by decide) (by decide)
  rw [saveM_up] at this
  exact this
end
/-- a string of a slice's bytes -/
theorem conv_src {w : World} {a : Option Addr} {n c : Nat} {b : List Int} (h : Src w 1 (.slice a n c) n (byteCells b)) : (convert 25 9 (.slice a n c)).run Try.prog w = .ok (.string (strOfNums b)) w :=
  run_string_src (P := Try.prog) h 25 5 9 Try.underlying25 Try.underlying5 Try.underlying9

def bAB : List Int := [97, 98]
def bCD : List Int := [99, 100]
theorem str_AB : strOfNums bAB = ⟨#[97, 98]⟩ := rfl
set_option maxRecDepth 100000 in
set_option maxHeartbeats 2000000 in
theorem snknown_any (w : World) : Calls Try.prog 28 #[] w fun e w' => e = .returned (.bool true) ∧ Below w.heap.size w w' := by
  have kc := fun (w : World) (C : Array Value) (n c : Nat) => Lib.run_convert_bytes_const (P := Try.prog) w 25 5 C n c Try.underlying25 Try.underlying5
  go_enter Try.func28, Try.ntmps28
  go_wp2_with fail
  refine (new_ok 8388608 (by decide) (by decide) w).mono ?_
  rintro e w1 hN
  obtain ⟨p, rfl, S1⟩ := sx_new hN
  have hA1 : Below w1.heap.size w1 (w1.alloc (.cells #[.int .u8 97, .int .u8 98] 5 (2, 3))) := (Below.refl _ w1).alloc (Nat.le_refl _) _
  have HSave := Lib.hid ((S1.below hA1).saveUp bAB (src_const w1 #[.int .u8 97, .int .u8 98] (2, 3) 2 bAB rfl rfl) (by decide) (by decide) (by decide))
  clear hN S1 hA1
  go_wp2_with fail
  refine HSave.out.mono ?_
  rintro e w2 ⟨rfl, S2⟩
  have HOpen := Lib.hid (open_any (some bAB) none S2 (by intro y hy; cases hy; decide) (by decide))
  clear S2 HSave
  go_wp2_with fail
  refine HOpen.out.mono ?_
  rintro e w3 ⟨hK3, Y, hXY, S3, a3, c3, rfl, hsrc3, hown3⟩
  have HK3 := Lib.hid (And.intro hK3 hXY)
  have HS3 := Lib.hid (And.intro hsrc3 hown3)
  have HFuse := Lib.hid (show Calls _ _ _ _ fun e w' => e = .returned (.tuple #[]) ∧ SX Y w3 w' p (sOn (some (frameL bAB)) none 2 false) from S3.fuse2 2)
  clear hK3 hXY hsrc3 hown3 S3 HOpen
  go_wp2_with fail
  refine HFuse.out.mono ?_
  rintro e w4 ⟨rfl, S4⟩
  have hA4 : Below w4.heap.size w4 (w4.alloc (.cells #[.int .u8 99, .int .u8 100] 5 (2, 3))) := (Below.refl _ w4).alloc (Nat.le_refl _) _
  have hs := save_any bCD (S4.below hA4) (src_const w4 #[.int .u8 99, .int .u8 100] (2, 3) 2 bCD rfl rfl) (by decide) (by decide) (by rw [Option.getD_some, frameL_len]; decide) (by decide) (by decide)
  rw [saveM_two] at hs
  have HSave := Lib.hid hs
  clear S4 hA4 hs HFuse
  go_wp2_with fail
  refine HSave.out.mono ?_
  rintro e w5 ⟨rfl, S5⟩
  have HCr := Lib.hid (S5.crash2 1 0 trivial (Nat.zero_le _) (fun k => by rw [crashD_on]; have := two_size (some (frameL bAB)) (some (frameL bCD)); omega))
  clear S5 HSave
  go_wp2_with fail
  refine HCr.out.mono ?_
  rintro e w6 ⟨k, -, -, rfl, S6⟩
  rw [crashed_on] at S6
  have HOpen := Lib.hid (open_any (some bAB) (some (frameL bCD)) S6 (by intro y hy; cases hy; decide) (by rw [Option.getD_some, frameL_len]; decide))
  clear S6 HCr
  go_wp2_with fail
  refine HOpen.out.mono ?_
  rintro e w7 ⟨hK7, Y7, -, S7, a7, c7, rfl, hsrc7, -⟩
  have hsrc3 : Src w7 1 (.slice a3 bAB.length c3) bAB.length (byteCells bAB) := HS3.out.1.mod hK7 fun h0 k hk e => e (HS3.out.2 h0 k hk)
  have hlen : bAB.length = 2 := rfl
  have cA := conv_src hsrc3
  have cB := conv_src hsrc7
  rw [str_AB] at cA cB
  rw [hlen] at cA cB ⊢
  have HB := Lib.hid (show Below w.heap.size w w7 from Keep.below (X := fun k => k < w.heap.size) (HK3.out.1.trans (hK7.mono fun k _ hk hx => hk (HK3.out.2 k hx))) (fun _ h => h) (Nat.le_refl _))
  clear hsrc3 hsrc7 hK7 S7 HOpen hlen
  go_wp2_with fail
  go_ret
  exact ⟨rfl, HB.out⟩

set_option maxRecDepth 100000 in
set_option maxHeartbeats 2000000 in
theorem snapKnown_any (w : World) : Calls Try.prog 8 #[] w fun e w' => e = .returned (.bool true) ∧ Below w.heap.size w w' := by
  obtain ⟨i0, hi0, hz0, hz1, hz2⟩ := info_parts infoB
  go_enter Try.func8, Try.ntmps8
  go_wp2_with fail
  refine (new_ok 8388608 (by decide) (by decide) w).mono ?_
  rintro e w1 hN
  obtain ⟨p, rfl, S1⟩ := sx_new hN
  have HOpen := Lib.hid (open_any none none S1 (by intro y hy; cases hy) (by decide))
  clear hN S1
  go_wp2_with fail
  refine HOpen.out.mono ?_
  rintro e w2 ⟨hK2, Y, hXY, S2, rfl⟩
  have HK2 := Lib.hid (And.intro hK2 hXY)
  have H2 := Lib.hid S2
  clear hK2 hXY S2 HOpen
  go_wp2_with fail
  refine (open_nil w2).mono ?_
  rintro e w3 ⟨rfl, rfl⟩
  go_wp2_with fail
  refine (snknown_any w2).mono ?_
  rintro e w3 ⟨rfl, hB3⟩
  have H3 := Lib.hid (H2.out.below hB3)
  clear H2 hB3
  go_wp2_with fail
  refine (save_nil none 0 0 w3).mono ?_
  rintro e w4 ⟨rfl, rfl⟩
  have hmk : ∀ w, (Instr.makeSlice 25 (.int .i64 4194305) (.int .i64 4194305)).run Try.prog w = .ok (.slice (some ⟨w.heap.size, 0, none⟩) 4194305 4194305) (w.alloc (.cells (bytesMade 4194305) 5)) := fun w => run_make_bytes (P := Try.prog) w 25 5 i0 Try.underlying25 hi0 hz0 hz1 hz2 4194305 (by omega)
  generalize bytesMade 4194305 = BM at hmk
  go_wp2_with fail
  have hA : Below w3.heap.size w3 (w3.alloc (.cells BM 5)) := (Below.refl _ w3).alloc (Nat.le_refl _) _
  refine (save_long (p := p) (some ⟨w3.heap.size, 0, none⟩) 4194305 4194305 (by omega) _).mono ?_
  rintro e w4 ⟨rfl, rfl⟩
  have HSave := Lib.hid ((H3.out.below hA).saveUp [] (a := none) (m := 0) (c := 0) ⟨rfl, by simp [byteCells], .inl ⟨rfl, rfl⟩⟩ (by simp) (by decide) (by decide))
  clear hmk hA H3
  go_wp2_with fail
  refine HSave.out.mono ?_
  rintro e w5 ⟨rfl, S5⟩
  have HB := Lib.hid (show Below w.heap.size w w5 from Keep.below (X := fun k => k < w.heap.size) (HK2.out.1.trans (S5.2.mono fun k _ hk hx => hk (HK2.out.2 k hx))) (fun _ h => h) (Nat.le_refl _))
  clear S5 HSave
  go_wp2_with fail
  go_ret
  exact ⟨rfl, HB.out⟩
end Go.Proofs.Ytpkmnfpbcakflaa
