/- The walk of wal's Lay on one batch. No condition. -/
import Derived.Test.YtpkmnfpbcakflaaWLay
import Derived.Test.YtpkmnfpbcakflaaFrame
namespace Go.Proofs.Ytpkmnfpbcakflaa
open Go.ChangeShapes Go.WideShapes Go.ChangeAt Go.RowKit

def layL (e0 : Int) : List Int := [e0, 3, 1, 0, 1, 2, 0, 2, 97, 98]
theorem Wr.base {w0 w : World} {p : Nat} {b : List Int} (h : Wr w0 w p b) : Below w0.heap.size w0 w := h.2.1
/-- the cells of a batch's block -/
structure BatAt (w : World) (g : Nat) (e0 : Int) (u : Value) : Prop where
  b : w.heap[g]? = some (.cells (bat e0 u) 76 (0, 0))
theorem BatAt.below {w w' : World} {g : Nat} {e0 : Int} {u : Value} (h : BatAt w g e0 u) {B : Nat} (hg : g < B) (hB : Below B w w') : BatAt w' g e0 u := ⟨(hB.block g hg).trans h.b⟩
theorem BatAt.cells {w : World} {g : Nat} {e0 : Int} {u : Value} (h : BatAt w g e0 u) : w.cell? ⟨g, 0, none⟩ = some (.int .u64 e0) ∧ w.cell? ⟨g, 1, none⟩ = some (.int .u64 3) ∧ w.cell? ⟨g, 2, none⟩ = some (.complex .f64 4607182418800017408 0) ∧ w.cell? ⟨g, 3, none⟩ = some (.complex .f64 4607182418800017408 4611686018427387904) ∧ w.cell? ⟨g, 4, none⟩ = some (.bool false) ∧ w.cell? ⟨g, 5, none⟩ = some u ∧ w.cell? ⟨g, 6, none⟩ = some (.bool false) := by
  refine ⟨?_, ?_, ?_, ?_, ?_, ?_, ?_⟩ <;> (rw [cell_of_row _ _ _ _ _ _ h.b]; rfl)
set_option maxRecDepth 100000 in
set_option maxHeartbeats 2000000 in
theorem wlay_any (e0 : Int) (he : 1 ≤ e0 ∧ e0 < 128) (a : Option Addr) (c : Nat) (w : World) (hsrc : Src w 1 (.slice a 2 c) 2 (byteCells [97, 98])) : Calls Try.prog 75 #[.agg (bat e0 (.slice a 2 c))] w fun e w' => UnsealYes w w' e (layL e0) := by
  obtain ⟨he0, he1⟩ := he
  have hB := (Below.refl w.heap.size w).alloc (Nat.le_refl _) (.cells (bat e0 (.slice a 2 c)) 76)
  have hblk : (w.alloc (.cells (bat e0 (.slice a 2 c)) 76)).heap[w.heap.size]? = some (.cells (bat e0 (.slice a 2 c)) 76 (0, 0)) := heap_alloc_new w _
  have hsz : w.heap.size < (w.alloc (.cells (bat e0 (.slice a 2 c)) 76)).heap.size := by simp
  have HR := Lib.hid (wright_yes e0 ⟨he0, by omega⟩ a c (w.alloc (.cells (bat e0 (.slice a 2 c)) 76)))
  have HBl := Lib.hid (BatAt.mk hblk)
  have HB := Lib.hid hB
  have HS := Lib.hid hsrc
  have HSz := Lib.hid hsz
  have HE := Lib.hid (rfl : bat e0 (.slice a 2 c) = bat e0 (.slice a 2 c))
  clear hsrc hB hblk hsz
  obtain ⟨C, hC⟩ : ∃ C, bat e0 (.slice a 2 c) = C := ⟨_, rfl⟩
  go_enter Try.func75, Try.ntmps75
  unfold bat at HB HSz HBl HR ⊢
  go_wp2_with fail
  refine HR.out.mono ?_
  rintro e W ⟨rfl, hBW⟩
  have HW := Lib.hid (HB.out.trans (hBW.mono HB.out.size))
  have HG := Lib.hid (Nat.lt_of_lt_of_le HSz.out hBW.size)
  have HBW := Lib.hid (BatAt.below (e0 := e0) (u := .slice a 2 c) HBl.out HSz.out hBW)
  clear hBW HR HB HBl HSz hC
  go_wp2_with fail
  refine (writer_new W).mono ?_
  rintro e w2 ⟨p, rfl, S2⟩
  obtain ⟨c0, c1, c2, c3, c4, c5, c6⟩ := (HBW.out.below HG.out S2.base).cells
  have H2 := Lib.hid (num_small e0 ⟨by omega, by omega⟩ S2 (by simp))
  clear S2
  go_wp2_with fail
  refine H2.out.mono ?_
  clear c0 c1 c2 c3 c4 c5 c6
  rintro e w3 ⟨rfl, S3⟩
  clear H2
  obtain ⟨c0, c1, c2, c3, c4, c5, c6⟩ := (HBW.out.below HG.out S3.base).cells
  have H3 := Lib.hid (num_small 3 (by decide) S3 (by simp))
  clear S3
  go_wp2_with fail
  refine H3.out.mono ?_
  clear c0 c1 c2 c3 c4 c5 c6
  rintro e w4 ⟨rfl, S4⟩
  clear H3
  obtain ⟨c0, c1, c2, c3, c4, c5, c6⟩ := (HBW.out.below HG.out S4.base).cells
  have H4 := Lib.hid (mlay1 S4 (by simp))
  clear S4
  go_wp2_with fail
  refine H4.out.mono ?_
  clear c0 c1 c2 c3 c4 c5 c6
  rintro e w5 ⟨rfl, S5⟩
  clear H4
  obtain ⟨c0, c1, c2, c3, c4, c5, c6⟩ := (HBW.out.below HG.out S5.base).cells
  have H5 := Lib.hid (mlay2 S5 (by simp))
  clear S5
  go_wp2_with fail
  refine H5.out.mono ?_
  clear c0 c1 c2 c3 c4 c5 c6
  rintro e w6 ⟨rfl, S6⟩
  clear H5
  obtain ⟨c0, c1, c2, c3, c4, c5, c6⟩ := (HBW.out.below HG.out S6.base).cells
  have H6 := Lib.hid (byte_any 0 S6 (by simp))
  clear S6
  go_wp2_with fail
  refine H6.out.mono ?_
  clear c0 c1 c2 c3 c4 c5 c6
  rintro e w7 ⟨rfl, S7⟩
  clear H6
  obtain ⟨c0, c1, c2, c3, c4, c5, c6⟩ := (HBW.out.below HG.out S7.base).cells
  have hst := run_string_src (P := Try.prog) ((HS.out.below HW.out).below S7.base) 25 5 9 Try.underlying25 Try.underlying5 Try.underlying9
  have H7 := Lib.hid (text_small [97, 98] (by decide) (by decide) S7 (by simp))
  clear S7
  generalize strOfNums [97, 98] = sAB at *
  go_wp2_with fail
  refine H7.out.mono ?_
  clear c0 c1 c2 c3 c4 c5 c6 hst
  rintro e w8 ⟨rfl, S8⟩
  clear H7
  have HWB := Lib.hid S8.base
  have H8 := Lib.hid (bytes_any S8 (by simp))
  clear S8
  go_wp2_with fail
  refine H8.out.mono ?_
  rintro e w9 ⟨a9, c9, rfl, hR9, hf9, hB9⟩
  have HZ := Lib.hid (And.intro hR9 (And.intro hf9 hB9))
  clear hR9 hf9 hB9
  go_wp2_with fail
  go_ret2
  refine ⟨a9, c9, rfl, HZ.out.1, fun k hk => ?_, ?_⟩
  · have := HZ.out.2.1 k hk
    have h1 := HWB.out.size
    have h2 := HW.out.size
    omega
  · exact (HW.out.trans (HWB.out.mono HW.out.size)).trans (HZ.out.2.2.mono (Nat.le_trans HW.out.size HWB.out.size))
end Go.Proofs.Ytpkmnfpbcakflaa
