/- The walk of wal's Read on one batch's bytes. No condition. -/
import Derived.Test.YtpkmnfpbcakflaaWRead
import Derived.Test.YtpkmnfpbcakflaaWLayL
import Derived.Laws.IdiomStrings
import Derived.Laws.ResultCell
namespace Go.Proofs.Ytpkmnfpbcakflaa
open Go.ChangeShapes Go.WideShapes Go.ChangeAt Go.RowKit

def batZ : Array Value := #[.int .u64 0, .int .u64 0, .complex .f64 0 0, .complex .f64 0 0, .bool false, .slice none 0 0, .bool false]
/-- []byte of a string of two bytes -/
theorem conv_two (W : World) : ∃ c W', (convert 9 25 (.string (strOfNums [97, 98]))).run Try.prog W = .ok (.slice (some ⟨W.heap.size, 0, none⟩) 2 c) W' ∧ Below W.heap.size W W' ∧ W'.heap.size = W.heap.size + 1 ∧ Src W' 1 (.slice (some ⟨W.heap.size, 0, none⟩) 2 c) 2 (byteCells [97, 98]) := by
  have h := run_bytes_of_string (P := Try.prog) W 9 25 5 (strOfNums [97, 98]) Try.underlying9 Try.underlying25 Try.underlying5
  refine ⟨_, _, h, ((Below.refl _ W).drew).alloc (Nat.le_refl _) _, by show (W.drew.alloc _).heap.size = _; simp, rfl, byteCells_one _, .inr ⟨_, _, rfl, fun j u hu => ?_⟩⟩
  have hj : j < 2 := (List.getElem?_eq_some_iff.1 hu).1
  have hadd : (⟨W.heap.size, 0, none⟩ : Addr).add j = ⟨W.heap.size, j, none⟩ := by unfold Addr.add; split <;> simp_all
  rw [hadd]
  refine (cell_of_row (W.drew.alloc _) W.heap.size j _ _ _ (heap_alloc_new W.drew _)).trans ?_
  rw [bytesRow_at (strOfNums [97, 98]) _ j hj]
  rcases j with _ | _ | j
  · exact hu
  · exact hu
  · omega
/-- the blocks of Read: the result, the batch, the Reader -/
structure RS (w W : World) (gA gB p : Nat) (b : List Int) (k : Nat) (C : Array Value) : Prop where
  base : Below w.heap.size w W
  a : W.heap[gA]? = some (.cells batZ 76 (0, 0))
  bb : W.heap[gB]? = some (.cells C 76 (0, 0))
  rd : Rd W p b k
  ge : w.heap.size ≤ gA ∧ w.heap.size ≤ gB ∧ w.heap.size ≤ p
  ne : gA ≠ gB
section
variable {w W W' : World} {gA gB p : Nat} {b : List Int} {k k' : Nat} {C : Array Value}
theorem RS.pne (h : RS w W gA gB p b k C) : gA ≠ p ∧ gB ≠ p := by
  obtain ⟨a, c, hc, -⟩ := h.rd
  constructor
  · intro e
    have := e ▸ h.a
    rw [hc] at this
    simp at this
  · intro e
    have := e ▸ h.bb
    rw [hc] at this
    simp at this
theorem RS.mod (h : RS w W gA gB p b k C) (hr : Rd W' p b k') (hM : Mod (fun j => j = p) W W') : RS w W' gA gB p b k' C := by
  have hp := h.pne
  refine ⟨?_, (hM.block gA (heap_lt h.a) hp.1).trans h.a, (hM.block gB (heap_lt h.bb) hp.2).trans h.bb, hr, h.ge, h.ne⟩
  have hs := h.base.size
  exact h.base.trans ⟨hM.os, hM.tape, hM.output, hM.size, fun i hi => hM.block i (by omega) (by have := h.ge.2.2; omega)⟩
theorem RS.set (h : RS w W gA gB p b k C) (j : Nat) (u : Value) : RS w (W.setCell ⟨gB, j, none⟩ u) gA gB p b k (C.setIfInBounds j u) := by
  refine ⟨h.base.setCell (p := ⟨gB, j, none⟩) h.ge.2.1 u, (heap_setCell_other _ _ _ _ (show gA ≠ (⟨gB, j, none⟩ : Addr).block from h.ne)).trans h.a, heap_setCell_same _ gB j _ _ _ h.bb, h.rd.other h.bb (by decide) (by decide) j u, h.ge, h.ne⟩
theorem RS.below (h : RS w W gA gB p b k C) (hB : Below W.heap.size W W') : RS w W' gA gB p b k C :=
  ⟨h.base.trans (hB.mono h.base.size), (hB.block gA (heap_lt h.a)).trans h.a, (hB.block gB (heap_lt h.bb)).trans h.bb, h.rd.below hB, h.ge, h.ne⟩
theorem RS.at (h : RS w W gA gB p b k C) (j : Nat) (hj : j < C.size) : W.frozen? ⟨gB, j, none⟩ = false ∧ ∃ u, W.cell? ⟨gB, j, none⟩ = some u :=
  ⟨frozen_of_row _ _ _ _ _ h.bb, _, by rw [cell_of_row _ _ _ _ _ _ h.bb]; exact Array.getElem?_eq_getElem hj⟩
end
theorem ret_cell {P : Program} {fn : Func} {R : Ending → World → Prop} {a : Act} {W : World} {p u : Tmp} {ty t : TypeId} {g : Nat} {cs : Array Value} {fr : Nat × Nat} {d : TypeDesc} {v : Value} (h : fn.results = #[.cell p ty, .tmp u]) (hd : a.defers = []) (hp : a.tmps.getD p undef = .pointer (some ⟨g, 0, none⟩)) (hv : a.tmps.getD u undef = v)
    (hg : W.heap[g]? = some (.cells cs t fr)) (hu : P.underlying ty = some d) (hdd : (match d with | .struct _ | .array _ _ => true | _ => false) = true) (hi : (P.info? ty).map (·.size) = some cs.size) (hR : R (.returned (.tuple #[.agg cs, v])) W) : bodyPost P fn R .ret a W := by
  refine bodyPost_ret (v := .tuple #[.agg cs, v]) ?_ hd hR
  rw [results_cell_tmp h, hp, hv]
  simp [asAddr, run_loadVar_row W g t ty cs fr d hg hu hdd hi, Result.andThen]
/-- what Read tells -/
def ReadBat (w w' : World) (e : Ending) (e0 : Int) : Prop := ∃ a c, e = .returned (.tuple #[.agg (bat e0 (.slice a 2 c)), .int .i64 0]) ∧ Src w' 1 (.slice a 2 c) 2 (byteCells [97, 98]) ∧ (∀ k, (Value.slice a 2 c).ownBlock = some k → w.heap.size ≤ k) ∧ Below w.heap.size w w'
set_option maxRecDepth 100000 in
set_option maxHeartbeats 4000000 in
theorem wread_any (e0 : Nat) (he : 1 ≤ e0 ∧ e0 < 128) (a : Option Addr) (c : Nat) (w : World) (hsrc : Src w 1 (.slice a 10 c) 10 (byteCells (layL e0))) : Calls Try.prog 90 #[.slice a 10 c] w fun e w' => ReadBat w w' e e0 := by
  obtain ⟨he0, he1⟩ := he
  have hf0 : fl 0 = 0 := fl_zero
  have hf1 := fl1
  have hf2 := fl2
  have HF := Lib.hid (And.intro hf0 (And.intro hf1 hf2))
  clear hf0 hf1 hf2
  have hB := (Below.refl w.heap.size w).alloc (Nat.le_refl _) (.cells batZ 76)
  have HNew := Lib.hid (reader_new (.slice a 10 c) (layL e0) (w.alloc (.cells batZ 76)) (hsrc.below hB) (by simp [layL]))
  have HB := Lib.hid hB
  clear hB hsrc
  unfold batZ at HNew HB
  go_enter Try.func90, Try.ntmps90
  go_wp2_with fail
  refine HNew.out.mono ?_
  rintro e w1 ⟨p, rfl, hp, R1, B1⟩
  have hT : RS w (w1.alloc (.cells batZ 76)) w.heap.size w1.heap.size p (layL e0) 0 batZ := by
    have hs := HB.out.size
    have h1 := B1.size
    have hz : (w.alloc (.cells #[.int .u64 0, .int .u64 0, .complex .f64 0 0, .complex .f64 0 0, .bool false, .slice none 0 0, .bool false] 76)).heap.size = w.heap.size + 1 := by simp
    have hA := (Below.refl w1.heap.size w1).alloc (Nat.le_refl _) (.cells batZ 76)
    have hB0 : Below w.heap.size w w1 := HB.out.trans (B1.mono hs)
    refine ⟨hB0.alloc hB0.size _, ?_, heap_alloc_new w1 _, R1.below hA, ⟨Nat.le_refl _, by omega, by omega⟩, by omega⟩
    rw [hA.block w.heap.size (by omega), B1.block w.heap.size (by omega)]
    exact heap_alloc_new w _
  have U0 := Lib.hid hT
  clear hT R1 B1 hp HNew HB
  have H0 := Lib.hid (rnum_any e0 1099511627776 U0.out.rd rfl he1 (by omega) (by simp [layL]))
  unfold batZ at U0 H0
  go_wp2_with fail
  refine H0.out.mono ?_
  rintro e w2 ⟨rfl, S0, M0⟩
  have T0 := Lib.hid (U0.out.mod S0 M0)
  obtain ⟨ff, uu, cc⟩ := T0.out.at 0 (by simp)
  have U1 := Lib.hid (T0.out.set 0 (.int .u64 e0))
  have H1 := Lib.hid (rnum_any 3 1099511627776 U1.out.rd rfl (by decide) (by decide) (by simp [layL]))
  clear S0 M0 T0 U0 H0
  go_wp2_with fail
  clear ff cc
  refine H1.out.mono ?_
  rintro e w3 ⟨rfl, S1, M1⟩
  have T1 := Lib.hid (U1.out.mod S1 M1)
  obtain ⟨ff, uu, cc⟩ := T1.out.at 1 (by simp)
  have U2 := Lib.hid (T1.out.set 1 (.int .u64 3))
  have H2 := Lib.hid (rmark_any 1 0 U2.out.rd rfl rfl (by decide) (by decide) (by simp [layL]))
  clear S1 M1 T1 U1 H1
  go_wp2_with fail
  clear ff cc
  refine H2.out.mono ?_
  rintro e w4 ⟨rfl, S2, M2⟩
  rw [HF.out.1, HF.out.2.1]
  have T2 := Lib.hid (U2.out.mod S2 M2)
  obtain ⟨ff, uu, cc⟩ := T2.out.at 2 (by simp)
  have U3 := Lib.hid (T2.out.set 2 (.complex .f64 4607182418800017408 0))
  have H3 := Lib.hid (rmark_any 1 2 U3.out.rd rfl rfl (by decide) (by decide) (by simp [layL]))
  clear S2 M2 T2 U2 H2
  go_wp2_with fail
  clear ff cc
  refine H3.out.mono ?_
  rintro e w5 ⟨rfl, S3, M3⟩
  rw [HF.out.2.1, HF.out.2.2]
  have T3 := Lib.hid (U3.out.mod S3 M3)
  obtain ⟨ff, uu, cc⟩ := T3.out.at 3 (by simp)
  have U4 := Lib.hid (T3.out.set 3 (.complex .f64 4607182418800017408 4611686018427387904))
  have H4 := Lib.hid (rbyte_any 0 3 U4.out.rd rfl (by decide) (by simp [layL]))
  clear S3 M3 T3 U3 H3
  go_wp2_with fail
  clear ff cc
  refine H4.out.mono ?_
  rintro e w6 ⟨rfl, S4, M4⟩
  have T4 := Lib.hid (U4.out.mod S4 M4)
  obtain ⟨ff, uu, cc⟩ := T4.out.at 4 (by simp)
  obtain ⟨ff6, uu6, cc6⟩ := T4.out.at 6 (by simp)
  have U5 := Lib.hid ((T4.out.set 4 (.bool false)).set 6 (.bool false))
  have H5 := Lib.hid (rtext_any 2 [97, 98] 512 U5.out.rd rfl (by decide) (by decide) (by decide) (by decide) (by simp [layL]) rfl (by simp [layL]))
  clear S4 M4 T4 U4 H4
  have ha1 : bits .and .u8 0 1 = 0 := by decide
  have ha2 : bits .and .u8 0 2 = 0 := by decide
  go_wp2_with fail
  clear ff cc ff6 cc6
  refine H5.out.mono ?_
  rintro e w7 ⟨rfl, S5, M5⟩
  obtain ⟨c7, W7, hcv, B7, z7, src7⟩ := conv_two w7
  have T5 := Lib.hid ((U5.out.mod S5 M5).below B7)
  have hs2 : (strOfNums [97, 98]).size = 2 := rfl
  have hse : (strOfNums [97, 98]).toList.isEmpty = false := by kernel_rfl
  generalize strOfNums [97, 98] = sAB at *
  obtain ⟨ff, uu, cc⟩ := T5.out.at 5 (by simp)
  have U6 := Lib.hid (T5.out.set 5 (.slice (some ⟨w7.heap.size, 0, none⟩) 2 c7))
  have HSrc := Lib.hid (And.intro z7 src7)
  have HLt := Lib.hid (And.intro (heap_lt (U5.out.mod S5 M5).a) (heap_lt (U5.out.mod S5 M5).bb))
  clear S5 M5 T5 U5 H5 src7 B7 z7
  have H6 := Lib.hid (rend_any (b := layL e0) U6.out.rd (by simp [layL]))
  go_wp2_with fail
  refine H6.out.mono ?_
  rintro e w8 ⟨rfl, B8⟩
  have U7 := Lib.hid (U6.out.below B8)
  have HB8 := Lib.hid B8
  have hbat : w8.heap[w1.heap.size]? = some (.cells (bat e0 (.slice (some ⟨w7.heap.size, 0, none⟩) 2 c7)) 76 (0, 0)) := U7.out.bb
  have hra : w8.heap[w.heap.size]? = some (.cells batZ 76 (0, 0)) := U7.out.a
  have HBt := Lib.hid (And.intro hbat hra)
  obtain ⟨q0, q1, q2, q3, q4, q5, q6⟩ := (BatAt.mk hbat).cells
  have HRt := Lib.hid (wright_yes e0 ⟨by omega, by omega⟩ (some ⟨w7.heap.size, 0, none⟩) c7 w8)
  unfold bat at HRt
  clear B8 U6 H6 hra hbat ff cc
  go_wp2_with fail
  refine HRt.out.mono ?_
  clear q0 q1 q2 q3 q4 q5 q6
  rintro e w9 ⟨rfl, B9⟩
  have hbat : w9.heap[w1.heap.size]? = some (.cells (bat e0 (.slice (some ⟨w7.heap.size, 0, none⟩) 2 c7)) 76 (0, 0)) := (B9.block _ (heap_lt HBt.out.1)).trans HBt.out.1
  have hra : w9.heap[w.heap.size]? = some (.cells batZ 76 (0, 0)) := (B9.block _ (heap_lt HBt.out.2)).trans HBt.out.2
  obtain ⟨q0, q1, q2, q3, q4, q5, q6⟩ := (BatAt.mk hbat).cells
  have r0 : w9.cell? ⟨w.heap.size, 0, none⟩ = some (.int .u64 0) := by rw [cell_of_row _ _ _ _ _ _ hra]; rfl
  have r1 : w9.cell? ⟨w.heap.size, 1, none⟩ = some (.int .u64 0) := by rw [cell_of_row _ _ _ _ _ _ hra]; rfl
  have r2 : w9.cell? ⟨w.heap.size, 2, none⟩ = some (.complex .f64 0 0) := by rw [cell_of_row _ _ _ _ _ _ hra]; rfl
  have r3 : w9.cell? ⟨w.heap.size, 3, none⟩ = some (.complex .f64 0 0) := by rw [cell_of_row _ _ _ _ _ _ hra]; rfl
  have r4 : w9.cell? ⟨w.heap.size, 4, none⟩ = some (.bool false) := by rw [cell_of_row _ _ _ _ _ _ hra]; rfl
  have r5 : w9.cell? ⟨w.heap.size, 5, none⟩ = some (.slice none 0 0) := by rw [cell_of_row _ _ _ _ _ _ hra]; rfl
  have r6 : w9.cell? ⟨w.heap.size, 6, none⟩ = some (.bool false) := by rw [cell_of_row _ _ _ _ _ _ hra]; rfl
  have f0 := frozen_of_row _ _ 0 _ _ hra
  have f1 := frozen_of_row _ _ 1 _ _ hra
  have f2 := frozen_of_row _ _ 2 _ _ hra
  have f3 := frozen_of_row _ _ 3 _ _ hra
  have f4 := frozen_of_row _ _ 4 _ _ hra
  have f5 := frozen_of_row _ _ 5 _ _ hra
  have f6 := frozen_of_row _ _ 6 _ _ hra
  have HRa := Lib.hid hra
  have HC9 := Lib.hid B9
  have HB9 := Lib.hid ((U7.out.base).trans (B9.mono U7.out.base.size))
  clear hra hbat B9 HRt HBt
  go_wp2_with fail
  have h0 := heap_setCell_same _ w.heap.size 0 _ _ (.int .u64 e0) HRa.out
  have h1 := heap_setCell_same _ w.heap.size 1 _ _ (.int .u64 3) h0
  have h2 := heap_setCell_same _ w.heap.size 2 _ _ (.complex .f64 4607182418800017408 0) h1
  have h3 := heap_setCell_same _ w.heap.size 3 _ _ (.complex .f64 4607182418800017408 4611686018427387904) h2
  have h4 := heap_setCell_same _ w.heap.size 4 _ _ (.bool false) h3
  have h5 := heap_setCell_same _ w.heap.size 5 _ _ (.slice (some ⟨w7.heap.size, 0, none⟩) 2 c7) h4
  have h6 := heap_setCell_same _ w.heap.size 6 _ _ (.bool false) h5
  have hB := ((((((HB9.out.setCell (p := ⟨w.heap.size, 0, none⟩) (Nat.le_refl _) (.int .u64 e0)).setCell (p := ⟨w.heap.size, 1, none⟩) (Nat.le_refl _) (.int .u64 3)).setCell (p := ⟨w.heap.size, 2, none⟩) (Nat.le_refl _) (.complex .f64 4607182418800017408 0)).setCell (p := ⟨w.heap.size, 3, none⟩) (Nat.le_refl _) (.complex .f64 4607182418800017408 4611686018427387904)).setCell (p := ⟨w.heap.size, 4, none⟩) (Nat.le_refl _) (.bool false)).setCell (p := ⟨w.heap.size, 5, none⟩) (Nat.le_refl _) (.slice (some ⟨w7.heap.size, 0, none⟩) 2 c7)).setCell (p := ⟨w.heap.size, 6, none⟩) (Nat.le_refl _) (.bool false)
  have hM0 : Mod (fun j => j = w.heap.size ∨ j = w1.heap.size) W7 w9 := ((Mod.setCell (Mod.refl (fun j => j = w.heap.size ∨ j = w1.heap.size) W7) (p := ⟨w1.heap.size, 5, none⟩) (.inr (.inr rfl)) (.slice (some ⟨w7.heap.size, 0, none⟩) 2 c7)).trans (Mod.of_below HB8.out)).trans (Mod.of_below HC9.out)
  have hM := ((((((hM0.setCell (p := ⟨w.heap.size, 0, none⟩) (.inr (.inl rfl)) (.int .u64 e0)).setCell (p := ⟨w.heap.size, 1, none⟩) (.inr (.inl rfl)) (.int .u64 3)).setCell (p := ⟨w.heap.size, 2, none⟩) (.inr (.inl rfl)) (.complex .f64 4607182418800017408 0)).setCell (p := ⟨w.heap.size, 3, none⟩) (.inr (.inl rfl)) (.complex .f64 4607182418800017408 4611686018427387904)).setCell (p := ⟨w.heap.size, 4, none⟩) (.inr (.inl rfl)) (.bool false)).setCell (p := ⟨w.heap.size, 5, none⟩) (.inr (.inl rfl)) (.slice (some ⟨w7.heap.size, 0, none⟩) 2 c7)).setCell (p := ⟨w.heap.size, 6, none⟩) (.inr (.inl rfl)) (.bool false)
  have h7 : (((((((w9.setCell ⟨w.heap.size, 0, none⟩ (.int .u64 e0)).setCell ⟨w.heap.size, 1, none⟩ (.int .u64 3)).setCell ⟨w.heap.size, 2, none⟩ (.complex .f64 4607182418800017408 0)).setCell ⟨w.heap.size, 3, none⟩ (.complex .f64 4607182418800017408 4611686018427387904)).setCell ⟨w.heap.size, 4, none⟩ (.bool false)).setCell ⟨w.heap.size, 5, none⟩ (.slice (some ⟨w7.heap.size, 0, none⟩) 2 c7)).setCell ⟨w.heap.size, 6, none⟩ (.bool false)).heap[w.heap.size]? = some (.cells (bat e0 (.slice (some ⟨w7.heap.size, 0, none⟩) 2 c7)) 76 (0, 0)) := h6
  clear h0 h1 h2 h3 h4 h5 h6 hM0
  generalize (((((((w9.setCell ⟨w.heap.size, 0, none⟩ (.int .u64 e0)).setCell ⟨w.heap.size, 1, none⟩ (.int .u64 3)).setCell ⟨w.heap.size, 2, none⟩ (.complex .f64 4607182418800017408 0)).setCell ⟨w.heap.size, 3, none⟩ (.complex .f64 4607182418800017408 4611686018427387904)).setCell ⟨w.heap.size, 4, none⟩ (.bool false)).setCell ⟨w.heap.size, 5, none⟩ (.slice (some ⟨w7.heap.size, 0, none⟩) 2 c7)).setCell ⟨w.heap.size, 6, none⟩ (.bool false)) = WF at *
  refine ret_cell rfl rfl rfl rfl h7 Try.underlying76 rfl (by kernel_rfl) ⟨some ⟨w7.heap.size, 0, none⟩, c7, rfl, HSrc.out.2.mod hM fun _ k hk => ?_, fun k hk => ?_, hB⟩
  · have := HLt.out
    simp [Value.ownBlock] at hk
    omega
  · have := HLt.out
    simp [Value.ownBlock] at hk
    omega
end Go.Proofs.Ytpkmnfpbcakflaa
