/- The walks of pack's Writer on a few bytes. No condition. -/
import Derived.Test.YtpkmnfpbcakflaaSeal
import Derived.Lib.AppendStr
namespace Go.Proofs.Ytpkmnfpbcakflaa
open Go.ChangeShapes Go.WideShapes Go.ChangeAt Go.RowKit

/-- a Writer lies so behind world w0: block p of one slice, its bytes b -/
def Wr (w0 w : World) (p : Nat) (b : List Int) : Prop :=
  w0.heap.size ≤ p ∧ Below w0.heap.size w0 w ∧ ∃ v, w.heap[p]? = some (.cells #[v] 157 (0, 0)) ∧ w.ownsRow w0.heap.size 5 1 v b.length (byteCells b)
theorem own_of_block {w w' : World} {base : Nat} {e : TypeId} {size : Nat} {v : Value} {n : Nat} {xs : List Value} (h : w.ownsRow base e size v n xs) (hb : ∀ k, v.ownBlock = some k → w'.heap[k]? = w.heap[k]?) : w'.ownsRow base e size v n xs := by
  refine ⟨h.1, ?_⟩
  rcases h.2 with hn | ⟨g, cap, cur, rfl, hbg, hgg, rest⟩
  · exact .inl hn
  · exact .inr ⟨g, cap, cur, rfl, hbg, by rw [hb g rfl]; exact hgg, rest⟩
theorem own_form {w : World} {base : Nat} {e : TypeId} {size : Nat} {v : Value} {n : Nat} {xs : List Value} (h : w.ownsRow base e size v n xs) : ∃ a cap, v = .slice a n cap := by
  rcases h.2 with ⟨rfl, rfl⟩ | ⟨g, cap, cur, rfl, _⟩
  · exact ⟨_, _, rfl⟩
  · exact ⟨_, _, rfl⟩
theorem own_not {w : World} {base : Nat} {e t : TypeId} {size : Nat} {v : Value} {n : Nat} {xs : List Value} (h : w.ownsRow base e size v n xs) {p : Nat} {cs : Array Value} {fr : Nat × Nat} (hp : w.heap[p]? = some (.cells cs t fr)) (hne : t ≠ e) : v.ownBlock ≠ some p := by
  intro hk
  rcases h.2 with ⟨rfl, _⟩ | ⟨g, cap, cur, rfl, _, hg, _⟩
  · simp [Value.ownBlock] at hk
  · simp [Value.ownBlock] at hk; subst hk
    rw [hg] at hp
    simp only [Option.some.injEq, Obj.cells.injEq] at hp
    exact hne hp.2.1.symm
theorem Wr.below {w0 w w' : World} {p : Nat} {b : List Int} (h : Wr w0 w p b) (hB : Below w.heap.size w w') : Wr w0 w' p b := by
  obtain ⟨hp, hB0, v, hc, hR⟩ := h
  exact ⟨hp, hB0.trans (hB.mono hB0.size), v, by rw [hB.block p (heap_lt hc)]; exact hc, own_of_block hR fun k hk => hB.block k (hR.lt k hk).2⟩
theorem writer_new (w : World) : Calls Try.prog 92 #[] w fun e w' => ∃ p, e = .returned (.pointer (some ⟨p, 0, none⟩)) ∧ Wr w w' p [] := by
  go_enter Try.func92, Try.ntmps92
  go_wp2_with fail
  go_ret
  exact ⟨w.heap.size, rfl, Nat.le_refl _, (Below.refl _ w).alloc (Nat.le_refl _) _, .slice none 0 0, heap_alloc_new w _, World.ownsRow_nil _ _ _ _⟩

/-- behind an append to the Writer's slice, and the store of it -/
theorem Wr.put {w0 w W1 w2 : World} {p : Nat} {news : List Int} {v v' : Value} {m : Nat} (hp : w0.heap.size ≤ p) (hB : Below w0.heap.size w0 w) (hc : w.heap[p]? = some (.cells #[v] 157 (0, 0))) (ho : ∀ k, v.ownBlock = some k → w0.heap.size ≤ k ∧ k ≠ p)
    (hB1 : Below w.heap.size w W1) (hR : w2.ownsRow w0.heap.size 5 1 v' m (byteCells news)) (hg : W1.grownBy w2 v.ownBlock) :
    Wr w0 (w2.setCell ⟨p, 0, none⟩ v') p news := by
  have hpl := heap_lt hc
  have hm : m = news.length := by have := hR.1; rw [byteCells_len] at this; omega
  have hp1 := Nat.lt_of_lt_of_le hpl hB1.size
  have hk2 : w2.heap[p]? = w.heap[p]? := (hg.block p hp1 (fun e => (ho p e.symm).2 rfl)).trans (hB1.block p hpl)
  have hs := hB.size
  subst hm
  refine ⟨hp, ?_, v', heap_setCell_same _ p 0 _ _ _ (hk2.trans hc), own_of_block hR fun k hk => heap_setCell_other _ _ _ _ (show k ≠ (⟨p, 0, none⟩ : Addr).block from fun e => own_not hR (hk2.trans hc) (by decide) (hk.trans (congrArg some e)))⟩
  exact ((hB.trans (hB1.mono hs)).grown hg (Nat.le_trans hs hB1.size) (fun k hk => (ho k hk).1)).setCell (p := ⟨p, 0, none⟩) hp _

set_option maxRecDepth 100000 in
set_option maxHeartbeats 1000000 in
theorem byte_any {w0 w : World} {p : Nat} {b : List Int} (x : Int) (h : Wr w0 w p b) (hl : b.length ≤ 1000000) :
    Calls Try.prog 95 #[.pointer (some ⟨p, 0, none⟩), .int .u8 x] w fun e w' => e = .returned (.tuple #[]) ∧ Wr w0 w' p (b ++ [x]) := by
  obtain ⟨i0, hi0, hz0, hz1, hz2⟩ := info_parts infoB
  obtain ⟨hp, hB, v, hc, hR⟩ := h
  have hpl := heap_lt hc
  have hnp := own_not hR hc (by decide)
  have hB1 := (Below.refl w.heap.size w).alloc (Nat.le_refl _) (.cells #[.int .u8 x] 5)
  have HPut := Lib.hid (fun w2 v' m news => Wr.put (w2 := w2) (v' := v') (m := m) (news := news) hp hB hc (fun k hk => ⟨(hR.lt k hk).1, fun e => hnp (hk.trans (congrArg some e))⟩) hB1)
  have c0 : w.cell? ⟨p, 0, none⟩ = some v := by rw [cell_of_row _ _ _ _ _ _ hc]; rfl
  have HPl := Lib.hid (Nat.lt_of_lt_of_le hpl hB1.size)
  have HR1 := Lib.hid (hR.alloc (.cells #[.int .u8 x] 5))
  have HC1 := Lib.hid ((hB1.block p hpl).trans hc)
  have HNp := Lib.hid hnp
  have HW := Lib.hid (show w0.heap.size ≤ (w.alloc (.cells #[.int .u8 x] 5)).heap.size from Nat.le_trans hB.size hB1.size)
  clear hc hR hB1 hnp hB hpl
  go_enter Try.func95, Try.ntmps95
  go_wp2_with (at_builtin; refine wpList_append_own _ rfl _ _ 25 rfl w0.heap.size 5 i0 _ 1 1 Try.underlying25 hi0 hz0 hz1 hz2 rfl (by decide) v b.length _ rfl HR1.out ⟨w.heap.size, 0, none⟩ 1 1 [.int .u8 x] rfl rfl (World.news_of_block (cs := #[.int .u8 x]) (heap_alloc_new w _)) (by simp [Value.oneCell']) (by unfold maxLen; omega) (by omega) HW.out ?_; intro v5 w5 hown5 hgrow5 _; obtain ⟨a5, cap5, rfl⟩ := own_form hown5; have hc5 := (hgrow5.block p HPl.out (fun e => HNp.out e.symm)).trans HC1.out; have q5 : w5.cell? ⟨p, 0, none⟩ = some v := (by rw [cell_of_row _ _ _ _ _ _ hc5]; rfl); have f5 : w5.frozen? ⟨p, 0, none⟩ = false := frozen_of_row _ _ _ _ _ hc5)
  go_end0
  exact ⟨rfl, HPut.out _ _ _ _ (by rw [byteCells_append]; exact hown5) hgrow5⟩
set_option maxRecDepth 100000 in
set_option maxHeartbeats 1000000 in
theorem num_small {w0 w : World} {p : Nat} {b : List Int} (x : Int) (hx : 0 ≤ x ∧ x < 128) (h : Wr w0 w p b) (hl : b.length ≤ 1000000) :
    Calls Try.prog 93 #[.pointer (some ⟨p, 0, none⟩), .int .u64 x] w fun e w' => e = .returned (.tuple #[]) ∧ Wr w0 w' p (b ++ [x]) := by
  obtain ⟨i0, hi0, hz0, hz1, hz2⟩ := info_parts infoB
  obtain ⟨hp, hB, v, hc, hR⟩ := h
  obtain ⟨hx0, hx1⟩ := hx
  have hpl := heap_lt hc
  have hnp := own_not hR hc (by decide)
  have hB1 := (Below.refl w.heap.size w).alloc (Nat.le_refl _) (.cells #[.int .u8 x] 5)
  have HPut := Lib.hid (fun w2 v' m news => Wr.put (w2 := w2) (v' := v') (m := m) (news := news) hp hB hc (fun k hk => ⟨(hR.lt k hk).1, fun e => hnp (hk.trans (congrArg some e))⟩) hB1)
  have c0 : w.cell? ⟨p, 0, none⟩ = some v := by rw [cell_of_row _ _ _ _ _ _ hc]; rfl
  have HPl := Lib.hid (Nat.lt_of_lt_of_le hpl hB1.size)
  have HR1 := Lib.hid (hR.alloc (.cells #[.int .u8 x] 5))
  have HC1 := Lib.hid ((hB1.block p hpl).trans hc)
  have HNp := Lib.hid hnp
  have HW := Lib.hid (show w0.heap.size ≤ (w.alloc (.cells #[.int .u8 x] 5)).heap.size from Nat.le_trans hB.size hB1.size)
  have hu8 : IntKind.u8.wrap x = x := by show x % 256 = x; omega
  clear hc hR hB1 hnp hB hpl
  go_enter Try.func93, Try.ntmps93
  go_wp2_with fail
  go_loopw [1] (fun n w' => n = .int .u64 x ∧ w' = w) (fun _ _ => 0)
  case atStart => exact ⟨rfl, rfl⟩
  case round =>
    obtain ⟨rfl, rfl⟩ := hrel
    go_wp2_with (at_builtin; refine wpList_append_own _ rfl _ _ 25 rfl w0.heap.size 5 i0 _ 1 1 Try.underlying25 hi0 hz0 hz1 hz2 rfl (by decide) v b.length _ rfl HR1.out ⟨_, 0, none⟩ 1 1 [.int .u8 x] rfl rfl (World.news_of_block (cs := #[.int .u8 x]) (heap_alloc_new _ _)) (by simp [Value.oneCell']) (by unfold maxLen; omega) (by omega) HW.out ?_; intro v5 w5 hown5 hgrow5 _; obtain ⟨a5, cap5, rfl⟩ := own_form hown5; have hc5 := (hgrow5.block p HPl.out (fun e => HNp.out e.symm)).trans HC1.out; have q5 : w5.cell? ⟨p, 0, none⟩ = some v := (by rw [cell_of_row _ _ _ _ _ _ hc5]; rfl); have f5 : w5.frozen? ⟨p, 0, none⟩ = false := frozen_of_row _ _ _ _ _ hc5)
    go_end0
    exact ⟨rfl, HPut.out _ _ _ _ (by rw [byteCells_append]; exact hown5) hgrow5⟩
theorem strCells_nums (b : List Int) (hb : ∀ x ∈ b, 0 ≤ x ∧ x < 256) : Lib.strCells (strOfNums b) = byteCells b := by
  unfold Lib.strCells byteCells
  rw [strOfNums_data, List.map_map]
  refine List.map_congr_left fun x hx => ?_
  have := hb x hx
  simp
  omega
set_option maxRecDepth 100000 in
set_option maxHeartbeats 1000000 in
theorem text_small {w0 w : World} {p : Nat} {b : List Int} (t : List Int) (ht : ∀ x ∈ t, 0 ≤ x ∧ x < 256) (htl : t.length < 128) (h : Wr w0 w p b) (hl : b.length ≤ 100000) :
    Calls Try.prog 96 #[.pointer (some ⟨p, 0, none⟩), .string (strOfNums t)] w fun e w' => e = .returned (.tuple #[]) ∧ Wr w0 w' p (b ++ ((t.length : Int) :: t)) := by
  obtain ⟨i0, hi0, hz0, hz1, hz2⟩ := info_parts infoB
  have HNum := Lib.hid (num_small (t.length : Int) ⟨by omega, by omega⟩ h (by omega))
  have HT := Lib.hid (strCells_nums t ht)
  have hts : (strOfNums t).size = t.length := strOfNums_size t
  have HL := Lib.hid hl
  clear h ht hl
  generalize strOfNums t = s at *
  obtain ⟨m, hm⟩ : ∃ m, t.length = m := ⟨_, rfl⟩
  rw [hm] at hts htl HNum ⊢
  have HM := Lib.hid hm
  clear hm
  go_enter Try.func96, Try.ntmps96
  go_wp2_with fail
  refine HNum.out.mono ?_
  rintro e w1 ⟨rfl, hp, hB, v, hc, hR⟩
  have hpl := heap_lt hc
  have hnp := own_not hR hc (by decide)
  have HPut := Lib.hid (fun w2 v' m news => Wr.put (w2 := w2) (v' := v') (m := m) (news := news) hp hB hc (fun k hk => ⟨(hR.lt k hk).1, fun e => hnp (hk.trans (congrArg some e))⟩) (Below.refl _ w1))
  have c0 : w1.cell? ⟨p, 0, none⟩ = some v := by rw [cell_of_row _ _ _ _ _ _ hc]; rfl
  obtain ⟨q, hq⟩ : ∃ q, (b ++ [(m : Int)]).length = q := ⟨_, rfl⟩
  have hql : q ≤ 1000000 := by rw [← hq]; have := HL.out; simp; omega
  rw [hq] at hR
  have HR1 := Lib.hid hR
  have HC1 := Lib.hid hc
  have HNp := Lib.hid hnp
  have HPl := Lib.hid hpl
  have HW := Lib.hid hB.size
  clear hc hR hnp hB hpl hq HNum
  go_wp2_with (at_builtin; refine Lib.wpList_append_own_string _ rfl _ _ 25 9 rfl w0.heap.size 5 i0 Try.underlying25 Try.underlying9 hi0 hz0 hz1 hz2 v q _ rfl HR1.out s rfl (by unfold maxLen; omega) (by omega) HW.out ?_; intro v5 w5 hown5 hgrow5 _; obtain ⟨a5, cap5, rfl⟩ := own_form hown5; have hc5 := (hgrow5.block p HPl.out (fun e => HNp.out e.symm)).trans HC1.out; have q5 : w5.cell? ⟨p, 0, none⟩ = some v := (by rw [cell_of_row _ _ _ _ _ _ hc5]; rfl); have f5 : w5.frozen? ⟨p, 0, none⟩ = false := frozen_of_row _ _ _ _ _ hc5)
  go_end0
  rw [HT.out, ← byteCells_append, List.append_assoc, hts] at hown5
  exact ⟨rfl, HPut.out _ _ _ _ hown5 hgrow5⟩
set_option maxRecDepth 100000 in
set_option maxHeartbeats 1000000 in
theorem bytes_any {w0 w : World} {p : Nat} {b : List Int} (h : Wr w0 w p b) (hl : b.length ≤ 1000000) :
    Calls Try.prog 97 #[.pointer (some ⟨p, 0, none⟩)] w fun e w' => NewBytes w w' e b := by
  obtain ⟨i0, hi0, hz0, hz1, hz2⟩ := info_parts infoB
  obtain ⟨hp, hB, v, hc, hR⟩ := h
  have hpl := heap_lt hc
  have hB1 := (Below.refl w.heap.size w).alloc (Nat.le_refl _) (.cells #[] 5)
  have hc1 := (hB1.block p hpl).trans hc
  have c0 : (w.alloc (.cells #[] 5)).cell? ⟨p, 0, none⟩ = some v := by rw [cell_of_row _ _ _ _ _ _ hc1]; rfl
  have HSrc := Lib.hid (Src.of_row (Row.of_own (hR.alloc (.cells #[] 5))) (byteCells_one _))
  have HDst := Lib.hid (Row.lit_at w 5 1 #[] 0 w.heap.size rfl (Nat.zero_le _) rfl)
  have HB1 := Lib.hid hB1
  clear hc hR hB1 hc1 hB hpl
  go_enter Try.func97, Try.ntmps97
  go_wp2_with (at_builtin; refine wpList_append_row _ rfl _ _ 25 rfl 5 i0 _ 1 1 Try.underlying25 hi0 hz0 hz1 hz2 rfl (.slice (some ⟨w.heap.size, 0, none⟩) 0 0) 0 [] rfl HDst.out v b.length _ rfl HSrc.out (by unfold maxLen; omega) (by omega) (w.heap.size + 1) (by simp) ?_; intro a5 cap5 w5 hown5 hgrow5 hat5)
  go_ret
  simp only [Nat.zero_add, List.nil_append] at hown5 hat5 ⊢
  refine ⟨a5, cap5, rfl, hown5, fun k hk => ?_, HB1.out.grown hgrow5 HB1.out.size (by intro k hk; simp [Value.ownBlock] at hk; omega)⟩
  rcases hat5 k hk with e | e
  · simp [Value.ownBlock] at e; omega
  · omega
end Go.Proofs.Ytpkmnfpbcakflaa
