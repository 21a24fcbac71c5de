/- Plain laws of memory: what a call may turn; rows of cells that a slice stands over; append to them. No condition; no program in sight. -/
import Derived.Below
import Derived.Laws.OwnMore
import Derived.WalkKit
import Derived.Lib.Hide
import Derived.RegionTactic
import Derived.Deep.AppendLies
import Derived.Laws.BytesArg
import Derived.Laws.MakeOwn
namespace Go.Proofs.Ytpkmnfpbcakflaa
open Go.RowKit

/-- of the blocks that were there, those alone may have turned that S holds of -/
structure Mod (S : Nat → Prop) (w w' : World) : Prop where
  os : w'.os = w.os
  tape : w'.tape = w.tape
  output : w'.output = w.output
  size : w.heap.size ≤ w'.heap.size
  block : ∀ k, k < w.heap.size → ¬ S k → w'.heap[k]? = w.heap[k]?

theorem Mod.refl (S : Nat → Prop) (w : World) : Mod S w w := ⟨rfl, rfl, rfl, Nat.le_refl _, fun _ _ _ => rfl⟩
theorem Mod.trans {S : Nat → Prop} {a b c : World} (h : Mod S a b) (k : Mod S b c) : Mod S a c :=
  ⟨k.os.trans h.os, k.tape.trans h.tape, k.output.trans h.output, Nat.le_trans h.size k.size, fun i hi hs => (k.block i (Nat.lt_of_lt_of_le hi h.size) hs).trans (h.block i hi hs)⟩
theorem Mod.mono {S T : Nat → Prop} {w w' : World} (h : Mod S w w') (hst : ∀ k, k < w.heap.size → S k → T k) : Mod T w w' :=
  ⟨h.os, h.tape, h.output, h.size, fun k hk hs => h.block k hk (fun e => hs (hst k hk e))⟩
theorem Mod.of_below {S : Nat → Prop} {w w' : World} (h : Below w.heap.size w w') : Mod S w w' := ⟨h.os, h.tape, h.output, h.size, fun k hk _ => h.block k hk⟩
theorem Mod.below {w w' : World} (h : Mod (fun _ => False) w w') : Below w.heap.size w w' := ⟨h.os, h.tape, h.output, h.size, fun k hk => h.block k hk id⟩
/-- two steps: what the second may turn of the old blocks the whole may -/
theorem Mod.trans' {S T : Nat → Prop} {a b c : World} (h : Mod S a b) (k : Mod T b c) (hst : ∀ i, i < a.heap.size → T i → S i) : Mod S a c :=
  ⟨k.os.trans h.os, k.tape.trans h.tape, k.output.trans h.output, Nat.le_trans h.size k.size, fun i hi hs => (k.block i (Nat.lt_of_lt_of_le hi h.size) (fun e => hs (hst i hi e))).trans (h.block i hi hs)⟩
theorem Mod.alloc {S : Nat → Prop} {a w : World} (h : Mod S a w) (o : Obj) : Mod S a (w.alloc o) :=
  h.trans ⟨rfl, rfl, rfl, by simp, fun k hk _ => Below.heap_alloc _ _ _ hk⟩
theorem Mod.drew {S : Nat → Prop} {a w : World} (h : Mod S a w) : Mod S a w.drew := ⟨h.os, h.tape, h.output, h.size, h.block⟩
theorem Mod.setCell {S : Nat → Prop} {a w : World} (h : Mod S a w) {p : Addr} (hp : a.heap.size ≤ p.block ∨ S p.block) (u : Value) : Mod S a (w.setCell p u) :=
  h.trans' (T := fun k => k = p.block) ⟨rfl, rfl, rfl, by simp [World.setCell], fun k _ hs => Below.heap_setCell _ _ _ _ hs⟩
    (fun i hi e => by
      rcases hp with hp | hp
      · omega
      · exact e ▸ hp)
theorem Mod.grown {S : Nat → Prop} {a w w' : World} {row : Option Nat} (h : Mod S a w) (hg : w.grownBy w' row) (hr : ∀ k, row = some k → a.heap.size ≤ k ∨ S k) : Mod S a w' :=
  h.trans' (T := fun k => row = some k) ⟨hg.os, hg.tape, hg.output, hg.size, fun k hk hs => hg.block k hk (fun e => hs e.symm)⟩
    (fun i hi e => by
      rcases hr i e with h | h
      · omega
      · exact h)
theorem Mod.size_lt {S : Nat → Prop} {w w' : World} (h : Mod S w w') {k : Nat} (hk : k < w.heap.size) : k < w'.heap.size := Nat.lt_of_lt_of_le hk h.size

theorem heap_lt {w : World} {k : Nat} {o : Obj} (h : w.heap[k]? = some o) : k < w.heap.size := (Array.getElem?_eq_some_iff.1 h).1

/-! ROWS: like the kit's 'ownsRow', but the block may be longer than the slice's capacity -/
def Row (w : World) (e : TypeId) (size : Nat) (v : Value) (n : Nat) (xs : List Value) : Prop :=
  xs.length = n * size ∧
  ((v = .slice none 0 0 ∧ n = 0) ∨
   ∃ g cap cur, v = .slice (some ⟨g, 0, none⟩) n cap ∧ w.heap[g]? = some (.cells cur e (0, 0)) ∧ n ≤ cap ∧ cap ≤ maxLen ∧ cap * size ≤ cur.size ∧ cur.toList.take (n * size) = xs)

theorem Row.of_own {w : World} {base : Nat} {e : TypeId} {size : Nat} {v : Value} {n : Nat} {xs : List Value} (h : w.ownsRow base e size v n xs) : Row w e size v n xs := by
  refine ⟨h.1, ?_⟩
  rcases h.2 with hn | ⟨g, cap, cur, rfl, _, hg, hnc, hcm, hcs, ht⟩
  · exact .inl hn
  · exact .inr ⟨g, cap, cur, rfl, hg, hnc, hcm, Nat.le_of_eq hcs.symm, ht⟩

theorem Row.of_block {w w' : World} {e : TypeId} {size : Nat} {v : Value} {n : Nat} {xs : List Value} (h : Row w e size v n xs) (hb : ∀ k, v.ownBlock = some k → w'.heap[k]? = w.heap[k]?) : Row w' e size v n xs := by
  refine ⟨h.1, ?_⟩
  rcases h.2 with hn | ⟨g, cap, cur, rfl, hgg, rest⟩
  · exact .inl hn
  · exact .inr ⟨g, cap, cur, rfl, by rw [hb g rfl]; exact hgg, rest⟩

theorem Row.lt {w : World} {e : TypeId} {size : Nat} {v : Value} {n : Nat} {xs : List Value} (h : Row w e size v n xs) {k : Nat} (hk : v.ownBlock = some k) : k < w.heap.size := by
  rcases h.2 with ⟨rfl, _⟩ | ⟨g, cap, cur, rfl, hg, _⟩
  · simp [Value.ownBlock] at hk
  · simp [Value.ownBlock] at hk; subst hk; exact heap_lt hg

theorem Row.nil (w : World) (e : TypeId) (size : Nat) : Row w e size (.slice none 0 0) 0 [] := ⟨by simp, .inl ⟨rfl, rfl⟩⟩

/-- a row written out in a new block -/
theorem Row.lit (w : World) (e : TypeId) (size : Nat) (cs : Array Value) (n : Nat) (hm : n ≤ maxLen) (hs : cs.size = n * size) :
    Row (w.alloc (.cells cs e)) e size (.slice (some ⟨w.heap.size, 0, none⟩) n n) n cs.toList :=
  Row.of_own (World.ownsRow_lit (base := 0) w cs n (Nat.zero_le _) hm hs)

theorem Row.lit_at (w : World) (e : TypeId) (size : Nat) (cs : Array Value) (n H : Nat) (hH : w.heap.size = H) (hm : n ≤ maxLen) (hs : cs.size = n * size) :
    Row (w.alloc (.cells cs e)) e size (.slice (some ⟨H, 0, none⟩) n n) n cs.toList := by subst hH; exact Row.lit w e size cs n hm hs

theorem Row.form {w : World} {e : TypeId} {size : Nat} {v : Value} {n : Nat} {xs : List Value} (h : Row w e size v n xs) :
    ∃ a cap, v = .slice a n cap ∧ n ≤ cap ∧ n ≤ maxLen ∧ cap ≤ maxLen := by
  rcases h.2 with ⟨rfl, rfl⟩ | ⟨g, cap, cur, rfl, _, hnc, hcm, _⟩
  · exact ⟨none, 0, rfl, Nat.le_refl _, Nat.zero_le _, Nat.zero_le _⟩
  · exact ⟨_, cap, rfl, hnc, Nat.le_trans hnc hcm, hcm⟩

/-- how a row is read -/
theorem Row.view {w : World} {E : TypeId} {size : Nat} {a : Option Addr} {n cap : Nat} {xs : List Value} (h : Row w E size (.slice a n cap) n xs) (hn : 0 < n) :
    ∃ g, a = some ⟨g, 0, none⟩ ∧ g < w.heap.size ∧ (∀ j, j < n * size → w.cell? ⟨g, j, none⟩ = xs[j]?) ∧ ∀ j, w.frozen? ⟨g, j, none⟩ = false := by
  rcases h.2 with ⟨_, h0⟩ | ⟨g, cap', cur, hv, hg, hnc, hcm, hcs, ht⟩
  · omega
  · simp only [Value.slice.injEq, true_and] at hv
    obtain ⟨rfl, rfl⟩ := hv
    refine ⟨g, rfl, heap_lt hg, fun j hj => ?_, fun j => frozen_of_row w g j cur E hg⟩
    rw [cell_of_row w g j cur E (0, 0) hg, ← ht, List.getElem?_take, if_pos hj]
    simp

/-- a store into a row -/
theorem Row.stored {w : World} {E : TypeId} {size : Nat} {g n cap : Nat} {xs : List Value} (h : Row w E size (.slice (some ⟨g, 0, none⟩) n cap) n xs) (j : Nat) (u : Value) :
    Row (w.setCell ⟨g, j, none⟩ u) E size (.slice (some ⟨g, 0, none⟩) n cap) n (xs.set j u) := by
  rcases h.2 with ⟨h', _⟩ | ⟨g', cap', cur, h', hg, hnc, hcm, hcs, htake⟩
  · simp at h'
  · simp only [Value.slice.injEq, Option.some.injEq, Addr.mk.injEq, and_true, true_and] at h'
    obtain ⟨rfl, rfl⟩ := h'
    refine ⟨by simpa using h.1, .inr ⟨g, cap, cur.setIfInBounds j u, rfl, heap_setCell_same w g j cur E u hg, hnc, hcm, by simpa using hcs, ?_⟩⟩
    rw [Array.toList_setIfInBounds, ← htake, List.take_set]

/-- shortened: s[:k] -/
theorem Row.short {w : World} {E : TypeId} {size : Nat} {a : Option Addr} {n cap : Nat} {xs : List Value} (h : Row w E size (.slice a n cap) n xs) (k : Nat) (hk : k ≤ n) (ha : a.isSome = true) (cap' : Nat) (hc : k ≤ cap') (hc2 : cap' ≤ cap) :
    Row w E size (.slice a k cap') k (xs.take (k * size)) := by
  have hks : k * size ≤ n * size := Nat.mul_le_mul_right _ hk
  refine ⟨by rw [List.length_take, h.1]; omega, ?_⟩
  rcases h.2 with ⟨h', _⟩ | ⟨g', cap1, cur, h', hg, hnc, hcm, hcs, htake⟩
  · simp only [Value.slice.injEq] at h'; rw [h'.1] at ha; cases ha
  · simp only [Value.slice.injEq, true_and] at h'
    obtain ⟨rfl, rfl⟩ := h'
    refine .inr ⟨g', cap', cur, rfl, hg, hc, by omega, Nat.le_trans (Nat.mul_le_mul_right _ hc2) hcs, ?_⟩
    rw [← htake, List.take_take, Nat.min_eq_left hks]

/-! WHAT IS APPENDED: m elements over readable cells, or nothing -/
def Src (w : World) (size : Nat) (x : Value) (m : Nat) (news : List Value) : Prop :=
  news.length = m * size ∧ (∀ u ∈ news, u.oneCell' = true) ∧
  ((x = .slice none 0 0 ∧ m = 0) ∨ ∃ ad c, x = .slice (some ad) m c ∧ ∀ j u, news[j]? = some u → w.cell? (ad.add j) = some u)

theorem add_block (a : Addr) (n : Nat) : (a.add n).block = a.block := by unfold Addr.add; split <;> rfl
theorem Src.below {w w' : World} {size : Nat} {x : Value} {m : Nat} {news : List Value} (h : Src w size x m news) (hB : Below w.heap.size w w') : Src w' size x m news := by
  refine ⟨h.1, h.2.1, ?_⟩
  rcases h.2.2 with hn | ⟨ad, c, rfl, hr⟩
  · exact .inl hn
  · exact .inr ⟨ad, c, rfl, fun j u hu => (hB.cell (p := ad.add j) (block_lt_of_cell (hr j u hu))).trans (hr j u hu)⟩
theorem Src.mod {S : Nat → Prop} {w w' : World} {size : Nat} {x : Value} {m : Nat} {news : List Value} (h : Src w size x m news) (hM : Mod S w w') (hx : 0 < m → ∀ k, x.ownBlock = some k → ¬ S k) : Src w' size x m news := by
  have hl := h.1
  refine ⟨h.1, h.2.1, ?_⟩
  rcases h.2.2 with hn | ⟨ad, c, rfl, hr⟩
  · exact .inl hn
  · refine .inr ⟨ad, c, rfl, fun j u hu => ?_⟩
    have hlt := block_lt_of_cell (hr j u hu)
    have hm : 0 < m := by
      rcases Nat.eq_zero_or_pos m with h0 | h0
      · subst h0
        have : news = [] := List.eq_nil_of_length_eq_zero (by rw [hl, Nat.zero_mul])
        subst this; simp at hu
      · exact h0
    have hb := hM.block (ad.add j).block hlt (by rw [add_block]; exact hx hm _ rfl)
    exact (World.cell?_of_block hb).trans (hr j u hu)
/-- what is not nothing lies below the heap's end -/
theorem Src.lt {w : World} {x : Value} {m : Nat} {news : List Value} (h : Src w 1 x m news) (hm : 0 < m) : ∀ k, x.ownBlock = some k → k < w.heap.size := by
  intro k hk
  rcases h.2.2 with ⟨_, h0⟩ | ⟨ad, c, rfl, hr⟩
  · omega
  · simp [Value.ownBlock] at hk; subst hk
    have hl : 0 < news.length := by rw [h.1]; omega
    have := block_lt_of_cell (hr 0 news[0] (List.getElem?_eq_getElem hl))
    rwa [add_block] at this
theorem Src.of_row {w : World} {e : TypeId} {size : Nat} {v : Value} {n : Nat} {xs : List Value} (h : Row w e size v n xs) (h1 : ∀ u ∈ xs, u.oneCell' = true) : Src w size v n xs := by
  refine ⟨h.1, h1, ?_⟩
  rcases h.2 with hn | ⟨g, cap, cur, rfl, hg, hnc, hcm, hcs, ht⟩
  · exact .inl hn
  · refine .inr ⟨_, cap, rfl, fun j u hu => ?_⟩
    have hadd : (⟨g, 0, none⟩ : Addr).add j = ⟨g, j, none⟩ := by unfold Addr.add; split <;> simp_all
    rw [hadd, cell_of_row w g j cur e (0, 0) hg]
    rw [← ht, List.getElem?_take] at hu
    split at hu
    · simpa using hu
    · cases hu

/-- elements that lie in a block that is known whole -/
theorem Src.of_block {w : World} {size : Nat} {B : Nat} {cs : Array Value} {t : TypeId} {fr : Nat × Nat} (hb : w.heap[B]? = some (.cells cs t fr)) (m c : Nat) (hl : cs.size = m * size) (h1 : ∀ u ∈ cs.toList, u.oneCell' = true) :
    Src w size (.slice (some ⟨B, 0, none⟩) m c) m cs.toList :=
  ⟨by simpa using hl, h1, .inr ⟨_, c, rfl, World.news_of_block hb⟩⟩

section
variable {P : Program} (w : World)

/-- THE LAW OF append -/
theorem run_append_row (t ty : TypeId) (e : TypeId) (i : TypeInfo) (z : Value) (size bytes : Nat) (ht : P.underlying t = some (.slice e)) (hi : P.info? e = some i) (hz : i.zero = some z)
    (hsize : i.size = size) (hby : i.bytes = bytes) (hzs : z.cells.size = size)
    (v : Value) (n : Nat) (xs : List Value) (hown : Row w e size v n xs)
    (x : Value) (m : Nat) (news : List Value) (hsrc : Src w size x m news)
    (h63 : n + m ≤ maxLen) (hbytes : (n + m) * bytes ≤ 140737488355328) :
    ∃ a' cap' w', (Builtin.append_ #[t, t] ty #[v, x]).run P w = .ok (.slice a' (n + m) cap') w' ∧
      Row w' e size (.slice a' (n + m) cap') (n + m) (xs ++ news) ∧ w.grownBy w' v.ownBlock ∧ (∀ k, (Value.slice a' (n + m) cap').ownBlock = some k → v.ownBlock = some k ∨ k = w.heap.size) := by
  subst hsize
  subst hby
  have hsmall : n + m ≤ 9223372036854775807 := by simp only [maxLen] at h63; omega
  obtain ⟨hl, h1, hx⟩ := hsrc
  have hlen : (xs ++ news).length = (n + m) * i.size := by rw [List.length_append, hown.1, hl, Nat.add_mul]
  have grown : ∀ (old : Nat), old < n + m → ∀ (row : Option Nat),
      Row (w.drew.alloc (.cells (xs.toArray ++ news.toArray ++ Builtin.zeroCells z.cells (grownCap w (n + m) old e - (n + m))) e)) e i.size
        (.slice (some ⟨w.heap.size, 0, none⟩) (n + m) (grownCap w (n + m) old e)) (n + m) (xs ++ news) ∧
      w.grownBy (w.drew.alloc (.cells (xs.toArray ++ news.toArray ++ Builtin.zeroCells z.cells (grownCap w (n + m) old e - (n + m))) e)) row := by
    intro old ho row
    have hge := grownCap_ge w (n + m) old e
    have hcm : grownCap w (n + m) old e ≤ maxLen := grownCap_le_maxLen w (n + m) old e h63
    refine ⟨⟨hlen, .inr ⟨w.heap.size, _, _, rfl, heap_alloc_new w.drew _, hge, hcm, ?_, ?_⟩⟩, ⟨rfl, rfl, rfl, by simp, fun k hk _ => Below.heap_alloc w.drew _ k hk⟩⟩
    · simp only [Array.size_append, List.size_toArray, size_zeroCells, hzs, hown.1, hl, ← Nat.add_mul]
      refine Nat.le_of_eq ?_
      congr 1
      omega
    · simp only [Array.toList_append, List.append_assoc]
      rw [← List.append_assoc, ← hlen]
      exact List.take_left
  have same : m = 0 → (xs ++ news) = xs := by
    intro hm
    have : news = [] := List.eq_nil_of_length_eq_zero (by rw [hl, hm, Nat.zero_mul])
    rw [this, List.append_nil]
  rcases hown.2 with ⟨rfl, rfl⟩ | ⟨g, cap, cur, rfl, hg, hnc, hcm, hcs, htake⟩
  · have hxs : xs = [] := List.eq_nil_of_length_eq_zero (by simpa using hown.1)
    subst hxs
    by_cases hm : m = 0
    · subst hm
      have hn : news = [] := List.eq_nil_of_length_eq_zero (by simpa using hl)
      subst hn
      refine ⟨none, 0, w, ?_, Row.nil w e i.size, ⟨rfl, rfl, rfl, Nat.le_refl _, fun _ _ _ => rfl⟩, by simp [Value.ownBlock]⟩
      rcases hx with ⟨rfl, _⟩ | ⟨ad, c, rfl, _⟩
      · simp [Builtin.append_, run_underlying ht, sizeOf, typeInfo, hi, Builtin.lenOf, Builtin.firstCells]
      · simp [Builtin.append_, run_underlying ht, sizeOf, typeInfo, hi, Builtin.lenOf, Builtin.firstCells, loadCells, loadCellsFrom]
    · rcases hx with ⟨_, h0⟩ | ⟨ad, c, rfl, hnews⟩
      · omega
      · have hr := run_append_nil (P := P) w t ty e i z ht hi hz ad m c news hl hnews (by omega) (by omega) (by have hb := hbytes; simp only [Nat.zero_add] at hb; omega)
        have hgr := grown 0 (by omega) (Value.ownBlock (.slice none 0 0))
        simp only [Nat.zero_add, List.nil_append, Array.empty_append] at hgr ⊢
        exact ⟨_, _, _, hr, hgr.1, hgr.2, by intro k hk; simp [Value.ownBlock] at hk; exact .inr hk.symm⟩
  · by_cases hroom : n + m ≤ cap
    · rcases hx with ⟨rfl, rfl⟩ | ⟨ad, c, rfl, hnews⟩
      · have hn : news = [] := List.eq_nil_of_length_eq_zero (by simpa using hl)
        subst hn
        refine ⟨_, _, w, ?_, by simpa using hown, ⟨rfl, rfl, rfl, Nat.le_refl _, fun _ _ _ => rfl⟩, fun k hk => .inl hk⟩
        simp [Builtin.append_, run_underlying ht, sizeOf, typeInfo, hi, Builtin.lenOf, Builtin.firstCells, hnc, storeCells]
      · have hfit : n * i.size + news.length ≤ cur.size := by
          rw [hl, ← Nat.add_mul]; exact Nat.le_trans (Nat.mul_le_mul_right _ hroom) hcs
        have hr := run_append_room (P := P) w t ty e i ht hi g n cap cur hg ad m c news hl hnews h1 hroom hfit
        refine ⟨_, _, _, hr, ⟨hlen, .inr ⟨g, cap, _, rfl, setRow_heap w g cur _ e _ hg, hroom, hcm, ?_, ?_⟩⟩, ⟨rfl, rfl, rfl, by simp, fun k _ hk => setRow_other w g k _ (fun e => hk (by simp [Value.ownBlock, e]))⟩, fun k hk => .inl hk⟩
        · simp only [List.size_toArray, List.length_append, List.length_take, List.length_drop, Array.length_toList]
          omega
        · rw [htake, ← hlen]
          exact List.take_left
    · rcases hx with ⟨_, h0⟩ | ⟨ad, c, rfl, hnews⟩
      · omega
      · have holds : ∀ j u, xs[j]? = some u → w.cell? ((⟨g, 0, none⟩ : Addr).add j) = some u := by
          intro j u hu
          have hadd : (⟨g, 0, none⟩ : Addr).add j = ⟨g, j, none⟩ := by unfold Addr.add; split <;> simp_all
          rw [hadd, cell_of_row w g j cur e (0, 0) hg]
          rw [← htake, List.getElem?_take] at hu
          split at hu
          · simpa using hu
          · cases hu
        have hr := run_append_grow (P := P) w t ty e i z ht hi hz ⟨g, 0, none⟩ n cap xs hown.1 holds ad m c news hl hnews (by omega) (by omega) (growslice_fits (by omega) hbytes)
        have hgr := grown cap (by omega) (Value.ownBlock (.slice (some ⟨g, 0, none⟩) n cap))
        exact ⟨_, _, _, hr, hgr.1, hgr.2, by intro k hk; simp [Value.ownBlock] at hk; exact .inr hk.symm⟩

theorem wp_append_row {o : Oper} {a : Act} {K : Act → World → Prop} {Q : Exit → Act → World → Prop} (s x : Operand) (t : TypeId)
    (ho : o.op = .call { callee := .builtin .append, args := #[s, x], argTypes := #[t, t] })
    (e : TypeId) (i : TypeInfo) (z : Value) (size bytes : Nat) (ht : P.underlying t = some (.slice e)) (hi : P.info? e = some i) (hz : i.zero = some z)
    (hsize : i.size = size) (hby : i.bytes = bytes) (hzs : z.cells.size = size)
    (v : Value) (n : Nat) (xs : List Value) (hs : a.eval s = v) (hown : Row w e size v n xs)
    (y : Value) (m : Nat) (news : List Value) (hx : a.eval x = y) (hsrc : Src w size y m news)
    (h63 : n + m ≤ maxLen) (hbytes : (n + m) * bytes ≤ 140737488355328) (H : Nat) (hH : w.heap.size = H)
    (h : ∀ a' cap' w', Row w' e size (.slice a' (n + m) cap') (n + m) (xs ++ news) → w.grownBy w' v.ownBlock → (∀ k, (Value.slice a' (n + m) cap').ownBlock = some k → v.ownBlock = some k ∨ k = H) → K (a.put o.dst (.slice a' (n + m) cap')) w') : o.wp P a w K Q := by
  subst hH
  obtain ⟨a', cap', w', hr, h2, h3, h4⟩ := run_append_row (P := P) w t o.type e i z size bytes ht hi hz hsize hby hzs v n xs hown y m news hsrc h63 hbytes
  unfold Oper.wp execOp
  simp only [ho, resolve, invoke, builtin, Sem.run_bind, Sem.run_pure, Result.andThen_ok, List.map_toArray, List.map_cons, List.map_nil, hs, hx, hr]
  exact h a' cap' w' h2 h3 h4

/-- at the list of a plain region -/
theorem wpList_append_row {ops : Array Oper} {rest : List Oper} {o : Oper} {a : Act} {Q : Exit → Act → World → Prop} (hgd : o.guard = none) (s x : Operand) (t : TypeId)
    (ho : o.op = .call { callee := .builtin .append, args := #[s, x], argTypes := #[t, t] })
    (e : TypeId) (i : TypeInfo) (z : Value) (size bytes : Nat) (ht : P.underlying t = some (.slice e)) (hi : P.info? e = some i) (hz : i.zero = some z)
    (hsize : i.size = size) (hby : i.bytes = bytes) (hzs : z.cells.size = size)
    (v : Value) (n : Nat) (xs : List Value) (hs : a.eval s = v) (hown : Row w e size v n xs)
    (y : Value) (m : Nat) (news : List Value) (hx : a.eval x = y) (hsrc : Src w size y m news)
    (h63 : n + m ≤ maxLen) (hbytes : (n + m) * bytes ≤ 140737488355328) (H : Nat) (hH : w.heap.size = H)
    (h : ∀ a' cap' w', Row w' e size (.slice a' (n + m) cap') (n + m) (xs ++ news) → w.grownBy w' v.ownBlock → (∀ k, (Value.slice a' (n + m) cap').ownBlock = some k → v.ownBlock = some k ∨ k = H) → wpList P ops Q rest (a.put o.dst (.slice a' (n + m) cap')) w') : wpList P ops Q (o :: rest) a w :=
  wpList_plain hgd fun _ hK => wp_append_row w s x t ho e i z size bytes ht hi hz hsize hby hzs v n xs hs hown y m news hx hsrc h63 hbytes H hH fun a' cap' w' h2 h3 h4 => hK _ _ (h a' cap' w' h2 h3 h4)

/-- at a step of a region that draws its order -/
theorem step_append_row {ops : Array Oper} {o : Oper} {a : Act} {K : Act → World → Prop} {Q : Exit → Act → World → Prop} {E : Prop} (hgd : o.guard = none) (s x : Operand) (t : TypeId)
    (ho : o.op = .call { callee := .builtin .append, args := #[s, x], argTypes := #[t, t] })
    (e : TypeId) (i : TypeInfo) (z : Value) (size bytes : Nat) (ht : P.underlying t = some (.slice e)) (hi : P.info? e = some i) (hz : i.zero = some z)
    (hsize : i.size = size) (hby : i.bytes = bytes) (hzs : z.cells.size = size)
    (v : Value) (n : Nat) (xs : List Value) (hs : a.eval s = v) (hown : Row w e size v n xs)
    (y : Value) (m : Nat) (news : List Value) (hx : a.eval x = y) (hsrc : Src w size y m news)
    (h63 : n + m ≤ maxLen) (hbytes : (n + m) * bytes ≤ 140737488355328) (H : Nat) (hH : w.heap.size = H)
    (h : ∀ a' cap' w', Row w' e size (.slice a' (n + m) cap') (n + m) (xs ++ news) → w.grownBy w' v.ownBlock → (∀ k, (Value.slice a' (n + m) cap').ownBlock = some k → v.ownBlock = some k ∨ k = H) → K (a.put o.dst (.slice a' (n + m) cap')) w') :
    if Region.wanted o (yielded ops a.tmps) = true then Oper.wp P o a w K Q else E := by
  have hw : Region.wanted o (yielded ops a.tmps) = true := by simp [Region.wanted, hgd]
  rw [if_pos hw]
  exact wp_append_row w s x t ho e i z size bytes ht hi hz hsize hby hzs v n xs hs hown y m news hx hsrc h63 hbytes H hH h
end
/-! BYTES -/
def byteCells (b : List Int) : List Value := b.map (Value.int .u8)
theorem byteCells_one (b : List Int) : ∀ u ∈ byteCells b, u.oneCell' = true := by
  intro u hu; simp only [byteCells, List.mem_map] at hu; obtain ⟨n, _, rfl⟩ := hu; rfl
theorem byteCells_len (b : List Int) : (byteCells b).length = b.length := by simp [byteCells]
theorem byteCells_append (a b : List Int) : byteCells (a ++ b) = byteCells a ++ byteCells b := by simp [byteCells]

/-- string(b) -/
theorem run_string_src {P : Program} {w : World} {a : Option Addr} {n c : Nat} {bs : List Int} (h : Src w 1 (.slice a n c) n (byteCells bs)) (src e dst : TypeId) (hs : P.underlying src = some (.slice e)) (he : P.underlying e = some (.int .u8)) (hd : P.underlying dst = some .string) :
    (convert src dst (.slice a n c)).run P w = .ok (.string (strOfNums bs)) w := by
  obtain ⟨hl, _, hx⟩ := h
  rw [byteCells_len, Nat.mul_one] at hl
  rcases hx with ⟨e1, h0⟩ | ⟨ad, c', e1, hr⟩
  · simp only [Value.slice.injEq] at e1
    obtain ⟨rfl, rfl, rfl⟩ := e1
    have : bs = [] := List.eq_nil_of_length_eq_zero hl
    subst this
    exact run_convert_bytes_nil w src e hs he 0 0 dst hd
  · simp only [Value.slice.injEq, true_and] at e1
    obtain ⟨rfl, rfl⟩ := e1
    have hl' : (loadCells ad n).run P w = .ok (bs.map (Value.int .u8)).toArray w := by
      have := run_loadCells_list (P := P) w ad (bs.map (Value.int .u8)) hr
      simpa [hl] using this
    rw [run_convert_bytes_string w src dst e _ n c hs he hd, run_bytesToString w _ n c bs hl', foldl_push_bytes]
    simp [strOfNums, ByteArray.empty, ByteArray.emptyWithCapacity]
    rfl

/-- a value is stored whole into the block that was just laid for it -/
theorem run_store_whole {P : Program} (w : World) (cs : Array Value) (t : TypeId) (h1 : ∀ v ∈ cs.toList, v.oneCell' = true) :
    (storeCells ⟨w.heap.size, 0, none⟩ cs.toList).run P (w.alloc (.cells cs t)) = .ok () (w.alloc (.cells cs t)) := by
  have hg : (w.alloc (.cells cs t)).heap[w.heap.size]? = some (.cells cs t (0, 0)) := heap_alloc_new w _
  have h := run_storeCells_at P w.heap.size 0 t cs.toList 0 cs (w.alloc (.cells cs t)) hg (by simp) h1
  rw [h]
  congr 1
  have : (cs.toList.take (0 + 0) ++ cs.toList ++ cs.toList.drop (0 + 0 + cs.toList.length)).toArray = cs := by
    rw [List.drop_of_length_le (by omega)]; simp
  rw [this]
  exact setRow_self _ _ _ _ _ hg

/-- make([]byte, n) -/
def bytesMade (n : Nat) : Array Value := madeCells #[.int .u8 0] n
theorem bytesMade_list (n : Nat) : (bytesMade n).toList = byteCells (List.replicate n 0) := by
  unfold bytesMade byteCells
  rw [toList_madeCells_one, List.map_replicate]
theorem run_make_bytes {P : Program} (w : World) (t e : TypeId) (i : TypeInfo) (ht : P.underlying t = some (.slice e)) (hi : P.info? e = some i) (hz : i.zero = some (.int .u8 0)) (hs : i.size = 1) (hb : i.bytes = 1) (n : Nat) (hn : n ≤ 281474976710656) :
    (Instr.makeSlice t (.int .i64 (n : Int)) (.int .i64 (n : Int))).run P w = .ok (.slice (some ⟨w.heap.size, 0, none⟩) n n) (w.alloc (.cells (bytesMade n) e)) := by
  have h := run_make (P := P) w t e i _ ht hi hz .i64 .i64 (n : Int) (n : Int) (by omega) (Int.le_refl _) (by rw [hb]; omega) (by omega)
  rw [hs, Nat.mul_one, Int.toNat_natCast] at h
  exact h

/-! SLICES OF SLICES -/
theorem own_slice (a : Option Addr) (n c m d : Nat) : (Value.slice a n c).ownBlock = (Value.slice a m d).ownBlock := by cases a <;> rfl
def fromAddr (a : Option Addr) (cap lo size : Nat) : Option Addr := if cap = lo then a else a.map (·.add (lo * size))

theorem addr_add_add (a : Addr) (n m : Nat) : (a.add n).add m = a.add (n + m) := by
  unfold Addr.add
  by_cases hn : n = 0
  · subst hn; simp
  · by_cases hm : m = 0
    · subst hm; simp [hn]
    · have h3 : ¬ (n + m = 0) := by omega
      simp [hn, hm, Nat.add_assoc]

theorem Src.part {w : World} {size : Nat} {a : Option Addr} {n cap : Nat} {news : List Value} (h : Src w size (.slice a n cap) n news) (lo m : Nat) (hlm : lo + m ≤ n) (hnc : n ≤ cap) :
    Src w size (.slice (fromAddr a cap lo size) m (cap - lo)) m ((news.drop (lo * size)).take (m * size)) := by
  obtain ⟨hl, h1, hx⟩ := h
  have hle : lo * size + m * size ≤ n * size := by rw [← Nat.add_mul]; exact Nat.mul_le_mul_right _ hlm
  refine ⟨by rw [List.length_take, List.length_drop, hl]; omega, fun u hu => h1 u (List.mem_of_mem_drop (List.mem_of_mem_take hu)), ?_⟩
  rcases hx with ⟨e, hn⟩ | ⟨ad, c, e, hr⟩
  · simp only [Value.slice.injEq] at e
    obtain ⟨rfl, rfl, rfl⟩ := e
    obtain rfl : m = 0 := by omega
    obtain rfl : lo = 0 := by omega
    exact .inl ⟨by simp [fromAddr], rfl⟩
  · simp only [Value.slice.injEq, true_and] at e
    obtain ⟨rfl, rfl⟩ := e
    by_cases hm : m = 0
    · subst hm
      unfold fromAddr
      split
      · exact .inr ⟨ad, _, rfl, by intro j u hu; simp at hu⟩
      · exact .inr ⟨_, _, rfl, by intro j u hu; simp at hu⟩
    · have hne : ¬ cap = lo := by omega
      unfold fromAddr
      rw [if_neg hne]
      refine .inr ⟨ad.add (lo * size), _, rfl, fun j u hu => ?_⟩
      rw [addr_add_add]
      rw [List.getElem?_take] at hu
      split at hu
      · rw [List.getElem?_drop] at hu; exact hr _ _ hu
      · cases hu

/-- shortened -/
theorem Src.take {w : World} {a : Option Addr} {n cap : Nat} {bs : List Int} (h : Src w 1 (.slice a n cap) n (byteCells bs)) (m : Nat) (hm : m ≤ n) :
    Src w 1 (.slice a m cap) m (byteCells (bs.take m)) := by
  obtain ⟨hl, h1, hx⟩ := h
  have e : byteCells (bs.take m) = (byteCells bs).take m := by simp [byteCells, List.map_take]
  rw [e]
  refine ⟨by rw [List.length_take, hl]; omega, fun u hu => h1 u (List.mem_of_mem_take hu), ?_⟩
  rcases hx with ⟨e, hn⟩ | ⟨ad, c, e, hr⟩
  · simp only [Value.slice.injEq] at e
    obtain ⟨rfl, rfl, rfl⟩ := e
    obtain rfl : m = 0 := by omega
    exact .inl ⟨rfl, rfl⟩
  · simp only [Value.slice.injEq, true_and] at e
    obtain ⟨rfl, rfl⟩ := e
    refine .inr ⟨ad, _, rfl, fun j u hu => ?_⟩
    rw [List.getElem?_take] at hu
    split at hu
    · exact hr j u hu
    · cases hu

section
variable {P : Program} (w : World)
theorem run_slice_from (t e : TypeId) (i : TypeInfo) (ht : P.underlying t = some (.slice e)) (hi : P.info? e = some i) (size : Nat) (hs : i.size = size) (a : Option Addr) (len cap lo : Nat) (h1 : lo ≤ len) (k : IntKind) :
    (Instr.slice t (.slice a len cap) (some (.int k (lo : Int))) none none).run P w = .ok (.slice (fromAddr a cap lo size) (len - lo) (cap - lo)) w := by
  subst hs
  have h1' : (lo : Int) ≤ (len : Int) := by omega
  simp [Instr.slice, run_underlying ht, Instr.sliceBounds, Instr.sliceBound, asIntOf, h1, sizeOf, typeInfo, hi, fromAddr]
theorem run_slice_cap (t e : TypeId) (i : TypeInfo) (ht : P.underlying t = some (.slice e)) (hi : P.info? e = some i) (a : Option Addr) (len cap hh : Nat) (h1 : hh ≤ cap) (k : IntKind) :
    (Instr.slice t (.slice a len cap) none (some (.int k (hh : Int))) (some (.int k (hh : Int)))).run P w = .ok (.slice a hh hh) w := by
  have hz : ∀ a : Addr, a.add 0 = a := fun a => by simp [Addr.add]
  cases a <;> simp [Instr.slice, run_underlying ht, Instr.sliceBounds, Instr.sliceBound, asIntOf, h1, sizeOf, typeInfo, hi, hz]
theorem run_slice_to (t e : TypeId) (i : TypeInfo) (ht : P.underlying t = some (.slice e)) (hi : P.info? e = some i) (a : Option Addr) (len cap hh : Nat) (h1 : hh ≤ cap) (k : IntKind) :
    (Instr.slice t (.slice a len cap) none (some (.int k (hh : Int))) none).run P w = .ok (.slice a hh cap) w := by
  have h1' : (hh : Int) ≤ (cap : Int) := by omega
  have hz : ∀ a : Addr, a.add 0 = a := fun a => by simp [Addr.add]
  cases a <;> simp [Instr.slice, run_underlying ht, Instr.sliceBounds, Instr.sliceBound, asIntOf, h1, sizeOf, typeInfo, hi, hz]
end
end Go.Proofs.Ytpkmnfpbcakflaa
