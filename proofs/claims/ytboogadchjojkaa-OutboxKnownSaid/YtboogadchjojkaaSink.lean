/- A sink in memory; the walks of sink.New, Refuse, Take, Ack, Acked and All. No condition. -/
import Derived.Test.YtboogadchjojkaaMem
import Derived.Test.YtboogadchjojkaaMark
import Derived.Deep.RegionLaw
import Derived.OwnWalk
import Derived.Deep.RegionWith
import Derived.Deep.RegionHeld3
import Derived.IntWalk
namespace Go.Proofs.Ytboogadchjojkaa
open Go.ChangeShapes Go.WideShapes Go.ChangeAt Go.RowKit

@[go_sem] theorem run_store_complex {P : Program} {w : World} {a : Addr} {m : Mode} (k : FloatKind) (x y : Nat) : (store a (.complex k x y) m).run P w = stored P w a (.complex k x y) m := run_store P w a _ m rfl

theorem Mod.drewN {S : Nat → Prop} {a w : World} (h : Mod S a w) (n : Nat) : Mod S a (w.drewN n) := ⟨h.os, h.tape, h.output, h.size, h.block⟩
/-- the blocks of X are as they were -/
abbrev Keep (X : Nat → Prop) (w w' : World) : Prop := Mod (fun k => ¬ X k) w w'
theorem Keep.of_below {X : Nat → Prop} {w w' : World} (hB : Below w.heap.size w w') : Keep X w w' := Mod.of_below hB
theorem Keep.below {X : Nat → Prop} {B : Nat} {w w' : World} (h : Keep X w w') (hB : ∀ k, k < B → X k) (hBw : B ≤ w.heap.size) : Below B w w' :=
  ⟨h.os, h.tape, h.output, h.size, fun k hk => h.block k (by omega) (fun e => e (hB k hk))⟩
def More (S : Nat → Prop) (w w' : World) (k : Nat) : Prop := S k ∨ (w.heap.size ≤ k ∧ k < w'.heap.size)

/-- an item with its tag -/
structure Tg where
  a : Nat
  b : Nat
  s : ByteArray
  f : Int
def tgC (x : Tg) : List Value := [.complex .f64 (fl x.a) (fl x.b), .string x.s, .int .i64 x.f]
def tcells (l : List Tg) : List Value := l.flatMap tgC
theorem tcells_len (l : List Tg) : (tcells l).length = l.length * 3 := by
  induction l with
  | nil => rfl
  | cons x l ih =>
    show (tgC x ++ tcells l).length = _
    rw [List.length_append, ih]; simp [tgC]; omega
theorem tcells_append (l m : List Tg) : tcells (l ++ m) = tcells l ++ tcells m := by simp [tcells]
theorem tcells_at : ∀ (l : List Tg) (i : Nat) (x : Tg), l[i]? = some x →
    (tcells l)[i * 3]? = some (.complex .f64 (fl x.a) (fl x.b)) ∧ (tcells l)[i * 3 + 1]? = some (.string x.s) ∧ (tcells l)[i * 3 + 2]? = some (.int .i64 x.f)
  | [], _, _, h => by simp at h
  | y :: l, 0, x, h => by simp at h; subst h; exact ⟨rfl, rfl, rfl⟩
  | y :: l, i + 1, x, h => by
    have := tcells_at l i x (by simpa using h)
    have e : ∀ j, (tcells (y :: l))[j + 3]? = (tcells l)[j]? := fun j => by
      show (tgC y ++ tcells l)[j + 3]? = _
      rw [List.getElem?_append_right (by simp [tgC])]; simp [tgC]
    refine ⟨?_, ?_, ?_⟩
    · rw [show (i + 1) * 3 = i * 3 + 3 by omega, e]; exact this.1
    · rw [show (i + 1) * 3 + 1 = (i * 3 + 1) + 3 by omega, e]; exact this.2.1
    · rw [show (i + 1) * 3 + 2 = (i * 3 + 2) + 3 by omega, e]; exact this.2.2
theorem tcells_one (l : List Tg) : ∀ u ∈ tcells l, u.oneCell' = true := by
  intro u hu
  obtain ⟨x, _, hx⟩ := List.mem_flatMap.1 hu
  simp only [tgC, List.mem_cons, List.not_mem_nil, or_false] at hx
  rcases hx with rfl | rfl | rfl <;> rfl

/-- a sink's state -/
structure Sk where
  all : List Tg
  ma : Nat
  mb : Nat
  ca : Nat
  cb : Nat
  rf : Bool
def skHead (v : Value) (s : Sk) : Array Value := #[v, .complex .f64 (fl s.ma) (fl s.mb), .complex .f64 (fl s.ca) (fl s.cb), .bool s.rf]
structure SinkAt (w : World) (p : Nat) (v : Value) (s : Sk) : Prop where
  head : w.heap[p]? = some (.cells (skHead v s) 46 (0, 0))
  row : Row w 32 3 v s.all.length (tcells s.all)
  notp : ∀ k, v.ownBlock = some k → k ≠ p
section
variable {w w' : World} {p : Nat} {v : Value} {s : Sk}
theorem SinkAt.cells (h : SinkAt w p v s) : w.cell? ⟨p, 0, none⟩ = some v ∧ w.cell? ⟨p, 1, none⟩ = some (.complex .f64 (fl s.ma) (fl s.mb)) ∧ w.cell? ⟨p, 2, none⟩ = some (.complex .f64 (fl s.ca) (fl s.cb)) ∧ w.cell? ⟨p, 3, none⟩ = some (.bool s.rf) ∧ ∀ j, w.frozen? ⟨p, j, none⟩ = false := by
  refine ⟨?_, ?_, ?_, ?_, fun j => frozen_of_row _ _ _ _ _ h.head⟩ <;> (rw [cell_of_row _ _ _ _ _ _ h.head]; rfl)
theorem SinkAt.lt (h : SinkAt w p v s) : p < w.heap.size := heap_lt h.head
theorem SinkAt.move (h : SinkAt w p v s) (hb : ∀ k, (k = p ∨ v.ownBlock = some k) → w'.heap[k]? = w.heap[k]?) : SinkAt w' p v s :=
  ⟨(hb p (.inl rfl)).trans h.head, h.row.of_block fun k hk => hb k (.inr hk), h.notp⟩
theorem SinkAt.foot (h : SinkAt w p v s) : ∀ k, (k = p ∨ v.ownBlock = some k) → k < w.heap.size := by
  rintro k (rfl | hk)
  · exact h.lt
  · exact h.row.lt hk
theorem SinkAt.below (h : SinkAt w p v s) (hB : Below w.heap.size w w') : SinkAt w' p v s := h.move fun k hk => hB.block k (h.foot k hk)
end
/-- a sink whose blocks are none of X's -/
def SinkOwn (X : Nat → Prop) (w : World) (p : Nat) (s : Sk) : Prop := (∀ k, X k → k < w.heap.size) ∧ ∃ v, SinkAt w p v s ∧ ∀ k, (k = p ∨ v.ownBlock = some k) → ¬ X k
theorem SinkOwn.below {X : Nat → Prop} {w w' : World} {p : Nat} {s : Sk} (h : SinkOwn X w p s) (hB : Below w.heap.size w w') : SinkOwn X w' p s := by
  obtain ⟨hX, v, hA, hf⟩ := h
  exact ⟨fun k hk => Nat.lt_of_lt_of_le (hX k hk) hB.size, v, hA.below hB, hf⟩

def emptySk : Sk := ⟨[], 0, 0, 0, 0, false⟩
theorem snew_any (w : World) : Calls Try.prog 5 #[] w fun e w' => e = .returned (.pointer (some ⟨w.heap.size, 0, none⟩)) ∧ SinkOwn (fun k => k < w.heap.size) w' w.heap.size emptySk ∧ Below w.heap.size w w' := by
  go_enter Try.func5, Try.ntmps5
  go_wp2
  go_ret
  have hB := (Below.refl w.heap.size w).alloc (Nat.le_refl _) (.cells (skHead (.slice none 0 0) emptySk) 46)
  refine ⟨rfl, ⟨fun k hk => Nat.lt_of_lt_of_le hk hB.size, .slice none 0 0, ⟨heap_alloc_new w _, Row.nil _ _ _, by intro k hk; simp [Value.ownBlock] at hk⟩, ?_⟩, hB⟩
  rintro k (rfl | hk)
  · omega
  · simp [Value.ownBlock] at hk

section
variable (X : Nat → Prop) (p : Nat) (s : Sk) (w : World)
theorem own_set {X : Nat → Prop} {p : Nat} {s s' : Sk} {w : World} {v : Value} (hX : ∀ k, X k → k < w.heap.size) (hA : SinkAt w p v s) (hf : ∀ k, (k = p ∨ v.ownBlock = some k) → ¬ X k) (j : Nat) (u : Value) (hs : (skHead v s).setIfInBounds j u = skHead v s') (hal : s'.all = s.all) :
    SinkOwn X (w.setCell ⟨p, j, none⟩ u) p s' ∧ Keep X w (w.setCell ⟨p, j, none⟩ u) := by
  refine ⟨⟨fun k hk => by simpa [World.setCell] using hX k hk, v, ⟨?_, ?_, hA.notp⟩, hf⟩, Mod.setCell (S := fun k => ¬ X k) (p := ⟨p, j, none⟩) (Mod.refl _ w) (.inr (hf p (.inl rfl))) u⟩
  · have := heap_setCell_same w p j _ _ u hA.head
    rw [hs] at this; exact this
  · rw [hal]
    exact hA.row.of_block fun k hk => heap_setCell_other _ _ _ _ (show k ≠ (⟨p, j, none⟩ : Addr).block from hA.notp k hk)
theorem refuse_own (on : Bool) (h : SinkOwn X w p s) : Calls Try.prog 7 #[.pointer (some ⟨p, 0, none⟩), .bool on] w fun e w' => e = .returned (.tuple #[]) ∧ SinkOwn X w' p { s with rf := on } ∧ Keep X w w' := by
  obtain ⟨hX, v, hA, hf⟩ := h
  obtain ⟨-, -, -, c3, hfz⟩ := hA.cells
  have f3 := hfz 3
  have ho := own_set hX hA hf 3 (.bool on) (s' := { s with rf := on }) rfl rfl
  have HO := Lib.hid ho
  clear hfz hX hA hf ho
  go_enter Try.func7, Try.ntmps7
  go_wp2
  go_end0
  exact ⟨rfl, HO.out⟩
theorem ack_own (h : SinkOwn X w p s) : Calls Try.prog 10 #[.pointer (some ⟨p, 0, none⟩)] w fun e w' => e = .returned (.tuple #[]) ∧ SinkOwn X w' p { s with ca := s.ma, cb := s.mb } ∧ Keep X w w' := by
  obtain ⟨hX, v, hA, hf⟩ := h
  obtain ⟨-, c1, c2, -, hfz⟩ := hA.cells
  have f2 := hfz 2
  have ho := own_set hX hA hf 2 (.complex .f64 (fl s.ma) (fl s.mb)) (s' := { s with ca := s.ma, cb := s.mb }) rfl rfl
  have HO := Lib.hid ho
  clear hfz hX hA hf ho
  go_enter Try.func10, Try.ntmps10
  go_wp2
  go_end0
  exact ⟨rfl, HO.out⟩
theorem acked_own (h : SinkOwn X w p s) : Calls Try.prog 11 #[.pointer (some ⟨p, 0, none⟩)] w fun e w' => e = .returned (.complex .f64 (fl s.ca) (fl s.cb)) ∧ w = w' := by
  obtain ⟨-, v, hA, -⟩ := h
  obtain ⟨-, -, c2, -, -⟩ := hA.cells
  clear hA
  go_enter Try.func11, Try.ntmps11
  go_wp2
  go_ret
  exact ⟨rfl, rfl⟩
theorem infoT : (Try.prog.info? 32).map (fun i => (i.zero, i.size, i.bytes)) = some (some (.agg #[.complex .f64 0 0, .string ⟨#[]⟩, .int .i64 0]), 3, 40) := by kernel_rfl
/-- a new row of items -/
def NewItems (w w' : World) (e : Ending) (l : List Tg) : Prop := ∃ a c, e = .returned (.slice a l.length c) ∧ Row w' 32 3 (.slice a l.length c) l.length (tcells l) ∧ (∀ k, (Value.slice a l.length c).ownBlock = some k → w.heap.size ≤ k) ∧ Below w.heap.size w w'
theorem sall_own (h : SinkOwn X w p s) (hl : s.all.length ≤ 1000000) : Calls Try.prog 12 #[.pointer (some ⟨p, 0, none⟩)] w fun e w' => NewItems w w' e s.all := by
  obtain ⟨i0, hi0, hz0, hz1, hz2⟩ := info_parts infoT
  obtain ⟨-, v, hA, -⟩ := h
  obtain ⟨c0, -, -, -, -⟩ := hA.cells
  obtain ⟨a, cap, rfl, -⟩ := hA.row.form
  have hsrc : Src (w.alloc (.cells #[] 32)) 3 (.slice a s.all.length cap) s.all.length (tcells s.all) := (Src.of_row hA.row (tcells_one _)).below ((Below.refl _ w).alloc (Nat.le_refl _) _)
  have hdst := Row.lit_at w 32 3 #[] 0 w.heap.size rfl (Nat.zero_le _) rfl
  have hpl := hA.lt
  clear hA
  go_enter Try.func12, Try.ntmps12
  go_wp2_with (at_builtin; refine wpList_append_row _ rfl _ _ 36 rfl 32 i0 _ 3 40 Try.underlying36 hi0 hz0 hz1 hz2 rfl (.slice (some ⟨w.heap.size, 0, none⟩) 0 0) 0 [] rfl hdst _ _ _ rfl hsrc (by unfold maxLen; omega) (by omega) (w.heap.size + 1) (by simp) ?_; intro a' cap' w2 hown2 hgrow hat)
  go_ret
  simp only [Nat.zero_add, List.nil_append] at hown2
  refine ⟨a', cap', by simp, hown2, fun k hk => ?_, ((Below.refl _ w).alloc (Nat.le_refl _) _).grown hgrow (by simp) (by intro k hk; simp [Value.ownBlock] at hk; omega)⟩
  rcases hat k (by simpa using hk) with e | e
  · simp [Value.ownBlock] at e; omega
  · omega

/-- what Take makes of a sink -/
def took (s : Sk) (x : Tg) : Sk := { s with all := s.all ++ [x], ma := if lessB s.ma s.mb x.a x.b then x.a else s.ma, mb := if lessB s.ma s.mb x.a x.b then x.b else s.mb }
theorem take_no (x : Tg) (h : SinkOwn X w p s) (hr : s.rf = true) : Calls Try.prog 8 #[.pointer (some ⟨p, 0, none⟩), .agg #[.complex .f64 (fl x.a) (fl x.b), .string x.s, .int .i64 x.f]] w fun e w' => e = .returned (.bool false) ∧ Below w.heap.size w w' := by
  obtain ⟨-, v, hA, -⟩ := h
  obtain ⟨-, -, -, c3, -⟩ := hA.cells
  have hpl := hA.lt
  rw [hr] at c3
  clear hA hr
  go_enter Try.func8, Try.ntmps8
  go_wp2
  go_ret
  exact ⟨rfl, (Below.refl _ w).alloc (Nat.le_refl _) _⟩
theorem own_take {X : Nat → Prop} {p : Nat} {s : Sk} {x : Tg} {w W1 w2 : World} {a a' : Option Addr} {n cap n' cap' H : Nat} {cells : List Value} (hX : ∀ k, X k → k < w.heap.size) (hA : SinkAt w p (.slice a n cap) s) (hf : ∀ k, (k = p ∨ (Value.slice a n cap).ownBlock = some k) → ¬ X k)
    (hB : Below w.heap.size w W1) (hg : W1.grownBy w2 (Value.slice a n cap).ownBlock) (R : Row w2 32 3 (.slice a' n' cap') n' cells) (hn' : n' = s.all.length + 1) (hc : cells = tcells s.all ++ tgC x)
    (hat : ∀ k, (Value.slice a' n' cap').ownBlock = some k → (Value.slice a n cap).ownBlock = some k ∨ k = H) (hH : w.heap.size ≤ H) :
    SinkOwn X (w2.setCell ⟨p, 0, none⟩ (.slice a' n' cap')) p { s with all := s.all ++ [x] } ∧ Keep X w (w2.setCell ⟨p, 0, none⟩ (.slice a' n' cap')) := by
  have hpl := hA.lt
  have hsz : w.heap.size ≤ w2.heap.size := Nat.le_trans hB.size hg.size
  have hM : Keep X w (w2.setCell ⟨p, 0, none⟩ (.slice a' n' cap')) := Mod.setCell (S := fun k => ¬ X k) (p := ⟨p, 0, none⟩) (Mod.grown (Mod.of_below hB) hg fun k hk => .inr (hf k (.inr hk))) (.inr (hf p (.inl rfl))) _
  refine ⟨⟨fun k hk => Nat.lt_of_lt_of_le (hX k hk) hM.size, .slice a' n' cap', ⟨?_, ?_, ?_⟩, ?_⟩, hM⟩
  · have hp2 : w2.heap[p]? = w.heap[p]? := (hg.block p (Nat.lt_of_lt_of_le hpl hB.size) (fun e => hA.notp p e.symm rfl)).trans (hB.block p hpl)
    exact heap_setCell_same w2 p 0 _ _ _ (hp2.trans hA.head)
  · subst hn' hc
    show Row _ _ _ _ (s.all ++ [x]).length (tcells (s.all ++ [x]))
    rw [tcells_append, List.length_append]
    have e : tcells [x] = tgC x := by simp [tcells]
    rw [e]
    refine R.of_block fun k hk => heap_setCell_other _ _ _ _ (show k ≠ (⟨p, 0, none⟩ : Addr).block from ?_)
    rcases hat k hk with h | h
    · exact hA.notp k h
    · show k ≠ p; omega
  · intro k hk
    rcases hat k hk with h | h
    · exact hA.notp k h
    · omega
  · rintro k (rfl | hk)
    · exact hf k (.inl rfl)
    · rcases hat k hk with h | h
      · exact hf k (.inr h)
      · intro hx; have := hX k hx; omega

set_option maxRecDepth 100000 in
set_option maxHeartbeats 2000000 in
theorem take_yes (x : Tg) (h : SinkOwn X w p s) (hr : s.rf = false) (hxa : x.a ≤ 1099511627776) (hxb : x.b ≤ 1099511627776) (hma : s.ma ≤ 1099511627776) (hmb : s.mb ≤ 1099511627776) (hl : s.all.length ≤ 1000000) :
    Calls Try.prog 8 #[.pointer (some ⟨p, 0, none⟩), .agg #[.complex .f64 (fl x.a) (fl x.b), .string x.s, .int .i64 x.f]] w fun e w' => e = .returned (.bool true) ∧ SinkOwn X w' p (took s x) ∧ Keep X w w' := by
  obtain ⟨i0, hi0, hz0, hz1, hz2⟩ := info_parts infoT
  obtain ⟨hX, v, hA, hf⟩ := h
  obtain ⟨a, cap, rfl, hnc, -, hcm⟩ := hA.row.form
  obtain ⟨c0, c1, -, c3, hfz⟩ := hA.cells
  rw [hr] at c3
  have f0 := hfz 0
  have hpl := hA.lt
  have hrow := hA.row
  have hnp : (Value.slice a s.all.length cap).ownBlock ≠ some p := fun e => hA.notp p e rfl
  have HR := Lib.hid (fun w => right_yes x.a x.b hxa hxb w)
  have HLs := Lib.hid (fun w => (less_yes s.ma s.mb x.a x.b hma hmb hxa hxb w).mono fun e w' (h : e = .returned (.bool (lessB s.ma s.mb x.a x.b)) ∧ w = w') => (⟨h.1, h.2.symm⟩ : e = .returned (.bool (lessB s.ma s.mb x.a x.b)) ∧ w' = w))
  have HA := Lib.hid hA
  have HX := Lib.hid hX
  have HF := Lib.hid hf
  clear hA hX hf hfz hr hma hmb hxa hxb
  go_enter Try.func8, Try.ntmps8
  go_wp2_with fail
  refine (HR.out _).mono ?_
  rintro e w' ⟨rfl, rfl⟩
  go_wp2_with fail
  have hB := (Below.refl w.heap.size w).alloc (Nat.le_refl _) (.cells #[.complex .f64 (fl x.a) (fl x.b), .string x.s, .int .i64 x.f] 32)
  have hbx : (w.alloc (.cells #[.complex .f64 (fl x.a) (fl x.b), .string x.s, .int .i64 x.f] 32)).heap[w.heap.size]? = some (.cells #[.complex .f64 (fl x.a) (fl x.b), .string x.s, .int .i64 x.f] 32 (0, 0)) := heap_alloc_new w _
  have hsW : (w.alloc (.cells #[.complex .f64 (fl x.a) (fl x.b), .string x.s, .int .i64 x.f] 32)).heap.size = w.heap.size + 1 := by simp
  generalize w.alloc (.cells #[.complex .f64 (fl x.a) (fl x.b), .string x.s, .int .i64 x.f] 32) = W at *
  have q0 := (World.cell?_of_block (a := ⟨p, 0, none⟩) (hB.block p hpl)).trans c0
  have q1 := (World.cell?_of_block (a := ⟨p, 1, none⟩) (hB.block p hpl)).trans c1
  have qf := (World.frozen?_of_block (a := ⟨p, 0, none⟩) (hB.block p hpl)).trans f0
  have b0 : W.cell? ⟨w.heap.size, 0, none⟩ = some (.complex .f64 (fl x.a) (fl x.b)) := by rw [cell_of_row _ _ _ _ _ _ hbx]; rfl
  have b1 : W.cell? ⟨w.heap.size, 1, none⟩ = some (.string x.s) := by rw [cell_of_row _ _ _ _ _ _ hbx]; rfl
  have b2 : W.cell? ⟨w.heap.size, 2, none⟩ = some (.int .i64 x.f) := by rw [cell_of_row _ _ _ _ _ _ hbx]; rfl
  have hB1 : Below w.heap.size w (W.alloc (.cells #[.complex .f64 (fl x.a) (fl x.b), .string x.s, .int .i64 x.f] 32)).drew := (hB.alloc hB.size _).drew
  have hdst : Row (W.alloc (.cells #[.complex .f64 (fl x.a) (fl x.b), .string x.s, .int .i64 x.f] 32)).drew 32 3 (.slice a s.all.length cap) s.all.length (tcells s.all) := hrow.of_block fun k hk => hB1.block k (hrow.lt hk)
  have hsrc : Src (W.alloc (.cells #[.complex .f64 (fl x.a) (fl x.b), .string x.s, .int .i64 x.f] 32)).drew 3 (.slice (some ⟨W.heap.size, 0, none⟩) 1 1) 1 [.complex .f64 (fl x.a) (fl x.b), .string x.s, .int .i64 x.f] :=
    (Src.of_block (heap_alloc_new W (.cells #[.complex .f64 (fl x.a) (fl x.b), .string x.s, .int .i64 x.f] 32)) 1 1 rfl (by simp [Value.oneCell'])).below (Below.refl _ _).drew
  rw [hsW] at hsrc
  have hszd : (W.alloc (.cells #[.complex .f64 (fl x.a) (fl x.b), .string x.s, .int .i64 x.f] 32)).drew.heap.size = w.heap.size + 2 := by show (W.alloc _).heap.size = _; simp [hsW]
  have HB1 := Lib.hid hB1
  have HDst := Lib.hid hdst
  have HSrc := Lib.hid hsrc
  have HSZ := Lib.hid hszd
  have HBX := Lib.hid hbx
  have HP := Lib.hid hrow
  clear hB1 hdst hsrc hszd hbx hrow hB c0 c1 c3 f0
  go_region_law
    (refine step_append_row _ (by rfl) _ _ _ (by rfl) 32 i0 _ 3 40 Try.underlying36 hi0 hz0 hz1 hz2 rfl (.slice a s.all.length cap) s.all.length _ (by rfl) HDst.out
        (.slice (some ⟨w.heap.size + 1, 0, none⟩) 1 1) 1 _ (by rfl) HSrc.out (by unfold maxLen; omega) (by omega) (w.heap.size + 2) HSZ.out ?_; intro a' cap' w2 hrow2 hgrow hat; have hz1' := HSZ.out; have hpb : w2.heap[p]? = W.heap[p]? := (hgrow.block p (by omega) (fun e => hnp e.symm)).trans (Below.heap_alloc W _ _ (by omega)); have q0' := (World.cell?_of_block (a := ⟨p, 0, none⟩) hpb).trans q0; have q1' := (World.cell?_of_block (a := ⟨p, 1, none⟩) hpb).trans q1; have qf' := (World.frozen?_of_block (a := ⟨p, 0, none⟩) hpb).trans qf; clear hpb hz1')
  all_goals
    have ho := own_take HX.out HA.out HF.out HB1.out hgrow hrow2 rfl rfl hat (by omega)
    have hz2 : w.heap.size + 2 ≤ w2.heap.size := by have := hgrow.size; rw [HSZ.out] at this; exact this
    have hb3 : ∀ j, (w2.setCell ⟨p, 0, none⟩ (.slice a' (s.all.length + 1) cap')).cell? ⟨w.heap.size, j, none⟩ = W.cell? ⟨w.heap.size, j, none⟩ := fun j => by
      refine World.cell?_of_block (a := ⟨w.heap.size, j, none⟩) ?_
      show (w2.setCell _ _).heap[w.heap.size]? = W.heap[w.heap.size]?
      rw [heap_setCell_other _ _ _ _ (show w.heap.size ≠ (⟨p, 0, none⟩ : Addr).block from by show w.heap.size ≠ p; omega)]
      exact (hgrow.block w.heap.size (by have := HSZ.out; omega) (fun e => by have := HP.out.lt e.symm; omega)).trans (Below.heap_alloc W _ _ (by omega))
    have r0 := (hb3 0).trans b0
    have r1 := (hb3 1).trans b1
    have r2 := (hb3 2).trans b2
    clear hgrow hrow2 hat q0' q1' qf' b0 b1 b2 q0 q1 qf hb3 hz2
    generalize w2.setCell ⟨p, 0, none⟩ (.slice a' (s.all.length + 1) cap') = W3 at *
    obtain ⟨⟨hX3, v3, hA3, hf3⟩, hK3⟩ := ho
    obtain ⟨-, c1, -, -, hfz3⟩ := hA3.cells
    simp only at c1
    have f1 := hfz3 1
    have H3 := Lib.hid (And.intro hX3 (And.intro hA3 (And.intro hf3 hK3)))
    clear hX3 hA3 hf3 hK3 hfz3
    cases hls : lessB s.ma s.mb x.a x.b with
    | true =>
      rw [hls] at HLs
      have ht : took s x = { s with all := s.all ++ [x], ma := x.a, mb := x.b } := by simp [took, hls]
      have HT := Lib.hid ht
      clear hls ht
      go_wp2_with fail
      go_quiet ((go_at_call 21; exact Calls.quiet_of_same (HLs.out _)))
      go_wp2_with fail
      go_ret
      rw [HT.out]
      have hA5 := fun n => (H3.out.2.1).move (w' := W3.drewN n) fun _ _ => rfl
      have h5 := fun n => own_set (w := W3.drewN n) H3.out.1 (hA5 n) H3.out.2.2.1 1 (.complex .f64 (fl x.a) (fl x.b)) (s' := { s with all := s.all ++ [x], ma := x.a, mb := x.b }) rfl rfl
      exact ⟨rfl, (h5 _).1, (Mod.drewN H3.out.2.2.2 _).trans (h5 _).2⟩
    | false =>
      rw [hls] at HLs
      have ht : took s x = { s with all := s.all ++ [x] } := by simp [took, hls]
      have HT := Lib.hid ht
      clear hls ht
      go_wp2_with fail
      go_quiet ((go_at_call 21; exact Calls.quiet_of_same (HLs.out _)))
      go_wp2_with fail
      go_ret
      rw [HT.out]
      exact ⟨rfl, ⟨H3.out.1, v3, (H3.out.2.1).move fun _ _ => rfl, H3.out.2.2.1⟩, Mod.drewN H3.out.2.2.2 _⟩
end
end Go.Proofs.Ytboogadchjojkaa
