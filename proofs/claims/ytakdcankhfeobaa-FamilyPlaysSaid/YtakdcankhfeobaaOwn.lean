/- The contracts of package family, whole: over a set X of blocks that stay as they are. No condition. -/
import Derived.Test.YtakdcankhfeobaaAppend
import Derived.Test.YtakdcankhfeobaaRename
import Derived.Test.YtakdcankhfeobaaRemove
namespace Go.Proofs.Ytakdcankhfeobaa
open Go.ChangeShapes Go.WideShapes Go.ChangeAt Go.RowKit

/-- the blocks of X are as they were -/
abbrev Keep (X : Nat → Prop) (w w' : World) : Prop := Mod (fun k => ¬ X k) w w'

/-- a family whose blocks are none of X's -/
def FamOwn (Tf Tg : TypeId) (X : Nat → Prop) (w : World) (p : Nat) (gs : List Gn) (l : Int) : Prop :=
  (∀ k, X k → k < w.heap.size) ∧ ∃ v vs, FamAt Tf Tg w p v gs vs l ∧ ∀ k, foot p v vs k → ¬ X k

theorem FamOwn.below {Tf Tg : TypeId} {X : Nat → Prop} {w w' : World} {p : Nat} {gs : List Gn} {l : Int} (h : FamOwn Tf Tg X w p gs l) (hB : Below w.heap.size w w') : FamOwn Tf Tg X w' p gs l := by
  obtain ⟨hX, v, vs, hF, hf⟩ := h
  exact ⟨fun k hk => Nat.lt_of_lt_of_le (hX k hk) hB.size, v, vs, hF.below hB, hf⟩

theorem FamOwn.out {Tf Tg : TypeId} {X : Nat → Prop} {w w' : World} {p : Nat} {v : Value} {vs : List Value} {gs' : List Gn} {l' : Int} (hX : ∀ k, X k → k < w.heap.size) (hf : ∀ k, foot p v vs k → ¬ X k)
    (h : FamOut Tf Tg w w' p v vs gs' l') : FamOwn Tf Tg X w' p gs' l' ∧ Keep X w w' := by
  obtain ⟨v', vs', hF, hM, hf'⟩ := h
  refine ⟨⟨fun k hk => Nat.lt_of_lt_of_le (hX k hk) hM.size, v', vs', hF, fun k hk hx => ?_⟩, hM.mono fun k _ hk => hf k hk⟩
  rcases hf' k hk with h | h
  · exact hf k h hx
  · have := hX k hx; omega

theorem Keep.of_below {X : Nat → Prop} {w w' : World} (hB : Below w.heap.size w w') : Keep X w w' := Mod.of_below hB

/-! the family's states -/
structure Good (C : Int) (gs : List Gn) (l : Int) : Prop where
  len : gs.length ≤ 12
  each : ∀ g ∈ gs, g.b.length ≤ 65536 ∧ 0 ≤ g.suf ∧ g.suf ≤ C
  latest : 0 ≤ l ∧ l ≤ C

def createM (gs : List Gn) (l : Int) : Int × List Gn × Int :=
  if 0 ≤ findSuf gs 0 then (5, gs, l) else if 12 ≤ gs.length then (2, gs, l) else (0, gs ++ [⟨l + 1, 0, []⟩], l + 1)
def renameM (gs : List Gn) : Int × List Gn :=
  if 0 ≤ findSuf gs 0 then (0, gs.map (fun g => { g with suf := g.suf + 1 })) else (4, gs)
def removeM (gs : List Gn) (s : Int) : Int × List Gn :=
  if s ≤ 0 then (1, gs) else if 0 ≤ findSuf gs s then (0, gs.eraseIdx (findSuf gs s).toNat) else (4, gs)
def appendM (gs : List Gn) (l : Int) (bs : List Int) : Int × List Gn × Int :=
  if 0 ≤ findSuf gs 0 then
    match gs[(findSuf gs 0).toNat]? with
    | some x => if 65536 < bs.length + x.b.length then (2, gs, l) else (0, gs.set (findSuf gs 0).toNat { x with b := x.b ++ bs }, l)
    | none => (2, gs, l)
  else if 12 ≤ gs.length then (2, gs, l) else if 65536 < bs.length then (2, gs, l) else (0, gs ++ [⟨l + 1, 0, bs⟩], l + 1)

theorem findSuf_some (gs : List Gn) (s : Int) (h : 0 ≤ findSuf gs s) : ∃ k x, findSuf gs s = (k : Nat) ∧ k < gs.length ∧ gs[k]? = some x ∧ x.suf = s := by
  unfold findSuf at h ⊢
  split
  · rename_i k hk
    rw [List.findIdx?_eq_some_iff_getElem] at hk
    obtain ⟨h1, h2, _⟩ := hk
    exact ⟨k, gs[k], rfl, h1, List.getElem?_eq_getElem h1, by simpa using h2⟩
  · rename_i hk; rw [hk] at h; simp at h

theorem create_own (X : Nat → Prop) (p : Nat) (gs : List Gn) (l C : Int) (w : World) (hF : FamOwn 64 67 X w p gs l) (hG : Good C gs l) (hC : C ≤ 1000000) :
    Calls Try.prog 12 #[.pointer (some ⟨p, 0, none⟩)] w fun e w' => e = .returned (.int .i64 (createM gs l).1) ∧ FamOwn 64 67 X w' p (createM gs l).2.1 (createM gs l).2.2 ∧ Keep X w w' := by
  obtain ⟨hX, v, vs, hA, hf⟩ := hF
  unfold createM
  by_cases h1 : 0 ≤ findSuf gs 0
  · rw [if_pos h1]
    exact (create_state p v gs vs l w hA h1).mono fun e w' ⟨he, hB⟩ => ⟨he, FamOwn.below ⟨hX, v, vs, hA, hf⟩ hB, Keep.of_below hB⟩
  · rw [if_neg h1]
    by_cases h2 : 12 ≤ gs.length
    · rw [if_pos h2]
      exact (create_full p v gs vs l w hA h1 h2).mono fun e w' ⟨he, hB⟩ => ⟨he, FamOwn.below ⟨hX, v, vs, hA, hf⟩ hB, Keep.of_below hB⟩
    · rw [if_neg h2]
      have := hG.latest
      exact (create_ok p v gs vs l w hA h1 (by omega) (by omega) (by omega)).mono fun e w' ⟨he, ho⟩ => ⟨he, FamOwn.out hX hf ho⟩

theorem rename_own (X : Nat → Prop) (p : Nat) (gs : List Gn) (l C : Int) (w : World) (hF : FamOwn 64 67 X w p gs l) (hG : Good C gs l) (hC : C ≤ 1000000) :
    Calls Try.prog 11 #[.pointer (some ⟨p, 0, none⟩)] w fun e w' => e = .returned (.int .i64 (renameM gs).1) ∧ FamOwn 64 67 X w' p (renameM gs).2 l ∧ Keep X w w' := by
  obtain ⟨hX, v, vs, hA, hf⟩ := hF
  unfold renameM
  by_cases h1 : 0 ≤ findSuf gs 0
  · rw [if_pos h1]
    exact (rename_ok p v gs vs l w hA h1 (fun g hg => by have := hG.each g hg; omega)).mono fun e w' ⟨he, ho⟩ => ⟨he, FamOwn.out hX hf ho⟩
  · rw [if_neg h1]
    exact (rename_none p v gs vs l w hA h1).mono fun e w' ⟨he, hB⟩ => ⟨he, FamOwn.below ⟨hX, v, vs, hA, hf⟩ hB, Keep.of_below hB⟩

theorem remove_own (X : Nat → Prop) (p : Nat) (gs : List Gn) (l C s : Int) (w : World) (hF : FamOwn 64 67 X w p gs l) (hG : Good C gs l) :
    Calls Try.prog 14 #[.pointer (some ⟨p, 0, none⟩), .int .i64 s] w fun e w' => e = .returned (.int .i64 (removeM gs s).1) ∧ FamOwn 64 67 X w' p (removeM gs s).2 l ∧ Keep X w w' := by
  obtain ⟨hX, v, vs, hA, hf⟩ := hF
  unfold removeM
  by_cases h0 : s ≤ 0
  · rw [if_pos h0]
    exact (remove_arg p v gs vs l s w hA h0).mono fun e w' ⟨he, hB⟩ => ⟨he, FamOwn.below ⟨hX, v, vs, hA, hf⟩ hB, Keep.of_below hB⟩
  · rw [if_neg h0]
    by_cases h1 : 0 ≤ findSuf gs s
    · rw [if_pos h1]
      obtain ⟨k, x, hk, hlt, hx, _⟩ := findSuf_some gs s h1
      have e : (findSuf gs s).toNat = k := by omega
      rw [e]
      exact (remove_ok p v gs vs l s w hA h0 k hk hlt (by have := hG.len; omega)).mono fun e w' ⟨he, ho⟩ => ⟨he, FamOwn.out hX hf ho⟩
    · rw [if_neg h1]
      exact (remove_none p v gs vs l s w hA h0 h1).mono fun e w' ⟨he, hB⟩ => ⟨he, FamOwn.below ⟨hX, v, vs, hA, hf⟩ hB, Keep.of_below hB⟩

theorem append_own (X : Nat → Prop) (p : Nat) (gs : List Gn) (l C : Int) (w : World) (hF : FamOwn 64 67 X w p gs l) (hG : Good C gs l) (hC : C ≤ 1000000)
    (ay : Option Addr) (m cy : Nat) (bs : List Int) (hsrc : Src w 1 (.slice ay m cy) m (byteCells bs)) (hy : 0 < m → ∀ k, (Value.slice ay m cy).ownBlock = some k → X k) (hbs : ∀ n ∈ bs, 0 ≤ n ∧ n < 256) (hm : m ≤ 140737488355328) :
    Calls Try.prog 15 #[.pointer (some ⟨p, 0, none⟩), .slice ay m cy] w fun e w' => e = .returned (.int .i64 (appendM gs l bs).1) ∧ FamOwn 64 67 X w' p (appendM gs l bs).2.1 (appendM gs l bs).2.2 ∧ Keep X w w' := by
  obtain ⟨hX, v, vs, hA, hf⟩ := hF
  have hml : bs.length = m := by
    have := hsrc.1; rw [byteCells_len] at this; omega
  have hy' : 0 < m → ∀ k, (Value.slice ay m cy).ownBlock = some k → ¬ foot p v vs k := fun hm k hk hk2 => hf k hk2 (hy hm k hk)
  unfold appendM
  by_cases h1 : 0 ≤ findSuf gs 0
  · rw [if_pos h1]
    obtain ⟨k, x, hk, hlt, hx, _⟩ := findSuf_some gs 0 h1
    have e : (findSuf gs 0).toNat = k := by omega
    rw [e, hx]
    have hxg := hG.each x (List.mem_of_getElem? hx)
    simp only
    by_cases h2 : 65536 < bs.length + x.b.length
    · rw [if_pos h2]
      exact (append_big2 p v gs vs l w hA k x hk hx (by have := hG.len; omega) ay m cy hxg.1 (by omega)).mono fun e w' ⟨he, hB⟩ => ⟨he, FamOwn.below ⟨hX, v, vs, hA, hf⟩ hB, Keep.of_below hB⟩
    · rw [if_neg h2]
      exact (append_old p v gs vs l w hA k x hk hx (by have := hG.len; omega) ay m cy bs hsrc hbs (by omega)).mono fun e w' ⟨he, ho⟩ => ⟨he, FamOwn.out hX hf ho⟩
  · rw [if_neg h1]
    by_cases h2 : 12 ≤ gs.length
    · rw [if_pos h2]
      exact (append_full p v gs vs l w hA (by omega) h2 _).mono fun e w' ⟨he, hB⟩ => ⟨he, FamOwn.below ⟨hX, v, vs, hA, hf⟩ hB, Keep.of_below hB⟩
    · rw [if_neg h2]
      by_cases h3 : 65536 < bs.length
      · rw [if_pos h3]
        exact (append_big p v gs vs l w hA (by omega) (by omega) ay m cy (by omega) hm).mono fun e w' ⟨he, hB⟩ => ⟨he, FamOwn.below ⟨hX, v, vs, hA, hf⟩ hB, Keep.of_below hB⟩
      · rw [if_neg h3]
        have := hG.latest
        exact (append_new p v gs vs l w hA (by omega) (by omega) (by omega) (by omega) ay m cy bs hsrc hy' hbs (by omega)).mono fun e w' ⟨he, ho⟩ => ⟨he, FamOwn.out hX hf ho⟩

theorem list_own (X : Nat → Prop) (p : Nat) (gs : List Gn) (l C : Int) (w : World) (hF : FamOwn 64 67 X w p gs l) (hG : Good C gs l) :
    Calls Try.prog 18 #[.pointer (some ⟨p, 0, none⟩)] w fun e w' => NewRow w w' e 45 3 gs.length (lcells gs) := by
  obtain ⟨hX, v, vs, hA, hf⟩ := hF
  exact list_any p v gs vs l w hA (by have := hG.len; omega)

/-- what Read answers -/
def ReadOut (w w' : World) (e : Ending) (gs : List Gn) (id : Int) (f m : Nat) : Prop :=
  match gs.find? (fun g => g.id == id) with
  | some x => ReadYes w w' e (cutB x.b f m)
  | none => e = .returned (.tuple #[.slice none 0 0, .bool false]) ∧ Below w.heap.size w w'

theorem read_own (X : Nat → Prop) (p : Nat) (gs : List Gn) (l C id from_ n : Int) (w : World) (hF : FamOwn 64 67 X w p gs l) (hG : Good C gs l) :
    Calls Try.prog 13 #[.pointer (some ⟨p, 0, none⟩), .int .u64 id, .int .i64 from_, .int .i64 n] w fun e w' => ReadOut w w' e gs id (max from_ 0).toNat (max n 0).toNat := by
  obtain ⟨hX, v, vs, hA, hf⟩ := hF
  unfold ReadOut
  have hl : gs.length ≤ 1000000 := by have := hG.len; omega
  cases hfd : gs.find? (fun g => g.id == id) with
  | none =>
    refine read_no p v gs vs l id from_ n w hA hl (fun j hj g hg => ?_)
    have := List.find?_eq_none.1 hfd g (List.mem_of_getElem? hg)
    simpa using this
  | some x =>
    obtain ⟨h1, l1, l2, h2, h3⟩ := List.find?_eq_some_iff_append.1 hfd
    refine read_yes p v gs vs l id from_ n w hA hl (fun g hg => by have := hG.each g hg; omega) l1.length x ?_ (by simpa using h1) (fun j hj g hg => ?_)
    · rw [h2]; simp
    · rw [h2, List.getElem?_append_left hj] at hg
      have := h3 g (List.mem_of_getElem? hg)
      simpa using this

theorem Good.nil : Good 0 [] 0 := ⟨by simp, by simp, by omega⟩
theorem Good.mono {C D : Int} {gs : List Gn} {l : Int} (h : Good C gs l) (hCD : C ≤ D) : Good D gs l :=
  ⟨h.len, fun g hg => by have := h.each g hg; omega, by have := h.latest; omega⟩
theorem Good.create {C : Int} {gs : List Gn} {l : Int} (h : Good C gs l) (hC : 0 ≤ C) : Good (C + 1) (createM gs l).2.1 (createM gs l).2.2 := by
  unfold createM
  split
  · exact h.mono (by omega)
  · split
    · exact h.mono (by omega)
    · refine ⟨by simp; omega, fun g hg => ?_, by have := h.latest; simp only; omega⟩
      rw [List.mem_append] at hg
      rcases hg with hg | hg
      · have := h.each g hg; omega
      · simp at hg; subst hg; simp; omega
theorem Good.rename {C : Int} {gs : List Gn} {l : Int} (h : Good C gs l) : Good (C + 1) (renameM gs).2 l := by
  unfold renameM
  split
  · refine ⟨by simpa using h.len, fun g hg => ?_, by have := h.latest; omega⟩
    simp only [List.mem_map] at hg
    obtain ⟨x, hx, rfl⟩ := hg
    have := h.each x hx
    simp only; omega
  · exact h.mono (by omega)
theorem Good.remove {C : Int} {gs : List Gn} {l s : Int} (h : Good C gs l) : Good (C + 1) (removeM gs s).2 l := by
  unfold removeM
  split
  · exact h.mono (by omega)
  · split
    · refine ⟨?_, fun g hg => by have := h.each g (List.mem_of_mem_eraseIdx hg); omega, by have := h.latest; omega⟩
      have := h.len
      simp only [List.length_eraseIdx]; split <;> omega
    · exact h.mono (by omega)
theorem Good.append {C : Int} {gs : List Gn} {l : Int} {bs : List Int} (h : Good C gs l) (hC : 0 ≤ C) : Good (C + 1) (appendM gs l bs).2.1 (appendM gs l bs).2.2 := by
  unfold appendM
  split
  · split
    · rename_i x hx
      split
      · exact h.mono (by omega)
      · rename_i hle
        refine ⟨by simpa using h.len, fun g hg => ?_, by have := h.latest; simp only; omega⟩
        rcases List.mem_or_eq_of_mem_set hg with hg | rfl
        · have := h.each g hg; omega
        · have := h.each x (List.mem_of_getElem? hx)
          simp only [List.length_append]; omega
    · exact h.mono (by omega)
  · split
    · exact h.mono (by omega)
    · split
      · exact h.mono (by omega)
      · refine ⟨by simp; omega, fun g hg => ?_, by have := h.latest; simp only; omega⟩
        rw [List.mem_append] at hg
        rcases hg with hg | hg
        · have := h.each g hg; omega
        · simp at hg; subst hg; simp only; omega
end Go.Proofs.Ytakdcankhfeobaa
