/- The plain laws behind FollowAll and FollowGaps: what stays true from step to step. No condition; no program in sight. -/
import Derived.Test.YtakdcankhfeobaaFollowPlain
namespace Go.Proofs.Ytakdcankhfeobaa

theorem flat_push (l : List Gn) (g : Gn) : flat (l ++ [g]) = flat l ++ g.b := by simp [flat]
theorem clAll_push (l : List Gn) (g : Gn) : clAll (l ++ [g]) = clAll l + cl g.b.length := by simp [clAll]
theorem flat_map (f : Gn → Gn) (hf : ∀ g, (f g).b = g.b) (l : List Gn) : flat (l.map f) = flat l := by
  simp [flat, Function.comp_def, hf]
theorem clAll_map (f : Gn → Gn) (hf : ∀ g, (f g).b = g.b) (l : List Gn) : clAll (l.map f) = clAll l := by
  simp [clAll, Function.comp_def, hf]
theorem rest_map (id p : Nat) (f : Gn → Gn) (hi : ∀ g, (f g).id = g.id) (hf : ∀ g, (f g).b = g.b) : ∀ l, rest id p (l.map f) = rest id p l ∧ polls id p (l.map f) = polls id p l
  | [] => ⟨rfl, rfl⟩
  | y :: l => by
    have ih := rest_map id p f hi hf l
    simp only [List.map_cons, rest, polls, hi, hf, flat_cons, clAll_cons, flat_map f hf, clAll_map f hf, ih.1, ih.2]
    exact ⟨trivial, trivial⟩
theorem rest_push (id p : Nat) (g : Gn) (hg : (id : Int) < g.id) : ∀ l, rest id p (l ++ [g]) = rest id p l ++ g.b ∧ polls id p (l ++ [g]) = polls id p l + cl g.b.length
  | [] => by
    simp only [List.nil_append, rest, polls, flat, clAll]
    have h1 : ¬ g.id < id := by omega
    simp only [if_neg h1, if_pos hg]; simp
  | y :: l => by
    have ih := rest_push id p g hg l
    simp only [List.cons_append, rest, polls, flat_cons, clAll_cons, flat_push, clAll_push, ih.1, ih.2]
    refine ⟨?_, ?_⟩
    · split
      · rfl
      · split <;> simp
    · split
      · rfl
      · split <;> omega
theorem cl_add (a b : Nat) : cl (a + b) ≤ cl a + cl b := by unfold cl; omega
theorem rest_last (id p : Nat) (x : Gn) (bs : List Int) (hx : (id : Int) ≤ x.id) (hp : x.id = id → p ≤ x.b.length) : ∀ l : List Gn, (∀ g ∈ l, g.id < x.id) →
    rest id p (l ++ [{ x with b := x.b ++ bs }]) = rest id p (l ++ [x]) ++ bs ∧ polls id p (l ++ [{ x with b := x.b ++ bs }]) ≤ polls id p (l ++ [x]) + cl bs.length
  | [], _ => by
    have h1 : ¬ x.id < id := by omega
    simp only [List.nil_append, rest, polls, flat, clAll, if_neg h1]
    by_cases h : (id : Int) < x.id
    · simp only [if_pos h]
      have := cl_add x.b.length bs.length
      simp; omega
    · simp only [if_neg h]
      have hp := hp (by omega)
      have e := cl_add (x.b.length - p) bs.length
      rw [show x.b.length - p + bs.length = x.b.length + bs.length - p by omega] at e
      refine ⟨?_, by simp; omega⟩
      rw [List.drop_append_of_le_length hp]; simp
  | y :: l, h => by
    have ih := rest_last id p x bs hx hp l (fun g hg => h g (List.mem_cons_of_mem _ hg))
    have := cl_add x.b.length bs.length
    simp only [List.cons_append, rest, polls, flat_cons, clAll_cons, flat_push, clAll_push]
    refine ⟨?_, ?_⟩
    · split
      · exact ih.1
      · split <;> simp
    · simp only [List.length_append]
      split
      · exact ih.2
      · split <;> omega
theorem rest_erase (id p : Nat) : ∀ (l : List Gn), l.Pairwise (fun a b => a.id < b.id) → ∀ k, (∀ g, l[k]? = some g → g.id < (id : Int)) → rest id p (l.eraseIdx k) = rest id p l ∧ polls id p (l.eraseIdx k) = polls id p l
  | [], _, _, _ => by simp
  | y :: l, h, 0, hk => by
    have hy := hk y rfl
    simp only [List.eraseIdx_cons_zero, rest, polls]
    rw [if_pos hy, if_pos hy]; exact ⟨rfl, rfl⟩
  | y :: l, h, k + 1, hk => by
    obtain ⟨h1, h2⟩ := List.pairwise_cons.1 h
    have hk' : ∀ g, l[k]? = some g → g.id < (id : Int) := fun g hg => hk g (by simpa using hg)
    by_cases hlt : k < l.length
    · have hg := hk' l[k] (List.getElem?_eq_getElem hlt)
      have hyl := h1 l[k] (List.getElem_mem _)
      have ih := rest_erase id p l h2 k hk'
      simp only [List.eraseIdx_cons_succ, rest, polls]
      rw [if_pos (by omega), if_pos (by omega), if_pos (by omega), if_pos (by omega)]; exact ih
    · rw [List.eraseIdx_of_length_le (by simp; omega)]; exact ⟨rfl, rfl⟩

theorem Good.remove0 {C : Int} {gs : List Gn} {l s : Int} (h : Good C gs l) : Good C (removeM gs s).2 l := by
  unfold removeM
  split
  · exact h
  · split
    · refine ⟨?_, fun g hg => h.each g (List.mem_of_mem_eraseIdx hg), h.latest⟩
      have := h.len
      simp only [List.length_eraseIdx]; split <;> omega
    · exact h
theorem removeM_sub (gs : List Gn) (s : Int) : (removeM gs s).2.Sublist gs := by
  unfold removeM
  split
  · exact List.Sublist.refl _
  · split
    · exact List.eraseIdx_sublist _ _
    · exact List.Sublist.refl _
theorem KInv.remove0 {C : Int} {gs : List Gn} {l lst : Int} {hv : Int → List Int} (h : KInv C gs l lst hv) (s : Int) : KInv C (removeM gs s).2 l lst hv := by
  have hsub := removeM_sub gs s
  exact ⟨h.good.remove0, h.ids.sublist hsub, h.sufs.sublist hsub, fun g hm => h.idl g (hsub.subset hm), fun g hm => h.zero g (hsub.subset hm), fun g hm => h.keeps g (hsub.subset hm), h.fresh, h.last⟩

/-- a mark that a reader has -/
def MarkIn (id p : Nat) (gs : List Gn) : Prop := (id = 0 ∧ p = 0) ∨ ∃ g ∈ gs, g.id = id ∧ p ≤ g.b.length

structure AInv (C : Int) (gs : List Gn) (l : Int) (all got : List Int) (id p : Nat) : Prop where
  fam : ∃ hv, KInv C gs l 0 hv
  mark : MarkIn id p gs
  sum : all = got ++ rest id p gs
  few : (polls id p gs : Int) ≤ 6 * C
  len : (all.length : Int) ≤ 60 * C

variable {C : Int} {gs : List Gn} {l : Int} {all got : List Int} {id p : Nat}
theorem AInv.good (h : AInv C gs l all got id p) : Good C gs l := by obtain ⟨hv, hk⟩ := h.fam; exact hk.good
theorem AInv.new : AInv 0 [] 0 [] [] 0 0 := ⟨⟨_, KInv.nil⟩, .inl ⟨rfl, rfl⟩, rfl, by simp [polls], by simp⟩
theorem AInv.more (h : AInv C gs l all got id p) : AInv (C + 1) gs l all got id p := by
  obtain ⟨hv, hk⟩ := h.fam
  exact ⟨⟨hv, hk.more⟩, h.mark, h.sum, by have := h.few; omega, by have := h.len; omega⟩
theorem AInv.idl (h : AInv C gs l all got id p) : (id : Int) ≤ l := by
  obtain ⟨hv, hk⟩ := h.fam
  rcases h.mark with ⟨rfl, _⟩ | ⟨g, hg, hi, _⟩
  · have := hk.good.latest; omega
  · have := hk.idl g hg; omega
theorem AInv.rename (h : AInv C gs l all got id p) : AInv (C + 1) (renameM gs).2 l all got id p := by
  obtain ⟨hv, hk⟩ := h.fam
  have hm := h.mark
  have hr := rest_map id p (fun g => { g with suf := g.suf + 1 }) (fun _ => rfl) (fun _ => rfl) gs
  have hk' := hk.rename
  unfold renameM at hk' ⊢
  split
  · rename_i hf
    rw [if_pos hf] at hk'
    refine ⟨⟨hv, hk'⟩, ?_, by rw [hr.1]; exact h.sum, by rw [hr.2]; have := h.few; omega, by have := h.len; omega⟩
    rcases hm with hm | ⟨g, hg, hi, hp⟩
    · exact .inl hm
    · exact .inr ⟨_, List.mem_map.2 ⟨g, hg, rfl⟩, hi, hp⟩
  · exact h.more
theorem MarkIn.push (h : MarkIn id p gs) (g : Gn) : MarkIn id p (gs ++ [g]) := by
  rcases h with h | ⟨x, hx, r⟩
  · exact .inl h
  · exact .inr ⟨x, List.mem_append_left _ hx, r⟩
theorem AInv.create (h : AInv C gs l all got id p) (hC : 0 ≤ C) : AInv (C + 1) (createM gs l).2.1 (createM gs l).2.2 all got id p := by
  obtain ⟨hv, hk⟩ := h.fam
  have hid := h.idl
  have hk' := hk.create hC
  unfold createM at hk' ⊢
  split
  · exact h.more
  · rename_i h1
    rw [if_neg h1] at hk'
    split
    · exact h.more
    · rename_i h2
      rw [if_neg h2] at hk'
      have hr := rest_push id p ⟨l + 1, 0, []⟩ (by simp only; omega) gs
      simp only [List.append_nil] at hr
      refine ⟨⟨_, hk'⟩, h.mark.push _, by rw [hr.1]; exact h.sum, ?_, by have := h.len; omega⟩
      rw [hr.2]
      have := h.few
      simp [cl]; omega
theorem AInv.remove (h : AInv C gs l all got id p) (s : Int) (hs : ∀ g ∈ gs, g.suf = s → g.id < id) : AInv C (removeM gs s).2 l all got id p := by
  obtain ⟨hv, hk⟩ := h.fam
  have hk' := hk.remove0 s
  unfold removeM at hk' ⊢
  split
  · exact h
  · rename_i h1
    rw [if_neg h1] at hk'
    split
    · rename_i h2
      rw [if_pos h2] at hk'
      obtain ⟨k, x, hkk, hlt, hx, hxs⟩ := findSuf_some gs s h2
      have e : (findSuf gs s).toNat = k := by omega
      rw [e] at hk' ⊢
      have hxe : gs[k] = x := (List.getElem?_eq_some_iff.1 hx).2
      have hxi := hs x (List.mem_of_getElem? hx) hxs
      have hr := rest_erase id p gs hk.ids k (fun g hg => by rw [hx] at hg; cases hg; exact hxi)
      refine ⟨⟨hv, hk'⟩, ?_, by rw [hr.1]; exact h.sum, by rw [hr.2]; exact h.few, h.len⟩
      rcases h.mark with hm | ⟨g, hg, hi, hp⟩
      · exact .inl hm
      · obtain ⟨j, hj, rfl⟩ := List.getElem_of_mem hg
        refine .inr ⟨gs[j], ?_, hi, hp⟩
        rw [List.mem_eraseIdx_iff_getElem]
        exact ⟨j, hj, fun e => by subst e; rw [hxe] at hi; omega, rfl⟩
    · exact h
theorem AInv.append_no (h : AInv C gs l all got id p) (bs : List Int) (hok : (appendM gs l bs).1 ≠ 0) : AInv (C + 1) (appendM gs l bs).2.1 (appendM gs l bs).2.2 all got id p := by
  have e : (appendM gs l bs).2 = (gs, l) := by
    unfold appendM at hok ⊢
    split
    · rename_i hf; rw [if_pos hf] at hok
      split
      · rename_i x hx
        rw [hx] at hok
        simp only at hok
        split
        · rfl
        · rename_i h2; rw [if_neg h2] at hok; simp at hok
      · rfl
    · rename_i hf; rw [if_neg hf] at hok
      split
      · rfl
      · rename_i h2; rw [if_neg h2] at hok
        split
        · rfl
        · rename_i h3; rw [if_neg h3] at hok; simp at hok
  rw [show (appendM gs l bs).2.1 = gs by rw [e], show (appendM gs l bs).2.2 = l by rw [e]]; exact h.more
theorem AInv.append (h : AInv C gs l all got id p) (hC : 0 ≤ C) (bs : List Int) (hb : bs.length ≤ 60) (hok : (appendM gs l bs).1 = 0) : AInv (C + 1) (appendM gs l bs).2.1 (appendM gs l bs).2.2 (all ++ bs) got id p := by
  obtain ⟨hv, hk⟩ := h.fam
  have hid := h.idl
  obtain ⟨x0, -, -, -, hk'⟩ := hk.append hC bs hok
  have hcl : cl bs.length ≤ 6 := by unfold cl; omega
  have hfew := h.few
  have hlen : ((all ++ bs).length : Int) ≤ 60 * (C + 1) := by have := h.len; rw [List.length_append]; omega
  refine ⟨⟨_, hk'⟩, ?_, ?_, ?_, hlen⟩
  all_goals
    unfold appendM at hok ⊢
    by_cases hf : 0 ≤ findSuf gs 0
    · rw [if_pos hf] at hok ⊢
      obtain ⟨k, x, hkk, hlt, hx, hxs⟩ := findSuf_some gs 0 hf
      have e : (findSuf gs 0).toNat = k := by omega
      rw [e, hx] at hok ⊢
      simp only at hok ⊢
      by_cases h2 : 65536 < bs.length + x.b.length
      · rw [if_pos h2] at hok; simp at hok
      · rw [if_neg h2]
        simp only
        have hz := zero_last hk.sufs (fun g hm => (hk.good.each g hm).2.1) k x hx hxs
        have hxe : gs[k] = x := (List.getElem?_eq_some_iff.1 hx).2
        have hg : gs = gs.take k ++ [x] := by
          have h1 := List.take_append_drop k gs
          rw [List.drop_eq_getElem_cons hlt, List.drop_of_length_le (by omega), hxe] at h1
          exact h1.symm
        have hset : gs.set k { x with b := x.b ++ bs } = gs.take k ++ [{ x with b := x.b ++ bs }] := by
          rw [List.set_eq_take_append_cons_drop, if_pos hlt, List.drop_of_length_le (by omega)]
        have hbef : ∀ g ∈ gs.take k, g.id < x.id := by
          have h1 := hk.ids
          rw [hg] at h1
          intro g hm
          exact (List.pairwise_append.1 h1).2.2 g hm x (by simp)
        have hxid : (id : Int) ≤ x.id := by
          rw [hk.zero x (List.mem_of_getElem? hx) hxs]; exact hid
        have hxp : x.id = id → p ≤ x.b.length := by
          intro hxi
          rcases h.mark with ⟨h0, hp0⟩ | ⟨g, hm, hi, hp⟩
          · omega
          · rw [hg] at hm
            rcases List.mem_append.1 hm with hm | hm
            · have := hbef g hm; omega
            · simp at hm; subst hm; exact hp
        have hr := rest_last id p x bs hxid hxp (gs.take k) hbef
        rw [← hg] at hr
        rw [hset]
        first
          | (rw [hr.1, ← List.append_assoc, ← h.sum]; done)
          | (have := hr.2; omega)
          | (rcases h.mark with hm | ⟨g, hm, hi, hp⟩
             · exact .inl hm
             · rw [hg] at hm
               rcases List.mem_append.1 hm with hm | hm
               · exact .inr ⟨g, List.mem_append_left _ hm, hi, hp⟩
               · simp at hm; subst hm
                 refine .inr ⟨{ g with b := g.b ++ bs }, List.mem_append_right _ (List.mem_singleton.2 rfl), hi, ?_⟩
                 show p ≤ (g.b ++ bs).length
                 rw [List.length_append]; omega)
    · rw [if_neg hf] at hok ⊢
      by_cases h2 : 12 ≤ gs.length
      · rw [if_pos h2] at hok; simp at hok
      · rw [if_neg h2] at hok ⊢
        by_cases h3 : 65536 < bs.length
        · rw [if_pos h3] at hok; simp at hok
        · rw [if_neg h3]
          simp only
          have hr := rest_push id p ⟨l + 1, 0, bs⟩ (by simp only; omega) gs
          simp only at hr
          first
            | exact h.mark.push _
            | (rw [hr.1, ← List.append_assoc, ← h.sum]; done)
            | (rw [hr.2]; omega)

/-- a poll, and what comes of it -/
theorem AInv.poll (h : AInv C gs l all got id p) : (seek id p gs = none ∧ gs = []) ∨
    ∃ z q, seek id p gs = some ((z, q), false) ∧ z ∈ gs ∧ q ≤ z.b.length ∧ 1 ≤ z.id ∧ z.id ≤ C ∧ (z.id = id ∧ q = p ∨ (id : Int) < z.id) ∧
      ∀ m, AInv C gs l all (got ++ cutB z.b q m) z.id.toNat (q + (cutB z.b q m).length) ∧
        (m = 11 → got.length < all.length → polls z.id.toNat (q + (cutB z.b q m).length) gs < polls id p gs) := by
  obtain ⟨hv, hk⟩ := h.fam
  rcases seek_all id p gs hk.ids (fun g hg => (hk.idl g hg).1) h.mark with hn | ⟨z, q, e, hm, hq, hor, hall⟩
  · exact .inl hn
  · have hz := hk.idl z hm
    refine .inr ⟨z, q, e, hm, hq, hz.1, by have := hk.good.latest; omega, hor, fun m => ?_⟩
    obtain ⟨h1, h2, h3⟩ := hall m
    have hcl := cutB_len z.b q m
    refine ⟨⟨⟨hv, hk⟩, .inr ⟨z, hm, by omega, by omega⟩, by rw [List.append_assoc, ← h1]; exact h.sum, by have := h.few; omega, h.len⟩, fun h11 hlt => h3 h11 (fun hnil => ?_)⟩
    have := h.sum
    rw [hnil, List.append_nil] at this
    rw [this] at hlt; omega
theorem AInv.done (h : AInv C gs l all got id p) (hl : all.length ≤ got.length) : got = all := by
  have e := h.sum
  have : (rest id p gs).length = 0 := by
    have := congrArg List.length e
    rw [List.length_append] at this; omega
  rw [List.eq_nil_of_length_eq_zero this, List.append_nil] at e
  exact e.symm

/-! removed at any time -/
structure GInv (C : Int) (gs : List Gn) (l lst : Int) (hv : Int → List Int) (told : Nat → List Int) (id p : Nat) : Prop where
  fam : KInv C gs l lst hv
  idl : (id : Int) ≤ l
  z0 : hv 0 = []
  ahead : ∀ k, id < k → told k = []
  pre : ∀ k : Nat, told k = (hv k).take (told k).length
  here : told id = (hv id).take p ∧ p ≤ (hv id).length
  small : p ≤ 65536

theorem GInv.new : GInv 0 [] 0 0 (fun _ => []) (fun _ => []) 0 0 := ⟨KInv.nil, by omega, rfl, fun _ _ => rfl, fun _ => rfl, ⟨rfl, Nat.le_refl _⟩, by omega⟩
theorem GInv.fam' {lst l' lst' : Int} {C' : Int} {gs' : List Gn} {hv : Int → List Int} {told : Nat → List Int} (h : GInv C gs l lst hv told id p) (hk : KInv C' gs' l' lst' hv) (hl : l ≤ l') : GInv C' gs' l' lst' hv told id p :=
  ⟨hk, by have := h.idl; omega, h.z0, h.ahead, h.pre, h.here, h.small⟩
theorem take_len_append (b bs t : List Int) (h : t = b.take t.length) : t = (b ++ bs).take t.length := by
  have hl : t.length ≤ b.length := by
    have := congrArg List.length h
    rw [List.length_take] at this; omega
  rw [List.take_append_of_le_length hl]; exact h
theorem GInv.append {lst l' lst' : Int} {C' : Int} {gs' : List Gn} {hv : Int → List Int} {told : Nat → List Int} (h : GInv C gs l lst hv told id p) (x : Int) (bs : List Int) (hx : 1 ≤ x) (hk : KInv C' gs' l' lst' (fun j => if j = x then hv j ++ bs else hv j)) (hl : l ≤ l') :
    GInv C' gs' l' lst' (fun j => if j = x then hv j ++ bs else hv j) told id p := by
  refine ⟨hk, by have := h.idl; omega, ?_, h.ahead, fun k => ?_, ?_, h.small⟩
  · (try simp only); rw [if_neg (by omega)]; exact h.z0
  · (try simp only)
    split
    · exact take_len_append _ _ _ (h.pre k)
    · exact h.pre k
  · have := h.here
    (try simp only)
    split
    · rw [List.take_append_of_le_length this.2, List.length_append]
      exact ⟨this.1, by omega⟩
    · exact this

theorem take_cut (b : List Int) (q m : Nat) : b.take q ++ cutB b q m = b.take (q + (cutB b q m).length) := by
  rw [List.take_add]
  congr 1
  unfold cutB
  rw [List.length_take]
  by_cases h : m ≤ (b.drop q).length
  · rw [Nat.min_eq_left h]
  · rw [Nat.min_eq_right (by omega), List.take_of_length_le (by omega), List.take_of_length_le (Nat.le_refl _)]

/-- a poll, and what comes of it -/
theorem GInv.poll {lst : Int} {hv : Int → List Int} {told : Nat → List Int} (h : GInv C gs l lst hv told id p) :
    (seek id p gs = none ∧ ∀ g ∈ gs, g.id < id) ∨
    ∃ z q gap, seek id p gs = some ((z, q), gap) ∧ z ∈ gs ∧ q ≤ z.b.length ∧ 1 ≤ z.id ∧ z.id ≤ l ∧ (id : Int) ≤ z.id ∧ gap = (decide (0 < id) && !gs.any (fun g => decide (g.id = id)) && decide ((id : Int) < z.id)) ∧
      ∀ m, (told z.id.toNat ++ cutB z.b q m).length = q + (cutB z.b q m).length ∧ GInv C gs l lst hv (fun k => if k = z.id.toNat then told k ++ cutB z.b q m else told k) z.id.toNat (q + (cutB z.b q m).length) := by
  have hkeep : ∀ g ∈ gs, g.id = id → p ≤ g.b.length := by
    intro g hg hi
    rw [← h.fam.keeps g hg, hi]; exact h.here.2
  rcases seek_gap id p gs h.fam.ids hkeep with hn | ⟨z, q, gap, e, hm, hq, hor, hgap⟩
  · exact .inl hn
  · have hz := h.fam.idl z hm
    have hb := h.fam.keeps z hm
    have hzn : ((z.id.toNat : Nat) : Int) = z.id := by omega
    have htold : told z.id.toNat = z.b.take q := by
      rcases hor with ⟨h1, rfl⟩ | ⟨h1, rfl⟩
      · rw [show z.id.toNat = id by omega, h.here.1, ← hb, h1]
      · rw [h.ahead _ (by omega)]; simp
    refine .inr ⟨z, q, gap, e, hm, hq, hz.1, hz.2, by rcases hor with h1 | h1 <;> omega, hgap, fun m => ?_⟩
    have htc := take_cut z.b q m
    have hcl := cutB_len z.b q m
    have hnew : told z.id.toNat ++ cutB z.b q m = z.b.take (q + (cutB z.b q m).length) := by rw [htold, htc]
    refine ⟨by rw [List.length_append, htold, List.length_take]; omega, h.fam, by omega, h.z0, fun k hk => ?_, fun k => ?_, ?_, by have := (h.fam.good.each z hm).1; omega⟩
    · (try simp only)
      rw [if_neg (by omega)]
      refine h.ahead k ?_
      rcases hor with h1 | h1 <;> omega
    · (try simp only)
      by_cases hk : k = z.id.toNat
      · subst hk
        rw [if_pos rfl, hnew, hzn, hb, List.length_take, Nat.min_eq_left (by omega)]
      · rw [if_neg hk]; exact h.pre k
    · (try simp only [if_pos])
      rw [hnew, hzn, hb]
      exact ⟨rfl, by omega⟩
end Go.Proofs.Ytakdcankhfeobaa
