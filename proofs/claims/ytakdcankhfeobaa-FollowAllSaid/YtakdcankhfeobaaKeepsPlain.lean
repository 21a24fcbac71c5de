/- The plain law behind FamilyKeeps: what stays true of a family and of the texts that were appended. No condition; no program in sight. -/
import Derived.Test.YtakdcankhfeobaaOwn
namespace Go.Proofs.Ytakdcankhfeobaa

structure KInv (C : Int) (gs : List Gn) (l lst : Int) (hv : Int → List Int) : Prop where
  good : Good C gs l
  ids : gs.Pairwise (fun a b => a.id < b.id)
  sufs : gs.Pairwise (fun a b => b.suf < a.suf)
  idl : ∀ g ∈ gs, 1 ≤ g.id ∧ g.id ≤ l
  zero : ∀ g ∈ gs, g.suf = 0 → g.id = l
  keeps : ∀ g ∈ gs, hv g.id = g.b
  fresh : ∀ j, l < j → hv j = []
  last : 0 ≤ lst ∧ lst ≤ l

theorem KInv.nil : KInv 0 [] 0 0 (fun _ => []) where
  good := Good.nil
  ids := List.Pairwise.nil
  sufs := List.Pairwise.nil
  idl := by simp
  zero := by simp
  keeps := by simp
  fresh := fun _ _ => rfl
  last := by omega

variable {C : Int} {gs : List Gn} {l lst : Int} {hv : Int → List Int}

theorem no_zero (h : Good C gs l) (hf : ¬ 0 ≤ findSuf gs 0) : ∀ g ∈ gs, 0 < g.suf := by
  intro g hg
  have h1 := (h.each g hg).2.1
  rcases Int.lt_or_eq_of_le h1 with h2 | h2
  · exact h2
  · exfalso
    apply hf
    unfold findSuf
    cases hfi : gs.findIdx? (fun g => g.suf == 0) with
    | some i => simp
    | none =>
      rw [List.findIdx?_eq_none_iff] at hfi
      have := hfi g hg
      simp [← h2] at this

theorem KInv.rename (h : KInv C gs l lst hv) : KInv (C + 1) (renameM gs).2 l lst hv := by
  have hg := h.good.rename
  unfold renameM at hg ⊢
  split
  · rename_i hf
    rw [if_pos hf] at hg
    refine ⟨hg, ?_, ?_, ?_, ?_, ?_, h.fresh, h.last⟩
    · exact List.pairwise_map.2 h.ids
    · exact List.pairwise_map.2 (h.sufs.imp (fun hab => by simp only; omega))
    · intro g hm; simp only [List.mem_map] at hm; obtain ⟨x, hx, rfl⟩ := hm; exact h.idl x hx
    · intro g hm hz; simp only [List.mem_map] at hm; obtain ⟨x, hx, rfl⟩ := hm
      have := (h.good.each x hx).2.1
      simp only at hz; omega
    · intro g hm; simp only [List.mem_map] at hm; obtain ⟨x, hx, rfl⟩ := hm; exact h.keeps x hx
  · rename_i hf
    rw [if_neg hf] at hg
    exact ⟨hg, h.ids, h.sufs, h.idl, h.zero, h.keeps, h.fresh, h.last⟩

theorem KInv.push (h : KInv C gs l lst hv) (hf : ¬ 0 ≤ findSuf gs 0) (bs : List Int) (hg : Good (C + 1) (gs ++ [⟨l + 1, 0, bs⟩]) (l + 1)) :
    KInv (C + 1) (gs ++ [⟨l + 1, 0, bs⟩]) (l + 1) lst (fun j => if j = l + 1 then bs else hv j) := by
  have hz := no_zero h.good hf
  refine ⟨hg, ?_, ?_, ?_, ?_, ?_, ?_, by have := h.last; omega⟩
  · refine List.pairwise_append.2 ⟨h.ids, by simp, fun a ha b hb => ?_⟩
    simp at hb; subst hb
    have := h.idl a ha; simp only; omega
  · refine List.pairwise_append.2 ⟨h.sufs, by simp, fun a ha b hb => ?_⟩
    simp at hb; subst hb
    exact hz a ha
  · intro g hm
    rw [List.mem_append] at hm
    rcases hm with hm | hm
    · have := h.idl g hm; omega
    · simp at hm; subst hm; have := h.good.latest; simp only; omega
  · intro g hm hs
    rw [List.mem_append] at hm
    rcases hm with hm | hm
    · have := hz g hm; omega
    · simp at hm; subst hm; rfl
  · intro g hm
    rw [List.mem_append] at hm
    rcases hm with hm | hm
    · have := h.idl g hm
      (try simp only)
      rw [if_neg (by omega)]; exact h.keeps g hm
    · simp at hm; subst hm; simp
  · intro j hj
    (try simp only)
    rw [if_neg (by omega)]; exact h.fresh j (by omega)

theorem KInv.create (h : KInv C gs l lst hv) (hC : 0 ≤ C) : KInv (C + 1) (createM gs l).2.1 (createM gs l).2.2 lst hv := by
  have hg := h.good.create hC
  unfold createM at hg ⊢
  split
  · rename_i hf; rw [if_pos hf] at hg
    exact ⟨hg, h.ids, h.sufs, h.idl, h.zero, h.keeps, h.fresh, h.last⟩
  · rename_i hf; rw [if_neg hf] at hg
    split
    · rename_i h2; rw [if_pos h2] at hg
      exact ⟨hg, h.ids, h.sufs, h.idl, h.zero, h.keeps, h.fresh, h.last⟩
    · rename_i h2; rw [if_neg h2] at hg
      have := h.push hf [] hg
      have e : (fun j => if j = l + 1 then ([] : List Int) else hv j) = hv := by
        funext j
        split
        · rename_i e; subst e; exact (h.fresh _ (by omega)).symm
        · rfl
      rw [e] at this
      exact this

theorem KInv.remove (h : KInv C gs l lst hv) (s : Int) : KInv (C + 1) (removeM gs s).2 l lst hv := by
  have hg := h.good.remove (s := s)
  have hsub : (removeM gs s).2.Sublist gs := by
    unfold removeM
    split
    · exact List.Sublist.refl _
    · split
      · exact List.eraseIdx_sublist _ _
      · exact List.Sublist.refl _
  exact ⟨hg, h.ids.sublist hsub, h.sufs.sublist hsub, fun g hm => h.idl g (hsub.subset hm), fun g hm => h.zero g (hsub.subset hm), fun g hm => h.keeps g (hsub.subset hm), h.fresh, h.last⟩

/-- the newest stands last -/
theorem zero_last (hs : gs.Pairwise (fun a b => b.suf < a.suf)) (h0 : ∀ g ∈ gs, 0 ≤ g.suf) (k : Nat) (x : Gn) (hx : gs[k]? = some x) (hz : x.suf = 0) : k = gs.length - 1 ∧ gs.getLast? = some x := by
  have hlt : k < gs.length := (List.getElem?_eq_some_iff.1 hx).1
  have hxe : gs[k] = x := (List.getElem?_eq_some_iff.1 hx).2
  have hk : k = gs.length - 1 := by
    by_cases e : k = gs.length - 1
    · exact e
    · exfalso
      have hp := List.pairwise_iff_getElem.1 hs k (k + 1) hlt (by omega) (by omega)
      have := h0 gs[k + 1] (List.getElem_mem _)
      rw [hxe] at hp; omega
  refine ⟨hk, ?_⟩
  rw [List.getLast?_eq_getElem?, ← hk]; exact hx

/-- an append that went well -/
theorem KInv.append (h : KInv C gs l lst hv) (hC : 0 ≤ C) (bs : List Int) (hok : (appendM gs l bs).1 = 0) :
    ∃ x, (appendM gs l bs).2.1.getLast? = some x ∧ x.suf = 0 ∧ 1 ≤ x.id ∧ KInv (C + 1) (appendM gs l bs).2.1 (appendM gs l bs).2.2 lst (fun j => if j = x.id then hv j ++ bs else hv j) := by
  have hg := h.good.append (bs := bs) hC
  unfold appendM at hg hok ⊢
  by_cases hf : 0 ≤ findSuf gs 0
  · rw [if_pos hf] at hg hok ⊢
    obtain ⟨k, x, hk, hlt, hx, hxs⟩ := findSuf_some gs 0 hf
    have e : (findSuf gs 0).toNat = k := by omega
    rw [e, hx] at hg hok ⊢
    simp only at hg hok ⊢
    by_cases h2 : 65536 < bs.length + x.b.length
    · rw [if_pos h2] at hok; simp at hok
    · rw [if_neg h2] at hg hok ⊢
      simp only at hg ⊢
      have hz := zero_last h.sufs (fun g hm => (h.good.each g hm).2.1) k x hx hxs
      have hxm := List.mem_of_getElem? hx
      have hids := List.pairwise_iff_getElem.1 h.ids
      have hsuf := List.pairwise_iff_getElem.1 h.sufs
      have hxe : gs[k] = x := (List.getElem?_eq_some_iff.1 hx).2
      have other : ∀ j (hj : j < gs.length), j ≠ k → gs[j].id ≠ x.id := by
        intro j hj hjk
        rcases Nat.lt_or_gt_of_ne hjk with c | c
        · have := hids j k hj hlt c; rw [hxe] at this; omega
        · have := hids k j hlt hj c; rw [hxe] at this; omega
      refine ⟨{ x with b := x.b ++ bs }, ?_, hxs, (h.idl x hxm).1, hg, ?_, ?_, ?_, ?_, ?_, ?_, h.last⟩
      · rw [List.getLast?_eq_getElem?, List.length_set, ← hz.1, List.getElem?_set, if_pos rfl, if_pos hlt]
      · refine List.pairwise_iff_getElem.2 (fun i j hi hj hij => ?_)
        simp only [List.length_set] at hi hj
        have := hids i j hi hj hij
        simp only [List.getElem_set]
        split <;> split <;> rename_i e1 e2 <;> (try subst e1) <;> (try subst e2) <;> (try rw [hxe] at this) <;> (try simp only) <;> omega
      · refine List.pairwise_iff_getElem.2 (fun i j hi hj hij => ?_)
        simp only [List.length_set] at hi hj
        have := hsuf i j hi hj hij
        simp only [List.getElem_set]
        split <;> split <;> rename_i e1 e2 <;> (try subst e1) <;> (try subst e2) <;> (try rw [hxe] at this) <;> (try simp only) <;> omega
      · intro g hm
        rcases List.mem_or_eq_of_mem_set hm with hm | rfl
        · exact h.idl g hm
        · exact h.idl x hxm
      · intro g hm hs
        rcases List.mem_or_eq_of_mem_set hm with hm | rfl
        · exact h.zero g hm hs
        · exact h.zero x hxm hs
      · intro g hm
        obtain ⟨j, hj, rfl⟩ := List.getElem_of_mem hm
        simp only [List.length_set] at hj
        simp only [List.getElem_set]
        split
        · simp only [if_pos]; rw [h.keeps x hxm]
        · rename_i hne
          (try simp only)
          rw [if_neg (other j hj (fun e => hne e.symm))]
          exact h.keeps _ (List.getElem_mem _)
      · intro j hj
        have := (h.idl x hxm).2
        (try simp only)
        rw [if_neg (by omega)]; exact h.fresh j hj
  · rw [if_neg hf] at hg hok ⊢
    by_cases h2 : 12 ≤ gs.length
    · rw [if_pos h2] at hok; simp at hok
    · rw [if_neg h2] at hg hok ⊢
      by_cases h3 : 65536 < bs.length
      · rw [if_pos h3] at hok; simp at hok
      · rw [if_neg h3] at hg ⊢
        refine ⟨⟨l + 1, 0, bs⟩, by simp, rfl, by have := h.good.latest; simp only; omega, ?_⟩
        have := h.push hf bs hg
        have e : (fun j => if j = l + 1 then hv j ++ bs else hv j) = (fun j => if j = l + 1 then bs else hv j) := by
          funext j
          split
          · rename_i e; subst e; rw [h.fresh _ (by omega), List.nil_append]
          · rfl
        simp only [e]
        exact this

theorem KInv.more (h : KInv C gs l lst hv) : KInv (C + 1) gs l lst hv :=
  ⟨h.good.mono (by omega), h.ids, h.sufs, h.idl, h.zero, h.keeps, h.fresh, h.last⟩
theorem KInv.append_no (h : KInv C gs l lst hv) (bs : List Int) (hok : (appendM gs l bs).1 ≠ 0) : KInv (C + 1) (appendM gs l bs).2.1 (appendM gs l bs).2.2 lst hv := by
  have e : (appendM gs l bs).2 = (gs, l) := by
    unfold appendM at hok ⊢
    split
    · rename_i hf; rw [if_pos hf] at hok
      split
      · rename_i x hx
        rw [hx] at hok
        simp only at hok
        split
        · rfl
        · rename_i h2; rw [if_neg h2] at hok; simp at hok
      · rfl
    · rename_i hf; rw [if_neg hf] at hok
      split
      · rfl
      · rename_i h2; rw [if_neg h2] at hok
        split
        · rfl
        · rename_i h3; rw [if_neg h3] at hok; simp at hok
  have e1 : (appendM gs l bs).2.1 = gs := by rw [e]
  have e2 : (appendM gs l bs).2.2 = l := by rw [e]
  rw [e1, e2]; exact h.more
end Go.Proofs.Ytakdcankhfeobaa
