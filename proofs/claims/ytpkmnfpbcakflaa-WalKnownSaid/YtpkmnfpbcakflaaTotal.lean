/- Plain laws of files: how many bytes they have, which names. No condition; no walk in sight. -/
import Derived.Test.YtpkmnfpbcakflaaAppend
namespace Go.Proofs.Ytpkmnfpbcakflaa

theorem totL_cons (y : Lit × Fs) (l : List (Lit × Fs)) : totL (fun _ => false) (y :: l) = lenOf y.2 + totL (fun _ => false) l := by
  simp [totL]
theorem totL_insert (x : Lit × Fs) : ∀ l : List (Lit × Fs), totL (fun _ => false) (DataW.insert x l) = lenOf x.2 + totL (fun _ => false) l
  | [] => by simp [DataW.insert, totL]
  | y :: r => by
    unfold DataW.insert
    split
    · rw [totL_cons]
    · rw [totL_cons, totL_cons, totL_insert x r]; omega
theorem totL_filter_le (f : Lit × Fs → Bool) : ∀ l : List (Lit × Fs), totL (fun _ => false) (l.filter f) ≤ totL (fun _ => false) l
  | [] => by simp
  | y :: r => by
    have ih := totL_filter_le f r
    rw [List.filter_cons, totL_cons]
    split
    · rw [totL_cons]; omega
    · omega
theorem totL_find (k : Lit) : ∀ (l : List (Lit × Fs)) (p : Lit × Fs), l.find? (fun p => p.1.sameKey k) = some p → totL (fun _ => false) (l.filter fun p => !p.1.sameKey k) + lenOf p.2 ≤ totL (fun _ => false) l
  | [], _, h => by simp at h
  | y :: r, p, h => by
    rw [List.find?_cons] at h
    rw [List.filter_cons, totL_cons]
    cases hy : y.1.sameKey k with
    | true =>
      rw [hy] at h
      simp at h; subst h
      have := totL_filter_le (fun p => !p.1.sameKey k) r
      simp; omega
    | false =>
      rw [hy] at h
      have := totL_find k r p h
      simp [totL_cons]; omega
theorem total_get_le {D : Fs} (s : ByteArray) : total (delF D s) + (getF D s).length ≤ total D := by
  unfold delF getF DataW.del DataW.atKey
  cases D with
  | map es =>
    simp only
    cases hf : es.find? (fun p => p.1.sameKey (strKey s)) with
    | none => have := totL_filter_le (fun p => !p.1.sameKey (strKey s)) es; simp [total]; omega
    | some p =>
      have := totL_find (strKey s) es p hf
      simp only [total]
      cases hp : p.2 with
      | held c => rw [hp] at this; simpa [lenOf] using this
      | _ => rw [hp] at this; simp [lenOf] at this ⊢; omega
  | _ => simp [total]
theorem total_put {D : Fs} (hD : Maps.IsMap D) (s : ByteArray) (c : List Int) : total (putF D s c) = total (delF D s) + c.length := by
  obtain ⟨es, rfl⟩ := hD
  unfold putF delF DataW.put DataW.del
  simp only [total, totL_insert, lenOf]
  omega
/-- behind an append there are just as many bytes more, at most -/
theorem total_app_le {D : Fs} (hD : Maps.IsMap D) (s : ByteArray) (b : List Int) : total (putF D s (getF D s ++ b)) ≤ total D + b.length := by
  rw [total_put hD, List.length_append]
  have := total_get_le (D := D) s
  omega
theorem total_del_le (D : Fs) (s : ByteArray) : total (delF D s) ≤ total D := by have := total_get_le (D := D) s; omega
theorem get_le (D : Fs) (s : ByteArray) : (getF D s).length ≤ total D := by have := total_get_le (D := D) s; omega

/-! names -/
def NamesIn (K : List Lit) (D : Fs) : Prop := ∀ es, D = .map es → ∀ p ∈ es, p.1 ∈ K
theorem mem_insert (x : Lit × Fs) : ∀ (l : List (Lit × Fs)) (p : Lit × Fs), p ∈ DataW.insert x l → p = x ∨ p ∈ l
  | [], p, h => by simp [DataW.insert] at h; exact .inl h
  | y :: r, p, h => by
    unfold DataW.insert at h
    split at h
    · rcases List.mem_cons.1 h with h | h
      · exact .inl h
      · exact .inr h
    · rcases List.mem_cons.1 h with h | h
      · exact .inr (h ▸ List.mem_cons_self ..)
      · rcases mem_insert x r p h with h | h
        · exact .inl h
        · exact .inr (List.mem_cons_of_mem _ h)
theorem NamesIn.put {K : List Lit} {D : Fs} (h : NamesIn K D) (s : ByteArray) (hs : strKey s ∈ K) (c : List Int) : NamesIn K (putF D s c) := by
  unfold putF DataW.put
  cases D with
  | map es =>
    intro es' e p hp
    cases e
    rcases mem_insert _ _ _ hp with h' | h'
    · subst h'; exact hs
    · exact h es rfl p ((List.mem_filter.1 h').1)
  | _ => intro es' e; cases e
theorem NamesIn.del {K : List Lit} {D : Fs} (h : NamesIn K D) (s : ByteArray) : NamesIn K (delF D s) := by
  unfold delF DataW.del
  cases D with
  | map es =>
    intro es' e p hp
    cases e
    exact h es rfl p ((List.mem_filter.1 hp).1)
  | _ => intro es' e; cases e
open Classical in
theorem nodup_le : ∀ (l K : List Lit), l.Pairwise (· ≠ ·) → (∀ x ∈ l, x ∈ K) → l.length ≤ K.length
  | [], _, _, _ => by simp
  | a :: l, K, hp, hs => by
    obtain ⟨h1, h2⟩ := List.pairwise_cons.1 hp
    have ha : a ∈ K := hs a (List.mem_cons_self ..)
    have ih := nodup_le l (K.erase a) h2 fun x hx => (List.mem_erase_of_ne (fun e => h1 x hx e.symm)).2 (hs x (List.mem_cons_of_mem _ hx))
    rw [List.length_erase_of_mem ha] at ih
    have := List.length_pos_of_mem ha
    simp only [List.length_cons]; omega
theorem size_le {K : List Lit} {D : Fs} (h : NamesIn K D) (hT : Maps.Tidy D) : Maps.size D ≤ K.length := by
  obtain ⟨es, rfl, hp⟩ := hT
  have hl := nodup_le (es.map (·.1)) K (by rw [List.pairwise_map]; exact hp) (fun x hx => by
    obtain ⟨p, hp', rfl⟩ := List.mem_map.1 hx
    exact h es rfl p hp')
  rw [List.length_map] at hl
  exact hl
end Go.Proofs.Ytpkmnfpbcakflaa
