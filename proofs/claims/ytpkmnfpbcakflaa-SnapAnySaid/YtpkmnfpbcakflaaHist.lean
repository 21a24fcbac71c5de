/- Plain laws of a disk's history: what holds of its files behind each deed. No condition; no walk in sight. -/
import Derived.Test.YtpkmnfpbcakflaaFl
import Derived.Test.YtpkmnfpbcakflaaCrash
import Derived.Test.YtpkmnfpbcakflaaROps
namespace Go.Proofs.Ytpkmnfpbcakflaa
open Go.RowKit

/-- files that fit a disk -/
structure Fine (D : Fs) : Prop where
  isMap : Maps.IsMap D
  total : total D ≤ 8388608
  size : Maps.size D ≤ 64
  names : ∀ s, hasF D s = true → s.size ≤ 16
def Hist : Fs → List Dd → Fs → Prop
  | D, [], D' => D = D' ∧ Fine D
  | D, x :: l, D' => Fine D ∧ OkDeed D x ∧ Hist (doesM D x) l D'

theorem Hist.fine : ∀ {l : List Dd} {D D' : Fs}, Hist D l D' → Fine D'
  | [], _, _, h => h.1 ▸ h.2
  | _ :: _, _, _, h => Hist.fine h.2.2
theorem Hist.first : ∀ {l : List Dd} {D D' : Fs}, Hist D l D' → Fine D
  | [], _, _, h => h.2
  | _ :: _, _, _, h => h.1
theorem Hist.ok : ∀ {l : List Dd} {D D' : Fs}, Hist D l D' → OkAll D l
  | [], _, _, _ => trivial
  | _ :: _, _, _, h => ⟨h.2.1, Hist.ok h.2.2⟩
theorem Hist.take : ∀ {l : List Dd} {D D' : Fs}, Hist D l D' → ∀ k, Fine (replay D (l.take k))
  | [], _, _, h, k => by simpa [replay] using h.2
  | x :: l, D, _, h, 0 => by simpa [replay] using h.1
  | x :: l, D, _, h, k + 1 => by
    have := Hist.take h.2.2 k
    simpa [replay] using this
theorem Hist.snoc : ∀ {l : List Dd} {D D' : Fs} {x : Dd}, Hist D l D' → OkDeed D' x → Fine (doesM D' x) → Hist D (l ++ [x]) (doesM D' x)
  | [], D, D', x, h, ho, hf => by
    obtain ⟨rfl, h2⟩ := h
    exact ⟨h2, ho, rfl, hf⟩
  | y :: l, D, D', x, h, ho, hf => ⟨h.1, h.2.1, Hist.snoc h.2.2 ho hf⟩
theorem hist_nil {D : Fs} (h : Fine D) : Hist D [] D := ⟨rfl, h⟩

/-! how many, and which -/
theorem length_insert (x : Lit × Fs) : ∀ l : List (Lit × Fs), (DataW.insert x l).length = l.length + 1
  | [] => rfl
  | y :: r => by
    unfold DataW.insert
    split
    · rfl
    · simp [length_insert x r]
theorem size_put {D : Fs} (h : Maps.IsMap D) (s : ByteArray) (c : List Int) : Maps.size (putF D s c) = Maps.size (delF D s) + 1 := by
  obtain ⟨es, rfl⟩ := h
  simp [putF, delF, DataW.put, DataW.del, Maps.size, length_insert]
theorem size_delF (D : Fs) (s : ByteArray) : Maps.size (delF D s) ≤ Maps.size D := by
  unfold delF DataW.del
  cases D with
  | map es => exact List.length_filter_le ..
  | _ => exact Nat.le_refl _
theorem size_del_lt {D : Fs} {s : ByteArray} (h : hasF D s = true) : Maps.size (delF D s) + 1 ≤ Maps.size D := by
  unfold hasF at h
  unfold delF DataW.del
  cases D with
  | map es =>
    rw [Maps.has_eq, List.any_eq_true] at h
    obtain ⟨q, hq, hs⟩ := h
    simp only [Maps.size]
    have h2 : ∀ l : List (Lit × Fs), q ∈ l → (l.filter fun p => !p.1.sameKey (strKey s)).length + 1 ≤ l.length := by
      intro l
      induction l with
      | nil => intro h; simp at h
      | cons y l ih =>
        intro h
        rw [List.filter_cons]
        rcases List.mem_cons.1 h with rfl | h
        · rw [hs]
          have := List.length_filter_le (fun p : Lit × Fs => !p.1.sameKey (strKey s)) l
          simp; omega
        · have := ih h
          split <;> simp <;> omega
    exact h2 es hq
  | _ => simp [Maps.has] at h
theorem key_ne {s t : ByteArray} (h : s ≠ t) : strKey s ≠ strKey t := fun e => by
  unfold strKey at e
  simp only [Lit.string.injEq] at e
  refine h ?_
  cases s; cases t
  simp at e
  rw [e]
theorem has_putF {D : Fs} (s t : ByteArray) (c : List Int) (ht : hasF (putF D s c) t = true) : t = s ∨ hasF D t = true := by
  by_cases e : t = s
  · exact .inl e
  · right
    unfold hasF putF at ht
    rw [Maps.has_put_other (key_ne e)] at ht
    exact ht
theorem has_delF {D : Fs} (s t : ByteArray) (ht : hasF (delF D s) t = true) : hasF D t = true := by
  by_cases e : t = s
  · subst e
    unfold hasF delF at ht
    rw [Maps.has_del_same] at ht; cases ht
  · unfold hasF delF at ht
    rw [Maps.has_del_other (key_ne e)] at ht
    exact ht
theorem isMap_put {D : Fs} (h : Maps.IsMap D) (s : ByteArray) (c : List Int) : Maps.IsMap (putF D s c) := h.put _ _
theorem isMap_del {D : Fs} (h : Maps.IsMap D) (s : ByteArray) : Maps.IsMap (delF D s) := by
  obtain ⟨es, rfl⟩ := h
  exact ⟨_, rfl⟩
theorem named_size {s : ByteArray} (h : namedB s = true) : s.size ≤ 16 := by
  unfold namedB at h
  simp at h
  exact h.2

theorem Fine.del {D : Fs} (h : Fine D) (s : ByteArray) : Fine (delF D s) where
  isMap := isMap_del h.isMap s
  total := Nat.le_trans (total_del_le D s) h.total
  size := Nat.le_trans (size_delF D s) h.size
  names := fun t ht => h.names t (has_delF s t ht)
theorem Fine.put {D : Fs} (h : Fine D) {s : ByteArray} {c : List Int} (hs : s.size ≤ 16) (ht : Go.Proofs.Ytpkmnfpbcakflaa.total (delF D s) + c.length ≤ 8388608) (hz : hasF D s = true ∨ Maps.size D < 64) : Fine (putF D s c) where
  isMap := isMap_put h.isMap s c
  total := by rw [total_put h.isMap]; exact ht
  size := by
    rw [size_put h.isMap]
    rcases hz with hz | hz
    · have := size_del_lt hz; have := h.size; omega
    · have := size_delF D s; omega
  names := fun t h2 => by
    rcases has_putF s t c h2 with e | e
    · rw [e]; exact hs
    · exact h.names t e

/-! a disk in order -/
structure Inv (C : Nat) (d : Dk) : Prop where
  room : 0 ≤ d.room ∧ d.room ≤ 8388608
  fuse : -1 ≤ d.fuse ∧ d.fuse ≤ 1000000
  pend : d.pend.length ≤ C
  hist : Hist d.syn d.pend d.now

section
variable {C : Nat} {d : Dk}
theorem Inv.fine (h : Inv C d) : Fine d.now := h.hist.fine
theorem Inv.more {C' : Nat} (h : Inv C d) (hC : C ≤ C') : Inv C' d := ⟨h.room, h.fuse, Nat.le_trans h.pend hC, h.hist⟩
theorem fine_empty : Fine (.map []) := ⟨⟨_, rfl⟩, by simp [total, totL], by simp [Maps.size], fun s h => by simp [hasF, Maps.has] at h⟩
theorem inv_empty {room : Int} (h0 : 0 ≤ room) (h1 : room ≤ 8388608) : Inv 0 (emptyDk room) := ⟨⟨h0, h1⟩, ⟨by simp [emptyDk], by simp [emptyDk]⟩, Nat.le_refl _, hist_nil fine_empty⟩
theorem Inv.counts (h : Inv C d) : Inv C (countsM d).2 := by
  obtain ⟨room, syn, now, pend, fuse, down⟩ := d
  have h1 := h.room
  have h2 := h.fuse
  have h3 := h.pend
  have h4 := h.hist
  simp only at h1 h2 h3 h4
  unfold countsM
  split
  · exact ⟨h1, h2, h3, h4⟩
  · refine ⟨h1, ?_, h3, h4⟩
    simp only
    split <;> omega
theorem Inv.fused (h : Inv C d) {n : Int} (hn : n ≤ 1000000) : Inv C (Go.Proofs.Ytpkmnfpbcakflaa.fused d n) := by
  refine ⟨h.room, ?_, h.pend, h.hist⟩
  show -1 ≤ fuseV n ∧ fuseV n ≤ 1000000
  unfold fuseV
  split <;> omega
theorem Inv.roomed (h : Inv C d) {n : Int} (h0 : 0 ≤ n) (h1 : n ≤ 8388608) : Inv C { d with room := n } := ⟨⟨h0, h1⟩, h.fuse, h.pend, h.hist⟩
theorem Inv.did (h : Inv C d) {x : Dd} (ho : OkDeed d.now x) (hf : Fine (doesM d.now x)) : Inv (C + 1) { d with now := doesM d.now x, pend := d.pend ++ [x] } :=
  ⟨h.room, h.fuse, by simp only [List.length_append, List.length_singleton]; have := h.pend; omega, h.hist.snoc ho hf⟩
theorem Fine.get_le {D : Fs} (h : Fine D) (s : ByteArray) : (getF D s).length ≤ 8388608 := by
  have := Go.Proofs.Ytpkmnfpbcakflaa.get_le D s; have := h.total; omega
theorem Inv.sync (h : Inv C d) : Inv C (syncM d).2 := by
  unfold syncM
  have hc := h.counts
  have hs := countsM_same d
  split
  · exact ⟨hc.room, hc.fuse, Nat.zero_le _, by show Hist d.now [] (countsM d).2.now; rw [hs.1]; exact hist_nil h.fine⟩
  · exact hc
theorem Inv.removed (h : Inv C d) {name : ByteArray} (hn : name.size ≤ maxLen) : Inv (C + 1) (removeM d name).2 := by
  unfold removeM
  have hc := h.counts
  split
  · split
    · have := hc.fine.size
      exact hc.did (x := ⟨3, name, ⟨#[]⟩, [], 0⟩) ⟨hn, Nat.zero_le _, by omega, .inr (.inr (.inr rfl))⟩ (hc.fine.del name)
    · exact hc.more (Nat.le_succ _)
  · exact hc.more (Nat.le_succ _)
theorem Inv.renamed (h : Inv C d) {name to_ : ByteArray} (hn : name.size ≤ maxLen) (hto : to_.size ≤ maxLen) : Inv (C + 1) (renameM d name to_).2 := by
  unfold renameM
  have hc := h.counts
  have hs := countsM_same d
  split
  · split
    · rename_i hnm
      split
      · rename_i hh
        have hz := hc.fine.size
        have ht := hc.fine.total
        have h1 := total_get_le (D := (countsM d).2.now) name
        have h2 := total_del_le (delF (countsM d).2.now name) to_
        have h3 := size_del_lt (D := (countsM d).2.now) (s := name) (by rw [hs.1]; exact hh)
        have hf : Fine (putF (delF (countsM d).2.now name) to_ (getF (countsM d).2.now name)) := (hc.fine.del name).put (named_size hnm) (by omega) (.inr (by omega))
        exact hc.did (x := ⟨2, name, to_, [], 0⟩) ⟨hn, hto, by omega, .inr (.inr (.inl rfl))⟩ hf
      · exact hc.more (Nat.le_succ _)
    · exact hc.more (Nat.le_succ _)
  · exact hc.more (Nat.le_succ _)
theorem Inv.truncated (h : Inv C d) {name : ByteArray} {n : Int} (hn : name.size ≤ maxLen) : Inv (C + 1) (truncM d name n).2 := by
  unfold truncM
  have hc := h.counts
  have hs := countsM_same d
  split
  · split
    · rename_i hh
      split
      · exact hc.more (Nat.le_succ _)
      · rename_i hb
        have hz := hc.fine.size
        have ht := hc.fine.total
        have h1 := total_get_le (D := (countsM d).2.now) name
        rw [← hs.1] at hh hb
        exact hc.did (x := ⟨1, name, ⟨#[]⟩, [], n.toNat⟩) ⟨hn, Nat.zero_le _, by omega, .inr (.inl ⟨rfl, by simp only; omega, by simp only; omega⟩)⟩
          (hc.fine.put (hc.fine.names name hh) (by simp only [List.length_take]; omega) (.inl hh))
    · exact hc.more (Nat.le_succ _)
  · exact hc.more (Nat.le_succ _)
theorem Inv.appended (h : Inv C d) {name : ByteArray} {bs : List Int} (hn : name.size ≤ maxLen) : Inv (C + 1) (appendM d name bs).2 := by
  unfold appendM
  have hc := h.counts
  have hs := countsM_same d
  split
  · split
    · rename_i hnm
      split
      · exact hc.more (Nat.le_succ _)
      · rename_i hb
        rw [not_or] at hb
        have hz := hc.fine.size
        have ht := hc.fine.total
        have hr := h.room
        have h1 := total_get_le (D := (countsM d).2.now) name
        have h2 := hc.fine.get_le name
        rw [← hs.1] at hb
        have hf : Fine (putF (countsM d).2.now name (getF (countsM d).2.now name ++ bs)) := by
          refine hc.fine.put (named_size hnm) (by rw [List.length_append]; omega) ?_
          cases hh : hasF (countsM d).2.now name with
          | true => exact .inl rfl
          | false =>
            right
            rcases Nat.lt_or_ge (Maps.size (countsM d).2.now) 64 with h | h
            · exact h
            · exact absurd ⟨hh, h⟩ hb.2
        exact hc.did (x := ⟨0, name, ⟨#[]⟩, bs, 0⟩) ⟨hn, Nat.zero_le _, by omega, .inl ⟨rfl, by simp only; omega⟩⟩ hf
    · exact hc.more (Nat.le_succ _)
  · exact hc.more (Nat.le_succ _)
theorem replay_snoc (D : Fs) (l : List Dd) (k : Nat) (x : Dd) (h : l[k]? = some x) : replay D (l.take (k + 1)) = doesM (replay D (l.take k)) x := replay_take D l k x h
theorem Inv.crashD (h : Inv C d) (k : Nat) (torn : Int) : Fine (Go.Proofs.Ytpkmnfpbcakflaa.crashD d k torn) := by
  have h1 := h.hist.take k
  unfold Go.Proofs.Ytpkmnfpbcakflaa.crashD
  cases hx : d.pend[k]? with
  | none => exact h1
  | some x =>
    simp only
    split
    · rename_i hcond
      have h2 := h.hist.take (k + 1)
      rw [replay_take _ _ _ _ hx] at h2
      unfold doesM at h2 ⊢
      rw [if_pos hcond.1] at h2 ⊢
      have h3 := h2.total
      have h4 := h2.size
      rw [total_put h1.isMap, List.length_append] at h3
      rw [size_put h1.isMap] at h4
      refine ⟨isMap_put h1.isMap _ _, ?_, ?_, fun t ht => ?_⟩
      · rw [total_put h1.isMap, List.length_append]
        simp only [List.length_take]
        omega
      · rw [size_put h1.isMap]; exact h4
      · rcases has_putF _ t _ ht with e | e
        · refine h2.names t ?_
          rw [e]
          exact Maps.has_put_same h1.isMap (isKey x.name) _
        · exact h1.names t e
    · exact h1
theorem Inv.crashed (h : Inv C d) (k : Nat) (torn : Int) : Inv C (Go.Proofs.Ytpkmnfpbcakflaa.crashed d k torn) :=
  ⟨h.room, ⟨by simp [Go.Proofs.Ytpkmnfpbcakflaa.crashed], by simp [Go.Proofs.Ytpkmnfpbcakflaa.crashed]⟩, Nat.zero_le _, hist_nil (h.crashD k torn)⟩
end
end Go.Proofs.Ytpkmnfpbcakflaa
