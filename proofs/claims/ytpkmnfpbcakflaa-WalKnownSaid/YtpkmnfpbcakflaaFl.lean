/- The reference's lists of files: plain laws. No condition; no walk in sight. -/
import Derived.Test.YtpkmnfpbcakflaaTotal
import Derived.WideAt
namespace Go.Proofs.Ytpkmnfpbcakflaa
open Go.RowKit

abbrev Fl := List (ByteArray × List Int)
def filesOf (L : Fl) : Fs := .map (L.map fun x => (strKey x.1, .held x.2))
def isN (s : ByteArray) (x : ByteArray × List Int) : Bool := x.1.toList == s.toList
def findL (L : Fl) (s : ByteArray) : Int := match L.findIdx? (isN s) with | some i => i | none => -1
def withoutL (L : Fl) (s : ByteArray) : Fl := L.filter fun x => !isN s x
/-- how many stand ahead of a name -/
def posL (L : Fl) (s : ByteArray) : Nat := (L.takeWhile fun y => Op.bytesLess y.1.toList s.toList).length
def insL (L : Fl) (x : ByteArray × List Int) : Fl := L.take (posL L x.1) ++ [x] ++ L.drop (posL L x.1)

theorem less_before : ∀ a b : List UInt8, Op.bytesLess a b = bytesBefore a b
  | [], [] => rfl
  | [], _ :: _ => rfl
  | _ :: _, [] => rfl
  | a :: r, b :: s => by simp only [Op.bytesLess, bytesBefore]; rw [less_before r s]
theorem bytes_asymm : ∀ a b : List UInt8, bytesBefore a b = true → bytesBefore b a = false
  | [], [] => by simp [bytesBefore]
  | [], _ :: _ => by simp [bytesBefore]
  | _ :: _, [] => by simp [bytesBefore]
  | a :: r, b :: s => by
    intro h
    simp only [bytesBefore, Bool.or_eq_true, Bool.and_eq_true, decide_eq_true_eq, beq_iff_eq] at h
    simp only [bytesBefore, Bool.or_eq_false_iff, Bool.and_eq_false_iff, decide_eq_false_iff_not]
    rcases h with h | ⟨rfl, h⟩
    · refine ⟨fun h2 => ?_, .inl ?_⟩
      · have h3 := UInt8.lt_trans h h2
        exact UInt8.lt_irrefl _ h3
      · cases hb : (b == a) with
        | false => rfl
        | true =>
          have e := eq_of_beq hb
          subst e
          exact absurd h (UInt8.lt_irrefl _)
    · exact ⟨UInt8.lt_irrefl _, .inr (bytes_asymm r s h)⟩
theorem before_not {a b : List UInt8} (h : a ≠ b) : bytesBefore a b = !Op.bytesLess b a := by
  rw [less_before]
  rcases WideAt.bytes_total a b h with h1 | h1
  · rw [h1, bytes_asymm _ _ h1]; rfl
  · rw [h1, bytes_asymm _ _ h1]; rfl

theorem insL_nil (x : ByteArray × List Int) : insL [] x = [x] := rfl
theorem insL_cons (y : ByteArray × List Int) (L : Fl) (x : ByteArray × List Int) : insL (y :: L) x = if Op.bytesLess y.1.toList x.1.toList then y :: insL L x else x :: y :: L := by
  unfold insL posL
  rw [List.takeWhile_cons]
  split
  · simp
  · simp

theorem isN_key (s : ByteArray) (x : ByteArray × List Int) : (strKey x.1).sameKey (strKey s) = isN s x := by
  unfold strKey isN
  rw [ByteArray.toList_eq, ByteArray.toList_eq]
  rfl
theorem filesOf_without (L : Fl) (s : ByteArray) : filesOf (withoutL L s) = delF (filesOf L) s := by
  unfold filesOf delF DataW.del withoutL
  simp only [DataW.map.injEq]
  rw [List.filter_map]
  congr 1
  refine List.filter_congr fun x _ => ?_
  simp [isN_key]
theorem insert_insL (x : ByteArray × List Int) : ∀ L : Fl, (∀ y ∈ L, isN x.1 y = false) → DataW.insert (strKey x.1, (.held x.2 : Fs)) (L.map fun y => (strKey y.1, .held y.2)) = (insL L x).map fun y => (strKey y.1, .held y.2)
  | [], _ => rfl
  | y :: L, h => by
    have hy := h y (List.mem_cons_self ..)
    have ih := insert_insL x L fun z hz => h z (List.mem_cons_of_mem _ hz)
    rw [insL_cons]
    have hne : x.1.data.toList ≠ y.1.data.toList := fun e => by
      unfold isN at hy
      rw [ByteArray.toList_eq, ByteArray.toList_eq, e] at hy
      simp at hy
    have hb : (strKey x.1).before (strKey y.1) = !Op.bytesLess y.1.toList x.1.toList := by
      rw [ByteArray.toList_eq, ByteArray.toList_eq, ← before_not hne]; rfl
    show (if (strKey x.1).before (strKey y.1) then _ else _) = _
    rw [hb]
    cases hl : Op.bytesLess y.1.toList x.1.toList with
    | true => simp; exact ih
    | false => simp
theorem filesOf_put (L : Fl) (x : ByteArray × List Int) : filesOf (insL (withoutL L x.1) x) = putF (filesOf L) x.1 x.2 := by
  have h := insert_insL x (withoutL L x.1) fun y hy => by
    have := (List.mem_filter.1 hy).2
    simpa using this
  unfold filesOf putF DataW.put
  simp only [DataW.map.injEq]
  rw [← h]
  congr 1
  unfold withoutL
  rw [List.filter_map]
  congr 1
  refine List.filter_congr fun x _ => ?_
  simp [isN_key]

theorem findL_none {L : Fl} {s : ByteArray} (h : ∀ (j : Nat) x, L[j]? = some x → isN s x = false) : findL L s = -1 := by
  unfold findL
  rw [List.findIdx?_eq_none_iff.2 fun x hx => by
    obtain ⟨j, hj, rfl⟩ := List.getElem_of_mem hx
    exact h j _ (List.getElem?_eq_getElem hj)]
theorem findL_some {L : Fl} {s : ByteArray} {i : Nat} {x : ByteArray × List Int} (h : L[i]? = some x) (hx : isN s x = true) (hb : ∀ (j : Nat), j < i → ∀ y, L[j]? = some y → isN s y = false) : findL L s = i := by
  unfold findL
  have hi := (List.getElem?_eq_some_iff.1 h).1
  have e : L.findIdx? (isN s) = some i := by
    rw [List.findIdx?_eq_some_iff_getElem]
    refine ⟨hi, ?_, fun j hj => ?_⟩
    · rw [(List.getElem?_eq_some_iff.1 h).2]; exact hx
    · rw [hb j hj _ (List.getElem?_eq_getElem (by omega))]; simp
  rw [e]
theorem findL_find (L : Fl) (s : ByteArray) : (findL L s < 0 ∧ L.find? (isN s) = none) ∨ ∃ (i : Nat) (x : ByteArray × List Int), findL L s = i ∧ L[i]? = some x ∧ L.find? (isN s) = some x := by
  unfold findL
  cases h : L.findIdx? (isN s) with
  | none =>
    left
    rw [List.findIdx?_eq_none_iff] at h
    exact ⟨by simp, List.find?_eq_none.2 fun x hx => by simp [h x hx]⟩
  | some i =>
    right
    rw [List.findIdx?_eq_some_iff_getElem] at h
    obtain ⟨hi, hx, hb⟩ := h
    refine ⟨i, L[i], rfl, List.getElem?_eq_getElem hi, ?_⟩
    rw [List.find?_eq_some_iff_getElem]
    exact ⟨hx, i, hi, rfl, fun j hj => by have := hb j hj; simpa using this⟩
theorem has_filesOf (L : Fl) (s : ByteArray) : hasF (filesOf L) s = (L.find? (isN s)).isSome := by
  unfold hasF filesOf
  rw [Maps.has_eq, List.any_map, Bool.eq_iff_iff, List.any_eq_true, List.find?_isSome]
  simp only [Function.comp, isN_key]
theorem get_filesOf (L : Fl) (s : ByteArray) : getF (filesOf L) s = match L.find? (isN s) with | some x => x.2 | none => [] := by
  unfold getF filesOf DataW.atKey
  simp only [List.find?_map]
  have e : (fun p : Lit × Fs => p.1.sameKey (strKey s)) ∘ (fun x : ByteArray × List Int => (strKey x.1, (.held x.2 : Fs))) = isN s := by
    funext x; simp [isN_key]
  rw [e]
  cases L.find? (isN s) <;> rfl
theorem has_find (L : Fl) (s : ByteArray) : (findL L s < 0 ∧ hasF (filesOf L) s = false ∧ getF (filesOf L) s = []) ∨ ∃ (i : Nat) (x : ByteArray × List Int), findL L s = i ∧ L[i]? = some x ∧ hasF (filesOf L) s = true ∧ getF (filesOf L) s = x.2 := by
  rw [has_filesOf, get_filesOf]
  rcases findL_find L s with ⟨h1, h2⟩ | ⟨i, x, h1, h2, h3⟩
  · left; rw [h2]; exact ⟨h1, rfl, rfl⟩
  · right; rw [h3]; exact ⟨i, x, h1, h2, rfl, rfl⟩
theorem size_filesOf (L : Fl) : Maps.size (filesOf L) = L.length := by simp [filesOf, Maps.size]
def lens (L : Fl) : Nat := (L.map fun x => x.2.length).sum
theorem total_filesOf (L : Fl) : total (filesOf L) = lens L := by
  unfold total filesOf totL lens
  simp [List.map_map, Function.comp_def, lenOf]
theorem withoutL_len (L : Fl) (s : ByteArray) : (withoutL L s).length ≤ L.length := List.length_filter_le ..
theorem posL_le (L : Fl) (s : ByteArray) : posL L s ≤ L.length := (List.takeWhile_sublist _).length_le
theorem withoutL_succ (L : Fl) (s : ByteArray) (k : Nat) (x : ByteArray × List Int) (h : L[k]? = some x) : withoutL (L.take (k + 1)) s = if isN s x then withoutL (L.take k) s else withoutL (L.take k) s ++ [x] := by
  have hlt : k < L.length := (List.getElem?_eq_some_iff.1 h).1
  have hx : L[k] = x := (List.getElem?_eq_some_iff.1 h).2
  unfold withoutL
  rw [List.take_succ_eq_append_getElem hlt, List.filter_append, hx]
  cases hi : isN s x <;> simp [hi]
theorem posL_at {L : Fl} {s : ByteArray} {i : Nat} (hi : i ≤ L.length) (hb : ∀ (j : Nat), j < i → ∀ y, L[j]? = some y → Op.bytesLess y.1.toList s.toList = true) (he : ∀ y, L[i]? = some y → Op.bytesLess y.1.toList s.toList = false) : posL L s = i := by
  unfold posL
  have h1 : L.takeWhile (fun y => Op.bytesLess y.1.toList s.toList) = L.take i := by
    conv => lhs; rw [← List.take_append_drop i L]
    rw [List.takeWhile_append_of_pos fun y hy => by
      obtain ⟨j, hj, rfl⟩ := List.getElem_of_mem hy
      simp only [List.length_take] at hj
      exact hb j (by omega) _ (by rw [List.getElem_take]; exact List.getElem?_eq_getElem (by omega))]
    have h2 : (L.drop i).takeWhile (fun y => Op.bytesLess y.1.toList s.toList) = [] := by
      cases hd : L.drop i with
      | nil => rfl
      | cons y r =>
        have hy : L[i]? = some y := by
          have := congrArg (·[0]?) hd
          simpa using this
        rw [List.takeWhile_cons, he y hy]; simp
    rw [h2, List.append_nil]
  rw [h1, List.length_take]; omega
end Go.Proofs.Ytpkmnfpbcakflaa
