/- Plain laws of DiskCuts: ends of pieces, what a crash leaves. No condition; no walk in sight. -/
import Derived.Test.YtpkmnfpbcakflaaLawK
import Derived.Test.YtpkmnfpbcakflaaDFuses
namespace Go.Proofs.Ytpkmnfpbcakflaa

def ne (ys : List (List Int)) : List (List Int) := ys.filter fun y => decide (0 < y.length)
theorem ne_flat : ∀ ys : List (List Int), (ne ys).flatten = ys.flatten
  | [] => rfl
  | y :: ys => by
    have ih := ne_flat ys
    unfold ne at ih ⊢
    rw [List.filter_cons]
    split
    · simp [ih]
    · rename_i h
      have : y = [] := by simpa using h
      subst this
      simpa using ih
theorem ne_pos (ys : List (List Int)) : ∀ z ∈ ne ys, 0 < z.length := by
  intro z hz
  have := (List.mem_filter.1 hz).2
  simpa using this
theorem ne_yes (ys : List (List Int)) (k : Nat) (y : List Int) (h : ys[k]? = some y) (hy : 0 < y.length) : ne (ys.take (k + 1)) = ne (ys.take k) ++ [y] := by
  rw [take_snoc ys k y h]
  unfold ne
  rw [List.filter_append, List.filter_cons, if_pos (by simpa using hy)]; rfl
theorem ne_no (ys : List (List Int)) (k : Nat) (y : List Int) (h : ys[k]? = some y) (hy : ¬ 0 < y.length) : ne (ys.take (k + 1)) = ne (ys.take k) := by
  rw [take_snoc ys k y h]
  unfold ne
  rw [List.filter_append, List.filter_cons, if_neg (by simpa using hy), List.filter_nil, List.append_nil]
theorem ne_len (ys : List (List Int)) : (ne ys).length ≤ ys.length := List.length_filter_le _ _

def Lz (zs : List (List Int)) (j : Nat) : Nat := (zs.take j).flatten.length
def endsOf (zs : List (List Int)) : List Int := (List.range zs.length).map fun i => (Lz zs (i + 1) : Int)
theorem endsOf_snoc (zs : List (List Int)) (y : List Int) : endsOf (zs ++ [y]) = endsOf zs ++ [((zs ++ [y]).flatten.length : Int)] := by
  unfold endsOf
  rw [List.length_append, List.length_singleton, List.range_succ, List.map_append]
  congr 1
  · refine List.map_congr_left fun i hi => ?_
    have := List.mem_range.1 hi
    unfold Lz
    rw [List.take_append_of_le_length (by omega)]
  · simp only [List.map_cons, List.map_nil, Lz]
    rw [List.take_of_length_le (by simp)]
theorem endsOf_len (zs : List (List Int)) : (endsOf zs).length = zs.length := by simp [endsOf]
theorem endsOf_at (zs : List (List Int)) (i : Nat) (h : i < zs.length) : (endsOf zs)[i]? = some (Lz zs (i + 1) : Int) := by
  unfold endsOf
  rw [List.getElem?_map, List.getElem?_range h]; rfl
theorem Lz_succ (zs : List (List Int)) (j : Nat) (b : List Int) (h : zs[j]? = some b) : Lz zs (j + 1) = Lz zs j + b.length := by
  unfold Lz
  rw [take_snoc zs j b h, List.flatten_append]
  simp
theorem Lz_le (zs : List (List Int)) (j : Nat) : Lz zs j ≤ zs.flatten.length := by
  unfold Lz
  conv => rhs; rw [← List.take_append_drop j zs]
  rw [List.flatten_append, List.length_append]; omega
theorem Lz_zero (zs : List (List Int)) (hne : ∀ z ∈ zs, 0 < z.length) (j : Nat) (h : Lz zs j = 0) : zs.take j = [] := by
  cases hz : zs.take j with
  | nil => rfl
  | cons z l =>
    exfalso
    have hm : z ∈ zs := List.mem_of_mem_take (by rw [hz]; simp : z ∈ zs.take j)
    have := hne z hm
    unfold Lz at h
    rw [hz] at h
    simp at h
    rw [h.1] at this
    simp at this
theorem grown_none {l : List (List Int)} (h : l ≠ []) : grown none l = some l.flatten := by
  unfold grown
  rw [if_neg h]; simp

theorem cut_cuts (zs : List (List Int)) (hne : ∀ z ∈ zs, 0 < z.length) (A j : Nat) (hj : j ≤ zs.length) (h1 : Lz zs j ≤ A) (h2 : j < zs.length → A < Lz zs (j + 1)) (hA : A ≤ zs.flatten.length) :
    cutO none zs j ((A : Int) - (Lz zs j : Nat)) = if A = 0 then none else some (zs.flatten.take A) := by
  by_cases hjl : j < zs.length
  · obtain ⟨b, hb⟩ : ∃ b, zs[j]? = some b := ⟨_, List.getElem?_eq_getElem hjl⟩
    have h3 := h2 hjl
    rw [Lz_succ zs j b hb] at h3
    have hx : zs[j] = b := (List.getElem?_eq_some_iff.1 hb).2
    have hsp : zs.flatten = (zs.take j).flatten ++ (b ++ (zs.drop (j + 1)).flatten) := by
      conv => lhs; rw [← List.take_append_drop j zs, List.drop_eq_getElem_cons hjl, hx]
      simp
    have hp : pickV ((A : Int) - (Lz zs j : Nat)) b.length = (A : Int) - (Lz zs j : Nat) := by
      unfold pickV
      rw [Int.tmod_eq_of_lt (by omega) (by omega), if_neg (by omega)]
    unfold cutO
    rw [hb]
    simp only
    rw [hp]
    by_cases hz : A = Lz zs j
    · rw [if_neg (by omega)]
      by_cases hA0 : A = 0
      · rw [if_pos hA0, Lz_zero zs hne j (by omega)]; rfl
      · rw [if_neg hA0, grown_none (fun e => by unfold Lz at hz; rw [e] at hz; simp at hz; exact hA0 hz), hsp, hz]
        unfold Lz
        rw [List.take_left]
    · rw [if_pos ⟨by omega, by omega⟩, if_neg (by omega), grown_bytes, hsp]
      have e : A = (zs.take j).flatten.length + (A - Lz zs j) := by unfold Lz at *; omega
      have e2 : ((A : Int) - (Lz zs j : Nat)).toNat = A - Lz zs j := by omega
      rw [e2]
      conv => rhs; rw [e]
      rw [List.take_length_add_append, List.take_append_of_le_length (by omega)]
      rfl
  · obtain rfl : j = zs.length := by omega
    have hL : Lz zs zs.length = zs.flatten.length := by unfold Lz; rw [List.take_length]
    rw [cut_all]
    have hAe : A = zs.flatten.length := by omega
    by_cases hA0 : A = 0
    · rw [if_pos hA0]
      have := Lz_zero zs hne zs.length (by omega)
      rw [List.take_length] at this
      rw [this]; rfl
    · rw [if_neg hA0, grown_none (fun e => by rw [e] at hAe; simp at hAe; exact hA0 hAe), hAe, List.take_length]
end Go.Proofs.Ytpkmnfpbcakflaa
