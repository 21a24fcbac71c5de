/- Rows of texts that a law keeps. No condition; no walk in sight. -/
import Derived.Test.YtakdcankhfeobaaKnown
import Derived.Laws.Concat
namespace Go.Proofs.Ytakdcankhfeobaa
open Go.RowKit

/-- n texts of type T, by number -/
def TextsAt (T n : Nat) (w : World) (h : Nat) (f : Nat → List Int) : Prop :=
  ∃ cs : Array Value, w.heap[h]? = some (.cells cs T (0, 0)) ∧ cs.size = n ∧ ∀ j : Nat, j < n → cs[j]? = some (.string (strOfNums (f j)))
def noTexts (n : Nat) : Array Value := Array.replicate n (.string ByteArray.empty)
theorem noTexts_one (n : Nat) : ∀ v ∈ (noTexts n).toList, v.oneCell' = true := by
  intro v hv; unfold noTexts at hv; rw [Array.toList_replicate, List.mem_replicate] at hv; rw [hv.2]; rfl
theorem TextsAt.new (T n : Nat) (w : World) : TextsAt T n (w.alloc (.cells (noTexts n) T)) w.heap.size (fun _ => []) := by
  refine ⟨noTexts n, heap_alloc_new w _, by simp [noTexts], fun j hj => ?_⟩
  unfold noTexts
  rw [Array.getElem?_replicate, if_pos hj]; rfl
theorem TextsAt.same {T n : Nat} {w w' : World} {h : Nat} {f : Nat → List Int} (hh : TextsAt T n w h f) (hs : w'.heap[h]? = w.heap[h]?) : TextsAt T n w' h f := by
  obtain ⟨cs, h1, h2, h3⟩ := hh
  exact ⟨cs, by rw [hs]; exact h1, h2, h3⟩
theorem TextsAt.keep {T n : Nat} {X : Nat → Prop} {w w' : World} {h : Nat} {f : Nat → List Int} (hh : TextsAt T n w h f) (hK : Keep X w w') (hx : X h) : TextsAt T n w' h f := by
  obtain ⟨cs, h1, -⟩ := id hh
  exact hh.same (hK.block h (heap_lt h1) (fun e => e hx))
theorem TextsAt.below {T n : Nat} {w w' : World} {h : Nat} {f : Nat → List Int} (hh : TextsAt T n w h f) (hB : Below w.heap.size w w') : TextsAt T n w' h f := by
  obtain ⟨cs, h1, -⟩ := id hh
  exact hh.same (hB.block h (heap_lt h1))
theorem TextsAt.lt {T n : Nat} {w : World} {h : Nat} {f : Nat → List Int} (hh : TextsAt T n w h f) : h < w.heap.size := by
  obtain ⟨cs, h1, -⟩ := hh
  exact heap_lt h1
theorem TextsAt.cell {T n : Nat} {w : World} {h : Nat} {f : Nat → List Int} (hh : TextsAt T n w h f) {j : Nat} (hj : j < n) : w.cell? ⟨h, j, none⟩ = some (.string (strOfNums (f j))) ∧ w.frozen? ⟨h, j, none⟩ = false := by
  obtain ⟨cs, h1, h2, h3⟩ := hh
  exact ⟨by rw [cell_of_row _ _ _ _ _ _ h1]; exact h3 j hj, frozen_of_row _ _ _ _ _ h1⟩
theorem TextsAt.set {T n : Nat} {w : World} {h : Nat} {f g : Nat → List Int} (hh : TextsAt T n w h f) {j : Nat} (hj : j < n) (b : List Int) (hg : ∀ i, g i = if i = j then b else f i) : TextsAt T n (w.setCell ⟨h, j, none⟩ (.string (strOfNums b))) h g := by
  obtain ⟨cs, h1, h2, h3⟩ := hh
  refine ⟨cs.setIfInBounds j (.string (strOfNums b)), heap_setCell_same w h j cs T _ h1, by simpa using h2, fun i hi => ?_⟩
  rw [Array.getElem?_setIfInBounds, hg]
  by_cases e : j = i
  · subst e
    rw [if_pos rfl, if_pos (by omega), if_pos rfl]
  · rw [if_neg e, if_neg (fun e' => e e'.symm)]; exact h3 i hi
theorem TextsAt.other {T n : Nat} {w : World} {h h' : Nat} {f : Nat → List Int} (hh : TextsAt T n w h f) (hne : h ≠ h') (j : Nat) (u : Value) : TextsAt T n (w.setCell ⟨h', j, none⟩ u) h f :=
  hh.same (heap_setCell_other w ⟨h', j, none⟩ h u hne)
theorem FamOwn.cell {X : Nat → Prop} {w : World} {p : Nat} {gs : List Gn} {l : Int} (hF : FamOwn 64 67 X w p gs l) {h : Nat} (hh : X h) (j : Nat) (u : Value) : FamOwn 64 67 X (w.setCell ⟨h, j, none⟩ u) p gs l := by
  obtain ⟨hX, v, vs, hA, hf⟩ := hF
  refine ⟨fun k hk => by have := hX k hk; show k < (w.setCell ⟨h, j, none⟩ u).heap.size; simpa [World.setCell] using this, v, vs, hA.of_blocks (fun k hk => ?_), hf⟩
  exact heap_setCell_other w ⟨h, j, none⟩ k u (fun e => hf k hk (e ▸ hh))
theorem strOfNums_take (b : List Int) (n : Nat) : (strOfNums b).extract 0 n = strOfNums (b.take n) := by
  apply ByteArray.ext
  rw [ByteArray.data_extract]
  apply Array.toList_inj.1
  simp [strOfNums, List.map_take]
theorem str_append (a b : List Int) : strOfNums (a ++ b) = strOfNums a ++ strOfNums b := by
  unfold strOfNums
  rw [ByteArray.mk_append_mk, List.map_append]
end Go.Proofs.Ytakdcankhfeobaa
