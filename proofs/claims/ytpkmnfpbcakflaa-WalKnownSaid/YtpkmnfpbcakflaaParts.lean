/- An argument that is a slice of slices of bytes, opened to cells. No condition; no walk in sight. -/
import Derived.Test.YtpkmnfpbcakflaaRows
import Derived.Test.YtpkmnfpbcakflaaOpen
import Derived.OpenShut
namespace Go.Proofs.Ytpkmnfpbcakflaa
open Go.ChangeShapes Go.WideShapes Go.Deep Go.RowKit

/-- part number i lies so -/
structure PtAt (w : World) (a : Option Addr) (i : Nat) (x : List Int) : Prop where
  ex : ∃ bk off, a = some ⟨bk, off, none⟩ ∧ ∃ ab cb, w.cell? ⟨bk, off + i, none⟩ = some (.slice ab x.length cb) ∧ x.length ≤ cb ∧ cb ≤ maxLen ∧ Src w 1 (.slice ab x.length cb) x.length (byteCells x)
  bytes : ∀ n ∈ x, 0 ≤ n ∧ n < 256
def PartsIn (w : World) (a : Option Addr) (len : Nat) (xs : List (List Int)) : Prop := xs.length = len ∧ ∀ i x, xs[i]? = some x → PtAt w a i x

theorem cellsB : Try.prog.cellsOf 5 = 1 := by kernel_rfl
theorem cellsL : Try.prog.cellsOf 25 = 1 := by kernel_rfl

section
variable {H : Type} {enc : TypeId × Value → H} {w : World} {base : Nat} {spare : Nat → Bool} {held : Bool}
set_option maxRecDepth 100000 in
theorem open_parts {v : Value} {d : DataW H} {ps : List MemPlace} (hv : Value.okWide Try.prog w .any base 22 v) (h : DataW.Trod enc Try.prog w 0 spare held 22 v d ps) :
    ∃ a len cap xs, v = .slice a len cap ∧ len ≤ cap ∧ cap ≤ maxLen ∧ PartsIn w a len xs := by
  obtain ⟨a0, len0, cap0, rfl⟩ := okWide_slice Try.underlying22 hv
  obtain ⟨fuel, hf⟩ := h
  rcases open_slice Try.underlying22 hf with ⟨e, _⟩ | ⟨a, len, cap, m, n, D, Pl, hcs, hb, hl, hm, hmm, hx, hi⟩
  · simp only [Value.cells, List.cons.injEq, Value.slice.injEq, and_true] at e
    obtain ⟨rfl, rfl, rfl⟩ := e
    exact ⟨none, 0, 0, [], rfl, Nat.le_refl _, Nat.zero_le _, rfl, fun i x hx => by simp at hx⟩
  · simp only [Value.cells, List.cons.injEq, Value.slice.injEq, and_true] at hcs
    obtain ⟨rfl, rfl, rfl⟩ := hcs
    have key : ∀ i, ∃ x : List Int, i < len0 → PtAt w (some a) i x := by
      intro i
      by_cases hil : i < len0
      · obtain ⟨cs', hc, ht'⟩ := hi i (by rw [hmm]; split <;> omega)
        obtain ⟨cs0, hc0, ht0⟩ := hi 0 (by rw [hmm]; split <;> omega)
        rw [cellsL] at hc hc0
        obtain ⟨_, hcl, hat⟩ := World.cells?_some hc
        obtain ⟨_, hcl0, hat0⟩ := World.cells?_some hc0
        obtain ⟨u, rfl⟩ : ∃ u, cs' = [u] := List.length_eq_one_iff.1 hcl
        obtain ⟨u0, rfl⟩ : ∃ u, cs0 = [u] := List.length_eq_one_iff.1 hcl0
        have hcell := hat 0 (by omega)
        have hcell0 := hat0 0 (by omega)
        obtain ⟨ab, lb, cb, zs, rfl, hz, hlc, hcm, hsrc, hwf⟩ := field_ints Try.underlying25 Try.underlying5 cellsB ht'
        subst hz
        obtain ⟨bk, off, sp⟩ := a
        have hsp : sp = none := by
          have := spot_of_cell hcell0
          simpa [Addr.add] using this
        subst hsp
        refine ⟨zs, fun _ => ⟨⟨bk, off, rfl, ab, cb, ?_, hlc, hcm, hsrc⟩, bytes_wf hwf⟩⟩
        rw [← add_plain]
        rw [Go.Deep.add_add, Nat.add_zero, Nat.mul_one] at hcell
        simpa using hcell
      · exact ⟨[], fun h => absurd h hil⟩
    obtain ⟨f, hf⟩ := Classical.axiomOfChoice key
    refine ⟨some a, len0, cap0, (List.range len0).map f, rfl, hl, hm, by simp, fun i x hx => ?_⟩
    rw [List.getElem?_map] at hx
    by_cases hi : i < len0
    · rw [List.getElem?_range hi] at hx
      simp at hx; subst hx
      exact hf i hi
    · rw [List.getElem?_eq_none (by simp; omega)] at hx; cases hx
end
end Go.Proofs.Ytpkmnfpbcakflaa
