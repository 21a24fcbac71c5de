/- Plain laws: how long the slices within an argument are, by the weights that the form gives. No condition; no program in sight. -/
import Derived.Test.YtpkmnfpbcakflaaOpen
import Derived.SizedLaws
namespace Go.Proofs.Ytpkmnfpbcakflaa
open Go.ChangeShapes Go.WideShapes Go.Deep Go.RowKit

section
variable {H : Type} {enc : TypeId × Value → H} {P : Program} {w : World} {base : Nat} {spare : Nat → Bool} {held : Bool}

theorem weights_all {e : TypeId} : ∀ {l : List (DataW H)} {i : Nat} {d : DataW H}, l[i]? = some d → ∀ q ∈ d.weights P e, q ∈ DataW.weightsAll P e l
  | [], _, _, h, _, _ => by simp at h
  | x :: l, 0, d, h, q, hq => by
    simp only [List.getElem?_cons_zero, Option.some.injEq] at h
    subst h
    simp only [DataW.weightsAll, List.mem_append]
    exact .inl hq
  | x :: l, i + 1, d, h, q, hq => by
    simp only [List.getElem?_cons_succ] at h
    simp only [DataW.weightsAll, List.mem_append]
    exact .inr (weights_all h q hq)
theorem weights_elem {t e : TypeId} (ht : P.underlying t = some (.slice e)) {elems sp : List (DataW H)} {i : Nat} {d : DataW H} (h : elems[i]? = some d) : ∀ q ∈ d.weights P e, q ∈ (DataW.slice elems sp : DataW H).weights P t := fun q hq => by
  simp only [DataW.weights, ht, List.mem_cons, List.mem_append]
  exact .inr (.inl (weights_all h q hq))
/-- a slice of one-byte elements is no longer than some weight -/
theorem len_weight {t e : TypeId} {a : Option Addr} {len cap n R : Nat} {y : DataW H × List MemPlace} (ht : P.underlying t = some (.slice e)) (hb : P.bytesOf e = 1) (h : DataW.trod enc P w base spare held n t [.slice a len cap] = some y) (hR : ∀ q ∈ y.1.weights P t, q ≤ R) : len ≤ R := by
  rcases open_slice ht h with ⟨e1, _⟩ | ⟨a', len', cap', m, n', D, Pl, hcs, hb', hl, hm, hmm, hx, hi⟩
  · simp only [List.cons.injEq, Value.slice.injEq, and_true] at e1
    omega
  · simp only [List.cons.injEq, Value.slice.injEq, and_true] at hcs
    obtain ⟨-, rfl, rfl⟩ := hcs
    have := hR (((List.range len).map D).length + ((List.range (m - len)).map fun j => D (len + j)).length) (by
      rw [hx]
      simp only [DataW.weights, ht, hb, Nat.mul_one, List.mem_cons, true_or])
    simp only [List.length_map, List.length_range] at this
    omega

theorem open_fieldsW0 {t e : TypeId} {fs : Array Field} {fuel : Nat} {cs : List Value} {x : DataW H × List MemPlace} (ht : P.underlying t = some (.slice e)) (he : P.underlying e = some (.struct fs))
    (hone : oneCellFields P fs = true) (hC : P.cellsOf e = fs.size) (h : DataW.trod enc P w base spare held fuel t cs = some x) :
    ∃ (a : Option Addr) (len cap : Nat), cs = [.slice a len cap] ∧ len ≤ cap ∧ cap ≤ maxLen ∧
      ∀ i, i < len → ∃ ad, a = some ad ∧ ∀ (j : Nat) (f : Field), fs[j]? = some f → ∃ (u : Value) (y : DataW H × List MemPlace) (n : Nat), w.cell? (ad.add (i * fs.size + j)) = some u ∧ DataW.trod enc P w base spare held n f.type [u] = some y ∧ ∀ q ∈ y.1.weights P f.type, q ∈ x.1.weights P t := by
  rcases open_slice ht h with ⟨rfl, _⟩ | ⟨a, len, cap, m, n, D, Pl, hcs, hb, hl, hm, hmm, hx, hi⟩
  · exact ⟨none, 0, 0, rfl, Nat.le_refl _, Nat.zero_le _, fun i hi => by omega⟩
  · refine ⟨some a, len, cap, hcs, hl, hm, fun i hil => ⟨a, rfl, fun j f hj => ?_⟩⟩
    have him : i < m := by rw [hmm]; split <;> omega
    obtain ⟨cs', hc, ht'⟩ := hi i him
    rw [hC] at hc
    obtain ⟨ys, n', hn', hy, hlen, hyl, hf⟩ := DataW.trod_struct he ht'
    obtain ⟨_, hcl, hat⟩ := World.cells?_some hc
    obtain ⟨ho, hk⟩ := hone_of hone j f hj
    have hjl : j < fs.size := (Array.getElem?_eq_some_iff.1 hj).1
    have hcell := hat j hjl
    have hv : cs'[j]? = some (cs'[j]'(by omega)) := List.getElem?_eq_getElem (by omega)
    have h1 := hf j f hj
    rw [ho, hk] at h1
    have hone' : (cs'.drop j).take 1 = [cs'[j]'(by omega)] := by
      rw [List.drop_eq_getElem_cons (by omega)]
      rfl
    rw [hone'] at h1
    have hys : ys[j]? = some (ys[j]'(by omega)) := List.getElem?_eq_getElem (by omega)
    refine ⟨_, _, n', ?_, h1.trans hys, fun q hq => ?_⟩
    · rw [← Go.Deep.add_add, hcell, hv]
    · have hd : (D i).weights P e = DataW.weightsEach P (fs.toList.map (·.type)) (ys.map (·.1)) := by
        have : D i = .agg (ys.map (·.1)) := (Prod.mk.inj hy).1
        rw [this]; simp only [DataW.weights, he]
      have hq2 : q ∈ (D i).weights P e := by
        rw [hd]
        refine DataW.weights_mem_each (j := j) (t := f.type) (d := (ys[j]'(by omega)).1) ?_ (by rw [List.getElem?_map, hys]; rfl) q hq
        rw [List.getElem?_map, Array.getElem?_toList, hj]; rfl
      rw [hx]
      exact weights_elem ht (by rw [List.getElem?_map, List.getElem?_range hil]; rfl) q hq2

theorem open_fieldsW {t e : TypeId} {fs : Array Field} {fuel : Nat} {cs : List Value} {x : DataW H × List MemPlace} (ht : P.underlying t = some (.slice e)) (he : P.underlying e = some (.struct fs))
    (hone : oneCellFields P fs = true) (hC : P.cellsOf e = fs.size) (hpos : 0 < fs.size) (h : DataW.trod enc P w base spare held fuel t cs = some x) :
    ∃ (a : Option Addr) (len cap : Nat), cs = [.slice a len cap] ∧ len ≤ cap ∧ cap ≤ maxLen ∧
      ∀ i, i < len → ∃ bk off, a = some ⟨bk, off, none⟩ ∧ ∀ (j : Nat) (f : Field), fs[j]? = some f → ∃ (u : Value) (y : DataW H × List MemPlace) (n : Nat), w.cell? ⟨bk, off + i * fs.size + j, none⟩ = some u ∧ DataW.trod enc P w base spare held n f.type [u] = some y ∧ ∀ q ∈ y.1.weights P f.type, q ∈ x.1.weights P t := by
  obtain ⟨a, len, cap, e, hl, hm, hrow⟩ := open_fieldsW0 ht he hone hC h
  refine ⟨a, len, cap, e, hl, hm, fun i hi => ?_⟩
  obtain ⟨ad, rfl, h0⟩ := hrow 0 (by omega)
  obtain ⟨u, y, n, c, _⟩ := h0 0 fs[0] (Array.getElem?_eq_getElem hpos)
  have hsp : ad.spot = none := by
    have := spot_of_cell c
    simpa [Addr.add] using this
  obtain ⟨ad', e', hfld⟩ := hrow i hi
  simp only [Option.some.injEq] at e'; subst e'
  obtain ⟨bk, off, sp⟩ := ad
  simp only at hsp; subst hsp
  refine ⟨bk, off, rfl, fun j f hf => ?_⟩
  obtain ⟨u, y, n, c, r⟩ := hfld j f hf
  refine ⟨u, y, n, ?_, r⟩
  have e : (⟨bk, off, none⟩ : Addr).add (i * fs.size + j) = ⟨bk, off + i * fs.size + j, none⟩ := by
    unfold Addr.add; split
    · have h1 : i * fs.size = 0 := by omega
      have h2 : j = 0 := by omega
      rw [h1, h2]; rfl
    · simp [Nat.add_assoc]
  rw [← e]; exact c

end
end Go.Proofs.Ytpkmnfpbcakflaa
