/- Plain laws: an argument that is a slice of structs, of bytes, of integers: its cells. No condition; no program in sight. -/
import Derived.Test.YtpkmnfpbcakflaaMem
import Derived.Deep.Slices
import Derived.Deep.Fields
import Derived.ChangeSame
import Derived.ChangeSlices
import Derived.ChangeArms
namespace Go.Proofs.Ytpkmnfpbcakflaa
open Go.ChangeShapes Go.WideShapes Go.Deep Go.RowKit

section
variable {H : Type} {enc : TypeId × Value → H} {P : Program} {w : World} {base : Nat} {spare : Nat → Bool} {held : Bool}

theorem spot_of_cell {a : Addr} {u : Value} (h : w.cell? a = some u) : a.spot = none := by
  cases hs : a.spot with
  | none => rfl
  | some s => simp only [World.cell?, hs] at h; split at h <;> simp at h

/-- a slice of structs of one-cell fields: nil, or its cells by row and field -/
theorem open_fields0 {t e : TypeId} {fs : Array Field} {fuel : Nat} {cs : List Value} {x : DataW H × List MemPlace} (ht : P.underlying t = some (.slice e)) (he : P.underlying e = some (.struct fs))
    (hone : oneCellFields P fs = true) (hC : P.cellsOf e = fs.size) (h : DataW.trod enc P w base spare held fuel t cs = some x) :
    ∃ (a : Option Addr) (len cap : Nat), cs = [.slice a len cap] ∧ len ≤ cap ∧ cap ≤ maxLen ∧
      ∀ i, i < len → ∃ ad, a = some ad ∧ ∀ (j : Nat) (f : Field), fs[j]? = some f → ∃ (u : Value) (y : DataW H × List MemPlace) (n : Nat), w.cell? (ad.add (i * fs.size + j)) = some u ∧ DataW.trod enc P w base spare held n f.type [u] = some y := by
  rcases open_slice ht h with ⟨rfl, _⟩ | ⟨a, len, cap, m, n, D, Pl, hcs, hb, hl, hm, hmm, hx, hi⟩
  · exact ⟨none, 0, 0, rfl, Nat.le_refl _, Nat.zero_le _, fun i hi => by omega⟩
  · refine ⟨some a, len, cap, hcs, hl, hm, fun i hil => ⟨a, rfl, fun j f hj => ?_⟩⟩
    have him : i < m := by rw [hmm]; split <;> omega
    obtain ⟨cs', hc, ht'⟩ := hi i him
    rw [hC] at hc
    obtain ⟨ys, n', hn', hy, hlen, hyl, hf⟩ := DataW.trod_struct he ht'
    obtain ⟨_, hcl, hat⟩ := World.cells?_some hc
    obtain ⟨ho, hk⟩ := hone_of hone j f hj
    have hjl : j < fs.size := (Array.getElem?_eq_some_iff.1 hj).1
    have hcell := hat j hjl
    have hv : cs'[j]? = some (cs'[j]'(by omega)) := List.getElem?_eq_getElem (by omega)
    have h1 := hf j f hj
    rw [ho, hk] at h1
    have hone' : (cs'.drop j).take 1 = [cs'[j]'(by omega)] := by
      rw [List.drop_eq_getElem_cons (by omega)]
      rfl
    rw [hone'] at h1
    have hys : ys[j]? = some (ys[j]'(by omega)) := List.getElem?_eq_getElem (by omega)
    refine ⟨_, _, n', ?_, h1.trans hys⟩
    rw [← Go.Deep.add_add, hcell, hv]

theorem open_fields {t e : TypeId} {fs : Array Field} {fuel : Nat} {cs : List Value} {x : DataW H × List MemPlace} (ht : P.underlying t = some (.slice e)) (he : P.underlying e = some (.struct fs))
    (hone : oneCellFields P fs = true) (hC : P.cellsOf e = fs.size) (hpos : 0 < fs.size) (h : DataW.trod enc P w base spare held fuel t cs = some x) :
    ∃ (a : Option Addr) (len cap : Nat), cs = [.slice a len cap] ∧ len ≤ cap ∧ cap ≤ maxLen ∧
      ∀ i, i < len → ∃ bk off, a = some ⟨bk, off, none⟩ ∧ ∀ (j : Nat) (f : Field), fs[j]? = some f → ∃ (u : Value) (y : DataW H × List MemPlace) (n : Nat), w.cell? ⟨bk, off + i * fs.size + j, none⟩ = some u ∧ DataW.trod enc P w base spare held n f.type [u] = some y := by
  obtain ⟨a, len, cap, e, hl, hm, hrow⟩ := open_fields0 ht he hone hC h
  refine ⟨a, len, cap, e, hl, hm, fun i hi => ?_⟩
  obtain ⟨ad, rfl, h0⟩ := hrow 0 (by omega)
  obtain ⟨u, y, n, c, _⟩ := h0 0 fs[0] (Array.getElem?_eq_getElem hpos)
  have hsp : ad.spot = none := by
    have := spot_of_cell c
    simpa [Addr.add] using this
  obtain ⟨ad', e', hfld⟩ := hrow i hi
  simp only [Option.some.injEq] at e'; subst e'
  obtain ⟨bk, off, sp⟩ := ad
  simp only at hsp; subst hsp
  refine ⟨bk, off, rfl, fun j f hf => ?_⟩
  obtain ⟨u, y, n, c, r⟩ := hfld j f hf
  refine ⟨u, y, n, ?_, r⟩
  have e : (⟨bk, off, none⟩ : Addr).add (i * fs.size + j) = ⟨bk, off + i * fs.size + j, none⟩ := by
    unfold Addr.add; split
    · have h1 : i * fs.size = 0 := by omega
      have h2 : j = 0 := by omega
      rw [h1, h2]; rfl
    · simp [Nat.add_assoc]
  rw [← e]; exact c

/-- a field that is an integer -/
theorem field_int {t : TypeId} {k : IntKind} {n : Nat} {u : Value} {y : DataW H × List MemPlace} (ht : P.underlying t = some (.int k)) (h : DataW.trod enc P w base spare held n t [u] = some y) : ∃ m, u = .int k m ∧ (Lit.int k m).wf = true := by
  obtain ⟨m, e, _, hw⟩ := DataW.trod_int ht h
  exact ⟨m, by simpa using e, hw⟩

/-- a field, or an argument, that is a slice of integers -/
theorem field_ints {t e : TypeId} {k : IntKind} {n : Nat} {u : Value} {y : DataW H × List MemPlace} (ht : P.underlying t = some (.slice e)) (he : P.underlying e = some (.int k)) (hc : P.cellsOf e = 1) (h : DataW.trod enc P w base spare held n t [u] = some y) :
    ∃ (a : Option Addr) (len cap : Nat) (zs : List Int), u = .slice a len cap ∧ zs.length = len ∧ len ≤ cap ∧ cap ≤ maxLen ∧ Src w 1 u len (zs.map (Value.int k)) ∧ ∀ z ∈ zs, (Lit.int k z).wf = true := by
  rcases open_ints ht he hc h with ⟨e1, _⟩ | ⟨a, len, cap, zs, e1, _, hl, hm, hz, _, hcell, hwf⟩
  · have e1 : u = .slice none 0 0 := by simpa using e1
    subst e1
    exact ⟨none, 0, 0, [], rfl, rfl, Nat.le_refl _, Nat.zero_le _, ⟨by simp, by simp, .inl ⟨rfl, rfl⟩⟩, by simp⟩
  · have e1 : u = .slice (some a) len cap := by simpa using e1
    subst e1
    have hzl : len ≤ zs.length := by rw [hz]; split <;> omega
    refine ⟨some a, len, cap, zs.take len, rfl, by rw [List.length_take]; omega, hl, hm, ⟨by simp [Nat.min_eq_left hzl], ?_, .inr ⟨a, cap, rfl, ?_⟩⟩, fun z hz => hwf z (List.mem_of_mem_take hz)⟩
    · intro v hv; simp only [List.mem_map] at hv; obtain ⟨z, _, rfl⟩ := hv; rfl
    · intro j v hv
      rw [List.getElem?_map, List.getElem?_take] at hv
      split at hv
      · have hj : j < zs.length := by omega
        rw [List.getElem?_eq_getElem hj] at hv
        simp at hv; subst hv
        rw [hcell j hj]
        simp [List.getD, List.getElem?_eq_getElem hj]
      · simp at hv

theorem bytes_wf {zs : List Int} (h : ∀ z ∈ zs, (Lit.int .u8 z).wf = true) : ∀ z ∈ zs, 0 ≤ z ∧ z < 256 := by
  intro z hz
  have := h z hz
  simp [Lit.wf, IntKind.min, IntKind.max, IntKind.signed, IntKind.bits] at this
  omega

end
end Go.Proofs.Ytpkmnfpbcakflaa
