/- The argument of chapter 6's laws: steps, opened to cells. No condition; no walk in sight. -/
import Derived.Test.YtpkmnfpbcakflaaRows
import Derived.Test.YtpkmnfpbcakflaaOpen
import Derived.OpenShut
namespace Go.Proofs.Ytpkmnfpbcakflaa
open Go.ChangeShapes Go.WideShapes Go.Deep Go.RowKit

structure S6 where
  what : Int
  b : List Int
  hw : Int
  ha : Int
  hb : Int
/-- step number i lies so -/
structure S6At (w : World) (a : Option Addr) (i : Nat) (x : S6) : Prop where
  ex : ∃ bk off, a = some ⟨bk, off, none⟩ ∧ bk < w.heap.size ∧ w.cell? ⟨bk, off + i * 5, none⟩ = some (.int .i64 x.what) ∧ w.cell? ⟨bk, off + i * 5 + 2, none⟩ = some (.int .i64 x.hw) ∧ w.cell? ⟨bk, off + i * 5 + 3, none⟩ = some (.int .i64 x.ha) ∧ w.cell? ⟨bk, off + i * 5 + 4, none⟩ = some (.int .i64 x.hb) ∧
    ∃ ab cb, w.cell? ⟨bk, off + i * 5 + 1, none⟩ = some (.slice ab x.b.length cb) ∧ x.b.length ≤ cb ∧ cb ≤ maxLen ∧ Src w 1 (.slice ab x.b.length cb) x.b.length (byteCells x.b)
  bytes : ∀ n ∈ x.b, 0 ≤ n ∧ n < 256
def S6In (w : World) (a : Option Addr) (len : Nat) (xs : List S6) : Prop := xs.length = len ∧ ∀ i x, xs[i]? = some x → S6At w a i x

theorem fields6 : ∃ fs, Try.prog.underlying 52 = some (.struct fs) ∧ (fs[0]?).map (fun f => (f.type, f.offset)) = some (3, 0) ∧ (fs[1]?).map (fun f => (f.type, f.offset)) = some (25, 1) ∧ (fs[2]?).map (fun f => (f.type, f.offset)) = some (50, 2) :=
  ⟨_, Try.underlying52, by kernel_rfl, by kernel_rfl, by kernel_rfl⟩
theorem fieldsH : ∃ fs, Try.prog.underlying 50 = some (.struct fs) ∧ (fs[0]?).map (fun f => (f.type, f.offset)) = some (3, 0) ∧ (fs[1]?).map (fun f => (f.type, f.offset)) = some (3, 1) ∧ (fs[2]?).map (fun f => (f.type, f.offset)) = some (3, 2) :=
  ⟨_, Try.underlying50, by kernel_rfl, by kernel_rfl, by kernel_rfl⟩
theorem cells6 : Try.prog.cellsOf 52 = 5 := by kernel_rfl
theorem cellsH : Try.prog.cellsOf 50 = 3 := by kernel_rfl
theorem cellsI : Try.prog.cellsOf 3 = 1 := by kernel_rfl
theorem cellsB1 : Try.prog.cellsOf 5 = 1 := by kernel_rfl
theorem cellsBs : Try.prog.cellsOf 25 = 1 := by kernel_rfl

theorem list5 {α : Type} : ∀ {l : List α}, l.length = 5 → ∃ a b c d e, l = [a, b, c, d, e]
  | [a, b, c, d, e], _ => ⟨a, b, c, d, e, rfl⟩
section
variable {H : Type} {enc : TypeId × Value → H} {w : World} {base : Nat} {spare : Nat → Bool} {held : Bool}
set_option maxRecDepth 100000 in
theorem open_one6 {fuel : Nat} {cs : List Value} {x : DataW H × List MemPlace} (h : DataW.trod enc Try.prog w base spare held fuel 52 cs = some x) :
    ∃ y : S6, ∃ ab cb, cs = [.int .i64 y.what, .slice ab y.b.length cb, .int .i64 y.hw, .int .i64 y.ha, .int .i64 y.hb] ∧ y.b.length ≤ cb ∧ cb ≤ maxLen ∧ Src w 1 (.slice ab y.b.length cb) y.b.length (byteCells y.b) ∧ ∀ n ∈ y.b, 0 ≤ n ∧ n < 256 := by
  obtain ⟨fs, hu, f0, f1, f2⟩ := fields6
  obtain ⟨ys, n, _, _, hlen, _, hf⟩ := DataW.trod_struct hu h
  rw [cells6] at hlen
  obtain ⟨c0, c1, c2, c3, c4, rfl⟩ := list5 hlen
  obtain ⟨g0, e0, t0⟩ := Option.map_eq_some_iff.1 f0
  obtain ⟨g1, e1, t1⟩ := Option.map_eq_some_iff.1 f1
  obtain ⟨g2, e2, t2⟩ := Option.map_eq_some_iff.1 f2
  simp only [Prod.mk.injEq] at t0 t1 t2
  have r0 := hf 0 g0 e0
  have r1 := hf 1 g1 e1
  have r2 := hf 2 g2 e2
  have l0 : 0 < ys.length := by have := (Array.getElem?_eq_some_iff.1 e2).1; omega
  have l1 : 1 < ys.length := by have := (Array.getElem?_eq_some_iff.1 e2).1; omega
  have l2 : 2 < ys.length := by have := (Array.getElem?_eq_some_iff.1 e2).1; omega
  rw [t0.1, t0.2, cellsI, List.getElem?_eq_getElem l0] at r0
  rw [t1.1, t1.2, cellsBs, List.getElem?_eq_getElem l1] at r1
  rw [t2.1, t2.2, cellsH, List.getElem?_eq_getElem l2] at r2
  simp only [List.drop_zero, List.take_succ_cons, List.take_zero, List.drop_succ_cons] at r0 r1 r2
  obtain ⟨fs2, hu2, h0, h1, h2⟩ := fieldsH
  obtain ⟨zs, n2, _, _, hlen2, _, hf2⟩ := DataW.trod_struct hu2 r2
  obtain ⟨k0, d0, s0⟩ := Option.map_eq_some_iff.1 h0
  obtain ⟨k1, d1, s1⟩ := Option.map_eq_some_iff.1 h1
  obtain ⟨k2, d2, s2⟩ := Option.map_eq_some_iff.1 h2
  simp only [Prod.mk.injEq] at s0 s1 s2
  have q0 := hf2 0 k0 d0
  have q1 := hf2 1 k1 d1
  have q2 := hf2 2 k2 d2
  have m0 : 0 < zs.length := by have := (Array.getElem?_eq_some_iff.1 d2).1; omega
  have m1 : 1 < zs.length := by have := (Array.getElem?_eq_some_iff.1 d2).1; omega
  have m2 : 2 < zs.length := by have := (Array.getElem?_eq_some_iff.1 d2).1; omega
  rw [s0.1, s0.2, cellsI, List.getElem?_eq_getElem m0] at q0
  rw [s1.1, s1.2, cellsI, List.getElem?_eq_getElem m1] at q1
  rw [s2.1, s2.2, cellsI, List.getElem?_eq_getElem m2] at q2
  simp only [List.drop_zero, List.take_succ_cons, List.take_zero, List.drop_succ_cons] at q0 q1 q2
  obtain ⟨a0, rfl, _⟩ := field_int Try.underlying3 r0
  obtain ⟨ab, lb, cb, b, rfl, hz, hlc, hcm, hsrc, hwf⟩ := field_ints Try.underlying25 Try.underlying5 cellsB1 r1
  obtain ⟨a2, rfl, _⟩ := field_int Try.underlying3 q0
  obtain ⟨a3, rfl, _⟩ := field_int Try.underlying3 q1
  obtain ⟨a4, rfl, _⟩ := field_int Try.underlying3 q2
  subst hz
  exact ⟨⟨a0, b, a2, a3, a4⟩, ab, cb, rfl, hlc, hcm, hsrc, bytes_wf hwf⟩

set_option maxRecDepth 100000 in
theorem open_steps6 {v : Value} {d : DataW H} {ps : List MemPlace} (hv : Value.okWide Try.prog w .any base 48 v) (h : DataW.Trod enc Try.prog w 0 spare held 48 v d ps) :
    ∃ a len cap xs, v = .slice a len cap ∧ len ≤ maxLen ∧ S6In w a len xs := by
  obtain ⟨a0, len0, cap0, rfl⟩ := okWide_slice Try.underlying48 hv
  obtain ⟨fuel, hf⟩ := h
  rcases open_slice Try.underlying48 hf with ⟨e, _⟩ | ⟨a, len, cap, m, n, D, Pl, hcs, hb, hl, hm, hmm, hx, hi⟩
  · simp only [Value.cells, List.cons.injEq, Value.slice.injEq, and_true] at e
    obtain ⟨rfl, rfl, rfl⟩ := e
    exact ⟨none, 0, 0, [], rfl, Nat.zero_le _, rfl, by intro i x h; simp at h⟩
  · simp only [Value.cells, List.cons.injEq, Value.slice.injEq, and_true] at hcs
    obtain ⟨rfl, rfl, rfl⟩ := hcs
    have key : ∀ i, ∃ x : S6, i < len0 → S6At w (some a) i x := by
      intro i
      by_cases hil : i < len0
      · have him : i < m := by rw [hmm]; split <;> omega
        obtain ⟨cs', hc, ht'⟩ := hi i him
        rw [cells6] at hc
        obtain ⟨y, ab, cb, rfl, hlc, hcm, hsrc, hby⟩ := open_one6 ht'
        obtain ⟨_, hcl, hat⟩ := World.cells?_some hc
        have c0 := hat 0 (by omega)
        have c1 := hat 1 (by omega)
        have c2 := hat 2 (by omega)
        have c3 := hat 3 (by omega)
        have c4 := hat 4 (by omega)
        rw [Go.Deep.add_add] at c0 c1 c2 c3 c4
        simp only [List.getElem?_cons_zero, List.getElem?_cons_succ, Nat.add_zero] at c0 c1 c2 c3 c4
        have hsp : a.spot = none := by
          obtain ⟨cz, hcz, htz⟩ := hi 0 (by rw [hmm]; split <;> omega)
          rw [cells6] at hcz
          obtain ⟨yz, az, bz, rfl, -⟩ := open_one6 htz
          obtain ⟨_, _, hatz⟩ := World.cells?_some hcz
          have z0 := hatz 0 (by omega)
          simp only [List.getElem?_cons_zero] at z0
          have := spot_of_cell z0
          simpa [Addr.add] using this
        obtain ⟨bk, off, sp⟩ := a
        simp only at hsp; subst hsp
        have hadd : ∀ j, (⟨bk, off, none⟩ : Addr).add j = ⟨bk, off + j, none⟩ := fun j => by unfold Addr.add; split <;> simp_all
        rw [hadd] at c0 c1 c2 c3 c4
        simp only [← Nat.add_assoc] at c1 c2 c3 c4
        exact ⟨y, fun _ => ⟨⟨bk, off, rfl, block_lt_of_cell c0, c0, c2, c3, c4, ab, cb, c1, hlc, hcm, hsrc⟩, hby⟩⟩
      · exact ⟨⟨0, [], 0, 0, 0⟩, fun h => absurd h hil⟩
    obtain ⟨f, hf⟩ := Classical.axiomOfChoice key
    refine ⟨some a, len0, cap0, (List.range len0).map f, rfl, by omega, by simp, fun i x hx => ?_⟩
    rw [List.getElem?_map] at hx
    by_cases hi : i < len0
    · rw [List.getElem?_range hi] at hx
      simp at hx; subst hx
      exact hf i hi
    · rw [List.getElem?_eq_none (by simp; omega)] at hx; cases hx
end
end Go.Proofs.Ytpkmnfpbcakflaa
