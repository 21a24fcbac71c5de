/- The argument of the laws of chapter 23: steps, opened to cells. No condition; no walk in sight. -/
import Derived.Test.YtakdcankhfeobaaRows
import Derived.Test.YtakdcankhfeobaaOpen
import Derived.OpenShut
namespace Go.Proofs.Ytakdcankhfeobaa
open Go.ChangeShapes Go.WideShapes Go.Deep Go.RowKit

structure St where
  what : Int
  k : Int
  n : Int
  id : Int
  b : List Int

/-- step number i lies so -/
structure StepAt (w : World) (a : Option Addr) (i : Nat) (x : St) : Prop where
  ex : ∃ bk off, a = some ⟨bk, off, none⟩ ∧ w.cell? ⟨bk, off + i * 5, none⟩ = some (.int .i64 x.what) ∧ w.cell? ⟨bk, off + i * 5 + 1, none⟩ = some (.int .i64 x.k) ∧ w.cell? ⟨bk, off + i * 5 + 2, none⟩ = some (.int .i64 x.n) ∧ w.cell? ⟨bk, off + i * 5 + 3, none⟩ = some (.int .u64 x.id) ∧
    ∃ ab cb, w.cell? ⟨bk, off + i * 5 + 4, none⟩ = some (.slice ab x.b.length cb) ∧ x.b.length ≤ cb ∧ cb ≤ maxLen ∧ Src w 1 (.slice ab x.b.length cb) x.b.length (byteCells x.b)
  bytes : ∀ n ∈ x.b, 0 ≤ n ∧ n < 256
  what_wf : (Lit.int .i64 x.what).wf = true
  k_wf : (Lit.int .i64 x.k).wf = true
  n_wf : (Lit.int .i64 x.n).wf = true
  id_wf : (Lit.int .u64 x.id).wf = true

def StepsIn (w : World) (a : Option Addr) (len : Nat) (xs : List St) : Prop := xs.length = len ∧ ∀ i x, xs[i]? = some x → StepAt w a i x

theorem fields40 : ∃ fs, Try.prog.underlying 40 = some (.struct fs) ∧ fs.size = 5 ∧ oneCellFields Try.prog fs = true ∧ (fs[0]?).map (·.type) = some 3 ∧ (fs[1]?).map (·.type) = some 3 ∧ (fs[2]?).map (·.type) = some 3 ∧ (fs[3]?).map (·.type) = some 30 ∧ (fs[4]?).map (·.type) = some 27 :=
  ⟨_, Try.underlying40, by kernel_rfl, by kernel_rfl, by kernel_rfl, by kernel_rfl, by kernel_rfl, by kernel_rfl, by kernel_rfl⟩
theorem cells40 : Try.prog.cellsOf 40 = 5 := by kernel_rfl
theorem cells5 : Try.prog.cellsOf 5 = 1 := by kernel_rfl

section
variable {H : Type} {enc : TypeId × Value → H} {w : World} {base : Nat} {spare : Nat → Bool} {held : Bool}
theorem open_steps {v : Value} {d : DataW H} {ps : List MemPlace} (hv : Value.okWide Try.prog w .any base 33 v) (h : DataW.Trod enc Try.prog w 0 spare held 33 v d ps) :
    ∃ a len cap xs, v = .slice a len cap ∧ len ≤ maxLen ∧ StepsIn w a len xs := by
  obtain ⟨fs, hu, hs, hone, f0, f1, f2, f3, f4⟩ := fields40
  obtain ⟨a0, len0, cap0, rfl⟩ := okWide_slice Try.underlying33 hv
  obtain ⟨fuel, hf⟩ := h
  obtain ⟨a, len, cap, e, hl, hm, hrow⟩ := open_fields Try.underlying33 hu hone (by rw [cells40, hs]) (by omega) hf
  simp only [Value.cells, List.cons.injEq, Value.slice.injEq, and_true] at e
  obtain ⟨rfl, rfl, rfl⟩ := e
  have key : ∀ i, ∃ x : St, i < len0 → StepAt w a0 i x := by
    intro i
    by_cases hi : i < len0
    · obtain ⟨bk, off, rfl, hfld⟩ := hrow i hi
      rw [hs] at hfld
      obtain ⟨g0, e0, t0⟩ := Option.map_eq_some_iff.1 f0
      obtain ⟨g1, e1, t1⟩ := Option.map_eq_some_iff.1 f1
      obtain ⟨g2, e2, t2⟩ := Option.map_eq_some_iff.1 f2
      obtain ⟨g3, e3, t3⟩ := Option.map_eq_some_iff.1 f3
      obtain ⟨g4, e4, t4⟩ := Option.map_eq_some_iff.1 f4
      obtain ⟨u0, y0, n0, c0, r0⟩ := hfld 0 g0 e0
      obtain ⟨u1, y1, n1, c1, r1⟩ := hfld 1 g1 e1
      obtain ⟨u2, y2, n2, c2, r2⟩ := hfld 2 g2 e2
      obtain ⟨u3, y3, n3, c3, r3⟩ := hfld 3 g3 e3
      obtain ⟨u4, y4, n4, c4, r4⟩ := hfld 4 g4 e4
      rw [t0] at r0; rw [t1] at r1; rw [t2] at r2; rw [t3] at r3; rw [t4] at r4
      obtain ⟨m0, rfl, w0⟩ := field_int Try.underlying3 r0
      obtain ⟨m1, rfl, w1⟩ := field_int Try.underlying3 r1
      obtain ⟨m2, rfl, w2⟩ := field_int Try.underlying3 r2
      obtain ⟨m3, rfl, w3⟩ := field_int Try.underlying30 r3
      obtain ⟨ab, lb, cb, zs, rfl, hz, hlc, hcm, hsrc, hwf⟩ := field_ints Try.underlying27 Try.underlying5 cells5 r4
      subst hz
      exact ⟨⟨m0, m1, m2, m3, zs⟩, fun _ => ⟨⟨bk, off, rfl, c0, c1, c2, c3, ab, cb, c4, hlc, hcm, hsrc⟩, bytes_wf hwf, w0, w1, w2, w3⟩⟩
    · exact ⟨⟨0, 0, 0, 0, []⟩, fun h => absurd h hi⟩
  obtain ⟨f, hf⟩ := Classical.axiomOfChoice key
  refine ⟨a0, len0, cap0, (List.range len0).map f, rfl, by omega, by simp, fun i x hx => ?_⟩
  rw [List.getElem?_map] at hx
  by_cases hi : i < len0
  · rw [List.getElem?_range hi] at hx
    simp at hx; subst hx
    exact hf i hi
  · rw [List.getElem?_eq_none (by simp; omega)] at hx; cases hx
end
end Go.Proofs.Ytakdcankhfeobaa
