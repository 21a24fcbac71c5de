/- The arguments of the laws of chapter 24: steps and numbers, opened to cells. No condition; no walk in sight. -/
import Derived.Test.YtakdcankhfeobaaRows
import Derived.Test.YtakdcankhfeobaaOpen
import Derived.OpenShut
namespace Go.Proofs.Ytakdcankhfeobaa
open Go.ChangeShapes Go.WideShapes Go.Deep Go.RowKit

structure Sf where
  what : Int
  k : Int
  b : List Int

/-- step number i lies so -/
structure SfAt (w : World) (a : Option Addr) (i : Nat) (x : Sf) : Prop where
  ex : ∃ bk off, a = some ⟨bk, off, none⟩ ∧ w.cell? ⟨bk, off + i * 3, none⟩ = some (.int .i64 x.what) ∧ w.cell? ⟨bk, off + i * 3 + 1, none⟩ = some (.int .i64 x.k) ∧
    ∃ ab cb, w.cell? ⟨bk, off + i * 3 + 2, none⟩ = some (.slice ab x.b.length cb) ∧ x.b.length ≤ cb ∧ cb ≤ maxLen ∧ Src w 1 (.slice ab x.b.length cb) x.b.length (byteCells x.b)
  bytes : ∀ n ∈ x.b, 0 ≤ n ∧ n < 256

def SfIn (w : World) (a : Option Addr) (len : Nat) (xs : List Sf) : Prop := xs.length = len ∧ ∀ i x, xs[i]? = some x → SfAt w a i x
/-- numbers lie so -/
def NumsIn (w : World) (a : Option Addr) (len : Nat) (zs : List Int) : Prop := zs.length = len ∧ ∀ i z, zs[i]? = some z → ∃ bk off, a = some ⟨bk, off, none⟩ ∧ w.cell? ⟨bk, off + i, none⟩ = some (.int .i64 z)

theorem fields57 : ∃ fs, Try.prog.underlying 57 = some (.struct fs) ∧ fs.size = 3 ∧ oneCellFields Try.prog fs = true ∧ (fs[0]?).map (·.type) = some 3 ∧ (fs[1]?).map (·.type) = some 3 ∧ (fs[2]?).map (·.type) = some 27 :=
  ⟨_, Try.underlying57, by kernel_rfl, by kernel_rfl, by kernel_rfl, by kernel_rfl, by kernel_rfl⟩
theorem cells57 : Try.prog.cellsOf 57 = 3 := by kernel_rfl
theorem cellsF5 : Try.prog.cellsOf 5 = 1 := by kernel_rfl
theorem cells3 : Try.prog.cellsOf 3 = 1 := by kernel_rfl

section
variable {H : Type} {enc : TypeId × Value → H} {w : World} {base : Nat} {spare : Nat → Bool} {held : Bool}
theorem open_stepsf {v : Value} {d : DataW H} {ps : List MemPlace} (hv : Value.okWide Try.prog w .any base 52 v) (h : DataW.Trod enc Try.prog w 0 spare held 52 v d ps) :
    ∃ a len cap xs, v = .slice a len cap ∧ len ≤ maxLen ∧ SfIn w a len xs := by
  obtain ⟨fs, hu, hs, hone, f0, f1, f2⟩ := fields57
  obtain ⟨a0, len0, cap0, rfl⟩ := okWide_slice Try.underlying52 hv
  obtain ⟨fuel, hf⟩ := h
  obtain ⟨a, len, cap, e, hl, hm, hrow⟩ := open_fields Try.underlying52 hu hone (by rw [cells57, hs]) (by omega) hf
  simp only [Value.cells, List.cons.injEq, Value.slice.injEq, and_true] at e
  obtain ⟨rfl, rfl, rfl⟩ := e
  have key : ∀ i, ∃ x : Sf, i < len0 → SfAt w a0 i x := by
    intro i
    by_cases hi : i < len0
    · obtain ⟨bk, off, rfl, hfld⟩ := hrow i hi
      rw [hs] at hfld
      obtain ⟨g0, e0, t0⟩ := Option.map_eq_some_iff.1 f0
      obtain ⟨g1, e1, t1⟩ := Option.map_eq_some_iff.1 f1
      obtain ⟨g2, e2, t2⟩ := Option.map_eq_some_iff.1 f2
      obtain ⟨u0, y0, n0, c0, r0⟩ := hfld 0 g0 e0
      obtain ⟨u1, y1, n1, c1, r1⟩ := hfld 1 g1 e1
      obtain ⟨u2, y2, n2, c2, r2⟩ := hfld 2 g2 e2
      rw [t0] at r0; rw [t1] at r1; rw [t2] at r2
      obtain ⟨m0, rfl, w0⟩ := field_int Try.underlying3 r0
      obtain ⟨m1, rfl, w1⟩ := field_int Try.underlying3 r1
      obtain ⟨ab, lb, cb, zs, rfl, hz, hlc, hcm, hsrc, hwf⟩ := field_ints Try.underlying27 Try.underlying5 cellsF5 r2
      subst hz
      exact ⟨⟨m0, m1, zs⟩, fun _ => ⟨⟨bk, off, rfl, c0, c1, ab, cb, c2, hlc, hcm, hsrc⟩, bytes_wf hwf⟩⟩
    · exact ⟨⟨0, 0, []⟩, fun h => absurd h hi⟩
  obtain ⟨f, hf⟩ := Classical.axiomOfChoice key
  refine ⟨a0, len0, cap0, (List.range len0).map f, rfl, by omega, by simp, fun i x hx => ?_⟩
  rw [List.getElem?_map] at hx
  by_cases hi : i < len0
  · rw [List.getElem?_range hi] at hx
    simp at hx; subst hx
    exact hf i hi
  · rw [List.getElem?_eq_none (by simp; omega)] at hx; cases hx

theorem open_intlist {v : Value} {d : DataW H} {ps : List MemPlace} (hv : Value.okWide Try.prog w .any base 53 v) (h : DataW.Trod enc Try.prog w 0 spare held 53 v d ps) :
    ∃ a len cap zs, v = .slice a len cap ∧ len ≤ maxLen ∧ NumsIn w a len zs := by
  obtain ⟨a0, len0, cap0, rfl⟩ := okWide_slice Try.underlying53 hv
  obtain ⟨fuel, hf⟩ := h
  obtain ⟨a, len, cap, zs, e, hz, hlc, hcm, hsrc, -⟩ := field_ints Try.underlying53 Try.underlying3 cells3 hf
  simp only [Value.slice.injEq] at e
  obtain ⟨rfl, rfl, rfl⟩ := e
  refine ⟨a0, len0, cap0, zs, rfl, by omega, hz, fun i z hi => ?_⟩
  have hlt : i < zs.length := (List.getElem?_eq_some_iff.1 hi).1
  rcases hsrc.2.2 with ⟨_, h0⟩ | ⟨ad, c, e, hr⟩
  · omega
  · simp only [Value.slice.injEq, true_and] at e
    obtain ⟨rfl, rfl⟩ := e
    have hc := hr i (.int .i64 z) (by rw [List.getElem?_map, hi]; rfl)
    obtain ⟨bk, off, spot⟩ := ad
    have hsp : spot = none := by simpa [Addr.add] using World.cell?_spot (hr 0 _ (by rw [List.getElem?_map, List.getElem?_eq_getElem (show 0 < zs.length by omega)]; rfl))
    subst hsp
    exact ⟨bk, off, rfl, by rw [← add_plain]; exact hc⟩
end
end Go.Proofs.Ytakdcankhfeobaa
