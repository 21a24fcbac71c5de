/- The argument of chapter 2's laws: steps, opened to cells. No condition; no walk in sight. -/
import Derived.Test.YtpkmnfpbcakflaaDoorRows
import Derived.Test.YtpkmnfpbcakflaaDoorWeigh
import Derived.OpenShut
namespace Go.Proofs.YtpkmnfpbcakflaaDoor
open Go.ChangeShapes Go.WideShapes Go.Deep Go.RowKit

structure S2 where
  what : Int
  a : Int
  b : Int
  name : ByteArray
  dest : ByteArray
  bytes : List Int
  near : Bool
/-- step number i lies so -/
structure S2At (w : World) (ad : Option Addr) (i : Nat) (x : S2) : Prop where
  ex : ∃ bk off, ad = some ⟨bk, off, none⟩ ∧ bk < w.heap.size ∧ w.cell? ⟨bk, off + i * 7, none⟩ = some (.int .i64 x.what) ∧ w.cell? ⟨bk, off + i * 7 + 1, none⟩ = some (.int .i64 x.a) ∧ w.cell? ⟨bk, off + i * 7 + 2, none⟩ = some (.int .i64 x.b) ∧
    w.cell? ⟨bk, off + i * 7 + 3, none⟩ = some (.string x.name) ∧ w.cell? ⟨bk, off + i * 7 + 4, none⟩ = some (.string x.dest) ∧ w.cell? ⟨bk, off + i * 7 + 6, none⟩ = some (.bool x.near) ∧
    ∃ ab cb, w.cell? ⟨bk, off + i * 7 + 5, none⟩ = some (.slice ab x.bytes.length cb) ∧ x.bytes.length ≤ cb ∧ cb ≤ maxLen ∧ Src w 1 (.slice ab x.bytes.length cb) x.bytes.length (byteCells x.bytes)
  small : x.bytes.length ≤ 140737488351232
  range : ∀ n ∈ x.bytes, 0 ≤ n ∧ n < 256
  name : x.name.size ≤ maxLen
  dest : x.dest.size ≤ maxLen
  what : (Lit.int .i64 x.what).wf = true
  a : (Lit.int .i64 x.a).wf = true
  b : (Lit.int .i64 x.b).wf = true
def S2In (w : World) (a : Option Addr) (len : Nat) (xs : List S2) : Prop := xs.length = len ∧ ∀ i x, xs[i]? = some x → S2At w a i x

theorem fields2 : ∃ fs, Tryd.prog.underlying 34 = some (.struct fs) ∧ fs.size = 7 ∧ oneCellFields Tryd.prog fs = true ∧ (fs[0]?).map (·.type) = some 3 ∧ (fs[1]?).map (·.type) = some 3 ∧ (fs[2]?).map (·.type) = some 3 ∧ (fs[3]?).map (·.type) = some 9 ∧ (fs[4]?).map (·.type) = some 9 ∧ (fs[5]?).map (·.type) = some 32 ∧ (fs[6]?).map (·.type) = some 4 :=
  ⟨_, Tryd.underlying34, by kernel_rfl, by kernel_rfl, by kernel_rfl, by kernel_rfl, by kernel_rfl, by kernel_rfl, by kernel_rfl, by kernel_rfl, by kernel_rfl⟩
theorem cells2 : Tryd.prog.cellsOf 34 = 7 := by kernel_rfl
theorem bytesOne : Tryd.prog.bytesOf 5 = 1 := by kernel_rfl
theorem cellsB2 : Tryd.prog.cellsOf 5 = 1 := by kernel_rfl
section
variable {H : Type} {enc : TypeId × Value → H} {w : World} {base : Nat} {spare : Nat → Bool} {held : Bool}
theorem field_str {P : Program} {t : TypeId} {n : Nat} {u : Value} {y : DataW H × List MemPlace} (ht : P.underlying t = some .string) (h : DataW.trod enc P w base spare held n t [u] = some y) : ∃ m : ByteArray, u = .string m ∧ m.size ≤ maxLen := by
  obtain ⟨m, e, _, hw⟩ := DataW.trod_string ht h
  exact ⟨m, by simpa using e, hw⟩
theorem field_bool {P : Program} {t : TypeId} {n : Nat} {u : Value} {y : DataW H × List MemPlace} (ht : P.underlying t = some .bool) (h : DataW.trod enc P w base spare held n t [u] = some y) : ∃ m : Bool, u = .bool m := by
  obtain ⟨m, e, _⟩ := DataW.trod_bool ht h
  exact ⟨m, by simpa using e⟩
set_option maxRecDepth 100000 in
theorem open_steps2 {v : Value} {d : DataW H} {ps : List MemPlace} (hv : Value.okWide Tryd.prog w .any base 22 v) (h : DataW.Trod enc Tryd.prog w 0 spare held 22 v d ps) (hzw : ∀ q ∈ d.weights Tryd.prog 22, q ≤ reachBytes) :
    ∃ a len cap xs, v = .slice a len cap ∧ len ≤ maxLen ∧ S2In w a len xs := by
  obtain ⟨fs, hu, hs, hone, f0, f1, f2, f3, f4, f5, f6⟩ := fields2
  obtain ⟨a0, len0, cap0, rfl⟩ := okWide_slice Tryd.underlying22 hv
  obtain ⟨fuel, hf⟩ := h
  obtain ⟨a, len, cap, e, hl, hm, hrow⟩ := open_fieldsW Tryd.underlying22 hu hone (by rw [cells2, hs]) (by omega) hf
  simp only [Value.cells, List.cons.injEq, Value.slice.injEq, and_true] at e
  obtain ⟨rfl, rfl, rfl⟩ := e
  have key : ∀ i, ∃ x : S2, i < len0 → S2At w a0 i x := by
    intro i
    by_cases hi : i < len0
    · obtain ⟨bk, off, rfl, hfld⟩ := hrow i hi
      rw [hs] at hfld
      obtain ⟨g0, e0, t0⟩ := Option.map_eq_some_iff.1 f0
      obtain ⟨g1, e1, t1⟩ := Option.map_eq_some_iff.1 f1
      obtain ⟨g2, e2, t2⟩ := Option.map_eq_some_iff.1 f2
      obtain ⟨g3, e3, t3⟩ := Option.map_eq_some_iff.1 f3
      obtain ⟨g4, e4, t4⟩ := Option.map_eq_some_iff.1 f4
      obtain ⟨g5, e5, t5⟩ := Option.map_eq_some_iff.1 f5
      obtain ⟨g6, e6, t6⟩ := Option.map_eq_some_iff.1 f6
      obtain ⟨u0, y0, n0, c0, r0, z0⟩ := hfld 0 g0 e0
      obtain ⟨u1, y1, n1, c1, r1, z1⟩ := hfld 1 g1 e1
      obtain ⟨u2, y2, n2, c2, r2, z2⟩ := hfld 2 g2 e2
      obtain ⟨u3, y3, n3, c3, r3, z3⟩ := hfld 3 g3 e3
      obtain ⟨u4, y4, n4, c4, r4, z4⟩ := hfld 4 g4 e4
      obtain ⟨u5, y5, n5, c5, r5, z5⟩ := hfld 5 g5 e5
      obtain ⟨u6, y6, n6, c6, r6, z6⟩ := hfld 6 g6 e6
      rw [t0] at r0; rw [t1] at r1; rw [t2] at r2; rw [t3] at r3; rw [t4] at r4; rw [t5] at r5; rw [t6] at r6
      obtain ⟨m0, rfl, w0⟩ := field_int Tryd.underlying3 r0
      obtain ⟨m1, rfl, w1⟩ := field_int Tryd.underlying3 r1
      obtain ⟨m2, rfl, w2⟩ := field_int Tryd.underlying3 r2
      obtain ⟨m3, rfl, w3⟩ := field_str Tryd.underlying9 r3
      obtain ⟨m4, rfl, w4⟩ := field_str Tryd.underlying9 r4
      obtain ⟨ab, lb, cb, zs, rfl, hz, hlc, hcm, hsrc, hwf⟩ := field_ints Tryd.underlying32 Tryd.underlying5 cellsB2 r5
      have hsm : lb ≤ reachBytes := len_weight Tryd.underlying32 bytesOne r5 (fun q hq => hzw q (z5 q (by rw [t5]; exact hq)))
      unfold reachBytes at hsm
      obtain ⟨m6, rfl⟩ := field_bool Tryd.underlying4 r6
      subst hz
      exact ⟨⟨m0, m1, m2, m3, m4, zs, m6⟩, fun _ => ⟨⟨bk, off, rfl, World.block_lt_of_cell? _ _ c0, c0, c1, c2, c3, c4, c6, ab, cb, c5, hlc, hcm, hsrc⟩, hsm, bytes_wf hwf, w3, w4, w0, w1, w2⟩⟩
    · exact ⟨⟨0, 0, 0, ⟨#[]⟩, ⟨#[]⟩, [], false⟩, fun h => absurd h hi⟩
  obtain ⟨f, hf⟩ := Classical.axiomOfChoice key
  refine ⟨a0, len0, cap0, (List.range len0).map f, rfl, by omega, by simp, fun i x hx => ?_⟩
  rw [List.getElem?_map] at hx
  by_cases hi : i < len0
  · rw [List.getElem?_range hi] at hx
    simp at hx; subst hx
    exact hf i hi
  · rw [List.getElem?_eq_none (by simp; omega)] at hx; cases hx
end
end Go.Proofs.YtpkmnfpbcakflaaDoor
