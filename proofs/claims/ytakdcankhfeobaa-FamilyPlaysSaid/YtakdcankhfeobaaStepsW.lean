/- How long the bytes of the steps of chapter 23's laws are, by the form's weights. No condition; no walk in sight. -/
import Derived.Test.YtakdcankhfeobaaSteps
import Derived.Test.YtakdcankhfeobaaWeigh
namespace Go.Proofs.Ytakdcankhfeobaa
open Go.ChangeShapes Go.WideShapes Go.Deep Go.RowKit

theorem bytesOne : Try.prog.bytesOf 5 = 1 := by kernel_rfl
section
variable {H : Type} {enc : TypeId × Value → H} {w : World} {base : Nat} {spare : Nat → Bool} {held : Bool}
theorem steps_small {a : Option Addr} {len cap : Nat} {xs : List St} {d : DataW H} {ps : List MemPlace} (h : DataW.Trod enc Try.prog w 0 spare held 33 (.slice a len cap) d ps) (hx : StepsIn w a len xs) (hz : ∀ q ∈ d.weights Try.prog 33, q ≤ reachBytes) :
    ∀ (i : Nat) (x : St), xs[i]? = some x → x.b.length ≤ 140737488351232 := by
  intro i x hi
  obtain ⟨fs, hu, hs, hone, f0, f1, f2, f3, f4⟩ := fields40
  obtain ⟨fuel, hf⟩ := h
  obtain ⟨a', len', cap', e, hl, hm, hrow⟩ := open_fieldsW Try.underlying33 hu hone (by rw [cells40, hs]) (by omega) hf
  simp only [Value.cells, List.cons.injEq, Value.slice.injEq, and_true] at e
  obtain ⟨rfl, rfl, rfl⟩ := e
  have hil : i < len := by rw [← hx.1]; exact (List.getElem?_eq_some_iff.1 hi).1
  obtain ⟨bk, off, ha, hfld⟩ := hrow i hil
  obtain ⟨⟨bk', off', ha', -, -, -, -, ab, cb, c4, -⟩, -⟩ := hx.2 i x hi
  obtain ⟨g4, e4, t4⟩ := Option.map_eq_some_iff.1 f4
  obtain ⟨u4, y4, n4, c4', r4, z4⟩ := hfld 4 g4 e4
  rw [ha] at ha'
  simp only [Option.some.injEq, Addr.mk.injEq, and_true] at ha'
  obtain ⟨rfl, rfl⟩ := ha'
  rw [hs] at c4'
  obtain rfl := Option.some.inj (c4'.symm.trans c4)
  rw [t4] at r4 z4
  have := len_weight Try.underlying27 bytesOne r4 (fun q hq => hz q (z4 q hq))
  unfold reachBytes at this
  omega
end
end Go.Proofs.Ytakdcankhfeobaa
