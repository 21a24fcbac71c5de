/- Two families apart in one memory, the program's and the reference's; E: blocks that are neither's. No condition; no walk in sight. -/
import Derived.Test.YtakdcankhfeobaaROwn
namespace Go.Proofs.Ytakdcankhfeobaa
open Go.RowKit

def TwoG (w0 w : World) (E : Nat → Prop) (p q : Nat) (gs : List Gn) (l : Int) (gs' : List Gn) (l' : Int) : Prop :=
  Below w0.heap.size w0 w ∧ ∃ v vs v' vs', FamAt 64 67 w p v gs vs l ∧ FamAt 37 69 w q v' gs' vs' l' ∧ (∀ k, foot p v vs k → w0.heap.size ≤ k ∧ ¬ foot q v' vs' k ∧ ¬ E k) ∧ (∀ k, foot q v' vs' k → w0.heap.size ≤ k ∧ ¬ E k) ∧ ∀ k, E k → k < w.heap.size

theorem TwoG.left {w0 w : World} {E : Nat → Prop} {p q : Nat} {gs gs' : List Gn} {l l' : Int} (h : TwoG w0 w E p q gs l gs' l') :
    ∃ X : Nat → Prop, FamOwn 64 67 X w p gs l ∧ (∀ k, k < w0.heap.size → X k) ∧ (∀ k, E k → X k) ∧ ∀ w1 gs1 l1, FamOwn 64 67 X w1 p gs1 l1 → Keep X w w1 → TwoG w0 w1 E p q gs1 l1 gs' l' := by
  obtain ⟨hB, v, vs, v', vs', hA, hA', h1, h2, h3⟩ := h
  refine ⟨fun k => k < w0.heap.size ∨ foot q v' vs' k ∨ E k, ⟨fun k hk => ?_, v, vs, hA, fun k hk hx => ?_⟩, fun k hk => .inl hk, fun k hk => .inr (.inr hk), fun w1 gs1 l1 hF hK => ?_⟩
  · rcases hk with hk | hk | hk
    · have := hB.size; omega
    · exact hA'.lt hk
    · exact h3 k hk
  · obtain ⟨a, b, c⟩ := h1 k hk
    rcases hx with hx | hx | hx
    · omega
    · exact b hx
    · exact c hx
  · obtain ⟨hX, v1, vs1, hA1, hf⟩ := hF
    have keep : ∀ k, (k < w0.heap.size ∨ foot q v' vs' k ∨ E k) → k < w.heap.size → w1.heap[k]? = w.heap[k]? := fun k hk hl => hK.block k hl (fun e => e hk)
    refine ⟨⟨hK.os.trans hB.os, hK.tape.trans hB.tape, hK.output.trans hB.output, Nat.le_trans hB.size hK.size, fun k hk => (keep k (.inl hk) (by have := hB.size; omega)).trans (hB.block k hk)⟩, v1, vs1, v', vs', hA1, hA'.of_blocks (fun k hk => keep k (.inr (.inl hk)) (hA'.lt hk)), fun k hk => ?_, h2, fun k hk => Nat.lt_of_lt_of_le (h3 k hk) hK.size⟩
    have := hf k hk
    refine ⟨?_, fun e => this (.inr (.inl e)), fun e => this (.inr (.inr e))⟩
    rcases Nat.lt_or_ge k w0.heap.size with h | h
    · exact absurd (.inl h) this
    · exact h
theorem TwoG.right {w0 w : World} {E : Nat → Prop} {p q : Nat} {gs gs' : List Gn} {l l' : Int} (h : TwoG w0 w E p q gs l gs' l') :
    ∃ X : Nat → Prop, FamOwn 37 69 X w q gs' l' ∧ (∀ k, k < w0.heap.size → X k) ∧ (∀ k, E k → X k) ∧ ∀ w1 gs1 l1, FamOwn 37 69 X w1 q gs1 l1 → Keep X w w1 → TwoG w0 w1 E p q gs l gs1 l1 := by
  obtain ⟨hB, v, vs, v', vs', hA, hA', h1, h2, h3⟩ := h
  refine ⟨fun k => k < w0.heap.size ∨ foot p v vs k ∨ E k, ⟨fun k hk => ?_, v', vs', hA', fun k hk hx => ?_⟩, fun k hk => .inl hk, fun k hk => .inr (.inr hk), fun w1 gs1 l1 hF hK => ?_⟩
  · rcases hk with hk | hk | hk
    · have := hB.size; omega
    · exact hA.lt hk
    · exact h3 k hk
  · obtain ⟨a, c⟩ := h2 k hk
    rcases hx with hx | hx | hx
    · omega
    · exact (h1 k hx).2.1 hk
    · exact c hx
  · obtain ⟨hX, v1, vs1, hA1, hf⟩ := hF
    have keep : ∀ k, (k < w0.heap.size ∨ foot p v vs k ∨ E k) → k < w.heap.size → w1.heap[k]? = w.heap[k]? := fun k hk hl => hK.block k hl (fun e => e hk)
    refine ⟨⟨hK.os.trans hB.os, hK.tape.trans hB.tape, hK.output.trans hB.output, Nat.le_trans hB.size hK.size, fun k hk => (keep k (.inl hk) (by have := hB.size; omega)).trans (hB.block k hk)⟩, v, vs, v1, vs1, hA.of_blocks (fun k hk => keep k (.inr (.inl hk)) (hA.lt hk)), hA1, fun k hk => ?_, fun k hk => ?_, fun k hk => Nat.lt_of_lt_of_le (h3 k hk) hK.size⟩
    · obtain ⟨a, b, c⟩ := h1 k hk
      exact ⟨a, fun e => hf k e (.inr (.inl hk)), c⟩
    · have := hf k hk
      refine ⟨?_, fun e => this (.inr (.inr e))⟩
      rcases Nat.lt_or_ge k w0.heap.size with h | h
      · exact absurd (.inl h) this
      · exact h
theorem TwoG.below {w0 w w1 : World} {E : Nat → Prop} {p q : Nat} {gs gs' : List Gn} {l l' : Int} (h : TwoG w0 w E p q gs l gs' l') (hB1 : Below w.heap.size w w1) : TwoG w0 w1 E p q gs l gs' l' := by
  obtain ⟨hB, v, vs, v', vs', hA, hA', h1, h2, h3⟩ := h
  exact ⟨hB.trans (hB1.mono hB.size), v, vs, v', vs', hA.below hB1, hA'.below hB1, h1, h2, fun k hk => Nat.lt_of_lt_of_le (h3 k hk) hB1.size⟩
/-- other blocks are set apart: new ones, or none -/
theorem TwoG.apart {w0 w : World} {E E' : Nat → Prop} {p q : Nat} {gs gs' : List Gn} {l l' : Int} (h : TwoG w0 w E p q gs l gs' l') (hE : ∀ k, E' k → E k) : TwoG w0 w E' p q gs l gs' l' := by
  obtain ⟨hB, v, vs, v', vs', hA, hA', h1, h2, h3⟩ := h
  exact ⟨hB, v, vs, v', vs', hA, hA', fun k hk => ⟨(h1 k hk).1, (h1 k hk).2.1, fun e => (h1 k hk).2.2 (hE k e)⟩, fun k hk => ⟨(h2 k hk).1, fun e => (h2 k hk).2 (hE k e)⟩, fun k hk => h3 k (hE k hk)⟩
theorem TwoG.fresh {w0 w w1 : World} {E : Nat → Prop} {p q : Nat} {gs gs' : List Gn} {l l' : Int} (h : TwoG w0 w E p q gs l gs' l') (hB1 : Below w.heap.size w w1) : TwoG w0 w1 (fun k => E k ∨ (w.heap.size ≤ k ∧ k < w1.heap.size)) p q gs l gs' l' := by
  obtain ⟨hB, v, vs, v', vs', hA, hA', h1, h2, h3⟩ := h
  refine ⟨hB.trans (hB1.mono hB.size), v, vs, v', vs', hA.below hB1, hA'.below hB1, fun k hk => ⟨(h1 k hk).1, (h1 k hk).2.1, fun e => ?_⟩, fun k hk => ⟨(h2 k hk).1, fun e => ?_⟩, fun k hk => ?_⟩
  · rcases e with e | e
    · exact (h1 k hk).2.2 e
    · have := hA.lt hk; omega
  · rcases e with e | e
    · exact (h2 k hk).2 e
    · have := hA'.lt hk; omega
  · rcases hk with hk | hk
    · exact Nat.lt_of_lt_of_le (h3 k hk) hB1.size
    · exact hk.2
/-- a store into a block that is set apart -/
theorem TwoG.cell {w0 w : World} {E : Nat → Prop} {p q : Nat} {gs gs' : List Gn} {l l' : Int} (h : TwoG w0 w E p q gs l gs' l') {b : Nat} (hb : E b) (hb0 : w0.heap.size ≤ b) (j : Nat) (u : Value) : TwoG w0 (w.setCell ⟨b, j, none⟩ u) E p q gs l gs' l' := by
  obtain ⟨hB, v, vs, v', vs', hA, hA', h1, h2, h3⟩ := h
  have hs : (w.setCell ⟨b, j, none⟩ u).heap.size = w.heap.size := by simp [World.setCell]
  refine ⟨hB.setCell hb0 _, v, vs, v', vs', hA.of_blocks (fun k hk => heap_setCell_other _ _ _ _ ?_), hA'.of_blocks (fun k hk => heap_setCell_other _ _ _ _ ?_), h1, h2, fun k hk => by rw [hs]; exact h3 k hk⟩
  · show k ≠ b
    rintro rfl; exact (h1 k hk).2.2 hb
  · show k ≠ b
    rintro rfl; exact (h2 k hk).2 hb
end Go.Proofs.Ytakdcankhfeobaa
