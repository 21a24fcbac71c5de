/- The program's disk and the reference's, apart in one memory; E: blocks that are neither's. No condition; no walk in sight. -/
import Derived.Test.YtpkmnfpbcakflaaAll
import Derived.Test.YtpkmnfpbcakflaaRCrash
namespace Go.Proofs.Ytpkmnfpbcakflaa
open Go.ChangeShapes Go.WideShapes Go.ChangeAt Go.RowKit

def PairAt (w0 w : World) (E : Nat → Prop) (p q : Nat) (dp dq : Dk) : Prop :=
  Below w0.heap.size w0 w ∧ w0.heap.size ≤ q ∧ (∀ k, E k → w0.heap.size ≤ k ∧ k < w.heap.size ∧ k ≠ q) ∧
  ∃ T, RefOwn T w q dq ∧ (∀ k, T k → w0.heap.size ≤ k ∧ ¬ E k) ∧ DiskOwn (fun k => k < w0.heap.size ∨ k = q ∨ T k ∨ E k) w p dp

/-- .. behind a call that leaves the blocks of E, and those from before, as they are -/
def PairTo (w0 w w' : World) (E : Nat → Prop) (p q : Nat) (dp dq : Dk) : Prop := PairAt w0 w' E p q dp dq ∧ ∀ k, (k < w0.heap.size ∨ E k) → k < w.heap.size → w'.heap[k]? = w.heap[k]?

theorem RefOwn.lt {T : Nat → Prop} {w : World} {q : Nat} {d : Dk} (h : RefOwn T w q d) : q < w.heap.size ∧ ¬ T q ∧ ∀ k, T k → k < w.heap.size := by
  obtain ⟨sv, nv, wv, fu, fz, Ls, Ln, us, un, uw, hR⟩ := h
  exact ⟨hR.qlt, hR.out, hR.lt⟩
theorem RefOwn.move {T : Nat → Prop} {w w1 : World} {q : Nat} {d : Dk} (h : RefOwn T w q d) (hs : w.heap.size ≤ w1.heap.size) (hb : ∀ k, (k = q ∨ T k) → w1.heap[k]? = w.heap[k]?) : RefOwn T w1 q d := by
  obtain ⟨sv, nv, wv, fu, fz, Ls, Ln, us, un, uw, hR⟩ := h
  exact ⟨_, _, _, _, _, _, _, _, _, _, hR.move hs (hb q (.inl rfl)) fun k hk => hb k (.inr hk)⟩
theorem DiskOwn.modq {X : Nat → Prop} {w w1 : World} {p q : Nat} {d : Dk} (h : DiskOwn X w p d) (hq : X q) (hM : Mod (fun k => k = q) w w1) : DiskOwn (More X w w1) w1 p d := by
  obtain ⟨hX, S, bs, bn, vp, us, hD, hf⟩ := h
  have hall := hD.below_all
  obtain ⟨g1, g2, g3, g4, g5⟩ := hf q hq
  refine ⟨more_ltD hX hM.size, S, bs, bn, vp, us, hD.move hM.size fun k hk => hM.block k (hall k hk) ?_, fun k hk => ?_⟩
  · rintro rfl
    rcases hk with e | e | e | e | e
    · exact g2 e
    · exact g3 e
    · exact g4 e
    · exact g5 e
    · exact g1 e
  · rcases hk with hk | hk
    · exact hf k hk
    · refine ⟨fun e => ?_, fun e => ?_, fun e => ?_, fun e => ?_, fun e => ?_⟩
      · have := hall k (.inr (.inr (.inr (.inr e)))); omega
      · have := hall k (.inl e); omega
      · have := hall k (.inr (.inl e)); omega
      · have := hall k (.inr (.inr (.inl e))); omega
      · have := hall k (.inr (.inr (.inr (.inl e)))); omega
where
  more_ltD {X : Nat → Prop} {w w1 : World} (hX : ∀ k, X k → k < w.heap.size) (hs : w.heap.size ≤ w1.heap.size) : ∀ k, More X w w1 k → k < w1.heap.size := by
    rintro k (hk | hk)
    · exact Nat.lt_of_lt_of_le (hX k hk) hs
    · exact hk.2

section
variable {w0 w : World} {E : Nat → Prop} {p q : Nat} {dp dq : Dk}
theorem PairAt.left (h : PairAt w0 w E p q dp dq) : ∃ X : Nat → Prop, DiskOwn X w p dp ∧ (∀ k, k < w0.heap.size → X k) ∧ (∀ k, E k → X k) ∧ ∀ w1 dp1, DiskOwn X w1 p dp1 → Keep X w w1 → PairTo w0 w w1 E p q dp1 dq := by
  obtain ⟨hB, hq, hE, T, hR, hT, hD⟩ := h
  obtain ⟨l1, l2, l3⟩ := hR.lt
  refine ⟨_, hD, fun k hk => .inl hk, fun k hk => .inr (.inr (.inr hk)), fun w1 dp1 hD1 hK => ?_⟩
  have keep : ∀ k, (k < w0.heap.size ∨ k = q ∨ T k ∨ E k) → k < w.heap.size → w1.heap[k]? = w.heap[k]? := fun k hk hl => hK.block k hl fun e => e hk
  refine ⟨?_, fun k hk hl => keep k (by rcases hk with h | h; exact .inl h; exact .inr (.inr (.inr h))) hl⟩
  refine ⟨⟨hK.os.trans hB.os, hK.tape.trans hB.tape, hK.output.trans hB.output, Nat.le_trans hB.size hK.size, fun k hk => (keep k (.inl hk) (by have := hB.size; omega)).trans (hB.block k hk)⟩, hq, fun k hk => ?_, T, hR.move hK.size fun k hk => ?_, hT, hD1⟩
  · have := hE k hk; have := hK.size; omega
  · rcases hk with rfl | hk
    · exact keep k (.inr (.inl rfl)) l1
    · exact keep k (.inr (.inr (.inl hk))) (l3 k hk)
theorem PairAt.right (h : PairAt w0 w E p q dp dq) : ∃ T : Nat → Prop, RefOwn T w q dq ∧ (∀ k, E k → k ≠ q) ∧ ∀ w1 dq1, RefOut T w w1 q dq1 → PairTo w0 w w1 E p q dp dq1 := by
  obtain ⟨hB, hq, hE, T, hR, hT, hD⟩ := h
  obtain ⟨l1, l2, l3⟩ := hR.lt
  refine ⟨T, hR, fun k hk => (hE k hk).2.2, fun w1 dq1 ho => ?_⟩
  obtain ⟨T', hR1, hT', hM⟩ := ho
  obtain ⟨m1, m2, m3⟩ := hR1.lt
  have s0 := hB.size
  have s1 := hM.size
  refine ⟨?_, fun k hk hl => hM.block k hl (by rintro rfl; rcases hk with h | h; omega; exact (hE k h).2.2 rfl)⟩
  refine ⟨⟨hM.os.trans hB.os, hM.tape.trans hB.tape, hM.output.trans hB.output, Nat.le_trans s0 s1, fun k hk => (hM.block k (by omega) (by omega)).trans (hB.block k hk)⟩, hq, fun k hk => ?_, T', hR1, fun k hk => ?_, (hD.modq (q := q) (.inr (.inl rfl)) hM).fewer fun k hk => ?_⟩
  · have := hE k hk; omega
  · rcases hT' k hk with h | h
    · exact hT k h
    · exact ⟨by omega, fun e => by have := hE k e; omega⟩
  · rcases hk with hk | hk | hk | hk
    · exact .inl (.inl hk)
    · exact .inl (.inr (.inl hk))
    · rcases hT' k hk with h | h
      · exact .inl (.inr (.inr (.inl h)))
      · exact .inr ⟨h, m3 k hk⟩
    · exact .inl (.inr (.inr (.inr hk)))
theorem PairAt.below {w1 : World} (h : PairAt w0 w E p q dp dq) (hB1 : Below w.heap.size w w1) : PairAt w0 w1 E p q dp dq := by
  obtain ⟨hB, hq, hE, T, hR, hT, hD⟩ := h
  obtain ⟨l1, l2, l3⟩ := hR.lt
  refine ⟨hB.trans (hB1.mono hB.size), hq, fun k hk => ?_, T, hR.move hB1.size fun k hk => ?_, hT, hD.below hB1⟩
  · have := hE k hk; have := hB1.size; omega
  · rcases hk with rfl | hk
    · exact hB1.block k l1
    · exact hB1.block k (l3 k hk)
theorem PairAt.apart {E' : Nat → Prop} (h : PairAt w0 w E p q dp dq) (hE : ∀ k, E' k → E k) : PairAt w0 w E' p q dp dq := by
  obtain ⟨hB, hq, hE0, T, hR, hT, hD⟩ := h
  refine ⟨hB, hq, fun k hk => hE0 k (hE k hk), T, hR, fun k hk => ⟨(hT k hk).1, fun e => (hT k hk).2 (hE k e)⟩, hD.fewer fun k hk => ?_⟩
  rcases hk with hk | hk | hk | hk
  · exact .inl hk
  · exact .inr (.inl hk)
  · exact .inr (.inr (.inl hk))
  · exact .inr (.inr (.inr (hE k hk)))
theorem PairAt.fresh {w1 : World} (h : PairAt w0 w E p q dp dq) (hB1 : Below w.heap.size w w1) : PairAt w0 w1 (fun k => E k ∨ (w.heap.size ≤ k ∧ k < w1.heap.size)) p q dp dq := by
  obtain ⟨hB, hq, hE, T, hR, hT, hD⟩ := h
  obtain ⟨l1, l2, l3⟩ := hR.lt
  have s0 := hB.size
  have s1 := hB1.size
  refine ⟨hB.trans (hB1.mono hB.size), hq, fun k hk => ?_, T, hR.move hB1.size fun k hk => ?_, fun k hk => ⟨(hT k hk).1, fun e => ?_⟩, (hD.more hB1).fewer fun k hk => ?_⟩
  · rcases hk with hk | hk
    · have := hE k hk; omega
    · omega
  · rcases hk with rfl | hk
    · exact hB1.block k l1
    · exact hB1.block k (l3 k hk)
  · rcases e with e | e
    · exact (hT k hk).2 e
    · have := l3 k hk; omega
  · rcases hk with hk | hk | hk | hk | hk
    · exact .inl (.inl hk)
    · exact .inl (.inr (.inl hk))
    · exact .inl (.inr (.inr (.inl hk)))
    · exact .inl (.inr (.inr (.inr hk)))
    · exact .inr hk
/-- a store into a block that is set apart -/
theorem PairAt.cell (h : PairAt w0 w E p q dp dq) {b : Nat} (hb : E b) (j : Nat) (u : Value) : PairAt w0 (w.setCell ⟨b, j, none⟩ u) E p q dp dq := by
  obtain ⟨hB, hq, hE, T, hR, hT, hD⟩ := h
  have hs : (w.setCell ⟨b, j, none⟩ u).heap.size = w.heap.size := by simp [World.setCell]
  obtain ⟨e1, e2, e3⟩ := hE b hb
  refine ⟨hB.setCell e1 _, hq, fun k hk => by rw [hs]; exact hE k hk, T, hR.move (by rw [hs]; exact Nat.le_refl _) fun k hk => heap_setCell_other _ _ _ _ ?_, hT, hD.cell (.inr (.inr (.inr hb))) j u⟩
  show k ≠ b
  rintro rfl
  rcases hk with hk | hk
  · exact e3 hk
  · exact (hT k hk).2 hb

theorem PairAt.cells2 (h : PairAt w0 w E p q dp dq) : (∃ a c, w.cell? ⟨q, 3, none⟩ = some (.slice a dq.pend.length c)) ∧ w.cell? ⟨q, 6, none⟩ = some (.bool dq.down) ∧ (∃ n, w.cell? ⟨q, 0, none⟩ = some (.int .i64 n)) ∧ w.frozen? ⟨q, 0, none⟩ = false ∧ q < w.heap.size := by
  obtain ⟨hB, hq, hE, T, ⟨sv, nv, wv, fu, fz, Ls, Ln, us, un, uw, hR⟩, hT, hD⟩ := h
  obtain ⟨c0, -, -, c3, -, -, c6, hfr⟩ := rhead_cells hR.head
  obtain ⟨a, c, rfl, -⟩ := hR.wait.form
  exact ⟨⟨_, _, c3⟩, c6, ⟨_, c0⟩, hfr 0, hR.qlt⟩
theorem PairAt.space (h : PairAt w0 w E p q dp dq) (n : Int) : PairTo w0 w (w.setCell ⟨q, 0, none⟩ (.int .i64 n)) E p q dp { dq with room := n } := by
  obtain ⟨T, ⟨sv, nv, wv, fu, fz, Ls, Ln, us, un, uw, hR⟩, -, hn⟩ := h.right
  exact hn _ _ (RefAt.outOf (hR.rehead (d' := { dq with room := n }) (mod_p 0 _) (rhead_set hR.head 0 _) hR.fz rfl rfl rfl) (fun k hk => .inl hk) (mod_p 0 _))

/-! the calls -/
variable {C C' : Nat}
theorem PairAt.append (h : PairAt w0 w E p q dp dq) (hI : Inv C dp) (hC : C ≤ 1000000) (name : ByteArray) (ay : Option Addr) (m cy : Nat) (bs : List Int) (hn : name.size ≤ maxLen) (hm : bs.length = m) (hm2 : m ≤ 281474976710656)
    (hsrc : Src w 1 (.slice ay m cy) m (byteCells bs)) (hy : 0 < m → ∀ k, (Value.slice ay m cy).ownBlock = some k → k < w0.heap.size ∨ E k) (hbs : ∀ n ∈ bs, 0 ≤ n ∧ n < 256) :
    Calls Try.prog 18 #[.pointer (some ⟨p, 0, none⟩), .string name, .slice ay m cy] w fun e w' => e = .returned (.int .i64 (appendM dp name bs).1) ∧ PairTo w0 w w' E p q (appendM dp name bs).2 dq := by
  obtain ⟨X, hD, h0, hE, hn1⟩ := h.left
  refine (dappend X p dp w hD hI hC name ay m cy bs hn hm hm2 hsrc (fun hm k hk => by rcases hy hm k hk with h | h; exact h0 k h; exact hE k h) hbs).mono fun e w' ⟨he, hD1, hK⟩ => ⟨he, hn1 w' _ hD1 hK⟩
theorem PairAt.append2 (h : PairAt w0 w E p q dp dq) (hI : Inv C dq) (hC : C ≤ 1000000) (name : ByteArray) (ay : Option Addr) (m cy : Nat) (bs : List Int) (hn : name.size ≤ maxLen) (hm : bs.length = m) (hm2 : m ≤ 281474976710656)
    (hsrc : Src w 1 (.slice ay m cy) m (byteCells bs)) (hy : 0 < m → ∀ k, (Value.slice ay m cy).ownBlock = some k → k < w0.heap.size ∨ E k) (hbs : ∀ n ∈ bs, 0 ≤ n ∧ n < 256) :
    Calls Try.prog 59 #[.pointer (some ⟨q, 0, none⟩), .string name, .slice ay m cy] w fun e w' => e = .returned (.int .i64 (appendM dq name bs).1) ∧ PairTo w0 w w' E p q dp (appendM dq name bs).2 := by
  have hql := h.2.1
  obtain ⟨T, hR, hE, hn1⟩ := h.right
  have hf := hI.fuse
  have ht := hI.fine.total
  have hz := hI.fine.size
  have hp := hI.pend
  have hr := hI.room
  refine (rappend hR name ay m cy bs hn (by omega) (by omega) (by omega) (by omega) (by omega) (by omega) hsrc (fun hm e => ?_) hbs hm hm2).mono fun e w' ⟨he, ho⟩ => ⟨he, hn1 w' _ ho⟩
  rcases hy hm q e with h | h
  · omega
  · exact hE q h rfl
theorem PairAt.remove (h : PairAt w0 w E p q dp dq) (hI : Inv C dp) (hC : C ≤ 1000000) (name : ByteArray) (hn : name.size ≤ maxLen) :
    Calls Try.prog 25 #[.pointer (some ⟨p, 0, none⟩), .string name] w fun e w' => e = .returned (.int .i64 (removeM dp name).1) ∧ PairTo w0 w w' E p q (removeM dp name).2 dq := by
  obtain ⟨X, hD, -, -, hn1⟩ := h.left
  exact (dremove X p dp w hD hI hC name hn).mono fun e w' ⟨he, hD1, hK⟩ => ⟨he, hn1 w' _ hD1 hK⟩
theorem PairAt.remove2 (h : PairAt w0 w E p q dp dq) (hI : Inv C dq) (hC : C ≤ 1000000) (name : ByteArray) (hn : name.size ≤ maxLen) :
    Calls Try.prog 62 #[.pointer (some ⟨q, 0, none⟩), .string name] w fun e w' => e = .returned (.int .i64 (removeM dq name).1) ∧ PairTo w0 w w' E p q dp (removeM dq name).2 := by
  obtain ⟨T, hR, -, hn1⟩ := h.right
  have hf := hI.fuse
  have ht := hI.fine.total
  have hz := hI.fine.size
  have hp := hI.pend
  exact (rremove hR name hn (by omega) (by omega) (by omega) (by omega)).mono fun e w' ⟨he, ho⟩ => ⟨he, hn1 w' _ ho⟩
theorem PairAt.rename (h : PairAt w0 w E p q dp dq) (hI : Inv C dp) (hC : C ≤ 1000000) (name to_ : ByteArray) (hn : name.size ≤ maxLen) (hto : to_.size ≤ maxLen) :
    Calls Try.prog 57 #[.pointer (some ⟨p, 0, none⟩), .string name, .string to_] w fun e w' => e = .returned (.int .i64 (renameM dp name to_).1) ∧ PairTo w0 w w' E p q (renameM dp name to_).2 dq := by
  obtain ⟨X, hD, -, -, hn1⟩ := h.left
  exact (drename X p dp w hD hI hC name to_ hn hto).mono fun e w' ⟨he, hD1, hK⟩ => ⟨he, hn1 w' _ hD1 hK⟩
theorem PairAt.rename2 (h : PairAt w0 w E p q dp dq) (hI : Inv C dq) (hC : C ≤ 1000000) (name to_ : ByteArray) (hn : name.size ≤ maxLen) (hto : to_.size ≤ maxLen) :
    Calls Try.prog 70 #[.pointer (some ⟨q, 0, none⟩), .string name, .string to_] w fun e w' => e = .returned (.int .i64 (renameM dq name to_).1) ∧ PairTo w0 w w' E p q dp (renameM dq name to_).2 := by
  obtain ⟨T, hR, -, hn1⟩ := h.right
  have hf := hI.fuse
  have ht := hI.fine.total
  have hz := hI.fine.size
  have hp := hI.pend
  exact (rrename hR name to_ hn hto (by omega) (by omega) (by omega) (by omega)).mono fun e w' ⟨he, ho⟩ => ⟨he, hn1 w' _ ho⟩
theorem PairAt.sync (h : PairAt w0 w E p q dp dq) (hI : Inv C dp) :
    Calls Try.prog 21 #[.pointer (some ⟨p, 0, none⟩)] w fun e w' => e = .returned (.int .i64 (syncM dp).1) ∧ PairTo w0 w w' E p q (syncM dp).2 dq := by
  obtain ⟨X, hD, -, -, hn1⟩ := h.left
  exact (dsync X p dp w hD hI).mono fun e w' ⟨he, hD1, hK⟩ => ⟨he, hn1 w' _ hD1 hK⟩
theorem PairAt.sync2 (h : PairAt w0 w E p q dp dq) (hI : Inv C dq) :
    Calls Try.prog 60 #[.pointer (some ⟨q, 0, none⟩)] w fun e w' => e = .returned (.int .i64 (syncM dq).1) ∧ PairTo w0 w w' E p q dp (syncM dq).2 := by
  obtain ⟨T, hR, -, hn1⟩ := h.right
  have hf := hI.fuse
  exact (rsync hR (by omega)).mono fun e w' ⟨he, ho⟩ => ⟨he, hn1 w' _ ho⟩
theorem PairAt.fuse (h : PairAt w0 w E p q dp dq) (n : Int) :
    Calls Try.prog 23 #[.pointer (some ⟨p, 0, none⟩), .int .i64 n] w fun e w' => e = .returned (.tuple #[]) ∧ PairTo w0 w w' E p q (fused dp n) dq := by
  obtain ⟨X, hD, -, -, hn1⟩ := h.left
  exact (dfuse X p dp w hD n).mono fun e w' ⟨he, hD1, hK⟩ => ⟨he, hn1 w' _ hD1 hK⟩
theorem PairAt.fuse2 (h : PairAt w0 w E p q dp dq) (n : Int) :
    Calls Try.prog 67 #[.pointer (some ⟨q, 0, none⟩), .int .i64 n] w fun e w' => e = .returned (.tuple #[]) ∧ PairTo w0 w w' E p q dp (fused dq n) := by
  obtain ⟨T, hR, -, hn1⟩ := h.right
  exact (rfuse hR n).mono fun e w' ⟨he, ho⟩ => ⟨he, hn1 w' _ ho⟩
theorem PairAt.crash (h : PairAt w0 w E p q dp dq) (hI : Inv C dp) (hC : C ≤ 1000000) (keep torn : Int) :
    Calls Try.prog 19 #[.pointer (some ⟨p, 0, none⟩), .int .i64 keep, .int .i64 torn] w fun e w' => e = .returned (.int .i64 (crashM dp keep torn).1) ∧ PairTo w0 w w' E p q (crashM dp keep torn).2 dq := by
  obtain ⟨X, hD, -, -, hn1⟩ := h.left
  exact (dcrash X p dp w hD hI hC keep torn).mono fun e w' ⟨he, hD1, hK⟩ => ⟨he, hn1 w' _ hD1 hK⟩
theorem PairAt.crash2 (h : PairAt w0 w E p q dp dq) (hI : Inv C dq) (hC : C ≤ 1000000) (keep torn : Int) :
    Calls Try.prog 68 #[.pointer (some ⟨q, 0, none⟩), .int .i64 keep, .int .i64 torn] w fun e w' => e = .returned (.int .i64 (crashM dq keep torn).1) ∧ PairTo w0 w w' E p q dp (crashM dq keep torn).2 := by
  obtain ⟨T, hR, -, hn1⟩ := h.right
  have hp := hI.pend
  obtain ⟨k, hk, hkl⟩ := pickV_at keep (dq.pend.length + 1) (by omega)
  unfold crashM
  rw [hk, Int.toNat_natCast]
  exact (rcrash hR keep torn hI.hist.ok (by omega) (fun j => by have := (hI.hist.take j).total; omega) k hk (by omega)).mono fun e w' ⟨he, ho⟩ => ⟨he, hn1 w' _ ho⟩
theorem PairAt.room (h : PairAt w0 w E p q dp dq) (n : Int) (h0 : 0 ≤ n) (h1 : n ≤ 8388608) :
    Calls Try.prog 69 #[.pointer (some ⟨p, 0, none⟩), .int .i64 n] w fun e w' => e = .returned (.int .i64 0) ∧ PairTo w0 w w' E p q { dp with room := n } dq := by
  obtain ⟨X, hD, -, -, hn1⟩ := h.left
  exact (room_yes X p dp w hD n h0 h1).mono fun e w' ⟨he, hD1, hK⟩ => ⟨he, hn1 w' _ hD1 hK⟩
theorem PairAt.read (h : PairAt w0 w E p q dp dq) (hI : Inv C dp) (name : ByteArray) (hn : name.size ≤ maxLen) :
    Calls Try.prog 20 #[.pointer (some ⟨p, 0, none⟩), .string name] w fun e w' => ReadOut w w' e (hasF dp.now name && !dp.down) (getF dp.now name) := by
  obtain ⟨X, hD, -⟩ := h.left
  exact dread X p dp w hD hI name hn
theorem PairAt.read2 (h : PairAt w0 w E p q dp dq) (name : ByteArray) : ∃ T,
    Calls Try.prog 63 #[.pointer (some ⟨q, 0, none⟩), .string name] w fun e w' => RReadOut T w w' e (hasF dq.now name && !dq.down) (getF dq.now name) := by
  obtain ⟨T, ⟨sv, nv, wv, fu, fz, Ls, Ln, us, un, uw, hR⟩, -⟩ := h.right
  exact ⟨T, rread hR name⟩
theorem PairAt.used (h : PairAt w0 w E p q dp dq) (hI : Inv C dp) : Calls Try.prog 48 #[.pointer (some ⟨p, 0, none⟩)] w fun e w' => e = .returned (.int .i64 (usedV dp.now dp.down)) ∧ Below w.heap.size w w' := by
  obtain ⟨X, hD, -⟩ := h.left
  exact dused X p dp w hD hI
theorem PairAt.used2 (h : PairAt w0 w E p q dp dq) (hI : Inv C dq) : Calls Try.prog 66 #[.pointer (some ⟨q, 0, none⟩)] w fun e w' => e = .returned (.int .i64 (usedV dq.now dq.down)) ∧ w = w' := by
  obtain ⟨T, ⟨sv, nv, wv, fu, fz, Ls, Ln, us, un, uw, hR⟩, -⟩ := h.right
  have ht := hI.fine.total
  have hz := hI.fine.size
  rw [← hR.eqn, size_filesOf] at hz
  exact rused hR (by omega) (by omega)
theorem PairAt.names (h : PairAt w0 w E p q dp dq) (hI : Inv C dp) : Calls Try.prog 26 #[.pointer (some ⟨p, 0, none⟩)] w fun e w' => NamesOut w w' e (if dp.down then [] else strKeys dp.now) := by
  obtain ⟨X, hD, -⟩ := h.left
  exact dnames X p dp w hD hI
theorem strKeys_files (L : Fl) : (strKeys (filesOf L)).map Go.Proofs.encStr = rnames L := by
  show ((L.map fun x => (strKey x.1, (.held x.2 : Fs))).map fun p => strOf p.1).map _ = _
  rw [List.map_map, List.map_map]
  refine List.map_congr_left fun x _ => ?_
  exact encStr_key x.1
theorem PairAt.names2 (h : PairAt w0 w E p q dp dq) (hI : Inv C dq) : Calls Try.prog 65 #[.pointer (some ⟨q, 0, none⟩)] w fun e w' => NamesOut w w' e (if dq.down then [] else strKeys dq.now) := by
  obtain ⟨T, ⟨sv, nv, wv, fu, fz, Ls, Ln, us, un, uw, hR⟩, -⟩ := h.right
  have hz := hI.fine.size
  rw [← hR.eqn, size_filesOf] at hz
  refine (rnames_up hR (by omega)).mono fun e w' ⟨v, he, hrow, hfr, hB⟩ => ⟨v, he, ?_, hfr, hB⟩
  rw [← hR.eqn]
  cases hdn : dq.down with
  | true => rw [hdn] at hrow; exact hrow
  | false =>
    rw [hdn] at hrow
    simp only [Bool.false_eq_true, if_false] at hrow ⊢
    rw [strKeys_files]
    have : (strKeys (filesOf Ln)).length = (rnames Ln).length := by rw [← strKeys_files, List.length_map]
    rw [this]; exact hrow
theorem PairAt.pending (h : PairAt w0 w E p q dp dq) : Calls Try.prog 22 #[.pointer (some ⟨p, 0, none⟩)] w fun e w' => e = .returned (.int .i64 dp.pend.length) ∧ w = w' := by
  obtain ⟨X, hD, -⟩ := h.left
  exact pending_own X p dp w hD
theorem PairAt.down (h : PairAt w0 w E p q dp dq) : Calls Try.prog 24 #[.pointer (some ⟨p, 0, none⟩)] w fun e w' => e = .returned (.bool dp.down) ∧ w = w' := by
  obtain ⟨X, hD, -⟩ := h.left
  exact down_own X p dp w hD
end
end Go.Proofs.Ytpkmnfpbcakflaa
