/- The walks of disk's public calls. No condition. -/
import Derived.Test.YtpkmnfpbcakflaaDisk
namespace Go.Proofs.Ytpkmnfpbcakflaa
open Go.ChangeShapes Go.WideShapes Go.ChangeAt Go.RowKit

/-- the blocks of X are as they were -/
abbrev Keep (X : Nat → Prop) (w w' : World) : Prop := Mod (fun k => ¬ X k) w w'
/-- a disk whose blocks are none of X's -/
def DiskOwn (X : Nat → Prop) (w : World) (p : Nat) (d : Dk) : Prop :=
  (∀ k, X k → k < w.heap.size) ∧ ∃ S bs bn vp us, DiskAt S w p bs bn vp us d ∧ ∀ k, X k → ¬ S k ∧ k ≠ p ∧ k ≠ bs ∧ k ≠ bn ∧ vp.ownBlock ≠ some k
theorem DiskOwn.below {X : Nat → Prop} {w w' : World} {p : Nat} {d : Dk} (h : DiskOwn X w p d) (hB : Below w.heap.size w w') : DiskOwn X w' p d := by
  obtain ⟨hX, S, bs, bn, vp, us, hD, hf⟩ := h
  exact ⟨fun k hk => Nat.lt_of_lt_of_le (hX k hk) hB.size, S, bs, bn, vp, us, hD.below hB, hf⟩
theorem DiskOwn.fewer {X Y : Nat → Prop} {w : World} {p : Nat} {d : Dk} (h : DiskOwn Y w p d) (hXY : ∀ k, X k → Y k) : DiskOwn X w p d := by
  obtain ⟨hX, S, bs, bn, vp, us, hD, hf⟩ := h
  exact ⟨fun k hk => hX k (hXY k hk), S, bs, bn, vp, us, hD, fun k hk => hf k (hXY k hk)⟩
theorem DiskOwn.more {X : Nat → Prop} {w w' : World} {p : Nat} {d : Dk} (h : DiskOwn X w p d) (hB : Below w.heap.size w w') : DiskOwn (More X w w') w' p d := by
  obtain ⟨hX, S, bs, bn, vp, us, hD, hf⟩ := h
  refine ⟨fun k hk => ?_, S, bs, bn, vp, us, hD.below hB, fun k hk => ?_⟩
  · rcases hk with hk | hk
    · exact Nat.lt_of_lt_of_le (hX k hk) hB.size
    · exact hk.2
  · rcases hk with hk | hk
    · exact hf k hk
    · have hall := hD.below_all
      refine ⟨fun e => ?_, fun e => ?_, fun e => ?_, fun e => ?_, fun e => ?_⟩
      · have := hall k (.inr (.inr (.inr (.inr e)))); omega
      · have := hall k (.inl e); omega
      · have := hall k (.inr (.inl e)); omega
      · have := hall k (.inr (.inr (.inl e))); omega
      · have := hall k (.inr (.inr (.inr (.inl e)))); omega
theorem DiskOwn.cell {X : Nat → Prop} {w : World} {p : Nat} {d : Dk} (h : DiskOwn X w p d) {k : Nat} (hk : X k) (j : Nat) (u : Value) : DiskOwn X (w.setCell ⟨k, j, none⟩ u) p d := by
  obtain ⟨hX, S, bs, bn, vp, us, hD, hf⟩ := h
  have hs : (w.setCell ⟨k, j, none⟩ u).heap.size = w.heap.size := by simp [World.setCell]
  refine ⟨fun i hi => by rw [hs]; exact hX i hi, S, bs, bn, vp, us, hD.move (Nat.le_of_eq hs.symm) fun i hi => heap_setCell_other w ⟨k, j, none⟩ i u ?_, hf⟩
  obtain ⟨h1, h2, h3, h4, h5⟩ := hf k hk
  show i ≠ k
  rintro rfl
  rcases hi with e | e | e | e | e
  · exact h2 e
  · exact h3 e
  · exact h4 e
  · exact h5 e
  · exact h1 e
theorem Keep.of_below {X : Nat → Prop} {w w' : World} (hB : Below w.heap.size w w') : Keep X w w' := Mod.of_below hB
theorem Keep.below {X : Nat → Prop} {B : Nat} {w w' : World} (h : Keep X w w') (hB : ∀ k, k < B → X k) (hBw : B ≤ w.heap.size) : Below B w w' :=
  ⟨h.os, h.tape, h.output, h.size, fun k hk => h.block k (by omega) (fun e => e (hB k hk))⟩

/-! counts, named, within -/
def countsM (d : Dk) : Bool × Dk :=
  if d.down || d.fuse == 0 then (false, { d with down := true }) else (true, { d with fuse := if 0 < d.fuse then d.fuse - 1 else d.fuse })

/-- the head alone has turned -/
theorem DiskAt.rehead {S : Nat → Prop} {w w' : World} {p bs bn : Nat} {vp : Value} {us : List Value} {d : Dk} (h : DiskAt S w p bs bn vp us d) (hM : Mod (fun k => k = p) w w') (room : Int) (fuse : Int) (down : Bool) (hh : HeadAt w' p room bs bn vp fuse down) :
    DiskAt S w' p bs bn vp us { d with room := room, fuse := fuse, down := down } := by
  have hk : ∀ k, (k = bs ∨ k = bn ∨ vp.ownBlock = some k ∨ S k) → w'.heap[k]? = w.heap[k]? := fun k hk => by
    refine hM.block k (h.below_all k (.inr hk)) ?_
    rintro rfl
    rcases hk with e | e | e | e
    · exact h.nep.1 e.symm
    · exact h.nep.2 e.symm
    · exact h.notp k e rfl
    · exact h.out.1 e
  exact ⟨hh, h.syn.same (hk bs (.inl rfl)) fun k e => hk k (.inr (.inr (.inr e))), h.now.same (hk bn (.inr (.inl rfl))) fun k e => hk k (.inr (.inr (.inr e))), h.pend.of_block fun k e => hk k (.inr (.inr (.inl e))), h.len,
    fun i x u hx hu => (h.bts i x u hx hu).move (fun k e => hk k (.inr (.inr (.inr e)))) fun _ h => h, h.ne, h.notp, h.out, fun k e => Nat.lt_of_lt_of_le (h.lt k e) hM.size⟩

theorem mod_p {p : Nat} {w : World} (j : Nat) (u : Value) : Mod (fun k => k = p) w (w.setCell ⟨p, j, none⟩ u) := Mod.setCell (S := fun k => k = p) (p := ⟨p, j, none⟩) (Mod.refl _ w) (.inr rfl) u

theorem counts_any (S : Nat → Prop) (p bs bn : Nat) (vp : Value) (us : List Value) (d : Dk) (w : World) (h : DiskAt S w p bs bn vp us d) (hf0 : -1 ≤ d.fuse) (hf1 : d.fuse ≤ 1000000000000) :
    Calls Try.prog 46 #[.pointer (some ⟨p, 0, none⟩)] w fun e w' => e = .returned (.bool (countsM d).1) ∧ DiskAt S w' p bs bn vp us (countsM d).2 ∧ Mod (fun k => k = p) w w' := by
  obtain ⟨-, -, -, -, c4, c5, hfz⟩ := h.head.cells
  have g4 := hfz 4
  have g5 := hfz 5
  clear hfz
  obtain ⟨room, syn, now, pend, fuse, down⟩ := d
  simp only at hf0 hf1 c4 c5
  have HX := Lib.hid h
  clear h
  cases down with
  | true =>
    rw [show countsM ⟨room, syn, now, pend, fuse, true⟩ = (false, ⟨room, syn, now, pend, fuse, true⟩) from rfl]
    by_cases h0 : fuse = 0
    · have t : (fuse == 0) = true := by simp [h0]
      clear h0
      go_enter Try.func46, Try.ntmps46
      go_wp2_with fail
      go_ret
      exact ⟨rfl, HX.out.rehead (mod_p _ _) _ _ _ (HX.out.head.set5 true), mod_p _ _⟩
    · have t : (fuse == 0) = false := by simp [h0]
      clear h0
      go_enter Try.func46, Try.ntmps46
      go_wp2_with fail
      go_ret
      exact ⟨rfl, HX.out, Mod.refl _ _⟩
  | false =>
    by_cases h0 : fuse = 0
    · rw [show countsM ⟨room, syn, now, pend, fuse, false⟩ = (false, ⟨room, syn, now, pend, fuse, true⟩) from by simp [countsM, h0]]
      have t : (fuse == 0) = true := by simp [h0]
      clear h0
      go_enter Try.func46, Try.ntmps46
      go_wp2_with fail
      go_ret
      exact ⟨rfl, HX.out.rehead (mod_p _ _) _ _ _ (HX.out.head.set5 true), mod_p _ _⟩
    · have t : (fuse == 0) = false := by simp [h0]
      by_cases h1 : 0 < fuse
      · rw [show countsM ⟨room, syn, now, pend, fuse, false⟩ = (true, ⟨room, syn, now, pend, fuse - 1, false⟩) from by simp [countsM, h0, h1]]
        clear h0
        go_enter Try.func46, Try.ntmps46
        go_wp2_with fail
        go_ret
        exact ⟨rfl, HX.out.rehead (mod_p _ _) _ _ _ (HX.out.head.set4 (fuse - 1)), mod_p _ _⟩
      · rw [show countsM ⟨room, syn, now, pend, fuse, false⟩ = (true, ⟨room, syn, now, pend, fuse, false⟩) from by simp [countsM, h0, h1]]
        clear h0
        go_enter Try.func46, Try.ntmps46
        go_wp2_with fail
        go_ret
        exact ⟨rfl, HX.out, Mod.refl _ _⟩

def namedB (s : ByteArray) : Bool := decide (1 ≤ s.size) && decide (s.size ≤ 16)
theorem named_any (s : ByteArray) (w : World) : Calls Try.prog 47 #[.string s] w fun e w' => e = .returned (.bool (namedB s)) ∧ w = w' := by
  unfold namedB
  by_cases h1 : 1 ≤ s.size
  · rw [decide_eq_true h1, Bool.true_and]
    go_enter Try.func47, Try.ntmps47
    go_wp2_with fail
    go_ret
    exact ⟨by simp; omega, rfl⟩
  · rw [decide_eq_false h1, Bool.false_and]
    have t : s.size = 0 := by omega
    go_enter Try.func47, Try.ntmps47
    go_wp2_with fail
    go_ret
    exact ⟨rfl, rfl⟩

def pickV (n k : Int) : Int := if n.tmod k < 0 then n.tmod k + k else n.tmod k
theorem pickV_at (n k : Int) (hk0 : 1 ≤ k) : ∃ m : Nat, pickV n k = m ∧ (m : Int) < k := by
  have b1 : -k < n.tmod k := by
    have := Int.lt_tmod_of_pos n (show 0 < k by omega); omega
  have b2 : n.tmod k < k := Int.tmod_lt_of_pos n (by omega)
  unfold pickV
  split
  · exact ⟨(n.tmod k + k).toNat, by omega, by omega⟩
  · exact ⟨(n.tmod k).toNat, by omega, by omega⟩
theorem within_any (n k : Int) (hk0 : 1 ≤ k) (hk : k ≤ 1000000000000) (w : World) :
    Calls Try.prog 50 #[.int .i64 n, .int .i64 k] w fun e w' => e = .returned (.int .i64 (pickV n k)) ∧ w' = w := by
  have b1 : -k < n.tmod k := by
    have := Int.lt_tmod_of_pos n (show 0 < k by omega); omega
  have b2 : n.tmod k < k := Int.tmod_lt_of_pos n (by omega)
  have hd : (k == 0) = false := by simp; omega
  unfold pickV
  by_cases hlt : n.tmod k < 0
  · rw [if_pos hlt]
    go_enter Try.func50, Try.ntmps50
    go_wp2
    go_ret
    exact ⟨rfl, rfl⟩
  · rw [if_neg hlt]
    go_enter Try.func50, Try.ntmps50
    go_wp2
    go_ret
    exact ⟨rfl, rfl⟩
end Go.Proofs.Ytpkmnfpbcakflaa
