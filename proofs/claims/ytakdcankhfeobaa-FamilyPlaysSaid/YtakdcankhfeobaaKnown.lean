/- The walks of family.New and of the closed sentence of chapter 23's example. No condition. -/
import Derived.Test.YtakdcankhfeobaaOwn
import Derived.Lib.SlBytesConst
import Derived.Laws.StructEq
namespace Go.Proofs.Ytakdcankhfeobaa
open Go.ChangeShapes Go.WideShapes Go.ChangeAt Go.RowKit

theorem FamAt.new (w : World) : FamAt 64 67 (w.alloc (.cells #[.slice none 0 0, .int .u64 0] 64)) w.heap.size (.slice none 0 0) [] [] 0 where
  head := heap_alloc_new w _
  row := Row.nil _ _ _
  len := rfl
  inner := by intro i g u h; simp at h
  apart := List.Pairwise.nil
  out := by intro u hu; simp at hu
  notp := ⟨by simp [Value.ownBlock], by intro u hu; simp at hu⟩
  bytes := by intro g hg; simp at hg

/-- a new family's pointer -/
def NewFam (w w' : World) (e : Ending) : Prop := ∃ p, e = .returned (.pointer (some ⟨p, 0, none⟩)) ∧ FamAt 64 67 w' p (.slice none 0 0) [] [] 0 ∧ p = w.heap.size ∧ Below w.heap.size w w'

theorem new_any (w : World) : Calls Try.prog 9 #[] w fun e w' => NewFam w w' e := by
  go_enter Try.func9, Try.ntmps9
  go_wp2
  go_ret
  exact ⟨_, rfl, FamAt.new w, rfl, (Below.refl _ _).alloc (Nat.le_refl _) _⟩


theorem FamOwn.fewer {Tf Tg : TypeId} {X Y : Nat → Prop} {w : World} {p : Nat} {gs : List Gn} {l : Int} (h : FamOwn Tf Tg Y w p gs l) (hXY : ∀ k, X k → Y k) : FamOwn Tf Tg X w p gs l := by
  obtain ⟨hX, v, vs, hF, hf⟩ := h
  exact ⟨fun k hk => hX k (hXY k hk), v, vs, hF, fun k hk hx => hf k hk (hXY k hx)⟩
theorem Keep.fewer {X Y : Nat → Prop} {w w' : World} (h : Keep Y w w') (hXY : ∀ k, X k → Y k) : Keep X w w' := h.mono fun _ _ hk hx => hk (hXY _ hx)
/-- the blocks of X and the new ones -/
def Plus (X : Nat → Prop) (w w' : World) (k : Nat) : Prop := X k ∨ (w.heap.size ≤ k ∧ k < w'.heap.size)
theorem FamOwn.more {Tf Tg : TypeId} {X : Nat → Prop} {w w' : World} {p : Nat} {gs : List Gn} {l : Int} (h : FamOwn Tf Tg X w p gs l) (hB : Below w.heap.size w w') : FamOwn Tf Tg (Plus X w w') w' p gs l := by
  obtain ⟨hX, v, vs, hF, hf⟩ := h
  refine ⟨fun k hk => ?_, v, vs, hF.below hB, fun k hk hx => ?_⟩
  · rcases hk with hk | hk
    · exact Nat.lt_of_lt_of_le (hX k hk) hB.size
    · exact hk.2
  · rcases hx with hx | hx
    · exact hf k hk hx
    · have := hF.lt hk; omega
theorem Plus.left {X : Nat → Prop} {w w' : World} : ∀ k, X k → Plus X w w' k := fun _ h => .inl h
theorem Keep.below {X : Nat → Prop} {B : Nat} {w w' : World} (h : Keep X w w') (hB : ∀ k, k < B → X k) (hBw : B ≤ w.heap.size) : Below B w w' :=
  ⟨h.os, h.tape, h.output, h.size, fun k hk => h.block k (by omega) (fun e => e (hB k hk))⟩
theorem FamOwn.new (w w1 : World) (p : Nat) (hF : FamAt 64 67 w1 p (.slice none 0 0) [] [] 0) (hp : p = w.heap.size) (hB : Below w.heap.size w w1) : FamOwn 64 67 (fun k => k < w.heap.size) w1 p [] 0 := by
  refine ⟨fun k hk => Nat.lt_of_lt_of_le hk hB.size, _, _, hF, fun k hk hx => ?_⟩
  rcases hk with rfl | hk | ⟨u, hu, _⟩
  · omega
  · simp [Value.ownBlock] at hk
  · simp at hu

/-- a constant's bytes: a new block, and what is appended of it -/
theorem src_const (w : World) (cs : Array Value) (fr : Nat × Nat) (n : Nat) (b : List Int) (hn : b.length = n) (hcs : cs.toList = byteCells b) :
    Src (w.alloc (.cells cs 5 fr)) 1 (.slice (some ⟨w.heap.size, 0, none⟩) n n) n (byteCells b) := by
  rw [← hcs]
  refine Src.of_block (heap_alloc_new w _) n n ?_ (by rw [hcs]; exact byteCells_one b)
  have : cs.toList.length = (byteCells b).length := by rw [hcs]
  rw [byteCells_len] at this
  simpa [hn] using this

set_option maxHeartbeats 1000000 in
theorem known_any (w : World) : Calls Try.prog 10 #[] w fun e w' => e = .returned (.bool true) ∧ Below w.heap.size w w' := by
  have kc := fun (w : World) (C : Array Value) (n c : Nat) => Lib.run_convert_bytes_const (P := Try.prog) w 27 5 C n c Try.underlying27 Try.underlying5
  go_enter Try.func10, Try.ntmps10
  go_wp2_with fail
  refine (new_any _).mono ?_
  rintro e w1 ⟨p, rfl, hA1, hp, hB1⟩
  have F1 := FamOwn.new w w1 p hA1 hp hB1
  clear hA1 hp
  go_wp2_with fail
  have S1 := src_const w1 #[.int .u8 97, .int .u8 98] (2, 3) 2 [97, 98] rfl rfl
  have F1' := F1.more ((Below.refl _ w1).alloc (Nat.le_refl _) (.cells #[.int .u8 97, .int .u8 98] 5 (2, 3)))
  refine (append_own _ p [] 0 0 _ F1' Good.nil (by omega) _ _ _ _ S1 (by intro _ k hk; simp [Value.ownBlock] at hk; subst hk; exact .inr ⟨Nat.le_refl _, by simp⟩) (by decide) (by omega)).mono ?_
  rintro e w2 ⟨rfl, F2, hK2⟩
  have F2 := F2.fewer Plus.left
  have hB2 := hB1.trans (((Below.refl _ w1).alloc (Nat.le_refl _) (.cells #[.int .u8 97, .int .u8 98] 5 (2, 3))).mono hB1.size |>.trans (hK2.below (B := w.heap.size) (fun k hk => .inl hk) (by have := hB1.size; simp; omega)))
  have e2 : appendM [] 0 [97, 98] = (0, [⟨1, 0, [97, 98]⟩], 1) := by rfl
  rw [e2] at F2 ⊢
  dsimp only at F2 ⊢
  clear F1 F1' S1 hK2 hB1 e2
  have G2 : Good 1 [⟨1, 0, [97, 98]⟩] 1 := ⟨by simp, by simp, by omega⟩
  go_wp2_with fail
  refine (rename_own _ p _ _ 1 _ F2 G2 (by omega)).mono ?_
  rintro e w3 ⟨rfl, F3, hK3⟩
  have hB3 := hB2.trans (hK3.below (B := w.heap.size) (fun k hk => hk) hB2.size)
  have e3 : renameM [⟨1, 0, [97, 98]⟩] = (0, [⟨1, 1, [97, 98]⟩]) := by rfl
  rw [e3] at F3 ⊢
  dsimp only at F3 ⊢
  clear F2 hK3 hB2 e3 G2
  have G3 : Good 1 [⟨1, 1, [97, 98]⟩] 1 := ⟨by simp, by simp, by omega⟩
  go_wp2_with fail
  have S1 := src_const w3 #[.int .u8 99] (1, 2) 1 [99] rfl rfl
  have F3' := F3.more ((Below.refl _ w3).alloc (Nat.le_refl _) (.cells #[.int .u8 99] 5 (1, 2)))
  refine (append_own _ p _ _ 1 _ F3' G3 (by omega) _ _ _ _ S1 (by intro _ k hk; simp [Value.ownBlock] at hk; subst hk; exact .inr ⟨Nat.le_refl _, by simp⟩) (by decide) (by omega)).mono ?_
  rintro e w4 ⟨rfl, F4, hK4⟩
  have F4 := F4.fewer Plus.left
  have hB4 := hB3.trans (((Below.refl _ w3).alloc (Nat.le_refl _) (.cells #[.int .u8 99] 5 (1, 2))).mono hB3.size |>.trans (hK4.below (B := w.heap.size) (fun k hk => .inl hk) (by have := hB3.size; simp; omega)))
  have e4 : appendM [⟨1, 1, [97, 98]⟩] 1 [99] = (0, [⟨1, 1, [97, 98]⟩, ⟨2, 0, [99]⟩], 2) := by rfl
  rw [e4] at F4 ⊢
  dsimp only at F4 ⊢
  clear F3 F3' S1 hK4 hB3 e4 G3
  have G4 : Good 2 [⟨1, 1, [97, 98]⟩, ⟨2, 0, [99]⟩] 2 := ⟨by simp, by simp, by omega⟩
  go_wp2_with fail
  refine (list_own _ p _ _ 2 _ F4 G4).mono ?_
  rintro e w5 ⟨vl, rfl, Rl, hfr, hB5⟩
  have F5 := F4.below hB5
  obtain ⟨al, cl, rfl, -⟩ := Rl.form
  go_wp2_with fail
  refine (read_own _ p _ _ 2 1 1 9 _ F5 G4).mono ?_
  rintro e w6 hr
  obtain ⟨vr, rfl, Rr, hfr2, hB6⟩ : ReadYes w5 w6 e [98] := hr
  obtain ⟨ar, cr, rfl, -⟩ := Rr.form
  have Rl6 := Rl.of_block (fun k hk => hB6.block k (Rl.lt hk))
  obtain ⟨g, rfl, -, hc, -⟩ := Rl6.view (by simp)
  have d0 : w6.cell? ⟨g, 0, none⟩ = some (.int .u64 1) := hc 0 (by simp)
  have d1 : w6.cell? ⟨g, 1, none⟩ = some (.int .i64 1) := hc 1 (by simp)
  have d2 : w6.cell? ⟨g, 2, none⟩ = some (.int .i64 2) := hc 2 (by simp)
  have d3 : w6.cell? ⟨g, 3, none⟩ = some (.int .u64 2) := hc 3 (by simp)
  have d4 : w6.cell? ⟨g, 4, none⟩ = some (.int .i64 0) := hc 4 (by simp)
  have d5 : w6.cell? ⟨g, 5, none⟩ = some (.int .i64 1) := hc 5 (by simp)
  have hst : (convert 27 9 (.slice ar 1 cr)).run Try.prog w6 = .ok (.string ⟨#[98]⟩) w6 := run_string_src (P := Try.prog) (Src.of_row Rr (byteCells_one _)) 27 5 9 Try.underlying27 Try.underlying5 Try.underlying9
  have hB : Below w.heap.size w w6 := (hB4.trans (hB5.mono hB4.size)).trans (hB6.mono (Nat.le_trans hB4.size hB5.size))
  clear hc Rl Rl6 Rr F4 F5 hfr hfr2 hB4 hB5 hB6 G4
  clear F2
  go_wp2_with fail
  go_ret
  exact ⟨rfl, hB⟩
end Go.Proofs.Ytakdcankhfeobaa
