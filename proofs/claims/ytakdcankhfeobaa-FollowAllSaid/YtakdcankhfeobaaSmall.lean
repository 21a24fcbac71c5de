/- The walks of chapter 24's first examples. No condition. -/
import Derived.Test.YtakdcankhfeobaaKnown
import Derived.Test.YtakdcankhfeobaaNext
import Derived.Laws.Cover3
namespace Go.Proofs.Ytakdcankhfeobaa
open Go.ChangeShapes Go.WideShapes Go.ChangeAt Go.RowKit

def smallGs : List Gn := [⟨1, 1, [97, 98]⟩, ⟨2, 0, [99]⟩]
theorem small_good : Good 2 smallGs 2 := ⟨by simp [smallGs], by simp [smallGs], by omega⟩
theorem small_ids : smallGs.Pairwise (fun a b => a.id < b.id) := by simp [smallGs]
theorem small_idl : ∀ g ∈ smallGs, 0 ≤ g.id ∧ g.id ≤ 1099511627776 := by simp [smallGs]
/-- a family's pointer -/
def SomeFam (w w' : World) (e : Ending) : Prop := ∃ p, e = .returned (.pointer (some ⟨p, 0, none⟩)) ∧ FamOwn 64 67 (fun k => k < w.heap.size) w' p smallGs 2 ∧ Below w.heap.size w w'

set_option maxHeartbeats 1000000 in
theorem small_any (w : World) : Calls Try.prog 22 #[] w fun e w' => SomeFam w w' e := by
  have kc := fun (w : World) (C : Array Value) (n c : Nat) => Lib.run_convert_bytes_const (P := Try.prog) w 27 5 C n c Try.underlying27 Try.underlying5
  go_enter Try.func22, Try.ntmps22
  go_wp2_with fail
  refine (new_any _).mono ?_
  rintro e w1 ⟨p, rfl, hA1, hp, hB1⟩
  have F1 := FamOwn.new w w1 p hA1 hp hB1
  clear hA1 hp
  go_wp2_with fail
  have S1 := src_const w1 #[.int .u8 97, .int .u8 98] (2, 3) 2 [97, 98] rfl rfl
  have F1' := F1.more ((Below.refl _ w1).alloc (Nat.le_refl _) (.cells #[.int .u8 97, .int .u8 98] 5 (2, 3)))
  refine (append_own _ p [] 0 0 _ F1' Good.nil (by omega) _ _ _ _ S1 (by intro _ k hk; simp [Value.ownBlock] at hk; subst hk; exact .inr ⟨Nat.le_refl _, by simp⟩) (by decide) (by omega)).mono ?_
  rintro e w2 ⟨rfl, F2, hK2⟩
  have F2 := F2.fewer Plus.left
  have hB2 := hB1.trans (((Below.refl _ w1).alloc (Nat.le_refl _) (.cells #[.int .u8 97, .int .u8 98] 5 (2, 3))).mono hB1.size |>.trans (hK2.below (B := w.heap.size) (fun k hk => .inl hk) (by have := hB1.size; simp; omega)))
  have e2 : appendM [] 0 [97, 98] = (0, [⟨1, 0, [97, 98]⟩], 1) := by rfl
  rw [e2] at F2 ⊢
  dsimp only at F2 ⊢
  clear F1 F1' S1 hK2 hB1 e2
  have G2 : Good 1 [⟨1, 0, [97, 98]⟩] 1 := ⟨by simp, by simp, by omega⟩
  go_wp2_with fail
  refine (rename_own _ p _ _ 1 _ F2 G2 (by omega)).mono ?_
  rintro e w3 ⟨rfl, F3, hK3⟩
  have hB3 := hB2.trans (hK3.below (B := w.heap.size) (fun k hk => hk) hB2.size)
  have e3 : renameM [⟨1, 0, [97, 98]⟩] = (0, [⟨1, 1, [97, 98]⟩]) := by rfl
  rw [e3] at F3 ⊢
  dsimp only at F3 ⊢
  clear F2 hK3 hB2 e3 G2
  have G3 : Good 1 [⟨1, 1, [97, 98]⟩] 1 := ⟨by simp, by simp, by omega⟩
  go_wp2_with fail
  have S1 := src_const w3 #[.int .u8 99] (1, 2) 1 [99] rfl rfl
  have F3' := F3.more ((Below.refl _ w3).alloc (Nat.le_refl _) (.cells #[.int .u8 99] 5 (1, 2)))
  refine (append_own _ p _ _ 1 _ F3' G3 (by omega) _ _ _ _ S1 (by intro _ k hk; simp [Value.ownBlock] at hk; subst hk; exact .inr ⟨Nat.le_refl _, by simp⟩) (by decide) (by omega)).mono ?_
  rintro e w4 ⟨rfl, F4, hK4⟩
  have F4 := F4.fewer Plus.left
  have hB4 := hB3.trans (((Below.refl _ w3).alloc (Nat.le_refl _) (.cells #[.int .u8 99] 5 (1, 2))).mono hB3.size |>.trans (hK4.below (B := w.heap.size) (fun k hk => .inl hk) (by have := hB3.size; simp; omega)))
  have e4 : appendM [⟨1, 1, [97, 98]⟩] 1 [99] = (0, [⟨1, 1, [97, 98]⟩, ⟨2, 0, [99]⟩], 2) := by rfl
  rw [e4] at F4 ⊢
  dsimp only at F4 ⊢
  clear F3 F3' S1 hK4 hB3 e4 G3
  go_wp2_with fail
  go_ret
  exact ⟨_, rfl, F4, hB4⟩

theorem fl_one : fl 1 = 4607182418800017408 := by kernel_rfl
theorem fl_two : fl 2 = 4611686018427387904 := by kernel_rfl
theorem fl_three : fl 3 = 4613937818241073152 := by kernel_rfl

theorem conv_row {w w' : World} {v : Value} {b : List Int} {n : Nat} (R : Row w 5 1 v n (byteCells b)) (hB : Below w.heap.size w w') (a : Option Addr) (c : Nat) (hv : v = .slice a n c) :
    (convert 27 9 (.slice a n c)).run Try.prog w' = .ok (.string (strOfNums b)) w' := by
  subst hv
  exact run_string_src (P := Try.prog) ((Src.of_row R (byteCells_one _)).below hB) 27 5 9 Try.underlying27 Try.underlying5 Try.underlying9

set_option maxHeartbeats 1000000 in
theorem known24 (w : World) : Calls Try.prog 23 #[] w fun e w' => e = .returned (.bool true) ∧ Below w.heap.size w w' := by
  have o1 : (FloatKind.f64.format.order 4607182418800017408 4607182418800017408 == some .eq) = true := by rw [← fl_one]; exact order_fl_self 1 (by omega)
  have o2 : (FloatKind.f64.format.order 4611686018427387904 4611686018427387904 == some .eq) = true := by rw [← fl_two]; exact order_fl_self 2 (by omega)
  go_enter Try.func23, Try.ntmps23
  go_wp2_with fail
  refine (small_any _).mono ?_
  rintro e w1 ⟨p, rfl, F1, hB1⟩
  have N1 := next_own _ p smallGs 2 2 w1 F1 small_good small_ids small_idl 0 0 (by omega) (by omega) 1
  rw [fl_zero] at N1
  go_wp2_with fail
  refine N1.mono ?_
  rintro e w2 hn
  obtain ⟨va, rfl, Ra, -, hB2⟩ : ∃ v, e = .returned (.tuple #[v, .complex .f64 (fl 1) (fl 1), .bool false]) ∧ Row w2 5 1 v 1 (byteCells [97]) ∧ (∀ b, v.ownBlock = some b → w1.heap.size ≤ b) ∧ Below w1.heap.size w1 w2 := hn
  have F2 := F1.below hB2
  have N2 := next_own _ p smallGs 2 2 w2 F2 small_good small_ids small_idl 1 1 (by omega) (by omega) 9
  rw [fl_one] at N2 ⊢
  obtain ⟨aa, ca, hva, -⟩ := Ra.form
  clear N1 F1
  go_wp2_with fail
  refine N2.mono ?_
  rintro e w3 hn
  obtain ⟨vb, rfl, Rb, -, hB3⟩ : ∃ v, e = .returned (.tuple #[v, .complex .f64 (fl 1) (fl 2), .bool false]) ∧ Row w3 5 1 v 1 (byteCells [98]) ∧ (∀ b, v.ownBlock = some b → w2.heap.size ≤ b) ∧ Below w2.heap.size w2 w3 := hn
  have F3 := F2.below hB3
  have N3 := next_own _ p smallGs 2 2 w3 F3 small_good small_ids small_idl 1 2 (by omega) (by omega) 9
  rw [fl_two, fl_one] at N3 ⊢
  obtain ⟨ab, cb, hvb, -⟩ := Rb.form
  clear N2 F2
  go_wp2_with fail
  refine N3.mono ?_
  rintro e w4 hn
  obtain ⟨vc, rfl, Rc, -, hB4⟩ : ∃ v, e = .returned (.tuple #[v, .complex .f64 (fl 2) (fl 1), .bool false]) ∧ Row w4 5 1 v 1 (byteCells [99]) ∧ (∀ b, v.ownBlock = some b → w3.heap.size ≤ b) ∧ Below w3.heap.size w3 w4 := hn
  obtain ⟨ac, cc, hvc, -⟩ := Rc.form
  rw [fl_two, fl_one]
  have c1 := conv_row Ra (hB3.trans (hB4.mono hB3.size)) aa ca hva
  have c2 := conv_row Rb hB4 ab cb hvb
  have c3 := conv_row Rc (Below.refl _ _) ac cc hvc
  have hB : Below w.heap.size w w4 := hB1.trans ((hB2.trans ((hB3.trans (hB4.mono hB3.size)).mono hB2.size)).mono hB1.size)
  have e1 : strOfNums [97] = ⟨#[97]⟩ := rfl
  have e2 : strOfNums [98] = ⟨#[98]⟩ := rfl
  have e3 : strOfNums [99] = ⟨#[99]⟩ := rfl
  rw [e1] at c1; rw [e2] at c2; rw [e3] at c3
  subst hva hvb hvc
  clear N3 F3 Ra Rb Rc hB1 hB2 hB3 hB4 e1 e2 e3
  go_wp2_with fail
  go_ret
  exact ⟨rfl, hB⟩
end Go.Proofs.Ytakdcankhfeobaa
