/- The walk of the law FollowKnown. No condition. -/
import Derived.Test.YtakdcankhfeobaaSmall
namespace Go.Proofs.Ytakdcankhfeobaa
open Go.ChangeShapes Go.WideShapes Go.ChangeAt Go.RowKit

set_option maxHeartbeats 1000000 in
theorem followKnown_any (w : World) : Calls Try.prog 6 #[] w fun e w' => e = .returned (.bool true) ∧ Below w.heap.size w w' := by
  have o1 : (FloatKind.f64.format.order 4607182418800017408 4607182418800017408 == some .eq) = true := by rw [← fl_one]; exact order_fl_self 1 (by omega)
  have o2 : (FloatKind.f64.format.order 4611686018427387904 4611686018427387904 == some .eq) = true := by rw [← fl_two]; exact order_fl_self 2 (by omega)
  have o3 : (FloatKind.f64.format.order 4613937818241073152 4613937818241073152 == some .eq) = true := by rw [← fl_three]; exact order_fl_self 3 (by omega)
  have o0 : (FloatKind.f64.format.order 0 0 == some .eq) = true := by rw [← fl_zero]; exact order_fl_self 0 (by omega)
  go_enter Try.func6, Try.ntmps6
  go_wp2_with fail
  refine (small_any _).mono ?_
  rintro e w1 ⟨p, rfl, F1, hB1⟩
  go_wp2_with fail
  refine (known24 _).mono ?_
  rintro e w2 ⟨rfl, hB2⟩
  have F2 := F1.below hB2
  have hB := hB1.trans (hB2.mono hB1.size)
  clear F1 hB1 hB2
  go_wp2_with fail
  refine (remove_own _ p _ _ 2 1 _ F2 small_good).mono ?_
  rintro e w3 ⟨rfl, F3, hK3⟩
  have hB3 := hB.trans (hK3.below (B := w.heap.size) (fun k hk => hk) hB.size)
  have e3 : removeM smallGs 1 = (0, [⟨2, 0, [99]⟩]) := by rfl
  rw [e3] at F3 ⊢
  dsimp only at F3 ⊢
  clear F2 hK3 hB e3
  have N1 := next_own _ p [⟨2, 0, [99]⟩] 2 2 w3 F3 ⟨by simp, by simp, by omega⟩ (by simp) (by simp) 1 1 (by omega) (by omega) 9
  rw [fl_one] at N1
  go_wp2_with fail
  refine N1.mono ?_
  rintro e w4 hn
  obtain ⟨va, rfl, Ra, -, hB4⟩ : ∃ v, e = .returned (.tuple #[v, .complex .f64 (fl 2) (fl 1), .bool true]) ∧ Row w4 5 1 v 1 (byteCells [99]) ∧ (∀ b, v.ownBlock = some b → w3.heap.size ≤ b) ∧ Below w3.heap.size w3 w4 := hn
  obtain ⟨aa, ca, hva, -⟩ := Ra.form
  rw [fl_one, fl_two]
  have hB4' := hB3.trans (hB4.mono hB3.size)
  clear N1 F3 hB3 hB4
  go_wp2_with fail
  refine (new_any _).mono ?_
  rintro e w5 ⟨p2, rfl, hA5, hp, hB5⟩
  have F5 := FamOwn.new w4 w5 p2 hA5 hp hB5
  clear hA5 hp
  have N2 := next_own _ p2 [] 0 0 w5 F5 Good.nil (by simp) (by simp) 3 0 (by omega) (by omega) 9
  rw [fl_three, fl_zero] at N2
  go_wp2_with fail
  refine N2.mono ?_
  rintro e w6 hn
  obtain ⟨rfl, hB6⟩ : e = .returned (.tuple #[.slice none 0 0, .complex .f64 (fl 3) (fl 0), .bool false]) ∧ Below w5.heap.size w5 w6 := hn
  rw [fl_three, fl_zero]
  have c1 := conv_row Ra (hB5.trans (hB6.mono hB5.size)) aa ca hva
  have hB : Below w.heap.size w w6 := hB4'.trans ((hB5.trans (hB6.mono hB5.size)).mono hB4'.size)
  have e1 : strOfNums [99] = ⟨#[99]⟩ := rfl
  rw [e1] at c1
  subst hva
  clear N2 F5 Ra hB4' hB5 hB6 e1
  go_wp2_with fail
  go_ret
  exact ⟨rfl, hB⟩
end Go.Proofs.Ytakdcankhfeobaa
