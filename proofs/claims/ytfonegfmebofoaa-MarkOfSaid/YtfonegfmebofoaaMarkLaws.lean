/- The walks of the laws MarkKnown and MarkOf. No condition. -/
import Derived.Test.YtfonegfmebofoaaMark
namespace Go.Proofs.Ytfonegfmebofoaa
open Go.ChangeShapes Go.WideShapes Go.ChangeAt Go.RowKit

theorem e2 : fl 2 = 4611686018427387904 := by kernel_rfl
theorem e9 : fl 9 = 4621256167635550208 := by kernel_rfl
theorem e3 : fl 3 = 4613937818241073152 := by kernel_rfl
theorem less_a (w : World) : Calls Try.prog 10 #[.complex .f64 4611686018427387904 4621256167635550208, .complex .f64 4613937818241073152 0] w fun e w' => e = .returned (.bool true) ∧ w = w' := by
  have h := less_yes 2 9 3 0 (by omega) (by omega) (by omega) (by omega) w
  rw [e2, e9, e3, fl_zero] at h; exact h
theorem less_b (w : World) : Calls Try.prog 10 #[.complex .f64 4613937818241073152 0, .complex .f64 4613937818241073152 0] w fun e w' => e = .returned (.bool false) ∧ w = w' := by
  have h := less_yes 3 0 3 0 (by omega) (by omega) (by omega) (by omega) w
  rw [e3, fl_zero] at h; exact h
theorem of_37 (w : World) : Calls Try.prog 5 #[.int .u64 3, .int .u64 7] w fun e w' => e = .returned (.tuple #[.complex .f64 (fl 3) (fl 7), .int .i64 0]) ∧ w = w' := of_yes 3 7 (by omega) (by omega) w
theorem parts_37 (w : World) : Calls Try.prog 8 #[.complex .f64 (fl 3) (fl 7)] w fun e w' => e = .returned (.tuple #[.int .u64 3, .int .u64 7]) ∧ w = w' := parts_yes 3 7 (by omega) (by omega) w
theorem next_37 (w : World) : Calls Try.prog 9 #[.complex .f64 (fl 3) (fl 7)] w fun e w' => e = .returned (.complex .f64 (fl 3) (fl 8)) ∧ w = w' := next_yes 3 7 (by omega) (by omega) w

theorem known_any (w : World) : Calls Try.prog 6 #[] w fun e w' => e = .returned (.bool true) ∧ w = w' := by
  have o1 : (FloatKind.f64.format.order (fl 3) 4613937818241073152 == some .eq) = true := by kernel_rfl
  have o2 : (FloatKind.f64.format.order (fl 7) 4619567317775286272 == some .eq) = true := by kernel_rfl
  have o3 : (FloatKind.f64.format.order (fl 8) 4620693217682128896 == some .eq) = true := by kernel_rfl
  go_enter Try.func6, Try.ntmps6
  go_wp2_with (first | (go_at_call 5; refine (of_37 _).mono ?_; rintro e w' ⟨rfl, rfl⟩) | (go_at_call 8; refine (parts_37 _).mono ?_; rintro e w' ⟨rfl, rfl⟩) | (go_at_call 9; refine (next_37 _).mono ?_; rintro e w' ⟨rfl, rfl⟩) | (go_at_call 10; with_reducible refine (less_a _).mono ?_; rintro e w' ⟨rfl, rfl⟩) | (go_at_call 10; with_reducible refine (less_b _).mono ?_; rintro e w' ⟨rfl, rfl⟩))
  go_ret
  exact ⟨rfl, rfl⟩
theorem part_neg (w : World) : Calls Try.prog 11 #[.float .f64 13830554455654793216] w fun e w' => e = .returned (.bool false) ∧ w = w' := by
  have o1 : (FloatKind.f64.format.order 13830554455654793216 0 == some .gt || FloatKind.f64.format.order 13830554455654793216 0 == some .eq) = false := by kernel_rfl
  go_enter Try.func11, Try.ntmps11
  go_wp2
  go_ret
  exact ⟨rfl, rfl⟩

theorem part_15 (w : World) : Calls Try.prog 11 #[.float .f64 4609434218613702656] w fun e w' => e = .returned (.bool false) ∧ w = w' := by
  have o1 : (FloatKind.f64.format.order 4609434218613702656 0 == some .gt || FloatKind.f64.format.order 4609434218613702656 0 == some .eq) = true := by kernel_rfl
  have o2 : (FloatKind.f64.format.order 4609434218613702656 4787326403894837248 == some .lt || FloatKind.f64.format.order 4609434218613702656 4787326403894837248 == some .eq) = true := by kernel_rfl
  have o3 : (FloatKind.f64.format.order 4609434218613702656 4607182418800017408 == some .eq) = false := by kernel_rfl
  have h14 : ∀ w, (callFunc 14 #[.float .f64 4609434218613702656]).run Try.prog w = .ok (.value (.float .f64 4607182418800017408)) w := fun w => by
    rw [run_callFunc_extern Try.func14 (by kernel_rfl) (by kernel_rfl) (by kernel_rfl) (e := Extern.MathFloor.toIntegral "math.archTrunc" .zero) (by kernel_rfl), run_trunc 4609434218613702656 (by kernel_rfl), show truncOf 4609434218613702656 = 4607182418800017408 by kernel_rfl]; rfl
  go_enter Try.func11, Try.ntmps11
  go_wp2_with (first | go_in)
  go_ret
  exact ⟨rfl, rfl⟩
theorem part_0 (w : World) : Calls Try.prog 11 #[.float .f64 0] w fun e w' => e = .returned (.bool true) ∧ w = w' := part_any 0 (by omega) w

theorem right_15 (w : World) : Calls Try.prog 7 #[.complex .f64 4609434218613702656 0] w fun e w' => e = .returned (.bool false) ∧ w = w' := by
  go_enter Try.func7, Try.ntmps7
  go_wp2_with fail
  refine (part_15 _).mono ?_
  rintro e w' ⟨rfl, rfl⟩
  go_wp2_with fail
  go_ret
  exact ⟨rfl, rfl⟩
theorem right_neg (w : World) : Calls Try.prog 7 #[.complex .f64 13830554455654793216 0] w fun e w' => e = .returned (.bool false) ∧ w = w' := by
  go_enter Try.func7, Try.ntmps7
  go_wp2_with fail
  refine (part_neg _).mono ?_
  rintro e w' ⟨rfl, rfl⟩
  go_wp2_with fail
  go_ret
  exact ⟨rfl, rfl⟩
theorem right_ineg (w : World) : Calls Try.prog 7 #[.complex .f64 0 13830554455654793216] w fun e w' => e = .returned (.bool false) ∧ w = w' := by
  go_enter Try.func7, Try.ntmps7
  go_wp2_with fail
  refine (part_0 _).mono ?_
  rintro e w' ⟨rfl, rfl⟩
  go_wp2_with fail
  refine (part_neg _).mono ?_
  rintro e w' ⟨rfl, rfl⟩
  go_wp2_with fail
  go_ret
  exact ⟨rfl, rfl⟩
theorem right_0 (w : World) : Calls Try.prog 7 #[.complex .f64 0 0] w fun e w' => e = .returned (.bool true) ∧ w = w' := right_yes 0 0 (by omega) (by omega) w
theorem right_max (w : World) : Calls Try.prog 7 #[.complex .f64 4787326403894837248 0] w fun e w' => e = .returned (.bool true) ∧ w = w' := by
  have h := right_yes 1099511627776 0 (by omega) (by omega) w
  rw [maxw, fl_zero] at h; exact h

theorem markKnown_any (w : World) : Calls Try.prog 3 #[] w fun e w' => e = .returned (.bool true) ∧ w = w' := by
  go_enter Try.func3, Try.ntmps3
  go_wp2_with (first | (go_at_call 5; refine (of_no _ _ (by omega) _).mono ?_; rintro e w' ⟨rfl, rfl⟩) | (go_at_call 6; refine (known_any _).mono ?_; rintro e w' ⟨rfl, rfl⟩) | (go_at_call 7; with_reducible refine (right_15 _).mono ?_; rintro e w' ⟨rfl, rfl⟩) | (go_at_call 7; with_reducible refine (right_neg _).mono ?_; rintro e w' ⟨rfl, rfl⟩) | (go_at_call 7; with_reducible refine (right_ineg _).mono ?_; rintro e w' ⟨rfl, rfl⟩) | (go_at_call 7; with_reducible refine (right_0 _).mono ?_; rintro e w' ⟨rfl, rfl⟩) | (go_at_call 7; with_reducible refine (right_max _).mono ?_; rintro e w' ⟨rfl, rfl⟩))
  go_ret
  exact ⟨rfl, rfl⟩

theorem markOf_no (a b : Int) (h : 1099511627776 < a ∨ 1099511627776 < b) (w : World) :
    Calls Try.prog 4 #[.int .u64 a, .int .u64 b, .bool false] w fun e w' => e = .returned (.bool true) ∧ w = w' := by
  have o : (FloatKind.f64.format.order 0 0 == some .eq) = true := by kernel_rfl
  by_cases ha : 1099511627776 < a
  · clear h
    go_enter Try.func4, Try.ntmps4
    go_wp2_with (first | (go_at_call 5; refine (of_no _ _ (.inl ha) _).mono ?_; rintro e w' ⟨rfl, rfl⟩) | (go_at_call 6; refine (known_any _).mono ?_; rintro e w' ⟨rfl, rfl⟩))
    go_ret
    exact ⟨rfl, rfl⟩
  · have hb : 1099511627776 < b := by omega
    clear h
    go_enter Try.func4, Try.ntmps4
    go_wp2_with (first | (go_at_call 5; refine (of_no _ _ (.inr hb) _).mono ?_; rintro e w' ⟨rfl, rfl⟩) | (go_at_call 6; refine (known_any _).mono ?_; rintro e w' ⟨rfl, rfl⟩))
    go_ret
    exact ⟨rfl, rfl⟩

theorem markOf_yes (a b : Nat) (ha : a ≤ 1099511627776) (hb : b ≤ 1099511627776) (w : World) :
    Calls Try.prog 4 #[.int .u64 a, .int .u64 b, .bool false] w fun e w' => e = .returned (.bool true) ∧ w = w' := by
  have o1 := order_fl_self a (by omega)
  have o2 := order_fl_self b (by omega)
  have hf := fl_eq
  go_enter Try.func4, Try.ntmps4
  go_wp2_with (first | (go_at_call 5; refine (of_yes _ _ ha hb _).mono ?_; rintro e w' ⟨rfl, rfl⟩) | (go_at_call 6; refine (known_any _).mono ?_; rintro e w' ⟨rfl, rfl⟩) | (go_at_call 8; refine (parts_yes _ _ ha hb _).mono ?_; rintro e w' ⟨rfl, rfl⟩) | (go_at_call 7; refine (right_yes _ _ ha hb _).mono ?_; rintro e w' ⟨rfl, rfl⟩))
  go_ret
  exact ⟨rfl, rfl⟩

theorem markOf_small (a b : Int) (ha : 0 ≤ a) (hb : 0 ≤ b) (w : World) :
    Calls Try.prog 4 #[.int .u64 a, .int .u64 b, .bool true] w fun e w' => e = .returned (.bool true) ∧ w = w' := by
  obtain ⟨m, hm⟩ : ∃ m : Nat, a % 50 = m := ⟨(a % 50).toNat, by omega⟩
  obtain ⟨n, hn⟩ : ∃ m : Nat, b % 50 = m := ⟨(b % 50).toNat, by omega⟩
  have lm : m ≤ 1099511627776 := by omega
  have ln : n ≤ 1099511627776 := by omega
  have o1 := order_fl_self m (by omega)
  have o2 := order_fl_self n (by omega)
  have hf := fl_eq
  go_enter Try.func4, Try.ntmps4
  go_wp2_with (first | (go_at_call 5; refine (of_yes _ _ lm ln _).mono ?_; rintro e w' ⟨rfl, rfl⟩) | (go_at_call 6; refine (known_any _).mono ?_; rintro e w' ⟨rfl, rfl⟩) | (go_at_call 8; refine (parts_yes _ _ lm ln _).mono ?_; rintro e w' ⟨rfl, rfl⟩) | (go_at_call 7; refine (right_yes _ _ lm ln _).mono ?_; rintro e w' ⟨rfl, rfl⟩))
  go_ret
  exact ⟨rfl, rfl⟩

theorem markOf_any (a b : Int) (s : Bool) (ha : (Lit.int .u64 a).wf = true) (hb : (Lit.int .u64 b).wf = true) (w : World) :
    Calls Try.prog 4 #[.int .u64 a, .int .u64 b, .bool s] w fun e w' => e = .returned (.bool true) ∧ w = w' := by
  have ba := bounds_u64 ha
  have bb := bounds_u64 hb
  cases s
  · by_cases h : 1099511627776 < a ∨ 1099511627776 < b
    · exact markOf_no a b h w
    · obtain ⟨m, rfl⟩ := Int.eq_ofNat_of_zero_le ba.1
      obtain ⟨n, rfl⟩ := Int.eq_ofNat_of_zero_le bb.1
      exact markOf_yes m n (by omega) (by omega) w
  · exact markOf_small a b ba.1 bb.1 w
end Go.Proofs.Ytfonegfmebofoaa
