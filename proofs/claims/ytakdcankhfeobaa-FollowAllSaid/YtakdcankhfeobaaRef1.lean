/- The walks of tailraceref1's part, Right, Parts and Less on numbers below 2^53, over the floats' plain laws. No condition. -/
import Derived.Test.YtakdcankhfeobaaMark
import Derived.Test.YtakdcankhfeobaaFloatWithin
namespace Go.Proofs.Ytakdcankhfeobaa
open Go.ChangeShapes Go.WideShapes Go.ChangeAt Go.RowKit

theorem floor_fl (n : Nat) (hn : n < 9007199254740992) : floorOf (fl n) = fl n := by
  unfold floorOf
  rw [decode_eq, integral_fl n hn, fl_near]; rfl

theorem floor_any (n : Nat) (hn : n < 9007199254740992) (w : World) :
    Calls Try.prog 39 #[.float .f64 (fl n)] w fun e w' => e = .returned (.float .f64 (fl n)) ∧ w = w' := by
  have h14 : ∀ w, (callFunc 42 #[.float .f64 (fl n)]).run Try.prog w = .ok (.value (.float .f64 (fl n))) w := fun w => by
    rw [run_callFunc_extern Try.func42 (by kernel_rfl) (by kernel_rfl) (by kernel_rfl) (e := Extern.MathFloor.toIntegral "math.archFloor" .down) (by kernel_rfl), run_floor (fl n) (isNaN_fl n), floor_fl n hn]; rfl
  clear hn
  go_enter Try.func39, Try.ntmps39
  go_wp2
  go_ret
  exact ⟨rfl, rfl⟩

theorem rpart_yes (n : Nat) (h : n ≤ 1099511627776) (w : World) :
    Calls Try.prog 37 #[.float .f64 (fl n)] w fun e w' => e = .returned (.bool true) ∧ w = w' := by
  have hn : n < 9007199254740992 := by omega
  have o1 := order_lo n hn
  have o2 := order_hi n hn
  have o3 := order_fl_self n hn
  rw [decide_eq_true h] at o2
  have HN := Lib.hid hn
  clear hn h
  go_enter Try.func37, Try.ntmps37
  go_wp2_with (first | (go_at_call 39; refine (floor_any _ HN.out _).mono ?_; rintro e w' ⟨rfl, rfl⟩) | (go_at_call 40; refine (signbit_any _ HN.out _).mono ?_; rintro e w' ⟨rfl, rfl⟩))
  go_ret
  exact ⟨rfl, rfl⟩

theorem rright_yes (a b : Nat) (ha : a ≤ 1099511627776) (hb : b ≤ 1099511627776) (w : World) :
    Calls Try.prog 34 #[.complex .f64 (fl a) (fl b)] w fun e w' => e = .returned (.bool true) ∧ w = w' := by
  have HA := Lib.hid ha
  have HB := Lib.hid hb
  clear ha hb
  go_enter Try.func34, Try.ntmps34
  go_wp2_with fail
  refine (rpart_yes _ HA.out _).mono ?_
  rintro e w' ⟨rfl, rfl⟩
  go_wp2_with fail
  refine (rpart_yes _ HB.out _).mono ?_
  rintro e w' ⟨rfl, rfl⟩
  go_wp2_with fail
  go_ret
  exact ⟨rfl, rfl⟩

theorem rparts_yes (a b : Nat) (ha : a ≤ 1099511627776) (hb : b ≤ 1099511627776) (w : World) :
    Calls Try.prog 27 #[.complex .f64 (fl a) (fl b)] w fun e w' => e = .returned (.tuple #[.int .u64 a, .int .u64 b]) ∧ w = w' := by
  have c1 : ∀ w, (convert 70 30 (.float .f64 (fl a))).run Try.prog w = .ok (.int .u64 a) w := fun w => run_convert_float_int w 70 30 .f64 .u64 _ _ (by rw [Try.underlying70]; rfl) Try.underlying30 (toInt_fl a (by omega))
  have c2 : ∀ w, (convert 70 30 (.float .f64 (fl b))).run Try.prog w = .ok (.int .u64 b) w := fun w => run_convert_float_int w 70 30 .f64 .u64 _ _ (by rw [Try.underlying70]; rfl) Try.underlying30 (toInt_fl b (by omega))
  have HA := Lib.hid ha
  have HB := Lib.hid hb
  clear ha hb
  go_enter Try.func27, Try.ntmps27
  go_wp2_with (go_at_call 34; refine (rright_yes _ _ HA.out HB.out _).mono ?_; rintro e w' ⟨rfl, rfl⟩)
  go_ret2
  exact ⟨rfl, rfl⟩

theorem rless_no (a b c d : Nat) (ha : a ≤ 1099511627776) (hb : b ≤ 1099511627776) (hc : c ≤ 1099511627776) (hd : d ≤ 1099511627776) (h : c < a ∨ c = a ∧ d ≤ b) (w : World) :
    Calls Try.prog 26 #[.complex .f64 (fl a) (fl b), .complex .f64 (fl c) (fl d)] w fun e w' => e = .returned (.bool false) ∧ w = w' := by
  have P1 := Lib.hid (fun w => rparts_yes a b ha hb w)
  have P2 := Lib.hid (fun w => rparts_yes c d hc hd w)
  have R1 := Lib.hid (fun w => rright_yes a b ha hb w)
  have R2 := Lib.hid (fun w => rright_yes c d hc hd w)
  clear ha hb hc hd
  rcases h with h | ⟨rfl, h⟩
  all_goals
    go_enter Try.func26, Try.ntmps26
    go_wp2_with fail
    refine (P1.out _).mono ?_
    rintro e w' ⟨rfl, rfl⟩
    go_wp2_with fail
    refine (P2.out _).mono ?_
    rintro e w' ⟨rfl, rfl⟩
    go_wp2_with fail
    refine (R1.out _).mono ?_
    rintro e w' ⟨rfl, rfl⟩
    go_wp2_with fail
    refine (R2.out _).mono ?_
    rintro e w' ⟨rfl, rfl⟩
    go_wp2_with fail
    go_ret
    exact ⟨congrArg (fun x => Ending.returned (.bool x)) (decide_eq_false (by omega)), rfl⟩
end Go.Proofs.Ytakdcankhfeobaa
