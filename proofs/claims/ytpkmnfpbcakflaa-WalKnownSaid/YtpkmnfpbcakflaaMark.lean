/- The walks of package mark's functions on numbers below 2^53, over the floats' plain laws. No condition. -/
import Derived.Test.YtpkmnfpbcakflaaRows
import Derived.Test.YtpkmnfpbcakflaaFloatNat
import Derived.WalkKit
import Derived.ProofKit
import Derived.OpenShut
import Derived.WalkLawsBesides
import Derived.Laws.FloatArith
import Derived.Lib.Hide
import Derived.BigQuiet
import Derived.Deep.QuietTactic
namespace Go.Proofs.Ytpkmnfpbcakflaa
open Go.ChangeShapes Go.WideShapes Go.ChangeAt Go.RowKit

@[go_sem] theorem callBits (b : Nat) (w : World) : (callFunc 134 #[.float .f64 b]).run Try.prog w = .ok (.value (.int .u64 b)) w :=
  run_callFunc_extern Try.func134 (by kernel_rfl) (by kernel_rfl) (by kernel_rfl) (e := Extern.MathFloatBits.float64bits) (by kernel_rfl) _ w

theorem trunc_any (n : Nat) (hn : n < 9007199254740992) (w : World) :
    Calls Try.prog 121 #[.float .f64 (fl n)] w fun e w' => e = .returned (.float .f64 (fl n)) ∧ w = w' := by
  have h14 : ∀ w, (callFunc 132 #[.float .f64 (fl n)]).run Try.prog w = .ok (.value (.float .f64 (fl n))) w := fun w => by
    rw [run_callFunc_extern Try.func132 (by kernel_rfl) (by kernel_rfl) (by kernel_rfl) (e := Extern.MathFloor.toIntegral "math.archTrunc" .zero) (by kernel_rfl), run_trunc (fl n) (isNaN_fl n), trunc_fl n hn]; rfl
  clear hn
  go_enter Try.func121, Try.ntmps121
  go_wp2
  go_ret
  exact ⟨rfl, rfl⟩

theorem signbit_any (n : Nat) (hn : n < 9007199254740992) (w : World) :
    Calls Try.prog 122 #[.float .f64 (fl n)] w fun e w' => e = .returned (.bool false) ∧ w = w' := by
  have hb := fl_lt63 n hn
  go_enter Try.func122, Try.ntmps122
  go_wp2
  go_ret
  exact ⟨rfl, rfl⟩

theorem maxw : fl 1099511627776 = 4787326403894837248 := by kernel_rfl
theorem order_lo (n : Nat) (hn : n < 9007199254740992) : (FloatKind.f64.format.order (fl n) 0 == some .gt || FloatKind.f64.format.order (fl n) 0 == some .eq) = true := by
  rw [← fl_zero, order_fl n 0 hn (by omega)]
  rcases Nat.eq_zero_or_pos n with h | h
  · subst h; rfl
  · rw [Nat.compare_eq_gt.2 h]; rfl
theorem order_hi (n : Nat) (hn : n < 9007199254740992) : (FloatKind.f64.format.order (fl n) 4787326403894837248 == some .lt || FloatKind.f64.format.order (fl n) 4787326403894837248 == some .eq) = decide (n ≤ 1099511627776) := by
  rw [← maxw, order_fl n 1099511627776 hn (by omega)]
  rcases Nat.lt_trichotomy n 1099511627776 with h | h | h
  · rw [Nat.compare_eq_lt.2 h]; simp; omega
  · subst h; decide
  · rw [Nat.compare_eq_gt.2 h]; simp; omega
theorem order_fl_self (n : Nat) (hn : n < 9007199254740992) : (FloatKind.f64.format.order (fl n) (fl n) == some .eq) = true := by
  rw [order_fl n n hn hn, Nat.compare_eq_eq.2 rfl]; rfl
theorem order_fl_eq (n m : Nat) (hn : n < 9007199254740992) (hm : m < 9007199254740992) : (FloatKind.f64.format.order (fl n) (fl m) == some .eq) = decide (n = m) := by
  rw [order_fl n m hn hm]
  rcases Nat.lt_trichotomy n m with h | h | h
  · rw [Nat.compare_eq_lt.2 h]; simp; omega
  · rw [Nat.compare_eq_eq.2 h]; simp; omega
  · rw [Nat.compare_eq_gt.2 h]; simp; omega
theorem order_fl_lt (n m : Nat) (hn : n < 9007199254740992) (hm : m < 9007199254740992) : (FloatKind.f64.format.order (fl n) (fl m) == some .lt) = decide (n < m) := by
  rw [order_fl n m hn hm]
  rcases Nat.lt_trichotomy n m with h | h | h
  · rw [Nat.compare_eq_lt.2 h]; simp; omega
  · rw [Nat.compare_eq_eq.2 h]; simp; omega
  · rw [Nat.compare_eq_gt.2 h]; simp; omega

theorem part_any (n : Nat) (hn : n < 9007199254740992) (w : World) :
    Calls Try.prog 98 #[.float .f64 (fl n)] w fun e w' => e = .returned (.bool (decide (n ≤ 1099511627776))) ∧ w = w' := by
  have o1 := order_lo n hn
  have o2 := order_hi n hn
  have o3 := order_fl_self n hn
  by_cases h : n ≤ 1099511627776
  · rw [decide_eq_true h] at o2 ⊢
    have HN := Lib.hid hn
    clear hn h
    go_enter Try.func98, Try.ntmps98
    go_wp2_with (first | (go_at_call 121; refine (trunc_any _ HN.out _).mono ?_; rintro e w' ⟨rfl, rfl⟩) | (go_at_call 122; refine (signbit_any _ HN.out _).mono ?_; rintro e w' ⟨rfl, rfl⟩))
    go_ret
    exact ⟨rfl, rfl⟩
  · rw [decide_eq_false h] at o2 ⊢
    clear hn h
    go_enter Try.func98, Try.ntmps98
    go_wp2
    go_ret
    exact ⟨rfl, rfl⟩

theorem right_any (a b : Nat) (ha : a < 9007199254740992) (hb : b < 9007199254740992) (w : World) :
    Calls Try.prog 76 #[.complex .f64 (fl a) (fl b)] w fun e w' => e = .returned (.bool (decide (a ≤ 1099511627776) && decide (b ≤ 1099511627776))) ∧ w = w' := by
  have HA := Lib.hid ha
  have HB := Lib.hid hb
  by_cases h : a ≤ 1099511627776
  · have e1 : decide (a ≤ 1099511627776) = true := decide_eq_true h
    rw [e1, Bool.true_and]
    clear ha hb h
    go_enter Try.func76, Try.ntmps76
    go_wp2_with fail
    refine (part_any _ HA.out _).mono ?_
    rintro e w' ⟨rfl, rfl⟩
    rw [e1]
    go_wp2_with fail
    refine (part_any _ HB.out _).mono ?_
    rintro e w' ⟨rfl, rfl⟩
    go_wp2_with fail
    go_ret
    exact ⟨rfl, rfl⟩
  · have e1 : decide (a ≤ 1099511627776) = false := decide_eq_false h
    rw [e1, Bool.false_and]
    clear ha hb h
    go_enter Try.func76, Try.ntmps76
    go_wp2_with fail
    refine (part_any _ HA.out _).mono ?_
    rintro e w' ⟨rfl, rfl⟩
    rw [e1]
    go_wp2_with fail
    go_ret
    exact ⟨rfl, rfl⟩

theorem right_yes (a b : Nat) (ha : a ≤ 1099511627776) (hb : b ≤ 1099511627776) (w : World) :
    Calls Try.prog 76 #[.complex .f64 (fl a) (fl b)] w fun e w' => e = .returned (.bool true) ∧ w = w' := by
  have h := right_any a b (by omega) (by omega) w
  rw [decide_eq_true ha, decide_eq_true hb] at h
  exact h



theorem parts_yes (a b : Nat) (ha : a ≤ 1099511627776) (hb : b ≤ 1099511627776) (w : World) :
    Calls Try.prog 120 #[.complex .f64 (fl a) (fl b)] w fun e w' => e = .returned (.tuple #[.int .u64 a, .int .u64 b]) ∧ w = w' := by
  have c1 : ∀ w, (convert 134 66 (.float .f64 (fl a))).run Try.prog w = .ok (.int .u64 a) w := fun w => run_convert_float_int w 134 66 .f64 .u64 _ _ (by rw [Try.underlying134]; rfl) Try.underlying66 (toInt_fl a (by omega))
  have c2 : ∀ w, (convert 134 66 (.float .f64 (fl b))).run Try.prog w = .ok (.int .u64 b) w := fun w => run_convert_float_int w 134 66 .f64 .u64 _ _ (by rw [Try.underlying134]; rfl) Try.underlying66 (toInt_fl b (by omega))
  have HA := Lib.hid ha
  have HB := Lib.hid hb
  clear ha hb
  go_enter Try.func120, Try.ntmps120
  go_wp2_with (go_at_call 76; refine (right_yes _ _ HA.out HB.out _).mono ?_; rintro e w' ⟨rfl, rfl⟩)
  go_ret2
  exact ⟨rfl, rfl⟩
def lessB (a b c d : Nat) : Bool := decide (a < c) || (decide (a = c) && decide (b < d))
theorem less_yes (a b c d : Nat) (ha : a ≤ 1099511627776) (hb : b ≤ 1099511627776) (hc : c ≤ 1099511627776) (hd : d ≤ 1099511627776) (w : World) :
    Calls Try.prog 77 #[.complex .f64 (fl a) (fl b), .complex .f64 (fl c) (fl d)] w fun e w' => e = .returned (.bool (lessB a b c d)) ∧ w = w' := by
  have o1 := order_fl_lt a c (by omega) (by omega)
  have o2 := order_fl_eq a c (by omega) (by omega)
  have o3 := order_fl_lt b d (by omega) (by omega)
  have r1 := fun w => right_yes a b ha hb w
  have r2 := fun w => right_yes c d hc hd w
  have R1 := Lib.hid r1
  have R2 := Lib.hid r2
  clear r1 r2 ha hb hc hd
  by_cases h1 : a < c
  · have e : lessB a b c d = true := by simp [lessB, h1]
    rw [e]
    rw [decide_eq_true h1] at o1
    clear o2 o3 e h1
    go_enter Try.func77, Try.ntmps77
    go_wp2_with fail
    refine (R1.out _).mono ?_
    rintro e w' ⟨rfl, rfl⟩
    go_wp2_with fail
    refine (R2.out _).mono ?_
    rintro e w' ⟨rfl, rfl⟩
    go_wp2_with fail
    go_ret
    exact ⟨rfl, rfl⟩
  · by_cases h2 : a = c
    · have e : lessB a b c d = decide (b < d) := by simp [lessB, h2]
      rw [e]
      rw [decide_eq_false h1] at o1
      rw [decide_eq_true h2] at o2
      clear e h1 h2
      have O3 := Lib.hid o3
      clear o3
      go_enter Try.func77, Try.ntmps77
      go_wp2_with fail
      refine (R1.out _).mono ?_
      rintro e w' ⟨rfl, rfl⟩
      go_wp2_with fail
      refine (R2.out _).mono ?_
      rintro e w' ⟨rfl, rfl⟩
      go_wp2_with fail
      go_ret
      exact ⟨by rw [O3.out]; rfl, rfl⟩
    · have e : lessB a b c d = false := by simp [lessB, h1, h2]
      rw [e]
      rw [decide_eq_false h1] at o1
      rw [decide_eq_false h2] at o2
      clear e h1 h2 o3
      go_enter Try.func77, Try.ntmps77
      go_wp2_with fail
      refine (R1.out _).mono ?_
      rintro e w' ⟨rfl, rfl⟩
      go_wp2_with fail
      refine (R2.out _).mono ?_
      rintro e w' ⟨rfl, rfl⟩
      go_wp2_with fail
      go_ret
      exact ⟨rfl, rfl⟩
end Go.Proofs.Ytpkmnfpbcakflaa
