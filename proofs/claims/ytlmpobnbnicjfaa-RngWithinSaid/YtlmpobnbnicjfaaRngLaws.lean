/- The walks of the laws RngNext, RngSeeds, RngKnown. No condition. -/
import Derived.Test.YtlmpobnbnicjfaaRng
import Derived.Test.YtlmpobnbnicjfaaFloatExact
namespace Go.Proofs.Ytlmpobnbnicjfaa
open Go.ChangeShapes Go.WideShapes Go.ChangeAt Go.RowKit

theorem wrap_u64 (n : Int) : IntKind.u64.wrap n = n % 18446744073709551616 := by
  simp [IntKind.wrap, IntKind.bits, IntKind.signed]

theorem seedOf_foi (a : Int) (ha : a.natAbs.log2 ≤ 52) : seedOf (floatOfInt .f64 a) = if a = 0 then 0 else floatOfInt .f64 a := by
  unfold seedOf
  have h1 : nan? (floatOfInt .f64 a) = false := by
    unfold nan?
    have := order_eq_self (isNaN_floatOfInt a)
    have h2 : Ieee.Format.order Ieee.double (floatOfInt .f64 a) (floatOfInt .f64 a) = some .eq := by simpa using this
    show (Ieee.Format.order Ieee.double (floatOfInt .f64 a) (floatOfInt .f64 a) != some .eq) = false
    rw [h2]; rfl
  have h2 : zero? (floatOfInt .f64 a) = decide (a = 0) := order_foi_zero a ha
  rw [h1, h2]
  by_cases h : a = 0 <;> simp [h]

theorem seedOf_inj (a b : Int) (ha : a.natAbs.log2 ≤ 52) (hb : b.natAbs.log2 ≤ 52) (h : seedOf (floatOfInt .f64 a) = seedOf (floatOfInt .f64 b)) : a = b := by
  rw [seedOf_foi a ha, seedOf_foi b hb] at h
  have z := foi_zero
  refine foi_inj a b ha hb ?_
  split at h <;> split at h <;> (try subst_vars) <;> (try rw [z]) <;> omega

theorem seedOf_bd (a : Int) (ha : a.natAbs.log2 ≤ 52) : 0 ≤ seedOf (floatOfInt .f64 a) ∧ seedOf (floatOfInt .f64 a) < 18446744073709551616 := by
  have := foi_lt a
  rw [seedOf_foi a ha]; split <;> omega

theorem step1_inj (a b : Int) (ha : 0 ≤ a ∧ a < 18446744073709551616) (hb : 0 ≤ b ∧ b < 18446744073709551616) (h : step1 a = step1 b) : a = b := by
  unfold step1 at h; rw [wrap_u64, wrap_u64] at h; omega

theorem i32_log2 (a : Int) (h : (Lit.int .i32 a).wf = true) : a.natAbs.log2 ≤ 52 := by
  simp only [Lit.wf, IntKind.min, IntKind.max, IntKind.bits, IntKind.signed, decide_eq_true_eq, Bool.and_eq_true] at h
  refine log2_le_of_lt ?_
  have : (2 : Nat) ^ (52 + 1) = 9007199254740992 := by decide
  rw [this]; simp at h; omega

theorem rngSeeds_any (a b : Int) (ha : (Lit.int .i32 a).wf = true) (hb : (Lit.int .i32 b).wf = true) (w : World) : Calls Try.prog 4 #[.int .i32 a, .int .i32 b] w fun e w' => e = .returned (.bool true) ∧ w = w' := by
  have la := i32_log2 a ha
  have lb := i32_log2 b hb
  by_cases hab : a = b
  · subst hab
    clear la lb ha hb
    go_enter Try.func4, Try.ntmps4
    go_wp2_with (first | (go_at_call 7; refine (next_any _ _).mono ?_; rintro e w' ⟨rfl, rfl⟩) | (go_at_call 9; refine (known_any _).mono ?_; rintro e w' ⟨rfl, rfl⟩) | (go_at_call 10; refine (seed_any _ _).mono ?_; rintro e w' ⟨rfl, rfl⟩))
    go_ret
    exact ⟨rfl, rfl⟩
  · have h1 : (a == b) = false := by simpa using hab
    have h2 : (seedOf (floatOfInt .f64 a) == seedOf (floatOfInt .f64 b)) = false := by
      rw [beq_eq_false_iff_ne]; exact fun h => hab (seedOf_inj a b la lb h)
    have h3 : (step1 (seedOf (floatOfInt .f64 a)) == step1 (seedOf (floatOfInt .f64 b))) = false := by
      rw [beq_eq_false_iff_ne]; exact fun h => hab (seedOf_inj a b la lb (step1_inj _ _ (seedOf_bd a la) (seedOf_bd b lb) h))
    clear la lb ha hb hab
    go_enter Try.func4, Try.ntmps4
    go_wp2_with (first | (go_at_call 7; refine (next_any _ _).mono ?_; rintro e w' ⟨rfl, rfl⟩) | (go_at_call 9; refine (known_any _).mono ?_; rintro e w' ⟨rfl, rfl⟩) | (go_at_call 10; refine (seed_any _ _).mono ?_; rintro e w' ⟨rfl, rfl⟩))
    go_ret
    exact ⟨rfl, rfl⟩

theorem rngNext_any (s : Int) (x : Nat) (w : World) : Calls Try.prog 3 #[.int .u64 s, .float .f64 x] w fun e w' => e = .returned (.bool true) ∧ w = w' := by
  have hy : (FloatKind.f64.format.order (numOf s) (numOf s) == some .eq) = true := q53_self _
  go_enter Try.func3, Try.ntmps3
  go_wp2_with (first | (go_at_call 7; refine (next_any _ _).mono ?_; rintro e w' ⟨rfl, rfl⟩) | (go_at_call 8; refine (random_any _ _).mono ?_; rintro e w' ⟨rfl, rfl⟩) | (go_at_call 9; refine (known_any _).mono ?_; rintro e w' ⟨rfl, rfl⟩) | (go_at_call 10; refine (seed_any _ _).mono ?_; rintro e w' ⟨rfl, rfl⟩) | (go_at_call 11; refine (seedr_any _ _).mono ?_; rintro e w' ⟨rfl, rfl⟩))
  go_ret
  exact ⟨rfl, rfl⟩

theorem seed_negz : seedOf 9223372036854775808 = 0 := by kernel_rfl
theorem seed_nan : seedOf 9221120237041090561 = 0 := by kernel_rfl
theorem seed_inf : seedOf 9218868437227405312 = 9218868437227405312 := by kernel_rfl
theorem rngKnown_any (w : World) : Calls Try.prog 5 #[] w fun e w' => e = .returned (.bool true) ∧ w = w' := by
  go_enter Try.func5, Try.ntmps5
  go_wp2_with (first | (go_at_call 9; refine (known_any _).mono ?_; rintro e w' ⟨rfl, rfl⟩) | (go_at_call 10; refine (seed_any _ _).mono ?_; rintro e w' ⟨rfl, rfl⟩; first | rw [seed_negz] | rw [seed_nan] | rw [seed_inf]) | go_in)
  go_ret
  exact ⟨rfl, rfl⟩
end Go.Proofs.Ytlmpobnbnicjfaa
