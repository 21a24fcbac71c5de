/- The walk of the law RngWithin, and the plain laws behind it. No condition. -/
import Derived.Test.YtlmpobnbnicjfaaRng
import Derived.Test.YtlmpobnbnicjfaaRngLaws
import Derived.Test.YtlmpobnbnicjfaaFloatWithin
import Derived.Lib.Hide
namespace Go.Proofs.Ytlmpobnbnicjfaa
open Go.ChangeShapes Go.WideShapes Go.ChangeAt Go.RowKit

theorem pick_any (n k : Int) (hk0 : 1 ≤ k) (hk : k ≤ 1000000) (w : World) :
    Calls Try.prog 15 #[.int .i64 n, .int .i64 k] w fun e w' => (∃ m, e = .returned (.int .i64 m) ∧ 0 ≤ m ∧ m < k) ∧ w = w' := by
  have b1 : -k < n.tmod k := by
    have := Int.lt_tmod_of_pos n (show 0 < k by omega); omega
  have b2 : n.tmod k < k := Int.tmod_lt_of_pos n (by omega)
  have hd : (k == 0) = false := by simp; omega
  by_cases hlt : n.tmod k < 0
  · go_enter Try.func15, Try.ntmps15
    go_wp2
    go_ret
    exact ⟨⟨_, rfl, by omega, by omega⟩, rfl⟩
  · go_enter Try.func15, Try.ntmps15
    go_wp2
    go_ret
    exact ⟨⟨_, rfl, by omega, by omega⟩, rfl⟩

theorem floor_any (y : Nat) (h : (Ieee.Format.read Ieee.double y).isNaN = false) (w : World) :
    Calls Try.prog 16 #[.float .f64 y] w fun e w' => e = .returned (.float .f64 (floorOf y)) ∧ w = w' := by
  have h19 : ∀ w, (callFunc 19 #[.float .f64 y]).run Try.prog w = .ok (.value (.float .f64 (floorOf y))) w := fun w => by
    rw [run_callFunc_extern Try.func19 (by kernel_rfl) (by kernel_rfl) (by kernel_rfl) (e := Extern.MathFloor.toIntegral "math.archFloor" .down) (by kernel_rfl), run_floor y h]; rfl
  clear h
  go_enter Try.func16, Try.ntmps16
  go_wp2
  go_ret
  exact ⟨rfl, rfl⟩

def stk (f : Int) (k : Nat) : Int := (f + k * 11400714819323198485) % 18446744073709551616
theorem stk_step (f : Int) (k : Nat) : step1 (stk f k) = stk f (k + 1) := by
  unfold step1 stk; rw [wrap_u64]; push_cast; omega
theorem stk_zero (f : Int) (h0 : 0 ≤ f) (h1 : f < 18446744073709551616) : stk f 0 = f := by
  unfold stk; omega
theorem stk_ne (f : Int) (k : Nat) : stk f (k + 1) ≠ stk f k := by
  unfold stk; push_cast; omega
theorem odd_gen (M K k : Nat) (f : Int) (hc : Nat.Coprime M K) (hk : k + 1 < M) (h : (f + ((k + 1 : Nat) : Int) * (K : Int)) % (M : Int) = f) : False := by
  have h2 : (M : Int) ∣ ((k + 1 : Nat) : Int) * (K : Int) := by
    have e := Int.emod_add_mul_ediv (f + ((k + 1 : Nat) : Int) * (K : Int)) M
    rw [h] at e
    exact ⟨(f + ((k + 1 : Nat) : Int) * (K : Int)) / (M : Int), by omega⟩
  have h3 : M ∣ (k + 1) * K := by
    have e : ((k + 1 : Nat) : Int) * (K : Int) = (((k + 1) * K : Nat) : Int) := by rw [Int.natCast_mul]
    rw [e] at h2
    exact Int.natCast_dvd_natCast.1 h2
  have := Nat.le_of_dvd (Nat.succ_pos k) (hc.dvd_of_dvd_mul_right h3)
  omega
theorem coprime_K : Nat.Coprime 18446744073709551616 11400714819323198485 := by decide +kernel
theorem stk_first (f : Int) (k : Nat) (hk : k < 999) : stk f (k + 1) ≠ f := by
  intro h
  exact odd_gen 18446744073709551616 11400714819323198485 k f coprime_K (by omega) h
theorem mix_bd (s : Int) : ∃ m : Nat, m < 9007199254740992 ∧ mix4 (mix3 (mix2 (step1 s))) / 2048 = (m : Int) := by
  have h : (Lit.int .u64 (mix4 (mix3 (mix2 (step1 s))))).wf = true := wf_bits _ _ _ _
  have b := bounds_u64 h
  exact ⟨(mix4 (mix3 (mix2 (step1 s))) / 2048).toNat, by omega, by omega⟩
theorem num_within (s : Int) : ∃ x, numOf s = x ∧ (FloatKind.f64.format.order x 0 == some .lt) = false ∧ (FloatKind.f64.format.order x 4607182418800017408 == some .gt || FloatKind.f64.format.order x 4607182418800017408 == some .eq) = false
   ∧ ∃ y, (∀ w, (binOp .mul 23 (.float .f64 x) (.float .f64 4845873199050653696)).run Try.prog w = .ok (.float .f64 y) w) ∧ (Ieee.Format.read Ieee.double y).isNaN = false ∧ (FloatKind.f64.format.order y (floorOf y) != some .eq) = false := by
  obtain ⟨m, hm, e⟩ := mix_bd s
  have hw := within m hm
  obtain ⟨y, h1, h2, h3⟩ := hw.times
  refine ⟨_, rfl, ?_⟩
  unfold numOf
  rw [e]
  exact ⟨hw.lo, hw.hi, y, fun w => run_float_arith w .mul 23 .f64 _ _ _ h1, h2, h3⟩

set_option maxHeartbeats 400000 in
theorem rngWithin_any (s n : Int) (h0 : 0 ≤ s) (h1 : s < 18446744073709551616) (w : World) :
    Calls Try.prog 6 #[.int .u64 s, .int .i64 n] w fun e w' => e = .returned (.bool true) ∧ w = w' := by
  go_enter Try.func6, Try.ntmps6
  go_wp2_with fail
  refine (pick_any _ _ (by omega) (by omega) _).mono ?_
  rintro e w' ⟨⟨i0, rfl, hi0, hi1⟩, rfl⟩
  go_wp2_with fail
  go_loop [0, 6] (fun a i => ∃ (k : Nat) (j : Int), a = .int .u64 (stk s k) ∧ i = .int .i64 j ∧ -1 ≤ j ∧ j < 200 ∧ j + k < 200) (fun _ i => (intOf i + 1).toNat)
  case atStart => exact ⟨0, i0, by rw [stk_zero s h0 h1], rfl, by omega, by omega, by omega⟩
  case round =>
    obtain ⟨k, j, rfl, rfl, hj0, hj1, hj2⟩ := hrel
    by_cases hj : 0 ≤ j
    · have e1 : (stk s (k + 1) == stk s k) = false := by rw [beq_eq_false_iff_ne]; exact stk_ne s k
      have e2 : (stk s (k + 1) == s) = false := by rw [beq_eq_false_iff_ne]; exact stk_first s k (by omega)
      obtain ⟨x, hx, ho1, ho2, y, hmul, hy, hfl⟩ := num_within (stk s k)
      have HX := Lib.hid hx
      have HY := Lib.hid hy
      clear hx hy
      go_wp2_with fail
      refine (next_any _ _).mono ?_
      rintro e w' ⟨rfl, rfl⟩
      rw [stk_step, HX.out]
      go_wp2_with (go_at_call 16; refine (floor_any _ HY.out _).mono ?_; rintro e w' ⟨rfl, rfl⟩)
      go_round
      case rel => exact ⟨k + 1, j - 1, rfl, rfl, by omega, by omega, by omega⟩
      case measure => simp [intOf]; omega
    · go_wp2_with (go_at_call 9; refine (known_any _).mono ?_; rintro e w' ⟨rfl, rfl⟩)
      go_ret
      exact ⟨rfl, rfl⟩

theorem rngWithin_wf (s n : Int) (hs : (Lit.int .u64 s).wf = true) (w : World) :
    Calls Try.prog 6 #[.int .u64 s, .int .i64 n] w fun e w' => e = .returned (.bool true) ∧ w = w' :=
  rngWithin_any s n (bounds_u64 hs).1 (by have := (bounds_u64 hs).2; omega) w
end Go.Proofs.Ytlmpobnbnicjfaa
