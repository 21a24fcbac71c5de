/- Plain laws of floats: the number of a state is at least 0, below 1, and whole after 2^53 times. No condition; no program in sight. -/
import Derived.Test.YtpkmnfpbcakflaaFloatExact
namespace Go.Proofs.Ytpkmnfpbcakflaa
open Ieee

theorem cut_any (way : Toward) (q d : Nat) (neg : Bool) (h : d ≤ (q * 2 ^ d).log2 + 2) : Toward.cut way neg (q * 2 ^ d) d = q := by
  unfold Toward.cut
  rw [Nat.min_eq_left h]
  have hp : 0 < 2 ^ d := Nat.two_pow_pos d
  cases way <;> simp [Nat.shiftLeft_eq, hp]

theorem decode_eq (y : Nat) : FloatKind.f64.decode y = Format.read double y := rfl
/-- the whole part downwards of what is no NaN -/
def floorOf (y : Nat) : Nat := FloatKind.f64.encode ((FloatKind.f64.decode y).integral .down)

section
attribute [local irreducible] FloatKind.decode
theorem run_floor {P : Program} (y : Nat) (h : (Format.read double y).isNaN = false) (w : World) :
    (Extern.MathFloor.toIntegral "math.archFloor" .down #[.float .f64 y]).run P w = .ok (.float .f64 (floorOf y)) w := by
  unfold floorOf
  rw [← decode_eq] at h
  generalize hd : FloatKind.f64.decode y = d at h
  have key : Extern.MathFloor.toIntegral "math.archFloor" .down #[.float .f64 y] = pure (.float .f64 (FloatKind.f64.encode (d.integral .down))) := by
    delta Extern.MathFloor.toIntegral
    conv => lhs; whnf
    rw [hd]
    cases d with
    | number s m i => rfl
    | infinity s => rfl
    | nan s t => simp [Datum.isNaN] at h
  rw [key]; rfl

end
structure Within (m : Int) : Prop where
  lo : (FloatKind.f64.format.order (q53 m) 0 == some .lt) = false
  hi : (FloatKind.f64.format.order (q53 m) 4607182418800017408 == some .gt || FloatKind.f64.format.order (q53 m) 4607182418800017408 == some .eq) = false
  times : ∃ y, floatBits .mul .f64 (q53 m) 4845873199050653696 = some y ∧ (Format.read double y).isNaN = false ∧ (FloatKind.f64.format.order y (floorOf y) != some .eq) = false

theorem within_zero : Within 0 := by
  have h0 : q53 0 = 0 := by kernel_rfl
  refine ⟨by rw [h0]; kernel_rfl, by rw [h0]; kernel_rfl, 0, by rw [h0]; kernel_rfl, by kernel_rfl, by kernel_rfl⟩

theorem read_q53 (m : Nat) (h0 : m ≠ 0) (hm : m.log2 ≤ 52) : Format.read double (q53 m) = .number false (m * 2 ^ (52 - m.log2)) ((m.log2 : Int) - 105) := by
  have h2 : Format.read double 4845873199050653696 = .number false 4503599627370496 1 := by kernel_rfl
  have hr := read_foi m (by omega) (by simpa using hm)
  simp only [Int.natAbs_natCast] at hr
  have hneg : decide ((m : Int) < 0) = false := by simp
  rw [hneg] at hr
  have kb := kept_bounds m h0 hm
  have hl : (m * 2 ^ (52 - m.log2)).log2 = 52 := by rw [log2_mul_pow m _ h0]; omega
  have hq : floatBits .quo .f64 (floatOfInt .f64 m) 4845873199050653696 = some (Format.nearest double false (m * 2 ^ (52 - m.log2) * 2 ^ 3) ((m.log2 : Int) - 108)) := by
    show Format.div double (floatOfInt .f64 m) 4845873199050653696 = _
    unfold Format.div
    rw [h2, hr]
    generalize m * 2 ^ (52 - m.log2) = M at *
    have hf : double.fractionBits = 52 := rfl
    have hl2 : (4503599627370496 : Nat).log2 = 52 := by decide +kernel
    simp only [Datum.quotient, hf, hl2, hl]
    rw [if_neg (by decide)]
    simp only [Nat.shiftLeft_eq, Option.map_some, Bool.false_xor]
    have e1 : M * 2 ^ (52 + 2 + 52 - 52) / 4503599627370496 = M * 4 := by
      rw [show 52 + 2 + 52 - 52 = 54 from rfl]; omega
    have e2 : M * 2 ^ (52 + 2 + 52 - 52) % 4503599627370496 = 0 := by
      rw [show 52 + 2 + 52 - 52 = 54 from rfl]; omega
    rw [e1, e2]
    show some (Format.nearest double false _ _) = _
    congr 2
    · simp; omega
    · omega
  have : q53 m = Format.nearest double false (m * 2 ^ (52 - m.log2) * 2 ^ 3) ((m.log2 : Int) - 108) := by
    unfold q53; rw [hq]; rfl
  rw [this]
  generalize m * 2 ^ (52 - m.log2) = M at *
  rw [nearest_exact false M 3 _ (by omega) (by omega) (by rw [hl]; omega) (by rw [hl]; omega), hl]
  simp; omega

theorem within (m : Nat) (hm : m < 9007199254740992) : Within m := by
  by_cases h0 : m = 0
  · subst h0; exact within_zero
  have hL : m.log2 ≤ 52 := log2_le_of_lt hm
  have hx := read_q53 m h0 hL
  have kb := kept_bounds m h0 hL
  have hl : (m * 2 ^ (52 - m.log2)).log2 = 52 := by rw [log2_mul_pow m _ h0]; omega
  have h2 : Format.read double 4845873199050653696 = .number false 4503599627370496 1 := by kernel_rfl
  have h1 : Format.read double 4607182418800017408 = .number false 4503599627370496 (-52) := by kernel_rfl
  have hfoi := read_foi m (by omega) (by simpa using hL)
  simp only [Int.natAbs_natCast] at hfoi
  have hneg : decide ((m : Int) < 0) = false := by simp
  rw [hneg] at hfoi
  refine ⟨?_, ?_, ?_⟩
  · show (Format.order double (q53 m) 0 == some .lt) = false
    unfold Format.order
    rw [hx, read_zero]
    simp only [Datum.order, signed]
    simp only [Nat.zero_shiftLeft]
    generalize (m * 2 ^ (52 - m.log2)) <<< _ = y
    have : compare (y : Int) ((0 : Nat) : Int) ≠ .lt := by
      intro hc; rw [Int.compare_eq_lt] at hc; omega
    simpa using this
  · show (Format.order double (q53 m) 4607182418800017408 == some .gt || Format.order double (q53 m) 4607182418800017408 == some .eq) = false
    unfold Format.order
    rw [hx, h1]
    simp only [Datum.order, signed]
    have hb : min ((m.log2 : Int) - 105) (-52) = (m.log2 : Int) - 105 := by omega
    rw [hb]
    have e : ((m.log2 : Int) - 105 - ((m.log2 : Int) - 105)).toNat = 0 := by omega
    have e2 : (-52 - ((m.log2 : Int) - 105)).toNat = (52 - m.log2) + 1 := by omega
    rw [e, e2]
    simp only [Nat.shiftLeft_eq, Nat.pow_zero, Nat.mul_one]
    have : compare ((m * 2 ^ (52 - m.log2) : Nat) : Int) ((4503599627370496 * 2 ^ (52 - m.log2 + 1) : Nat) : Int) = .lt := by
      rw [Int.compare_eq_lt]
      have hp : 1 ≤ 2 ^ (52 - m.log2) := Nat.two_pow_pos _
      have : 2 ^ (52 - m.log2 + 1) = 2 ^ (52 - m.log2) * 2 := Nat.pow_succ ..
      rw [this]
      generalize 2 ^ (52 - m.log2) = c at *
      omega
    simp only [Bool.false_eq_true, if_false]
    rw [this]; rfl
  · refine ⟨Format.nearest double false (m * 2 ^ (52 - m.log2) * 2 ^ 52) ((m.log2 : Int) - 104), ?_, isNaN_nearest _ _ _, ?_⟩
    · show Format.mul double (q53 m) 4845873199050653696 = _
      unfold Format.mul
      rw [hx, h2]
      simp only [Datum.product, Option.map_some, Bool.false_xor]
      show some (Format.nearest double false _ _) = _
      congr 2
      omega
    · have hy : Format.read double (Format.nearest double false (m * 2 ^ (52 - m.log2) * 2 ^ 52) ((m.log2 : Int) - 104)) = .number false (m * 2 ^ (52 - m.log2)) ((m.log2 : Int) - 52) := by
        generalize m * 2 ^ (52 - m.log2) = M at *
        rw [nearest_exact false M 52 _ (by omega) (by omega) (by rw [hl]; omega) (by rw [hl]; omega), hl]
        simp; omega
      have hf : floorOf (Format.nearest double false (m * 2 ^ (52 - m.log2) * 2 ^ 52) ((m.log2 : Int) - 104)) = floatOfInt .f64 m := by
        unfold floorOf
        show Format.write double ((Format.read double _).integral .down) = _
        rw [hy]
        simp only [Datum.integral]
        have e : ((m.log2 : Int) - 52).toNat = 0 := by omega
        have e2 : (-((m.log2 : Int) - 52)).toNat = 52 - m.log2 := by omega
        rw [e, e2, Nat.shiftLeft_zero, cut_any _ _ _ _ (by rw [log2_mul_pow m _ h0]; omega)]
        show Format.nearest double false m 0 = Format.nearest double (decide ((m : Int) < 0)) ((m : Int).natAbs) 0
        rw [hneg]; simp
      rw [hf]
      show (Format.order double _ _ != some .eq) = false
      unfold Format.order
      rw [hy, hfoi, order_self _ rfl]; rfl
end Go.Proofs.Ytpkmnfpbcakflaa
