/- Plain laws of floats: the floats of whole numbers below 2^53: their order, cutting, adding one. No condition; no program in sight. -/
import Derived.Test.YtpkmnfpbcakflaaFloatWithin
namespace Go.Proofs.Ytpkmnfpbcakflaa
open Ieee

/-- the word of what is exact -/
theorem nearest_word (neg : Bool) (k t : Nat) (place : Int) (hk : k ≠ 0) (hl : k.log2 ≤ 52) (h1 : -1074 ≤ place + t + k.log2 - 52) (h2 : place + t + k.log2 - 52 < 972) :
    Format.nearest double neg (k * 2 ^ t) place = Format.word double neg ((place + t + k.log2 - 52 + 1074).toNat * 4503599627370496 + k * 2 ^ (52 - k.log2)) := by
  have h0 : k * 2 ^ t ≠ 0 := Nat.mul_ne_zero hk (Nat.pos_iff_ne_zero.1 (Nat.two_pow_pos t))
  have hb : Format.binade double = 4503599627370496 := by decide
  have hp : Format.leastPlace double = -1074 := by decide
  have hf : double.fractionBits = 52 := rfl
  have hi : Format.infRung double = 2047 * 4503599627370496 := by decide
  have kb := kept_bounds k hk hl
  unfold Format.nearest
  rw [if_neg h0]
  simp only [hp, hb, hf, log2_mul_pow k t hk, hi]
  have hm : max (place + ((k.log2 + t : Nat) : Int) - ((52 : Nat) : Int)) (-1074) = place + t + k.log2 - 52 := by omega
  rw [hm]
  have hkept : Toward.even.cut neg ((k * 2 ^ t) <<< (place - (place + t + k.log2 - 52)).toNat) (place + t + k.log2 - 52 - place).toNat = k * 2 ^ (52 - k.log2) := by
    by_cases hc : k.log2 + t ≤ 52
    · rw [show (place + t + k.log2 - 52 - place).toNat = 0 from by omega, cut_zero, Nat.shiftLeft_eq, Nat.mul_assoc, ← Nat.pow_add]
      congr 2; omega
    · rw [show (place - (place + t + k.log2 - 52)).toNat = 0 from by omega, Nat.shiftLeft_zero, show (place + t + k.log2 - 52 - place).toNat = k.log2 + t - 52 from by omega]
      have e : k * 2 ^ t = k * 2 ^ (52 - k.log2) * 2 ^ (k.log2 + t - 52) := by
        rw [Nat.mul_assoc, ← Nat.pow_add]; congr 2; omega
      rw [e]
      refine cut_exact _ _ _ ?_
      rw [← e, log2_mul_pow k t hk]; omega
  rw [hkept]
  generalize k * 2 ^ (52 - k.log2) = kept at *
  have e : place + t + k.log2 - 52 - -1074 = place + t + k.log2 - 52 + 1074 := by omega
  rw [e, Nat.min_eq_left (by omega)]

theorem nearest_shift (neg : Bool) (k t : Nat) (place : Int) (hk : k ≠ 0) (hl : k.log2 ≤ 52) (h1 : -1074 ≤ place + t + k.log2 - 52) (h2 : place + t + k.log2 - 52 < 972) :
    Format.nearest double neg (k * 2 ^ t) place = Format.nearest double neg k (place + t) := by
  have h := nearest_word neg k 0 (place + t) hk hl (by omega) (by omega)
  rw [Nat.pow_zero, Nat.mul_one] at h
  rw [nearest_word neg k t place hk hl h1 h2, h]
  congr 3; omega

/-! the float of a natural number below 2^53 -/
def fl (n : Nat) : Nat := floatOfInt .f64 (n : Int)
theorem fl_eq (n : Nat) : floatOfInt .f64 (n : Int) = fl n := rfl
theorem fl_near (n : Nat) : fl n = Format.nearest double false n 0 := by
  show Format.nearest double (decide ((n : Int) < 0)) (n : Int).natAbs 0 = _
  have hneg : decide ((n : Int) < 0) = false := by simp
  rw [hneg, Int.natAbs_natCast]
theorem fl_zero : fl 0 = 0 := foi_zero

/-- the scale: the least place -/
def lp : Nat := 1074
def sc : Nat := 2 ^ lp
theorem sc_pos : 0 < sc := Nat.two_pow_pos lp
theorem read_fl (n : Nat) (hn : n < 9007199254740992) : ∃ (m : Nat) (p : Nat), Format.read double (fl n) = .number false m ((p : Int) - 1074) ∧ m * 2 ^ p = n * sc ∧ p ≤ lp := by
  by_cases h0 : n = 0
  · subst h0; exact ⟨0, 0, by rw [fl_zero, read_zero]; rfl, by rw [Nat.zero_mul, Nat.zero_mul], by unfold lp; omega⟩
  · have hl : n.log2 ≤ 52 := log2_le_of_lt hn
    have hr := read_foi n (by omega) (by simpa using hl)
    simp only [Int.natAbs_natCast] at hr
    have hneg : decide ((n : Int) < 0) = false := by simp
    rw [hneg, fl_eq] at hr
    refine ⟨n * 2 ^ (52 - n.log2), n.log2 + 1022, ?_, ?_, by unfold lp; omega⟩
    · rw [hr, show ((n.log2 : Int) - 52) = ((n.log2 + 1022 : Nat) : Int) - 1074 from by omega]
    · rw [Nat.mul_assoc, ← Nat.pow_add, show 52 - n.log2 + (n.log2 + 1022) = lp from by unfold lp; omega]; rfl

theorem cmp_scale (a b n m c d : Nat) (hc : 0 < c) (hd : 0 < d) (ha : a * c = n * d) (hb : b * c = m * d) : compare (a : Int) (b : Int) = compare n m := by
  have key : ∀ x y u v : Nat, x * c = u * d → y * c = v * d → (x < y ↔ u < v) := by
    intro x y u v h1 h2
    constructor
    · intro h
      have : x * c < y * c := Nat.mul_lt_mul_of_pos_right h hc
      rw [h1, h2] at this
      exact Nat.lt_of_mul_lt_mul_right this
    · intro h
      have : u * d < v * d := Nat.mul_lt_mul_of_pos_right h hd
      rw [← h1, ← h2] at this
      exact Nat.lt_of_mul_lt_mul_right this
  have k1 := key a b n m ha hb
  have k2 := key b a m n hb ha
  rcases Nat.lt_trichotomy n m with h | h | h
  · rw [Nat.compare_eq_lt.2 h, Int.compare_eq_lt.2 (by omega)]
  · rw [Nat.compare_eq_eq.2 h, Int.compare_eq_eq.2 (by omega)]
  · rw [Nat.compare_eq_gt.2 h, Int.compare_eq_gt.2 (by omega)]

theorem order_fl (n m : Nat) (hn : n < 9007199254740992) (hm : m < 9007199254740992) : FloatKind.f64.format.order (fl n) (fl m) = some (compare n m) := by
  show Format.order double (fl n) (fl m) = _
  obtain ⟨a, p, ha, ea, _⟩ := read_fl n hn
  obtain ⟨b, q, hb, eb, _⟩ := read_fl m hm
  unfold Format.order
  rw [ha, hb]
  simp only [Datum.order, signed, Bool.false_eq_true, if_false, Nat.shiftLeft_eq]
  congr 1
  have e1 : ((p : Int) - 1074 - min ((p : Int) - 1074) ((q : Int) - 1074)).toNat = p - min p q := by omega
  have e2 : ((q : Int) - 1074 - min ((p : Int) - 1074) ((q : Int) - 1074)).toNat = q - min p q := by omega
  rw [e1, e2]
  refine cmp_scale _ _ n m (2 ^ min p q) sc (Nat.two_pow_pos _) sc_pos ?_ ?_
  · rw [Nat.mul_assoc, ← Nat.pow_add, ← ea]; congr 2; omega
  · rw [Nat.mul_assoc, ← Nat.pow_add, ← eb]; congr 2; omega

/-- cut towards zero: itself -/
def truncOf (y : Nat) : Nat := FloatKind.f64.encode ((FloatKind.f64.decode y).integral .zero)
theorem isNaN_fl (n : Nat) : (Format.read double (fl n)).isNaN = false := isNaN_floatOfInt n
section
attribute [local irreducible] FloatKind.decode
theorem run_trunc {P : Program} (y : Nat) (h : (Format.read double y).isNaN = false) (w : World) :
    (Extern.MathFloor.toIntegral "math.archTrunc" .zero #[.float .f64 y]).run P w = .ok (.float .f64 (truncOf y)) w := by
  unfold truncOf
  rw [← decode_eq] at h
  generalize hd : FloatKind.f64.decode y = d at h
  have key : Extern.MathFloor.toIntegral "math.archTrunc" .zero #[.float .f64 y] = pure (.float .f64 (FloatKind.f64.encode (d.integral .zero))) := by
    delta Extern.MathFloor.toIntegral
    conv => lhs; whnf
    rw [hd]
    cases d with
    | number s m i => rfl
    | infinity s => rfl
    | nan s t => simp [Datum.isNaN] at h
  rw [key]; rfl
end
theorem integral_fl (n : Nat) (hn : n < 9007199254740992) (way : Toward) : (Format.read double (fl n)).integral way = .number false n 0 := by
  by_cases h0 : n = 0
  · subst h0; rw [fl_zero, read_zero]; cases way <;> decide +kernel
  · have hl : n.log2 ≤ 52 := log2_le_of_lt hn
    have hr := read_foi n (by omega) (by simpa using hl)
    simp only [Int.natAbs_natCast] at hr
    have hneg : decide ((n : Int) < 0) = false := by simp
    rw [hneg, fl_eq] at hr
    rw [hr]
    simp only [Datum.integral]
    have e : ((n.log2 : Int) - 52).toNat = 0 := by omega
    have e2 : (-((n.log2 : Int) - 52)).toNat = 52 - n.log2 := by omega
    rw [e, e2, Nat.shiftLeft_zero, cut_any _ _ _ _ (by rw [log2_mul_pow n _ h0]; omega)]
theorem trunc_fl (n : Nat) (hn : n < 9007199254740992) : truncOf (fl n) = fl n := by
  unfold truncOf
  show Format.write double ((Format.read double (fl n)).integral .zero) = _
  rw [integral_fl n hn, fl_near]; rfl
theorem toInt_fl (n : Nat) (hn : n < 9007199254740992) : floatToIntVal .f64 (fl n) .u64 = some (n : Int) := by
  unfold floatToIntVal
  have e : (FloatKind.f64.decode (fl n)).toInt .zero = some (n : Int) := by
    show (Format.read double (fl n)).toInt .zero = _
    unfold Datum.toInt
    rw [integral_fl n hn]
    simp [signed]
  rw [e]
  have h1 : IntKind.u64.min = 0 := rfl
  have h2 : IntKind.u64.max = 18446744073709551615 := rfl
  simp only [h1, h2]
  rw [if_pos ⟨by omega, by omega⟩]
theorem fl_lt63 (n : Nat) (hn : n < 9007199254740992) : fl n < 9223372036854775808 := by
  by_cases h0 : n = 0
  · subst h0; rw [fl_zero]; omega
  · have hl : n.log2 ≤ 52 := log2_le_of_lt hn
    have h := nearest_word false n 0 0 h0 hl (by omega) (by omega)
    rw [Nat.pow_zero, Nat.mul_one, ← fl_near] at h
    rw [h]
    have kb := kept_bounds n h0 hl
    unfold Format.word
    simp only [Bool.false_eq_true, if_false]
    generalize n * 2 ^ (52 - n.log2) = x at *
    omega
theorem add_fl (n : Nat) (hn : n < 4503599627370496) : floatBits .add .f64 (fl n) 4607182418800017408 = some (fl (n + 1)) := by
  show Format.add double (fl n) 4607182418800017408 = _
  by_cases h0 : n = 0
  · subst h0; rw [fl_zero]; decide +kernel
  · have h1 : Format.read double 4607182418800017408 = .number false 4503599627370496 (-52) := by kernel_rfl
    have hl : n.log2 ≤ 52 := log2_le_of_lt (by omega)
    have hl2 : (n + 1).log2 ≤ 52 := log2_le_of_lt (by omega)
    have hr := read_foi n (by omega) (by simpa using hl)
    simp only [Int.natAbs_natCast] at hr
    have hneg : decide ((n : Int) < 0) = false := by simp
    rw [hneg, fl_eq] at hr
    unfold Format.add
    rw [hr, h1]
    have hb : min ((n.log2 : Int) - 52) (-52) = -52 := by omega
    simp only [Datum.sum, hb, signed, Bool.false_eq_true, if_false, Bool.and_false, Nat.shiftLeft_eq]
    have e1 : ((n.log2 : Int) - 52 - -52).toNat = n.log2 := by omega
    have e2 : ((-52 : Int) - -52).toNat = 0 := by omega
    rw [e1, e2]
    have e3 : n * 2 ^ (52 - n.log2) * 2 ^ n.log2 = n * 4503599627370496 := by
      rw [Nat.mul_assoc, ← Nat.pow_add, show 52 - n.log2 + n.log2 = 52 from by omega]
    rw [e3]
    simp only [Nat.pow_zero, Nat.mul_one, Option.map_some]
    have e4 : ((n * 4503599627370496 : Nat) : Int) + ((4503599627370496 : Nat) : Int) = (((n + 1) * 2 ^ 52 : Nat) : Int) := by
      rw [show (2 : Nat) ^ 52 = 4503599627370496 from rfl]; omega
    rw [e4]
    have hne : ¬ (((n + 1) * 2 ^ 52 : Nat) : Int) = 0 := by
      rw [show (2 : Nat) ^ 52 = 4503599627370496 from rfl]; omega
    rw [if_neg hne]
    have hlt : decide ((((n + 1) * 2 ^ 52 : Nat) : Int) < 0) = false := decide_eq_false (by omega)
    rw [hlt, Int.natAbs_natCast]
    show some (Format.nearest double false ((n + 1) * 2 ^ 52) (-52)) = _
    rw [nearest_shift false (n + 1) 52 (-52) (by omega) hl2 (by omega) (by omega), fl_near]
    rfl
/-- the sum of two -/
theorem add_fl2 (n m : Nat) (hs : n + m < 4503599627370496) : floatBits .add .f64 (fl n) (fl m) = some (fl (n + m)) := by
  show Format.add double (fl n) (fl m) = _
  by_cases h0 : n + m = 0
  · obtain rfl : n = 0 := by omega
    obtain rfl : m = 0 := by omega
    rw [fl_zero]; decide +kernel
  obtain ⟨a, p, ha, ea, lp1⟩ := read_fl n (by omega)
  obtain ⟨b, q, hb, eb, lp2⟩ := read_fl m (by omega)
  unfold Format.add
  rw [ha, hb]
  simp only [Datum.sum, signed, Bool.false_eq_true, if_false, Bool.and_false, Nat.shiftLeft_eq]
  have e1 : ((p : Int) - 1074 - min ((p : Int) - 1074) ((q : Int) - 1074)).toNat = p - min p q := by omega
  have e2 : ((q : Int) - 1074 - min ((p : Int) - 1074) ((q : Int) - 1074)).toNat = q - min p q := by omega
  have e3 : min ((p : Int) - 1074) ((q : Int) - 1074) = ((min p q : Nat) : Int) - 1074 := by omega
  rw [e1, e2, e3]
  have hsum : (a * 2 ^ (p - min p q) + b * 2 ^ (q - min p q)) * 2 ^ min p q = (n + m) * sc := by
    rw [Nat.add_mul, Nat.mul_assoc, Nat.mul_assoc, ← Nat.pow_add, ← Nat.pow_add, show p - min p q + min p q = p from by omega, show q - min p q + min p q = q from by omega, ea, eb, Nat.add_mul]
  have hs0 : min p q ≤ lp := by omega
  have htot : a * 2 ^ (p - min p q) + b * 2 ^ (q - min p q) = (n + m) * 2 ^ (lp - min p q) := by
    refine Nat.eq_of_mul_eq_mul_right (Nat.two_pow_pos (min p q)) ?_
    rw [hsum, Nat.mul_assoc, ← Nat.pow_add, show lp - min p q + min p q = lp from by omega]; rfl
  have ecast : ((a * 2 ^ (p - min p q) : Nat) : Int) + ((b * 2 ^ (q - min p q) : Nat) : Int) = (((n + m) * 2 ^ (lp - min p q) : Nat) : Int) := by
    rw [← htot]; omega
  rw [ecast]
  have hne : ¬ (((n + m) * 2 ^ (lp - min p q) : Nat) : Int) = 0 := by
    have : 0 < (n + m) * 2 ^ (lp - min p q) := Nat.mul_pos (by omega) (Nat.two_pow_pos _)
    omega
  rw [if_neg hne]
  have hlt : decide ((((n + m) * 2 ^ (lp - min p q) : Nat) : Int) < 0) = false := decide_eq_false (by omega)
  rw [hlt, Int.natAbs_natCast]
  have hl : (n + m).log2 ≤ 52 := log2_le_of_lt (by omega)
  have hlp : lp = 1074 := rfl
  show (some (Format.nearest double false ((n + m) * 2 ^ (lp - min p q)) (((min p q : Nat) : Int) - 1074))) = _
  rw [nearest_shift false (n + m) (lp - min p q) _ h0 hl (by omega) (by omega), fl_near]
  congr 2
  omega
theorem fl_inj (a b : Nat) (ha : a < 9007199254740992) (hb : b < 9007199254740992) (h : fl a = fl b) : a = b := by
  have := foi_inj a b (log2_le_of_lt (by simpa using ha)) (log2_le_of_lt (by simpa using hb)) h
  omega
end Go.Proofs.Ytpkmnfpbcakflaa
