/- Plain laws of floats: the floats of whole numbers, of either sign: sum, difference, product, to integer. No condition; no program in sight. -/
import Derived.Test.YtpkmnfpbcakflaaFloatNat
namespace Go.Proofs.Ytpkmnfpbcakflaa
open Ieee

/-- the float of a whole number -/
def fi (z : Int) : Nat := floatOfInt .f64 z
theorem fi_fl (n : Nat) : fi (n : Int) = fl n := rfl
theorem fi_near (z : Int) : fi z = Format.nearest double (decide (z < 0)) z.natAbs 0 := rfl

theorem read_fi (z : Int) (hz : z.natAbs < 9007199254740992) : ∃ (m p : Nat), Format.read double (fi z) = .number (decide (z < 0)) m ((p : Int) - 1074) ∧ m * 2 ^ p = z.natAbs * sc ∧ p ≤ lp := by
  by_cases h0 : z = 0
  · subst h0
    exact ⟨0, 0, by show Format.read double (floatOfInt .f64 0) = _; rw [foi_zero, read_zero]; rfl, by simp, by unfold lp; omega⟩
  · have hl : z.natAbs.log2 ≤ 52 := log2_le_of_lt hz
    have hr := read_foi z h0 hl
    have hn0 : z.natAbs ≠ 0 := by omega
    refine ⟨z.natAbs * 2 ^ (52 - z.natAbs.log2), z.natAbs.log2 + 1022, ?_, ?_, by unfold lp; omega⟩
    · show Format.read double (floatOfInt .f64 z) = _
      rw [hr, show ((z.natAbs.log2 : Int) - 52) = ((z.natAbs.log2 + 1022 : Nat) : Int) - 1074 from by omega]
    · rw [Nat.mul_assoc, ← Nat.pow_add, show 52 - z.natAbs.log2 + (z.natAbs.log2 + 1022) = lp from by unfold lp; omega]; rfl

theorem signed_scale (neg : Bool) (z : Int) (m k c : Nat) (s : Nat) (hneg : z.natAbs ≠ 0 → neg = decide (z < 0)) (h : m * 2 ^ (k + c) = z.natAbs * s) : signed neg m k * ((2 ^ c : Nat) : Int) = z * (s : Int) := by
  have e : m <<< k * 2 ^ c = z.natAbs * s := by rw [Nat.shiftLeft_eq, Nat.mul_assoc, ← Nat.pow_add]; exact h
  unfold signed
  by_cases h0 : z = 0
  · subst h0
    simp only [Int.natAbs_zero, Nat.zero_mul] at e
    have e2 : m <<< k = 0 := by
      rcases Nat.mul_eq_zero.1 e with h | h
      · exact h
      · exact absurd h (Nat.pos_iff_ne_zero.1 (Nat.two_pow_pos c))
    rw [e2]
    cases neg <;> simp
  · rw [hneg (by omega)]
    by_cases hlt : z < 0
    · rw [decide_eq_true hlt, if_pos rfl]
      have : ((m <<< k : Nat) : Int) * ((2 ^ c : Nat) : Int) = -z * (s : Int) := by
        rw [← Int.natCast_mul, e, Int.natCast_mul]; congr 1; omega
      rw [Int.neg_mul, this, Int.neg_mul, Int.neg_neg]
    · rw [decide_eq_false hlt, if_neg (by simp)]
      rw [← Int.natCast_mul, e, Int.natCast_mul]; congr 1; omega

/-- a sum of scaled whole numbers is written as the sum's float -/
theorem write_sum (s t : Bool) (a b : Int) (m n p q : Nat) (hab : (a + b).natAbs < 4503599627370496) (hp : p ≤ lp) (hq : q ≤ lp)
    (hm : m * 2 ^ p = a.natAbs * sc) (hn : n * 2 ^ q = b.natAbs * sc) (hs : a.natAbs ≠ 0 → s = decide (a < 0)) (ht : b.natAbs ≠ 0 → t = decide (b < 0)) (hz : a + b = 0 → (s && t) = false) :
    (Datum.sum (.number s m ((p : Int) - 1074)) (.number t n ((q : Int) - 1074))).map double.write = some (fi (a + b)) := by
  simp only [Datum.sum]
  have e1 : ((p : Int) - 1074 - min ((p : Int) - 1074) ((q : Int) - 1074)).toNat = p - min p q := by omega
  have e2 : ((q : Int) - 1074 - min ((p : Int) - 1074) ((q : Int) - 1074)).toNat = q - min p q := by omega
  have e3 : min ((p : Int) - 1074) ((q : Int) - 1074) = ((min p q : Nat) : Int) - 1074 := by omega
  rw [e1, e2, e3]
  have hs0 : min p q ≤ lp := by omega
  have k1 := signed_scale s a m (p - min p q) (min p q) sc hs (by rw [show p - min p q + min p q = p by omega]; exact hm)
  have k2 := signed_scale t b n (q - min p q) (min p q) sc ht (by rw [show q - min p q + min p q = q by omega]; exact hn)
  have hpos : (0 : Int) < ((2 ^ min p q : Nat) : Int) := by have := Nat.two_pow_pos (min p q); omega
  have hsc : ((sc : Nat) : Int) = ((2 ^ (lp - min p q) : Nat) : Int) * ((2 ^ min p q : Nat) : Int) := by
    rw [← Int.natCast_mul, ← Nat.pow_add, show lp - min p q + min p q = lp by omega]; rfl
  have htot : signed s m (p - min p q) + signed t n (q - min p q) = (a + b) * ((2 ^ (lp - min p q) : Nat) : Int) := by
    refine Int.eq_of_mul_eq_mul_right (Int.ne_of_gt hpos) ?_
    rw [Int.add_mul, k1, k2, ← Int.add_mul, hsc, Int.mul_assoc]
  rw [htot]
  have hposq : (0 : Int) < ((2 ^ (lp - min p q) : Nat) : Int) := by have := Nat.two_pow_pos (lp - min p q); omega
  by_cases h0 : a + b = 0
  · rw [h0, Int.zero_mul, if_pos rfl, hz h0]
    simp [Format.write, Format.nearest, Format.word]
    show 0 = floatOfInt .f64 0
    rw [foi_zero]
  · have hne : ¬ (a + b) * ((2 ^ (lp - min p q) : Nat) : Int) = 0 := by
      intro h
      rcases Int.mul_eq_zero.1 h with h | h
      · exact h0 h
      · omega
    rw [if_neg hne]
    have hdec : decide ((a + b) * ((2 ^ (lp - min p q) : Nat) : Int) < 0) = decide (a + b < 0) := by
      apply decide_eq_decide.2
      constructor
      · intro h
        rcases Int.lt_or_le (a + b) 0 with h1 | h1
        · exact h1
        · have := Int.mul_nonneg h1 (Int.le_of_lt hposq); omega
      · intro h; exact Int.mul_neg_of_neg_of_pos h hposq
    rw [hdec]
    have habs : ((a + b) * ((2 ^ (lp - min p q) : Nat) : Int)).natAbs = (a + b).natAbs * 2 ^ (lp - min p q) := by rw [Int.natAbs_mul, Int.natAbs_natCast]
    rw [habs]
    have hl : (a + b).natAbs.log2 ≤ 52 := log2_le_of_lt (by omega)
    have hlp : lp = 1074 := rfl
    show (some (Format.nearest double _ ((a + b).natAbs * 2 ^ (lp - min p q)) (((min p q : Nat) : Int) - 1074))) = _
    rw [nearest_shift _ (a + b).natAbs (lp - min p q) _ (by omega) hl (by omega) (by omega), fi_near]
    congr 2
    omega

theorem add_fi (a b : Int) (ha : a.natAbs < 4503599627370496) (hb : b.natAbs < 4503599627370496) (hab : (a + b).natAbs < 4503599627370496) : floatBits .add .f64 (fi a) (fi b) = some (fi (a + b)) := by
  show Format.add double (fi a) (fi b) = _
  obtain ⟨m, p, hr, hm, hp⟩ := read_fi a (by omega)
  obtain ⟨n, q, hr2, hn, hq⟩ := read_fi b (by omega)
  unfold Format.add
  rw [hr, hr2]
  refine write_sum _ _ a b m n p q hab hp hq hm hn (fun _ => rfl) (fun _ => rfl) fun h => ?_
  rcases Int.lt_or_le a 0 with h1 | h1
  · rw [decide_eq_false (show ¬ b < 0 by omega), Bool.and_false]
  · rw [decide_eq_false (show ¬ a < 0 by omega), Bool.false_and]

theorem sub_fi (a b : Int) (ha : a.natAbs < 4503599627370496) (hb : b.natAbs < 4503599627370496) (hab : (a - b).natAbs < 4503599627370496) : floatBits .sub .f64 (fi a) (fi b) = some (fi (a - b)) := by
  show Format.sub double (fi a) (fi b) = _
  obtain ⟨m, p, hr, hm, hp⟩ := read_fi a (by omega)
  obtain ⟨n, q, hr2, hn, hq⟩ := read_fi b (by omega)
  unfold Format.sub
  rw [hr, hr2]
  simp only [Datum.opposite]
  rw [Int.sub_eq_add_neg]
  refine write_sum _ _ a (-b) m n p q (by rw [← Int.sub_eq_add_neg]; exact hab) hp hq hm (by rw [Int.natAbs_neg]; exact hn) (fun _ => rfl) (fun h => ?_) fun h => ?_
  · rw [Int.natAbs_neg] at h
    by_cases hlt : b < 0
    · rw [decide_eq_true hlt, decide_eq_false (show ¬ -b < 0 by omega)]; rfl
    · rw [decide_eq_false hlt, decide_eq_true (show -b < 0 by omega)]; rfl
  · by_cases hlt : b < 0
    · rw [decide_eq_true hlt, Bool.not_true, Bool.and_false]
    · rw [decide_eq_false (show ¬ a < 0 by omega), Bool.false_and]

theorem mul_fl (a b : Nat) (ha : a < 4503599627370496) (hb : b < 4503599627370496) (hab : a * b < 4503599627370496) : floatBits .mul .f64 (fl a) (fl b) = some (fl (a * b)) := by
  show Format.mul double (fl a) (fl b) = _
  obtain ⟨m, p, hr, hm, hp⟩ := read_fl a (by omega)
  obtain ⟨n, q, hr2, hn, hq⟩ := read_fl b (by omega)
  unfold Format.mul
  rw [hr, hr2]
  simp only [Datum.product, Bool.xor_false, Option.map_some]
  show some (Format.nearest double false (m * n) ((p : Int) - 1074 + ((q : Int) - 1074))) = _
  have hlp : lp = 1074 := rfl
  have hprod : m * n * 2 ^ (p + q) = a * b * 2 ^ (2148 - (p + q)) * 2 ^ (p + q) := by
    have e : a * b * 2 ^ (2148 - (p + q)) * 2 ^ (p + q) = (a * sc) * (b * sc) := by
      rw [Nat.mul_assoc, ← Nat.pow_add, show 2148 - (p + q) + (p + q) = lp + lp by omega, Nat.pow_add]
      have h2 : (2 : Nat) ^ lp = sc := by unfold sc; rfl
      rw [h2, Nat.mul_mul_mul_comm]
    rw [e, ← hm, ← hn, Nat.pow_add, Nat.mul_mul_mul_comm]
  have hmn : m * n = a * b * 2 ^ (2148 - (p + q)) := Nat.eq_of_mul_eq_mul_right (Nat.two_pow_pos (p + q)) hprod
  rw [hmn]
  by_cases h0 : a * b = 0
  · rw [h0, Nat.zero_mul, fl_zero]
    simp [Format.nearest, Format.word]
  · have hl : (a * b).log2 ≤ 52 := log2_le_of_lt (by omega)
    rw [nearest_shift false (a * b) (2148 - (p + q)) _ h0 hl (by omega) (by omega), fl_near]
    congr 2
    omega

theorem integral_fi (z : Int) (hz : z.natAbs < 9007199254740992) : (Format.read double (fi z)).integral .zero = .number (decide (z < 0)) z.natAbs 0 := by
  by_cases h0 : z = 0
  · subst h0; show (Format.read double (floatOfInt .f64 0)).integral .zero = _; rw [foi_zero, read_zero]; decide +kernel
  · have hl : z.natAbs.log2 ≤ 52 := log2_le_of_lt hz
    have hr := read_foi z h0 hl
    show (Format.read double (floatOfInt .f64 z)).integral .zero = _
    rw [hr]
    simp only [Datum.integral]
    have e : ((z.natAbs.log2 : Int) - 52).toNat = 0 := by omega
    have e2 : (-((z.natAbs.log2 : Int) - 52)).toNat = 52 - z.natAbs.log2 := by omega
    rw [e, e2, Nat.shiftLeft_zero, cut_any _ _ _ _ (by rw [log2_mul_pow z.natAbs _ (by omega)]; omega)]
theorem toInt_fi (z : Int) (hz : z.natAbs < 9007199254740992) (k : IntKind) (h1 : k.min ≤ z) (h2 : z ≤ k.max) : floatToIntVal .f64 (fi z) k = some z := by
  unfold floatToIntVal
  have e : (FloatKind.f64.decode (fi z)).toInt .zero = some z := by
    show (Format.read double (fi z)).toInt .zero = _
    unfold Datum.toInt
    rw [integral_fi z hz]
    simp only [signed, Nat.shiftLeft_zero]
    congr 1
    by_cases h : z < 0
    · rw [decide_eq_true h, if_pos rfl]; omega
    · rw [decide_eq_false h, if_neg (by simp)]; omega
  rw [e]
  simp only
  rw [if_pos ⟨h1, h2⟩]
end Go.Proofs.Ytpkmnfpbcakflaa
