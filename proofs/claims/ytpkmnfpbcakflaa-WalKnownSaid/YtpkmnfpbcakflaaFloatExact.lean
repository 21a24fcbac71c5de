/- Plain laws of floats: a number that the format has is written exactly; float64 of whole numbers is one to one. No condition; no program in sight. -/
import Derived.Test.YtpkmnfpbcakflaaFloat
import Derived.Laws.Wrap64
namespace Go.Proofs.Ytpkmnfpbcakflaa
open Ieee

theorem cut_zero (n : Nat) (neg : Bool) : Toward.cut .even neg n 0 = n := by
  unfold Toward.cut
  simp [Nat.mod_one]

theorem cut_exact (q d : Nat) (neg : Bool) (h : d ≤ (q * 2 ^ d).log2 + 2) : Toward.cut .even neg (q * 2 ^ d) d = q := by
  unfold Toward.cut
  rw [Nat.min_eq_left h]
  have hp : 0 < 2 ^ d := Nat.two_pow_pos d
  have hne : (2 ^ d == 0) = false := by simp
  simp [Nat.shiftLeft_eq, hp]

theorem log2_mul_pow (k t : Nat) (hk : k ≠ 0) : (k * 2 ^ t).log2 = k.log2 + t := by
  have h0 : k * 2 ^ t ≠ 0 := Nat.mul_ne_zero hk (Nat.pos_iff_ne_zero.1 (Nat.two_pow_pos t))
  have h1 : 2 ^ (k.log2 + t) ≤ k * 2 ^ t := by
    rw [Nat.pow_add]; exact Nat.mul_le_mul_right _ (Nat.log2_self_le hk)
  have h2 : k * 2 ^ t < 2 ^ (k.log2 + t + 1) := by
    have : k.log2 + t + 1 = (k.log2 + 1) + t := by omega
    rw [this, Nat.pow_add]; exact Nat.mul_lt_mul_of_pos_right Nat.lt_log2_self (Nat.two_pow_pos t)
  have h3 := (Nat.le_log2 h0).2 h1
  have h4 := (Nat.log2_lt h0).2 h2
  omega

theorem kept_bounds (k : Nat) (hk : k ≠ 0) (hl : k.log2 ≤ 52) : 4503599627370496 ≤ k * 2 ^ (52 - k.log2) ∧ k * 2 ^ (52 - k.log2) < 9007199254740992 := by
  have h1 : 2 ^ k.log2 * 2 ^ (52 - k.log2) ≤ k * 2 ^ (52 - k.log2) := Nat.mul_le_mul_right _ (Nat.log2_self_le hk)
  have h2 : k * 2 ^ (52 - k.log2) < 2 ^ (k.log2 + 1) * 2 ^ (52 - k.log2) := Nat.mul_lt_mul_of_pos_right Nat.lt_log2_self (Nat.two_pow_pos _)
  rw [← Nat.pow_add] at h1 h2
  rw [show k.log2 + (52 - k.log2) = 52 from by omega] at h1
  rw [show k.log2 + 1 + (52 - k.log2) = 53 from by omega] at h2
  exact ⟨h1, h2⟩

/-- reading a normal rung -/
theorem read_normal (neg : Bool) (g kept : Nat) (hg : g < 2046) (h1 : 4503599627370496 ≤ kept) (h2 : kept < 9007199254740992) :
    Format.read double (Format.word double neg (g * 4503599627370496 + kept)) = .number neg kept (-1074 + (g : Int)) := by
  have hi : Format.infRung double = 2047 * 4503599627370496 := by decide
  have hs : Format.signWeight double = 9223372036854775808 := by decide
  have hb : Format.binade double = 4503599627370496 := by decide
  have hp : Format.leastPlace double = -1074 := by decide
  have hw : Format.word double neg (g * 4503599627370496 + kept) / 9223372036854775808 % 2 = neg.toNat ∧ Format.word double neg (g * 4503599627370496 + kept) % 9223372036854775808 = g * 4503599627370496 + kept := by
    unfold Format.word; rw [hs]; cases neg <;> simp <;> omega
  unfold Format.read
  rw [hs, hw.1, hw.2, hi, hb, hp]
  have hn : (neg.toNat == 1) = neg := by cases neg <;> rfl
  simp only [hn]
  rw [if_neg (by omega), if_pos (by omega)]
  have e1 : 4503599627370496 + (g * 4503599627370496 + kept) % 4503599627370496 = kept := by omega
  have e2 : (g * 4503599627370496 + kept) / 4503599627370496 - 1 = g := by omega
  rw [e1, e2]

/-- WHAT IS EXACT IS WRITTEN EXACTLY -/
theorem nearest_exact (neg : Bool) (k t : Nat) (place : Int) (hk : k ≠ 0) (hl : k.log2 ≤ 52) (h1 : -1074 ≤ place + t + k.log2 - 52) (h2 : place + t + k.log2 - 52 < 972) :
    Format.read double (Format.nearest double neg (k * 2 ^ t) place) = .number neg (k * 2 ^ (52 - k.log2)) (place + t + k.log2 - 52) := by
  have h0 : k * 2 ^ t ≠ 0 := Nat.mul_ne_zero hk (Nat.pos_iff_ne_zero.1 (Nat.two_pow_pos t))
  have hb : Format.binade double = 4503599627370496 := by decide
  have hp : Format.leastPlace double = -1074 := by decide
  have hf : double.fractionBits = 52 := rfl
  have hi : Format.infRung double = 2047 * 4503599627370496 := by decide
  have kb := kept_bounds k hk hl
  unfold Format.nearest
  rw [if_neg h0]
  simp only [hp, hb, hf, log2_mul_pow k t hk, hi]
  have hm : max (place + ((k.log2 + t : Nat) : Int) - ((52 : Nat) : Int)) (-1074) = place + t + k.log2 - 52 := by omega
  rw [hm]
  have hkept : Toward.even.cut neg ((k * 2 ^ t) <<< (place - (place + t + k.log2 - 52)).toNat) (place + t + k.log2 - 52 - place).toNat = k * 2 ^ (52 - k.log2) := by
    by_cases hc : k.log2 + t ≤ 52
    · rw [show (place + t + k.log2 - 52 - place).toNat = 0 from by omega, cut_zero, Nat.shiftLeft_eq, Nat.mul_assoc, ← Nat.pow_add]
      congr 2; omega
    · rw [show (place - (place + t + k.log2 - 52)).toNat = 0 from by omega, Nat.shiftLeft_zero, show (place + t + k.log2 - 52 - place).toNat = k.log2 + t - 52 from by omega]
      have e : k * 2 ^ t = k * 2 ^ (52 - k.log2) * 2 ^ (k.log2 + t - 52) := by
        rw [Nat.mul_assoc, ← Nat.pow_add]; congr 2; omega
      rw [e]
      refine cut_exact _ _ _ ?_
      rw [← e, log2_mul_pow k t hk]; omega
  rw [hkept]
  generalize k * 2 ^ (52 - k.log2) = kept at *
  have hg : ∃ g : Nat, g < 2046 ∧ (place + t + k.log2 - 52 - -1074).toNat = g ∧ -1074 + (g : Int) = place + t + k.log2 - 52 := ⟨(place + t + k.log2 - 52 - -1074).toNat, by omega, rfl, by omega⟩
  obtain ⟨g, hg1, hg2, hg3⟩ := hg
  rw [hg2, Nat.min_eq_left (by omega), read_normal neg g kept hg1 kb.1 kb.2, hg3]

/-! float64(n) of a whole number that fits -/
theorem read_foi (n : Int) (hn : n ≠ 0) (hl : n.natAbs.log2 ≤ 52) :
    Format.read double (floatOfInt .f64 n) = .number (n < 0) (n.natAbs * 2 ^ (52 - n.natAbs.log2)) ((n.natAbs.log2 : Int) - 52) := by
  have h := nearest_exact (n < 0) n.natAbs 0 0 (by omega) hl (by omega) (by omega)
  rw [Nat.pow_zero, Nat.mul_one] at h
  show Format.read double (Format.nearest double (n < 0) n.natAbs 0) = _
  rw [h]; congr 1; omega

theorem foi_zero : floatOfInt .f64 0 = 0 := by kernel_rfl
theorem read_zero : Format.read double 0 = .number false 0 (-1074) := by kernel_rfl

theorem foi_lt (n : Int) : floatOfInt .f64 n < 18446744073709551616 := by
  have h := floatOfInt_wf .f64 n
  simp only [Lit.wf, decide_eq_true_eq] at h
  exact h

theorem log2_le_of_lt {n k : Nat} (h : n < 2 ^ (k + 1)) : n.log2 ≤ k := by
  by_cases h0 : n = 0
  · subst h0; simp
  · have := (Nat.log2_lt h0).2 h; omega

theorem foi_inj (a b : Int) (ha : a.natAbs.log2 ≤ 52) (hb : b.natAbs.log2 ≤ 52) (h : floatOfInt .f64 a = floatOfInt .f64 b) : a = b := by
  have pos (c : Int) (hc : c ≠ 0) : 0 < c.natAbs * 2 ^ (52 - c.natAbs.log2) := Nat.mul_pos (by omega) (Nat.two_pow_pos _)
  by_cases a0 : a = 0
  · by_cases b0 : b = 0
    · rw [a0, b0]
    · have hr := read_foi b b0 hb
      rw [← h, a0, foi_zero, read_zero] at hr
      have := pos b b0
      injection hr with _ h2 _
      omega
  · by_cases b0 : b = 0
    · have hr := read_foi a a0 ha
      rw [h, b0, foi_zero, read_zero] at hr
      have := pos a a0
      injection hr with _ h2 _
      omega
    · have hr := read_foi a a0 ha
      rw [h, read_foi b b0 hb] at hr
      injection hr with h1 h2 h3
      have e : a.natAbs.log2 = b.natAbs.log2 := by omega
      rw [e] at h2
      have h4 := Nat.eq_of_mul_eq_mul_right (Nat.two_pow_pos _) h2
      have h5 : (a < 0) ↔ (b < 0) := by
        have := decide_eq_decide.1 h1; omega
      omega

/-- the order of two of them is theirs -/
theorem order_foi_zero (a : Int) (ha : a.natAbs.log2 ≤ 52) : (Format.order double (floatOfInt .f64 a) 0 == some .eq) = decide (a = 0) := by
  by_cases a0 : a = 0
  · subst a0; rw [foi_zero]; decide +kernel
  · have hr := read_foi a a0 ha
    have hp : 0 < a.natAbs * 2 ^ (52 - a.natAbs.log2) := Nat.mul_pos (by omega) (Nat.two_pow_pos _)
    unfold Format.order
    rw [hr, read_zero]
    simp only [Datum.order, a0, decide_false]
    generalize a.natAbs * 2 ^ (52 - a.natAbs.log2) = m at *
    have hs (x : Nat) : 0 < m <<< x := by rw [Nat.shiftLeft_eq]; exact Nat.mul_pos hp (Nat.two_pow_pos _)
    have := hs ((a.natAbs.log2 : Int) - 52 - min ((a.natAbs.log2 : Int) - 52) (-1074)).toNat
    unfold signed
    generalize m <<< ((a.natAbs.log2 : Int) - 52 - min ((a.natAbs.log2 : Int) - 52) (-1074)).toNat = y at *
    have : compare (if decide (a < 0) = true then -(y : Int) else (y : Int)) (if false = true then -((0 <<< (-1074 - min ((a.natAbs.log2 : Int) - 52) (-1074)).toNat : Nat) : Int) else ((0 <<< (-1074 - min ((a.natAbs.log2 : Int) - 52) (-1074)).toNat : Nat) : Int)) ≠ .eq := by
      intro hc
      rw [Int.compare_eq_eq] at hc
      simp only [Nat.zero_shiftLeft] at hc
      split at hc <;> simp at hc <;> omega
    simpa using this
end Go.Proofs.Ytpkmnfpbcakflaa
