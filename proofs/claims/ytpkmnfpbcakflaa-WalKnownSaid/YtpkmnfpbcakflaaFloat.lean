/- Plain laws of floats: what a number is written as is no NaN; a whole number by 2^53 is a valid quotient. No condition; no program in sight. -/
import Ieee.Arith
import Derived.Laws.FloatArith
import Derived.KernelRfl
namespace Go.Proofs.Ytpkmnfpbcakflaa
open Ieee

theorem read_word_num (neg : Bool) (rung : Nat) (h : rung < Format.infRung double) :
    ∃ m e, Format.read double (Format.word double neg rung) = .number neg m e := by
  have hi : Format.infRung double = 2047 * 4503599627370496 := by decide
  have hs : Format.signWeight double = 9223372036854775808 := by decide
  have hb : Format.binade double = 4503599627370496 := by decide
  rw [hi] at h
  have hw : Format.word double neg rung / 9223372036854775808 % 2 = neg.toNat ∧ Format.word double neg rung % 9223372036854775808 = rung := by
    unfold Format.word; rw [hs]; cases neg <;> simp <;> omega
  unfold Format.read
  rw [hs, hw.1, hw.2, hi, hb]
  have hn : (neg.toNat == 1) = neg := by cases neg <;> rfl
  simp only [hn]
  split
  · exact ⟨_, _, rfl⟩
  · exact ⟨_, _, rfl⟩

theorem read_word_inf (neg : Bool) : Format.read double (Format.word double neg (Format.infRung double)) = .infinity neg := by
  cases neg <;> rfl

/-- what is written of a number is no NaN -/
theorem read_nearest (neg : Bool) (mag : Nat) (place : Int) :
    (∃ m e, Format.read double (Format.nearest double neg mag place) = .number neg m e) ∨ Format.read double (Format.nearest double neg mag place) = .infinity neg := by
  unfold Format.nearest
  split
  · exact .inl (read_word_num neg 0 (by decide))
  · dsimp only
    generalize (_ : Nat) * _ + _ = x
    by_cases h : x < Format.infRung double
    · rw [Nat.min_eq_left (Nat.le_of_lt h)]; exact .inl (read_word_num neg x h)
    · rw [Nat.min_eq_right (Nat.le_of_not_lt h)]; exact .inr (read_word_inf neg)

theorem order_self (d : Datum) (h : d.isNaN = false) : d.order d = some .eq := by
  cases d with
  | number s m e => simp [Datum.order]
  | infinity s => simp [Datum.order]
  | nan s t => simp [Datum.isNaN] at h

theorem order_eq_self {x : Nat} (h : (Format.read double x).isNaN = false) : (Format.order double x x == some .eq) = true := by
  unfold Format.order; rw [order_self _ h]; rfl

theorem isNaN_nearest (neg : Bool) (mag : Nat) (place : Int) : (Format.read double (Format.nearest double neg mag place)).isNaN = false := by
  rcases read_nearest neg mag place with ⟨m, e, h⟩ | h <;> rw [h] <;> rfl

theorem isNaN_floatOfInt (n : Int) : (Format.read double (floatOfInt .f64 n)).isNaN = false := isNaN_nearest _ _ _

/-- a float of an int by 2^53: a valid operation, and its answer is no NaN -/
theorem quo_some (n : Int) : ∃ r, floatBits .quo .f64 (floatOfInt .f64 n) 4845873199050653696 = some r ∧ (Format.read double r).isNaN = false := by
  show ∃ r, Format.div double (floatOfInt .f64 n) 4845873199050653696 = some r ∧ _
  have h2 : Format.read double 4845873199050653696 = .number false 4503599627370496 1 := by kernel_rfl
  unfold Format.div
  rw [h2]
  have h1 : (∃ s m e, Format.read double (floatOfInt .f64 n) = .number s m e) ∨ ∃ s, Format.read double (floatOfInt .f64 n) = .infinity s := by
    rcases read_nearest (n < 0) n.natAbs 0 with ⟨m, e, h⟩ | h
    · exact .inl ⟨_, m, e, h⟩
    · exact .inr ⟨_, h⟩
  rcases h1 with ⟨s, m, e, h1⟩ | ⟨s, h1⟩ <;> rw [h1]
  · simp only [Datum.quotient]
    rw [if_neg (by decide)]
    exact ⟨_, rfl, isNaN_nearest _ _ _⟩
  · refine ⟨_, rfl, ?_⟩
    show (Format.read double (Format.word double (s ^^ false) (Format.infRung double))).isNaN = false
    rw [read_word_inf]; rfl

/-- the number of a state -/
def q53 (n : Int) : Nat := (floatBits .quo .f64 (floatOfInt .f64 n) 4845873199050653696).getD 0
theorem q53_eq (n : Int) : floatBits .quo .f64 (floatOfInt .f64 n) 4845873199050653696 = some (q53 n) := by
  obtain ⟨r, h, _⟩ := quo_some n
  unfold q53; rw [h]; rfl
theorem q53_nan (n : Int) : (Format.read double (q53 n)).isNaN = false := by
  obtain ⟨r, h, g⟩ := quo_some n
  unfold q53; rw [h]; exact g
theorem q53_self (n : Int) : (FloatKind.f64.format.order (q53 n) (q53 n) == some .eq) = true := order_eq_self (q53_nan n)
end Go.Proofs.Ytpkmnfpbcakflaa
