/- The walks of pack's whole and Sum: the sum of bytes, a complex number of whole parts. No condition. -/
import Derived.Test.YtpkmnfpbcakflaaOps
import Derived.Test.YtpkmnfpbcakflaaFloatInt
import Derived.Test.YtpkmnfpbcakflaaOpen
import Derived.Laws.ComplexArith
namespace Go.Proofs.Ytpkmnfpbcakflaa
open Go.ChangeShapes Go.WideShapes Go.ChangeAt Go.RowKit

theorem Src.at_ {w : World} {a : Option Addr} {n c : Nat} {xs : List Value} (h : Src w 1 (.slice a n c) n xs) (hn : 0 < n) : ∃ bk off, a = some ⟨bk, off, none⟩ ∧ bk < w.heap.size ∧ ∀ j u, xs[j]? = some u → w.cell? ⟨bk, off + j, none⟩ = some u := by
  have hl := h.1
  rcases h.2.2 with ⟨_, h0⟩ | ⟨ad, c', e, hr⟩
  · omega
  · simp only [Value.slice.injEq, true_and] at e
    obtain ⟨rfl, rfl⟩ := e
    have h0 := hr 0 xs[0] (List.getElem?_eq_getElem (by omega))
    have e0 : ad.add 0 = ad := by simp [Addr.add]
    rw [e0] at h0
    have hs := spot_of_cell h0
    obtain ⟨bk, off, sp⟩ := ad
    simp only at hs
    subst hs
    refine ⟨bk, off, rfl, block_lt_of_cell h0, fun j u hu => ?_⟩
    have := hr j u hu
    have ea : (⟨bk, off, none⟩ : Addr).add j = ⟨bk, off + j, none⟩ := by unfold Addr.add; split <;> simp_all
    rwa [ea] at this

theorem mul_fi (a b : Int) (ha : 0 ≤ a) (hb : 0 ≤ b) (ha2 : a < 4503599627370496) (hb2 : b < 4503599627370496) (hab : a * b < 4503599627370496) : floatBits .mul .f64 (fi a) (fi b) = some (fi (a * b)) := by
  obtain ⟨n, rfl⟩ := Int.eq_ofNat_of_zero_le ha
  obtain ⟨m, rfl⟩ := Int.eq_ofNat_of_zero_le hb
  have := mul_fl n m (by omega) (by omega) (by rw [← Int.natCast_mul] at hab; omega)
  rw [fi_fl, fi_fl, this, ← Int.natCast_mul, fi_fl]
theorem c257 : fi 257 = 4643228808005025792 := by kernel_rfl
theorem c3 : fi 3 = 4613937818241073152 := by kernel_rfl
theorem c1 : fi 1 = 4607182418800017408 := by kernel_rfl
theorem fi_zero : fi 0 = 0 := by kernel_rfl
theorem cmul_sum (a b : Int) (ha : 0 ≤ a) (hb : 0 ≤ b) (ha2 : a < 16777216) (hb2 : b < 16777216) : cMulBits (fi a) (fi b) 4643228808005025792 4613937818241073152 = some (fi (a * 257 - b * 3), fi (a * 3 + b * 257)) := by
  unfold cMulBits
  rw [← c257, ← c3, mul_fi a 257 ha (by omega) (by omega) (by omega) (by omega), mul_fi b 3 hb (by omega) (by omega) (by omega) (by omega), mul_fi a 3 ha (by omega) (by omega) (by omega) (by omega), mul_fi b 257 hb (by omega) (by omega) (by omega) (by omega)]
  simp only [Option.bind_some]
  rw [sub_fi _ _ (by omega) (by omega) (by omega), add_fi _ _ (by omega) (by omega) (by omega)]
  rfl
theorem cadd_sum (u v x : Int) (hu : u.natAbs < 10000000000) (hv : v.natAbs < 10000000000) (hx : x.natAbs < 1000) : cSumBits .add .f64 (fi u) (fi v) (fi x) 0 = some (fi (u + x), fi v) := by
  unfold cSumBits
  rw [← fi_zero, add_fi _ _ (by omega) (by omega) (by omega), add_fi v 0 (by omega) (by omega) (by omega), Int.add_zero]
  rfl

/-- a part brought into 0 to the modulus less 1 -/
def wholeZ (z : Int) : Int := pickV z 16777199
theorem wholeZ_range (z : Int) : 0 ≤ wholeZ z ∧ wholeZ z < 16777199 := by
  obtain ⟨m, hm, hlt⟩ := pickV_at z 16777199 (by omega)
  unfold wholeZ; rw [hm]; omega
theorem whole_any (z : Int) (hz : z.natAbs < 10000000000) (w : World) : Calls Try.prog 129 #[.float .f64 (fi z)] w fun e w' => e = .returned (.float .f64 (fi (wholeZ z))) ∧ w = w' := by
  have cv : ∀ w, (convert 134 2 (.float .f64 (fi z))).run Try.prog w = .ok (.int .i64 z) w := fun w => run_convert_float_int w 134 2 .f64 .i64 _ _ (by rw [Try.underlying134]; rfl) Try.underlying2 (toInt_fi z (by omega) .i64 (by have : IntKind.i64.min = -9223372036854775808 := rfl; omega) (by have : IntKind.i64.max = 9223372036854775807 := rfl; omega))
  have b1 : -16777199 < z.tmod 16777199 := by
    have := Int.lt_tmod_of_pos z (show (0 : Int) < 16777199 by omega); omega
  have b2 : z.tmod 16777199 < 16777199 := Int.tmod_lt_of_pos z (by omega)
  have hfi : ∀ z : Int, floatOfInt .f64 z = fi z := fun _ => rfl
  unfold wholeZ pickV
  clear hz
  by_cases hlt : z.tmod 16777199 < 0
  · rw [if_pos hlt]
    go_enter Try.func129, Try.ntmps129
    go_wp2
    go_ret
    exact ⟨rfl, rfl⟩
  · rw [if_neg hlt]
    go_enter Try.func129, Try.ntmps129
    go_wp2
    go_ret
    exact ⟨rfl, rfl⟩

def sumStep (p : Int × Int) (x : Int) : Int × Int := (wholeZ (p.1 * 257 - p.2 * 3 + (x + 1)), wholeZ (p.1 * 3 + p.2 * 257))
/-- the sum of bytes -/
def sumZ (b : List Int) : Int × Int := b.foldl sumStep (1, 0)
theorem sumZ_range (b : List Int) : 0 ≤ (sumZ b).1 ∧ (sumZ b).1 < 16777199 ∧ 0 ≤ (sumZ b).2 ∧ (sumZ b).2 < 16777199 := by
  have key : ∀ (b : List Int) (p : Int × Int), (0 ≤ p.1 ∧ p.1 < 16777199 ∧ 0 ≤ p.2 ∧ p.2 < 16777199) → 0 ≤ (b.foldl sumStep p).1 ∧ (b.foldl sumStep p).1 < 16777199 ∧ 0 ≤ (b.foldl sumStep p).2 ∧ (b.foldl sumStep p).2 < 16777199 := by
    intro b
    induction b with
    | nil => intro p h; exact h
    | cons x b ih =>
      intro p _
      refine ih _ ?_
      have h1 := wholeZ_range (p.1 * 257 - p.2 * 3 + (x + 1))
      have h2 := wholeZ_range (p.1 * 3 + p.2 * 257)
      exact ⟨h1.1, h1.2, h2.1, h2.2⟩
  exact key b (1, 0) ⟨by decide, by decide, by decide, by decide⟩
theorem sumZ_snoc (b : List Int) (k : Nat) (x : Int) (h : b[k]? = some x) : sumZ (b.take (k + 1)) = sumStep (sumZ (b.take k)) x := by
  have hlt := (List.getElem?_eq_some_iff.1 h).1
  unfold sumZ
  rw [List.take_succ_eq_append_getElem hlt, (List.getElem?_eq_some_iff.1 h).2, List.foldl_append]; rfl

set_option maxHeartbeats 1000000 in
theorem sum_any (a : Option Addr) (n c : Nat) (b : List Int) (w : World) (h : Src w 1 (.slice a n c) n (byteCells b)) (hb : ∀ x ∈ b, 0 ≤ x ∧ x < 256) (hn : n ≤ 1000000000) :
    Calls Try.prog 111 #[.slice a n c] w fun e w' => e = .returned (.complex .f64 (fi (sumZ b).1) (fi (sumZ b).2)) ∧ w = w' := by
  have hl : b.length = n := by have := h.1; rw [byteCells_len] at this; omega
  have HS := Lib.hid h
  have HL := Lib.hid hl
  have HB := Lib.hid hb
  clear h hl hb
  go_enter Try.func111, Try.ntmps111
  go_wp2_with fail
  go_loop [3, 8] (fun s i => ∃ k : Nat, i = .int .i64 k ∧ k ≤ n ∧ s = .complex .f64 (fi (sumZ (b.take k)).1) (fi (sumZ (b.take k)).2)) (fun _ i => n - (intOf i).toNat)
  case atStart => exact ⟨0, rfl, Nat.zero_le _, by show _ = Value.complex .f64 (fi 1) (fi 0); rw [c1, fi_zero]⟩
  case round =>
    obtain ⟨k, rfl, hk, rfl⟩ := hrel
    by_cases hlt : k < n
    · obtain ⟨bk, off, rfl, hbl, hcell⟩ := HS.out.at_ (by omega)
      obtain ⟨x, hx⟩ : ∃ x, b[k]? = some x := ⟨_, List.getElem?_eq_getElem (by rw [HL.out]; omega)⟩
      have hxb := HB.out x (List.mem_of_getElem? hx)
      have c0 : w.cell? ⟨bk, off + k, none⟩ = some (.int .u8 x) := hcell k _ (by simp [byteCells, hx])
      have hr := sumZ_range (b.take k)
      have hsn := sumZ_snoc b k x hx
      generalize sumZ (b.take k) = p at *
      obtain ⟨u, v⟩ := p
      simp only at hr
      have hm : ∀ w, (binOp .mul 74 (.complex .f64 (fi u) (fi v)) (.complex .f64 4643228808005025792 4613937818241073152)).run Try.prog w = .ok (.complex .f64 (fi (u * 257 - v * 3)) (fi (u * 3 + v * 257))) w := fun w => run_complex_mul w 74 _ _ _ _ _ _ (cmul_sum u v hr.1 hr.2.2.1 (by omega) (by omega))
      have hfi : ∀ z : Int, floatOfInt .f64 z = fi z := fun _ => rfl
      have h1 : ∀ w, (binOp .add 134 (.float .f64 (fi x)) (.float .f64 4607182418800017408)).run Try.prog w = .ok (.float .f64 (fi (x + 1))) w := fun w => run_float_arith w .add 134 .f64 _ _ _ (by rw [← c1]; exact add_fi x 1 (by omega) (by omega) (by omega))
      obtain ⟨M, hM⟩ : ∃ M, u * 257 - v * 3 = M := ⟨_, rfl⟩
      obtain ⟨N, hN⟩ : ∃ N, u * 3 + v * 257 = N := ⟨_, rfl⟩
      have hMr : -60000000 ≤ M ∧ M ≤ 5000000000 := by omega
      have hNr : 0 ≤ N ∧ N ≤ 5000000000 := by omega
      rw [hM, hN] at hm
      have h2 : ∀ w, (binOp .add 74 (.complex .f64 (fi M) (fi N)) (.complex .f64 (fi (x + 1)) 0)).run Try.prog w = .ok (.complex .f64 (fi (M + (x + 1))) (fi N)) w := fun w => run_complex_sum w .add (.inl rfl) 74 .f64 _ _ _ _ _ _ (cadd_sum M N (x + 1) (by omega) (by omega) (by omega))
      have hst : sumZ (b.take (k + 1)) = (wholeZ (M + (x + 1)), wholeZ N) := by rw [hsn, ← hM, ← hN]; rfl
      have HW1 := Lib.hid (fun w => whole_any (M + (x + 1)) (by omega) w)
      have HW2 := Lib.hid (fun w => whole_any N (by omega) w)
      have HSt := Lib.hid hst
      clear hcell hx hsn hM hN hst hMr hNr hr
      go_wp2_with fail
      refine (HW1.out _).mono ?_
      rintro e w' ⟨rfl, rfl⟩
      go_wp2_with fail
      refine (HW2.out _).mono ?_
      rintro e w' ⟨rfl, rfl⟩
      go_wp2_with fail
      go_round
      case rel => exact ⟨k + 1, by go_num, by omega, by rw [HSt.out]⟩
      case measure => simp [intOf]; omega
    · obtain rfl : k = n := by omega
      have e : b.take k = b := List.take_of_length_le (by rw [HL.out]; omega)
      rw [e]
      clear e
      go_wp2_with fail
      go_ret
      exact ⟨rfl, rfl⟩
end Go.Proofs.Ytpkmnfpbcakflaa
