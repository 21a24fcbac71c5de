/- The walk of wal's named on a Name. No condition. -/
import Derived.Test.YtpkmnfpbcakflaaWName
import Derived.Deep.QuietTactic
namespace Go.Proofs.Ytpkmnfpbcakflaa
open Go.ChangeShapes Go.WideShapes Go.ChangeAt Go.RowKit

theorem digs_at : ∀ (k n j : Nat), j < k → (digs k n)[j]? = some (hexs[n / 16 ^ (k - 1 - j) % 16]!)
  | 0, _, _, h => by omega
  | k + 1, n, 0, _ => by rw [digs_cons]; simp
  | k + 1, n, j + 1, h => by
    rw [digs_cons, List.getElem?_cons_succ, digs_at k n j (by omega)]
    rw [show k + 1 - 1 - (j + 1) = k - 1 - j by omega]
def hx (d : Nat) : Nat := hexs[d]!
theorem hx_inj (k d : Nat) (hk : k < 16) (hd : d < 16) : (((hx k : Nat) : Int) == ((hx d : Nat) : Int)) = decide (k = d) := by
  have : ∀ k < 16, ∀ d < 16, (((hx k : Nat) : Int) == ((hx d : Nat) : Int)) = decide (k = d) := by decide
  exact this k hk d hd
theorem hx_lt (d : Nat) (hd : d < 16) : hx d < 256 := by
  have : ∀ d < 16, hx d < 256 := by decide
  exact this d hd
theorem hexC_at (d : Nat) (hd : d < 16) : ∀ h : d < hexC.size, (((hexC[d]'h).toNat : Nat) : Int) = (hx d : Nat) := by
  have : ∀ d < 16, ∀ h : d < hexC.size, (((hexC[d]'h).toNat : Nat) : Int) = (hx d : Nat) := by decide
  exact this d hd
def accN (P d k : Nat) : Nat := if k ≤ d then P else 16 * P + d
theorem or_digit (P q : Nat) (hq : q < 16) (hP : 16 * P + q ≤ 1099511627776) : bits .or .u64 ((P : Int) * 16) (q : Int) = ((16 * P + q : Nat) : Int) := by
  have h := u64_or_nat (16 * P) q (by omega) (by omega)
  rw [nat_join 4 (16 * P) q (by omega) (by omega)] at h
  rw [← h]
  congr 1
  omega
theorem index_bytesN (l : List Nat) (i x : Nat) (hx : l[i]? = some x) (hx2 : x < 256) (w : World) : (Instr.index 9 (.string (bytesN l)) (.int .i64 (i : Int))).run Try.prog w = .ok (.int .u8 (x : Int)) w := by
  have hu := Try.underlying9
  have hb : (bytesN l)[i]? = some (UInt8.ofNat x) := by
    have h1 : (bytesN l).data[i]? = some (UInt8.ofNat x) := by simp [bytesN, hx]
    obtain ⟨hl, h2⟩ := Array.getElem?_eq_some_iff.1 h1
    rw [getElem?_pos (bytesN l) i hl]
    exact congrArg some h2
  simp [Instr.index, run_underlying hu, asIntOf, hb]
  omega
set_option maxRecDepth 100000 in
set_option maxHeartbeats 1000000 in
theorem wnamed_any (n : Nat) (h : n ≤ 1099511627776) (w : World) : Calls Try.prog 72 #[.string (nameN n)] w fun e w' => e = .returned (.bool true) ∧ Below w.heap.size w w' := by
  have hN := wal_name n
  have hn : nameN n = bytesN (106 :: digs 15 n) := by unfold nameN; rw [if_neg (by omega)]
  have HX := Lib.hid (fun (t : Nat) (ht : t < 15) w => index_bytesN (106 :: digs 15 n) (t + 1) (hx (n / 16 ^ (14 - t) % 16)) (by rw [List.getElem?_cons_succ, digs_at 15 n t ht]; rfl) (hx_lt _ (Nat.mod_lt _ (by omega))) w)
  have hs : (nameN n).size = 16 := by rw [hn, bytesN_size]; simp [digs_len]
  rw [← hn] at HX
  have HN := Lib.hid hN
  have HH := Lib.hid h
  have hz : (n / 16 ^ 15 : Nat) = 0 := Nat.div_eq_of_lt (by omega)
  have HZ := Lib.hid hz
  generalize nameN n = s at *
  clear hn h hN hz
  go_enter Try.func72, Try.ntmps72
  go_wp2_with fail
  go_loopw [3, 4] (fun v i wr => ∃ t : Nat, i = .int .i64 (t + 1 : Nat) ∧ t ≤ 15 ∧ v = .int .u64 (n / 16 ^ (15 - t) : Nat) ∧ ∃ nd, wr = w.drewN nd) (fun _ i _ => 16 - (intOf i).toNat)
  case atStart => exact ⟨0, rfl, Nat.zero_le _, by rw [HZ.out]; rfl, 0, rfl⟩
  case round =>
    obtain ⟨t, rfl, ht, rfl, nd, rfl⟩ := hrel
    obtain ⟨P, hP⟩ : ∃ P, n / 16 ^ (15 - t) = P := ⟨_, rfl⟩
    have hPn : P ≤ 1099511627776 := by rw [← hP]; exact Nat.le_trans (Nat.div_le_self _ _) HH.out
    rw [hP]
    have HP := Lib.hid hP
    clear hP
    by_cases hlt : t < 15
    · obtain ⟨d, hd⟩ : ∃ d, n / 16 ^ (14 - t) % 16 = d := ⟨_, rfl⟩
      have hd16 : d < 16 := by rw [← hd]; exact Nat.mod_lt _ (by omega)
      have hX := fun w => HX.out t hlt w
      simp only [Int.natCast_add, Int.natCast_one] at hX
      rw [hd] at hX
      have hQ : n / 16 ^ (14 - t) = 16 * P + d := by
        have e : P = n / 16 ^ (14 - t) / 16 := by rw [← HP.out, show 15 - t = 14 - t + 1 by omega, Nat.pow_succ, Nat.div_div_eq_div_mul]
        omega
      have hQn : 16 * P + d ≤ 1099511627776 := by rw [← hQ]; exact Nat.le_trans (Nat.div_le_self _ _) HH.out
      have HQ := Lib.hid hQ
      clear hd hQ
      go_wp2_with fail
      go_loopw [3, 5] (fun v k wr => ∃ q : Nat, k = .int .u64 q ∧ q ≤ 16 ∧ v = .int .u64 (accN P d q) ∧ ∃ nd, wr = w.drewN nd) (fun _ k _ => 16 - (intOf k).toNat)
      case atStart => exact ⟨0, rfl, Nat.zero_le _, by simp [accN], nd, rfl⟩
      case round =>
        obtain ⟨q, rfl, hq, rfl, nq, rfl⟩ := hrel
        by_cases hlq : q < 16
        · have hI2 := hexC_at q hlq
          by_cases hqd : q = d
          · subst hqd
            have ho := or_digit P q hlq hQn
            have hac : accN P q q = P := by unfold accN; rw [if_pos (by omega)]
            have HAc := Lib.hid (show 16 * P + q = accN P q (q + 1) by unfold accN; rw [if_neg (by omega)])
            rw [hac]
            clear hac
            go_wp2_with fail
            go_quiet (fail)
            go_wp2_with fail
            go_roundw
            case rel => exact ⟨q + 1, rfl, by omega, by rw [← HAc.out]; congr 1, _, rfl⟩
            case measure => simp [intOf]; omega
          · have ht1 := hx_inj q d hlq hd16
            rw [decide_eq_false hqd] at ht1
            have hac : accN P d (q + 1) = accN P d q := by unfold accN; split <;> split <;> omega
            have HAc := Lib.hid hac
            clear hac
            go_wp2_with fail
            go_quiet (fail)
            go_wp2_with fail
            go_roundw
            case rel => exact ⟨q + 1, rfl, by omega, by rw [HAc.out], _, rfl⟩
            case measure => simp [intOf]; omega
        · obtain rfl : q = 16 := by omega
          have hac : accN P d 16 = 16 * P + d := by unfold accN; rw [if_neg (by omega)]
          rw [hac]
          go_wp2_with fail
          go_roundw
          case rel => exact ⟨t + 1, rfl, by omega, by rw [show 15 - (t + 1) = 14 - t by omega, HQ.out], _, rfl⟩
          case measure => simp [intOf]; omega
    · obtain rfl : t = 15 := by omega
      have hPN : P = n := by rw [← HP.out]; simp
      subst hPN
      go_wp2_with fail
      refine (HN.out _).mono ?_
      rintro e w1 ⟨rfl, hB⟩
      go_wp2_with fail
      go_ret
      exact ⟨rfl, ⟨hB.os, hB.tape, hB.output, hB.size, hB.block⟩⟩
end Go.Proofs.Ytpkmnfpbcakflaa
