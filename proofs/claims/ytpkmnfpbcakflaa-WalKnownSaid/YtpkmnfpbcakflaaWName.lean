/- The walks of wal's Name and of the reference's. No condition. -/
import Derived.Test.YtpkmnfpbcakflaaOps
import Derived.Laws.BitsAllLaws
namespace Go.Proofs.Ytpkmnfpbcakflaa
open Go.ChangeShapes Go.WideShapes Go.ChangeAt Go.RowKit

def hexs : List Nat := [48, 49, 50, 51, 52, 53, 54, 55, 56, 57, 97, 98, 99, 100, 101, 102]
/-- the last k digits of n, most significant first -/
def digs : Nat → Nat → List Nat
  | 0, _ => []
  | k + 1, n => digs k (n / 16) ++ [hexs[n % 16]!]
theorem digs_len : ∀ k n, (digs k n).length = k
  | 0, _ => rfl
  | k + 1, n => by simp [digs, digs_len k]
theorem wname_big (n : Nat) (h : 1099511627776 < n) (w : World) : Calls Try.prog 37 #[.int .u64 n] w fun e w' => e = .returned (.string ⟨#[]⟩) ∧ w = w' := by
  have h' : (1099511627776 : Int) < (n : Int) := by omega
  go_enter Try.func37, Try.ntmps37
  go_wp2
  go_ret
  exact ⟨rfl, rfl⟩
theorem rname_big (n : Nat) (h : 1099511627776 < n) (w : World) : Calls Try.prog 38 #[.int .u64 n] w fun e w' => e = .returned (.string ⟨#[]⟩) ∧ w = w' := by
  have h' : (1099511627776 : Int) < (n : Int) := by omega
  go_enter Try.func38, Try.ntmps38
  go_wp2
  go_ret
  exact ⟨rfl, rfl⟩
theorem digs_cons : ∀ i n, digs (i + 1) n = hexs[n / 16 ^ i % 16]! :: digs i n
  | 0, n => by simp [digs]
  | i + 1, n => by
    have h := digs_cons i (n / 16)
    rw [Nat.div_div_eq_div_mul, ← Nat.pow_succ'] at h
    show digs (i + 1) (n / 16) ++ [hexs[n % 16]!] = _
    rw [h]
    rfl
def bytesN (l : List Nat) : ByteArray := ⟨(l.map fun d => UInt8.ofNat d).toArray⟩
abbrev hexC : ByteArray := ⟨#[48, 49, 50, 51, 52, 53, 54, 55, 56, 57, 97, 98, 99, 100, 101, 102]⟩
theorem slice_hex (d : Nat) (hd : d < 16) (w : World) : (Instr.slice 9 (.string hexC) (some (.int .u64 (d : Int))) (some (.int .u64 ((d : Int) + 1))) none).run Try.prog w = .ok (.string (bytesN [hexs[d]!])) w := by
  have hu := Try.underlying9
  rcases d with _ | _ | _ | _ | _ | _ | _ | _ | _ | _ | _ | _ | _ | _ | _ | _ | d <;> first
    | omega
    | (simp [Instr.slice, run_underlying hu, Instr.sliceBounds, Instr.sliceBound, asIntOf, bytesN, hexs]; rfl)
theorem bytesN_add (a b : List Nat) : bytesN a ++ bytesN b = bytesN (a ++ b) := by
  apply ByteArray.ext
  simp [bytesN, ByteArray.data_append]
theorem bytesN_size (a : List Nat) : (bytesN a).size = a.length := by simp [bytesN, ByteArray.size]
theorem bytesN_j : (⟨#[106]⟩ : ByteArray) = bytesN [106] := rfl
set_option maxRecDepth 100000 in
set_option maxHeartbeats 1000000 in
theorem rname_any (n : Nat) (h : n ≤ 1099511627776) (w : World) : Calls Try.prog 38 #[.int .u64 n] w fun e w' => e = .returned (.string (bytesN (106 :: digs 15 n))) ∧ w = w' := by
  have h' : ¬ (1099511627776 : Int) < (n : Int) := by omega
  go_enter Try.func38, Try.ntmps38
  go_wp2_with fail
  go_loop [0, 3, 4] (fun v s i => ∃ k : Nat, i = .int .i64 k ∧ k ≤ 15 ∧ v = .int .u64 (n / 16 ^ k : Nat) ∧ s = .string (bytesN (digs k n))) (fun _ _ i => 15 - (intOf i).toNat)
  case atStart => exact ⟨0, rfl, Nat.zero_le _, by simp, rfl⟩
  case round =>
    obtain ⟨k, rfl, hk, rfl, rfl⟩ := hrel
    obtain ⟨m, hm⟩ : ∃ m, n / 16 ^ k = m := ⟨_, rfl⟩
    have hmn : m ≤ 1099511627776 := by rw [← hm]; exact Nat.le_trans (Nat.div_le_self _ _) h
    obtain ⟨d, hd⟩ : ∃ d, m % 16 = d := ⟨_, rfl⟩
    have hd16 : d < 16 := by omega
    have hdi : (m : Int) % 16 = (d : Int) := by omega
    have hdt : (m : Int).tmod 16 = (d : Int) := by rw [Int.tmod_eq_emod_of_nonneg (by omega)]; omega
    have HS := slice_hex d hd16
    have HD := Lib.hid (show digs (k + 1) n = hexs[d]! :: digs k n by rw [digs_cons, hm, hd])
    have HQ := Lib.hid (show m / 16 = n / 16 ^ (k + 1) by rw [← hm, Nat.pow_succ, Nat.div_div_eq_div_mul])
    have z1 : (bytesN [hexs[d]!]).size = 1 := bytesN_size _
    have z2 : (bytesN (digs k n)).size = k := by rw [bytesN_size, digs_len]
    rw [hm]
    obtain ⟨l, hl⟩ : ∃ l, digs k n = l := ⟨_, rfl⟩
    rw [hl] at HD z2 ⊢
    have HL := Lib.hid hl
    generalize hexs[d]! = x at *
    clear hm hd h h' hl
    by_cases hlt : k < 15
    · go_wp2_with fail
      go_round
      case rel => exact ⟨k + 1, rfl, by omega, by rw [← HQ.out]; rfl, by rw [bytesN_add, HD.out]; rfl⟩
      case measure => simp [intOf]; omega
    · have hk15 : k = 15 := by omega
      go_wp2_with fail
      go_ret
      have := HL.out
      rw [hk15] at this
      rw [this, bytesN_j, bytesN_add]
      exact ⟨rfl, rfl⟩
theorem index_hex (d : Nat) (hd : d < 16) (w : World) : (Instr.index 9 (.string hexC) (.int .u64 (d : Int))).run Try.prog w = .ok (.int .u8 (hexs[d]! : Nat)) w := by
  have hu := Try.underlying9
  rcases d with _ | _ | _ | _ | _ | _ | _ | _ | _ | _ | _ | _ | _ | _ | _ | _ | d <;> first
    | omega
    | (simp [Instr.index, run_underlying hu, asIntOf, hexs]; rfl)
def natCells (l : List Nat) : List Int := l.map Int.ofNat
theorem natCells_len (l : List Nat) : (natCells l).length = l.length := by simp [natCells]
theorem str_natCells (l : List Nat) : strOfNums (natCells l) = bytesN l := by simp [strOfNums, natCells, bytesN]
theorem and15 (m : Nat) (hm : m ≤ 1099511627776) : bits .and .u64 (m : Int) 15 = ((m % 16 : Nat) : Int) := by
  have := u64_and_nat m 15 (by omega) (by omega)
  rw [show ((15 : Nat) : Int) = 15 from rfl] at this
  rw [this, Nat.and_two_pow_sub_one_eq_mod m 4]
theorem set_dig (j x : Nat) (l : List Nat) : (byteCells (natCells (106 :: (List.replicate (j + 1) 0 ++ l)))).set (j + 1) (.int .u8 (x : Int)) = byteCells (natCells (106 :: (List.replicate j 0 ++ x :: l))) := by
  have e : List.replicate (j + 1) 0 ++ l = List.replicate j 0 ++ 0 :: l := by rw [List.replicate_succ', List.append_assoc]; rfl
  rw [e]
  simp [byteCells, natCells]
set_option maxRecDepth 100000 in
set_option maxHeartbeats 1000000 in
theorem wname_any (n : Nat) (h : n ≤ 1099511627776) (w : World) : Calls Try.prog 37 #[.int .u64 n] w fun e w' => e = .returned (.string (bytesN (106 :: digs 15 n))) ∧ Below w.heap.size w w' := by
  obtain ⟨i0, hi0, hz0, hz1, hz2⟩ := info_parts infoB
  have h' : ¬ (1099511627776 : Int) < (n : Int) := by omega
  have hmk : ∀ w, (Instr.makeSlice 25 (.int .i64 16) (.int .i64 16)).run Try.prog w = .ok (.slice (some ⟨w.heap.size, 0, none⟩) 16 16) (w.alloc (.cells (bytesMade 16) 5)) := fun w => run_make_bytes (P := Try.prog) w 25 5 i0 Try.underlying25 hi0 hz0 hz1 hz2 16 (by omega)
  have HBM := Lib.hid (bytesMade_list 16)
  have hbs : (bytesMade 16).size = 16 := by have := congrArg List.length HBM.out; simpa [byteCells_len] using this
  generalize bytesMade 16 = BM at *
  have hR2 : Row (w.alloc (.cells (BM.setIfInBounds 0 (.int .u8 106)) 5)) 5 1 (.slice (some ⟨w.heap.size, 0, none⟩) 16 16) 16 (byteCells (natCells (106 :: (List.replicate (15 - 0) 0 ++ digs 0 n)))) := by
    have := Row.lit_at w 5 1 (BM.setIfInBounds 0 (.int .u8 106)) 16 w.heap.size rfl (by decide) (by simp [hbs])
    rw [Array.toList_setIfInBounds, HBM.out] at this
    exact this
  have hB1 : Below w.heap.size w (w.alloc (.cells (BM.setIfInBounds 0 (.int .u8 106)) 5)) := (Below.refl _ w).alloc (Nat.le_refl _) _
  have HR1 := Lib.hid hR2
  have HB1 := Lib.hid hB1
  clear hR2 hB1
  go_enter Try.func37, Try.ntmps37
  go_wp2_with fail
  go_loopw [0, 4] (fun v i wr => ∃ k : Nat, i = .int .i64 (15 - k : Nat) ∧ k ≤ 15 ∧ v = .int .u64 (n / 16 ^ k : Nat) ∧ Row wr 5 1 (.slice (some ⟨w.heap.size, 0, none⟩) 16 16) 16 (byteCells (natCells (106 :: (List.replicate (15 - k) 0 ++ digs k n)))) ∧ Below w.heap.size w wr) (fun _ i _ => (intOf i).toNat)
  case atStart => exact ⟨0, rfl, Nat.zero_le _, by simp, HR1.out, HB1.out⟩
  case round =>
    obtain ⟨k, rfl, hk, rfl, hRk, hBk⟩ := hrel
    obtain ⟨m, hm⟩ : ∃ m, n / 16 ^ k = m := ⟨_, rfl⟩
    have hmn : m ≤ 1099511627776 := by rw [← hm]; exact Nat.le_trans (Nat.div_le_self _ _) h
    obtain ⟨d, hd⟩ : ∃ d, m % 16 = d := ⟨_, rfl⟩
    have hd16 : d < 16 := by omega
    have ha := and15 m hmn
    rw [hd] at ha
    have HI := index_hex d hd16
    have HD := Lib.hid (show digs (k + 1) n = hexs[d]! :: digs k n by rw [digs_cons, hm, hd])
    have HQ := Lib.hid (show m / 16 = n / 16 ^ (k + 1) by rw [← hm, Nat.pow_succ, Nat.div_div_eq_div_mul])
    rw [hm]
    obtain ⟨j, hj⟩ : ∃ j, 15 - k = j := ⟨_, rfl⟩
    have hj2 : j + k = 15 := by omega
    have hjl : j ≤ 15 := by omega
    rw [hj] at hRk ⊢
    obtain ⟨l, hl⟩ : ∃ l, digs k n = l := ⟨_, rfl⟩
    rw [hl] at hRk HD
    have HL := Lib.hid (And.intro hl (show l.length = k by rw [← hl, digs_len]))
    have HK := Lib.hid (And.intro hj2 hk)
    generalize hexs[d]! = x at *
    obtain ⟨g0, hg0, hgl, hgc, hgf⟩ := hRk.view (by omega)
    simp only [Option.some.injEq, Addr.mk.injEq, and_true] at hg0
    subst hg0
    have fj := hgf j
    have cj : ∃ u, wr.cell? ⟨w.heap.size, j, none⟩ = some u := by rw [hgc j (by omega)]; exact ⟨_, List.getElem?_eq_getElem (by rw [byteCells_len, natCells_len]; simp [HL.out.2]; omega)⟩
    obtain ⟨uj, cj⟩ := cj
    have HR := Lib.hid hRk
    have HB := Lib.hid hBk
    clear hm hd h h' hj hj2 hl hk hRk hBk hgc hgf
    by_cases hlt : 0 < j
    · go_wp2_with fail
      go_roundw
      case rel =>
        have h1 := HK.out
        refine ⟨k + 1, by congr 1; omega, by omega, by rw [← HQ.out]; rfl, ?_, HB.out.setCell (Nat.le_refl _) _⟩
        have h2 := HR.out.stored j (.int .u8 x)
        obtain ⟨i, rfl⟩ : ∃ i, j = i + 1 := ⟨j - 1, by omega⟩
        rw [set_dig] at h2
        rw [show 15 - (k + 1) = i by omega, HD.out]
        exact h2
      case measure => simp [intOf]; omega
    · obtain rfl : j = 0 := by omega
      have hst := run_string_src (P := Try.prog) (Src.of_row HR.out (byteCells_one _)) 25 5 9 Try.underlying25 Try.underlying5 Try.underlying9
      rw [str_natCells] at hst
      have HE := Lib.hid (show (106 :: (List.replicate 0 0 ++ l) : List Nat) = 106 :: digs 15 n by rw [← HL.out.1, show k = 15 by have := HK.out; omega]; rfl)
      rw [HE.out] at hst
      go_wp2_with fail
      go_ret
      exact ⟨rfl, HB.out⟩
def nameN (n : Nat) : ByteArray := if 1099511627776 < n then ⟨#[]⟩ else bytesN (106 :: digs 15 n)
theorem wal_name (n : Nat) (w : World) : Calls Try.prog 37 #[.int .u64 n] w fun e w' => e = .returned (.string (nameN n)) ∧ Below w.heap.size w w' := by
  unfold nameN
  by_cases h : 1099511627776 < n
  · rw [if_pos h]; exact (wname_big n h w).mono fun e w' ⟨he, hw⟩ => ⟨he, hw ▸ Below.refl _ w⟩
  · rw [if_neg h]; exact wname_any n (by omega) w
theorem ref_name (n : Nat) (w : World) : Calls Try.prog 38 #[.int .u64 n] w fun e w' => e = .returned (.string (nameN n)) ∧ w = w' := by
  unfold nameN
  by_cases h : 1099511627776 < n
  · rw [if_pos h]; exact rname_big n h w
  · rw [if_neg h]; exact rname_any n (by omega) w
end Go.Proofs.Ytpkmnfpbcakflaa
