/- The walks of pack.Unseal, frame.Frame and frame.whole over whole frames. No condition. -/
import Derived.Test.YtpkmnfpbcakflaaSeal
import Derived.Laws.BitsAllLaws
namespace Go.Proofs.Ytpkmnfpbcakflaa
open Go.ChangeShapes Go.WideShapes Go.ChangeAt Go.RowKit

/-- the bytes of a frame -/
def le4 (z : Int) : List Int := [z % 256, z / 256 % 256, z / 65536 % 256, z / 16777216 % 256]
def frameL (b : List Int) : List Int := le4 b.length ++ sealL b
theorem frameL_len (b : List Int) : (frameL b).length = b.length + 10 := by simp [frameL, le4, sealL_len]
theorem le4_range (z : Int) : ∀ x ∈ le4 z, 0 ≤ x ∧ x < 256 := by
  intro x hx
  simp only [le4, List.mem_cons, List.not_mem_nil, or_false] at hx
  rcases hx with rfl | rfl | rfl | rfl <;> omega
theorem frameL_range (b : List Int) (hb : ∀ x ∈ b, 0 ≤ x ∧ x < 256) : ∀ x ∈ frameL b, 0 ≤ x ∧ x < 256 := by
  intro x hx
  unfold frameL at hx
  rcases List.mem_append.1 hx with hx | hx
  · exact le4_range _ x hx
  · exact sealL_range b hb x hx

set_option maxRecDepth 100000 in
set_option maxHeartbeats 1000000 in
theorem frame_any (a : Option Addr) (n c : Nat) (b : List Int) (w : World) (h : Src w 1 (.slice a n c) n (byteCells b)) (hb : ∀ x ∈ b, 0 ≤ x ∧ x < 256) (hn : n ≤ 4194304) :
    Calls Try.prog 56 #[.slice a n c] w fun e w' => NewBytes w w' e (frameL b) := by
  obtain ⟨i0, hi0, hz0, hz1, hz2⟩ := info_parts infoB
  have hl : b.length = n := by have := h.1; rw [byteCells_len] at this; omega
  have hB1 := (Below.refl w.heap.size w).alloc (Nat.le_refl _) (.cells #[.int .u8 ((n : Int) % 256), .int .u8 ((n : Int) / 256 % 256), .int .u8 ((n : Int) / 65536 % 256), .int .u8 ((n : Int) / 16777216 % 256)] 5)
  have hrow := Row.lit_at w 5 1 #[.int .u8 ((n : Int) % 256), .int .u8 ((n : Int) / 256 % 256), .int .u8 ((n : Int) / 65536 % 256), .int .u8 ((n : Int) / 16777216 % 256)] 4 w.heap.size rfl (by unfold maxLen; omega) rfl
  have HS := Lib.hid (seal_any a n c b _ (h.below hB1) hb (by omega))
  have HB1 := Lib.hid hB1
  have HRow := Lib.hid hrow
  have HL := Lib.hid hl
  have hu8 := u8w
  have hu32 : IntKind.u32.wrap (n : Int) = (n : Int) := by show (n : Int) % 4294967296 = n; omega
  clear h hl hB1 hrow
  go_enter Try.func56, Try.ntmps56
  go_wp2_with fail
  refine HS.out.mono ?_
  rintro e w2 ⟨a2, c2, rfl, hR2, hf2, hB2⟩
  have hs1 : (w.alloc (.cells #[.int .u8 ((n : Int) % 256), .int .u8 ((n : Int) / 256 % 256), .int .u8 ((n : Int) / 65536 % 256), .int .u8 ((n : Int) / 16777216 % 256)] 5)).heap.size = w.heap.size + 1 := by simp
  rw [hs1] at hf2
  have hdst := HRow.out.of_block (w' := w2) fun k hk => hB2.block k (HRow.out.lt hk)
  have HD := Lib.hid hdst
  have HSr := Lib.hid (Src.of_row hR2 (byteCells_one _))
  have HB2 := Lib.hid (HB1.out.trans (hB2.mono HB1.out.size))
  have HF2 := Lib.hid hf2
  obtain ⟨m, hm⟩ : ∃ m, (sealL b).length = m := ⟨_, rfl⟩
  have hmn : m = n + 6 := by rw [← hm, sealL_len, HL.out]
  rw [hm] at HSr ⊢
  have HM := Lib.hid (And.intro hm hmn)
  have hml : m ≤ 4194310 := by omega
  clear hR2 hf2 hB2 hs1 hdst hm hmn HS
  go_wp2_with (at_builtin; refine wpList_append_row _ rfl _ _ 25 rfl 5 i0 _ 1 1 Try.underlying25 hi0 hz0 hz1 hz2 rfl (.slice (some ⟨w.heap.size, 0, none⟩) 4 4) 4 _ rfl HD.out _ _ _ rfl HSr.out (by unfold maxLen; omega) (by omega) w2.heap.size rfl ?_; intro a5 cap5 w5 hown5 hgrow5 hat5)
  go_ret
  have hfl : (frameL b).length = 4 + m := by rw [frameL_len, HL.out, HM.out.2]; omega
  have hfc : byteCells (frameL b) = [.int .u8 ((n : Int) % 256), .int .u8 ((n : Int) / 256 % 256), .int .u8 ((n : Int) / 65536 % 256), .int .u8 ((n : Int) / 16777216 % 256)] ++ byteCells (sealL b) := by
    unfold frameL; rw [byteCells_append, HL.out]; rfl
  refine ⟨a5, cap5, by rw [hfl]; rfl, ?_, fun k hk => ?_, HB2.out.grown hgrow5 HB2.out.size (by intro k hk; simp [Value.ownBlock] at hk; omega)⟩
  · rw [hfl, hfc]; exact hown5
  · rw [hfl] at hk
    rcases hat5 k hk with h | h
    · simp [Value.ownBlock] at h; omega
    · have := HB2.out.size; omega

/-! Unseal of what was sealed -/
def UnsealYes (w w' : World) (e : Ending) (b : List Int) : Prop := ∃ a c, e = .returned (.tuple #[.slice a b.length c, .int .i64 0]) ∧ Row w' 5 1 (.slice a b.length c) b.length (byteCells b) ∧ (∀ k, (Value.slice a b.length c).ownBlock = some k → w.heap.size ≤ k) ∧ Below w.heap.size w w'

set_option maxRecDepth 100000 in
set_option maxHeartbeats 2000000 in
theorem unseal_yes (a : Option Addr) (n c : Nat) (b : List Int) (w : World) (h : Src w 1 (.slice a n c) n (byteCells (sealL b))) (hc : n ≤ c) (hb : ∀ x ∈ b, 0 ≤ x ∧ x < 256) (hn : n ≤ 1000000000) :
    Calls Try.prog 110 #[.slice a n c] w fun e w' => UnsealYes w w' e b := by
  obtain ⟨i0, hi0, hz0, hz1, hz2⟩ := info_parts infoB
  have hl : b.length + 6 = n := by have := h.1; rw [byteCells_len, sealL_len] at this; omega
  obtain ⟨m, hm⟩ : ∃ m, b.length = m := ⟨_, rfl⟩
  rw [hm] at hl
  subst hl
  have htk : (sealL b).take m = b := by unfold sealL; rw [← hm, List.take_left]
  have hsrc : Src w 1 (.slice a m c) m (byteCells b) := by have := h.take m (by omega); rw [htk] at this; exact this
  obtain ⟨bk, off, rfl, hbl, hcell⟩ := h.at_ (by omega)
  have hsl : ∀ w, (Instr.slice 25 (.slice (some ⟨bk, off, none⟩) (m + 6) c) none (some (.int .i64 (m : Int))) none).run Try.prog w = .ok (.slice (some ⟨bk, off, none⟩) m c) w := fun w => run_slice_to w 25 5 i0 Try.underlying25 hi0 _ _ _ _ (by omega) .i64
  have HS := Lib.hid (seal_any _ m c b w hsrc hb (by omega))
  have HSrc := Lib.hid hsrc
  have HCell := Lib.hid hcell
  have HM := Lib.hid hm
  have hwm : IntKind.i64.wrap ((m : Int) + 6 - 6) = (m : Int) := by rw [show (m : Int) + 6 - 6 = m by omega]; exact IntWalk.i64_in _ (by omega)
  clear h hsrc hcell hm htk
  go_enter Try.func110, Try.ntmps110
  go_wp2_with fail
  refine HS.out.mono ?_
  rintro e w2 ⟨a2, c2, rfl, hR2, hf2, hB2⟩
  have hsl6 : (sealL b).length = m + 6 := by rw [sealL_len, HM.out]
  rw [hsl6] at hR2 hf2 ⊢
  obtain ⟨g2, rfl, hgl2, hgc2, -⟩ := hR2.view (by omega)
  have HB2 := Lib.hid hB2
  have HC2 := Lib.hid hgc2
  have HL6 := Lib.hid hsl6
  clear hR2 hf2 hB2 hgc2 hsl6 HS
  go_wp2_with fail
  go_loopw [6] (fun i wr => ∃ k : Nat, i = .int .i64 (m + k : Nat) ∧ k ≤ 6 ∧ ∃ nd, wr = w2.drewN nd) (fun i _ => m + 6 - (intOf i).toNat)
  case atStart => exact ⟨0, rfl, by omega, 0, rfl⟩
  case round =>
    obtain ⟨k, rfl, hk, nd, rfl⟩ := hrel
    obtain ⟨q, hq⟩ : ∃ q, m + k = q := ⟨_, rfl⟩
    rw [hq]
    have hq1 : q ≤ m + 6 := by omega
    have hq2 : m ≤ q := by omega
    have hq3 : q ≤ m + k := by omega
    have hq4 : m + k ≤ q := by omega
    clear hq
    by_cases hlt : q < m + 6
    · obtain ⟨x, hx⟩ : ∃ x, (sealL b)[q]? = some x := ⟨_, List.getElem?_eq_getElem (by rw [HL6.out]; omega)⟩
      have hbc : (byteCells (sealL b))[q]? = some (.int .u8 x) := by simp [byteCells, hx]
      have e0 : w2.cell? ⟨g2, q, none⟩ = some (.int .u8 x) := by rw [HC2.out q (by omega)]; exact hbc
      have e1 : w2.cell? ⟨bk, off + q, none⟩ = some (.int .u8 x) := (HB2.out.cell (p := ⟨bk, off + q, none⟩) hbl).trans (HCell.out q _ hbc)
      have i1 : (0 : Int) ≤ (q : Int) := by omega
      have i2 : (q : Int) < (m : Int) + 6 := by omega
      have t1 : (x != x) = false := by simp
      clear hx hbc
      go_wp2_with fail
      go_quiet (fail)
      go_wp2_with fail
      go_roundw
      case rel => exact ⟨k + 1, by congr 1; omega, by omega, _, rfl⟩
      case measure => simp [intOf]; omega
    · obtain rfl : q = m + 6 := by omega
      obtain ⟨W, hW⟩ : ∃ W, w2.drewN nd = W := ⟨_, rfl⟩
      have hBW : Below w.heap.size w W := by rw [← hW]; exact ⟨HB2.out.os, HB2.out.tape, HB2.out.output, HB2.out.size, HB2.out.block⟩
      rw [hW]
      have hsrcW : Src (W.alloc (.cells #[] 5)) 1 (.slice (some ⟨bk, off, none⟩) m c) m (byteCells b) := (HSrc.out.below hBW).below ((Below.refl _ W).alloc (Nat.le_refl _) _)
      have hdstW := Row.lit_at W 5 1 #[] 0 W.heap.size rfl (Nat.zero_le _) rfl
      have HBW := Lib.hid hBW
      clear hW hBW
      go_wp2_with (at_builtin; refine wpList_append_row _ rfl _ _ 25 rfl 5 i0 _ 1 1 Try.underlying25 hi0 hz0 hz1 hz2 rfl (.slice (some ⟨W.heap.size, 0, none⟩) 0 0) 0 [] rfl hdstW _ _ _ rfl hsrcW (by unfold maxLen; omega) (by omega) (W.heap.size + 1) (by simp) ?_; intro a' cap' w5 hown5 hgrow5 hat5)
      go_ret2
      simp only [Nat.zero_add, List.nil_append] at hown5 hat5
      refine ⟨a', cap', by rw [HM.out]; rfl, by rw [HM.out]; exact hown5, fun k hk => ?_, (HBW.out.alloc HBW.out.size _).grown hgrow5 (by have := HBW.out.size; simp; omega) (by intro k hk; simp [Value.ownBlock] at hk; have := HBW.out.size; omega)⟩
      rw [HM.out] at hk
      have := HBW.out.size
      rcases hat5 k hk with e | e
      · simp [Value.ownBlock] at e; omega
      · omega

/-! whole -/
theorem or_join (m k s t : Nat) (hs : s = 2 ^ k) (ht : t = s * 256) (hk : t ≤ 4294967296) : bits .or .u64 ((m : Int) % (s : Int)) ((m : Int) / (s : Int) % 256 * (s : Int)) = (m : Int) % (t : Int) := by
  have h1 : (m : Int) % (s : Int) = ((m % s : Nat) : Int) := by omega
  have h2 : (m : Int) / (s : Int) % 256 * (s : Int) = ((m / s % 256 * s : Nat) : Int) := by rw [Int.natCast_mul, Int.natCast_emod, Int.natCast_ediv]; rfl
  have hpos : 0 < s := by rw [hs]; exact Nat.two_pow_pos k
  have l1 : m % s < s := Nat.mod_lt _ hpos
  have l2 : m / s % 256 * s ≤ 255 * s := Nat.mul_le_mul_right _ (by omega)
  rw [h1, h2, u64_or_nat _ _ (by omega) (by omega)]
  have e : m % s ||| m / s % 256 * s = m / s % 256 * s + m % s := by
    rw [Nat.or_comm]
    have := Nat.shiftLeft_add_eq_or_of_lt (i := k) (b := m % s) (by rw [← hs]; exact l1) (m / s % 256)
    rw [Nat.shiftLeft_eq, ← hs] at this
    exact this.symm
  rw [e]
  have e2 : m / s % 256 * s + m % s = m % t := by
    rw [ht, Nat.mod_mul]
    rw [Nat.mul_comm s, Nat.add_comm]
  rw [e2]
  omega
theorem run_slice_mid {P : Program} (w : World) (t e : TypeId) (i : TypeInfo) (ht : P.underlying t = some (.slice e)) (hi : P.info? e = some i) (hs : i.size = 1) (bk off len cap lo hh : Nat) (h0 : 0 < lo) (h1 : lo ≤ hh) (h2 : hh ≤ cap) (h3 : lo < cap) (k : IntKind) :
    (Instr.slice t (.slice (some ⟨bk, off, none⟩) len cap) (some (.int k (lo : Int))) (some (.int k (hh : Int))) none).run P w = .ok (.slice (some ⟨bk, off + lo, none⟩) (hh - lo) (cap - lo)) w := by
  have hne : ¬ cap = lo := by omega
  have hadd : (⟨bk, off, none⟩ : Addr).add lo = ⟨bk, off + lo, none⟩ := by unfold Addr.add; split <;> simp_all
  simp [Instr.slice, run_underlying ht, Instr.sliceBounds, Instr.sliceBound, asIntOf, h1, h2, sizeOf, typeInfo, hi, hs, hne, hadd]
theorem whole_short (a : Option Addr) (n c : Nat) (hn : n < 10) (w : World) : Calls Try.prog 80 #[.slice a n c] w fun e w' => e = .returned (.tuple #[.slice none 0 0, .bool false]) ∧ w = w' := by
  go_enter Try.func80, Try.ntmps80
  go_wp2
  go_ret2
  exact ⟨rfl, rfl⟩
def WholeYes (w w' : World) (e : Ending) (b : List Int) : Prop := ∃ a c, e = .returned (.tuple #[.slice a b.length c, .bool true]) ∧ Row w' 5 1 (.slice a b.length c) b.length (byteCells b) ∧ (∀ k, (Value.slice a b.length c).ownBlock = some k → w.heap.size ≤ k) ∧ Below w.heap.size w w'
set_option maxRecDepth 100000 in
set_option maxHeartbeats 2000000 in
theorem whole_yes (a : Option Addr) (n c : Nat) (b rest : List Int) (w : World) (h : Src w 1 (.slice a n c) n (byteCells (frameL b ++ rest))) (hc : n ≤ c) (hb : ∀ x ∈ b, 0 ≤ x ∧ x < 256) (hbl : b.length ≤ 4194304) (hn : n ≤ 1000000000) :
    Calls Try.prog 80 #[.slice a n c] w fun e w' => WholeYes w w' e b := by
  obtain ⟨i0, hi0, hz0, hz1, hz2⟩ := info_parts infoB
  have hl : (frameL b ++ rest).length = n := by have := h.1; rw [byteCells_len] at this; omega
  obtain ⟨m, hm⟩ : ∃ m, b.length = m := ⟨_, rfl⟩
  have hlm : m + 10 ≤ n := by rw [List.length_append, frameL_len, hm] at hl; omega
  rw [hm] at hbl
  obtain ⟨bk, off, rfl, hbk, hcell⟩ := h.at_ (by omega)
  have cell : ∀ j x, (le4 (m : Int))[j]? = some x → w.cell? ⟨bk, off + j, none⟩ = some (.int .u8 x) := fun j x hj => by
    refine hcell j _ ?_
    have hjl : j < 4 := by have := (List.getElem?_eq_some_iff.1 hj).1; simpa [le4] using this
    unfold byteCells frameL
    rw [List.getElem?_map, hm, List.append_assoc, List.getElem?_append_left (by simpa [le4] using hjl), hj]; rfl
  have e0 : w.cell? ⟨bk, off, none⟩ = some (.int .u8 ((m : Int) % 256)) := cell 0 _ rfl
  have e1 : w.cell? ⟨bk, off + 1, none⟩ = some (.int .u8 ((m : Int) / 256 % 256)) := cell 1 _ rfl
  have e2 : w.cell? ⟨bk, off + 2, none⟩ = some (.int .u8 ((m : Int) / 65536 % 256)) := cell 2 _ rfl
  have e3 : w.cell? ⟨bk, off + 3, none⟩ = some (.int .u8 ((m : Int) / 16777216 % 256)) := cell 3 _ rfl
  have hU : ∀ nq, Calls Try.prog 110 #[.slice (some ⟨bk, off + 4, none⟩) (m + 6) (c - 4)] (w.drewN nq) fun e w' => UnsealYes w w' e b := fun nq => by
    refine (unseal_yes _ _ _ b (w.drewN nq) (Src.below (w := w) ?_ ⟨rfl, rfl, rfl, Nat.le_refl _, fun _ _ => rfl⟩) (by omega) hb (by omega)).mono fun e w' ⟨a, c, he, hR, hf, hB⟩ => ⟨a, c, he, hR, hf, ⟨hB.os, hB.tape, hB.output, hB.size, hB.block⟩⟩
    have := h.part 4 (m + 6) (by omega) hc
    have e : ((byteCells (frameL b ++ rest)).drop (4 * 1)).take ((m + 6) * 1) = byteCells (sealL b) := by
      unfold frameL
      rw [List.append_assoc, byteCells_append, byteCells_append, List.drop_append_of_le_length (by simp [byteCells, le4]), List.drop_of_length_le (by simp [byteCells, le4]), List.nil_append, List.take_append_of_le_length (by rw [byteCells_len, sealL_len, hm]; omega), List.take_of_length_le (by rw [byteCells_len, sealL_len, hm]; omega)]
    rw [e] at this
    have ea : fromAddr (some (⟨bk, off, none⟩ : Addr)) c 4 1 = some ⟨bk, off + 4, none⟩ := by unfold fromAddr; rw [if_neg (by omega)]; rfl
    rw [ea] at this; exact this
  have HU := Lib.hid hU
  have HM := Lib.hid hm
  have o1 : bits .or .u64 ((m : Int) % 256) ((m : Int) / 256 % 256 * 256) = (m : Int) % 65536 := or_join m 8 256 65536 rfl rfl (by omega)
  have o2 : bits .or .u64 ((m : Int) % 65536) ((m : Int) / 65536 % 256 * 65536) = (m : Int) % 16777216 := or_join m 16 65536 16777216 rfl rfl (by omega)
  have o3 : bits .or .u64 ((m : Int) % 16777216) ((m : Int) / 16777216 % 256 * 16777216) = (m : Int) := by
    have := or_join m 24 16777216 4294967296 rfl rfl (by omega)
    rw [show (m : Int) % ((4294967296 : Nat) : Int) = m by omega] at this; exact this
  have hsl : ∀ w, (Instr.slice 25 (.slice (some ⟨bk, off, none⟩) n c) (some (.int .i64 4)) (some (.int .i64 (10 + (m : Int)))) none).run Try.prog w = .ok (.slice (some ⟨bk, off + 4, none⟩) (m + 6) (c - 4)) w := fun w => by
    have := run_slice_mid w 25 5 i0 Try.underlying25 hi0 hz1 bk off n c 4 (10 + m) (by omega) (by omega) (by omega) (by omega) .i64
    rw [show 10 + m - 4 = m + 6 by omega, show ((10 + m : Nat) : Int) = 10 + (m : Int) by omega] at this; exact this
  clear h hl hcell cell hU hm
  go_enter Try.func80, Try.ntmps80
  go_wp2_with fail
  go_quiet (fail)
  go_wp2_with fail
  refine (HU.out _).mono ?_
  rintro e w2 ⟨a2, c2, rfl, hR2, hf2, hB2⟩
  rw [HM.out] at hR2 hf2 ⊢
  have HO := Lib.hid (And.intro hR2 (And.intro hf2 hB2))
  clear HU hR2 hf2 hB2
  go_wp2_with fail
  go_ret2
  refine ⟨a2, c2, by rw [HM.out]; rfl, ?_, ?_, HO.out.2.2⟩
  · rw [HM.out]; exact HO.out.1
  · rw [HM.out]; exact HO.out.2.1
end Go.Proofs.Ytpkmnfpbcakflaa
