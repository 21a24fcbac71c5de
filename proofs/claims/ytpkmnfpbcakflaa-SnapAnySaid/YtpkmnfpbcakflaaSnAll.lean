/- Any bytes: how many frames they begin with; the walks of pack.Unseal and frame.whole over what is none. No condition. The walk of frame.List over any bytes. No condition. The walks of the reference's Sum, Seal and Frame. No condition. The walks of the reference's Seal and Frame. No condition. The walk of the reference's Unseal. No condition. The walk of the reference's List over any bytes. No cond .. -/
import Derived.Test.YtpkmnfpbcakflaaList
import Derived.Test.YtpkmnfpbcakflaaSaves
import Derived.Deep.RegionHeld3
import Derived.Test.YtpkmnfpbcakflaaPair
import Derived.Test.YtpkmnfpbcakflaaSteps6
import Derived.Test.YtpkmnfpbcakflaaWeigh
import Derived.Test.YtpkmnfpbcakflaaSnKnown
/-! Any bytes: how many frames they begin with; the walks of pack.Unseal and frame.whole over what is none. No condition. -/
namespace Go.Proofs.Ytpkmnfpbcakflaa
open Go.ChangeShapes Go.WideShapes Go.ChangeAt Go.RowKit

/-- the number that four bytes are -/
def le4V : List Int → Nat
  | x0 :: x1 :: x2 :: x3 :: _ => (x0 + 256 * x1 + 65536 * x2 + 16777216 * x3).toNat
  | _ => 0
/-- the frame that bytes begin with, if any -/
def wholeM (b : List Int) : Option (List Int) :=
  if b.length < 10 then none else if 4194304 < le4V b ∨ b.length < le4V b + 10 then none
  else if sealL ((b.drop 4).take (le4V b)) = (b.drop 4).take (le4V b + 6) then some ((b.drop 4).take (le4V b)) else none
theorem le4_of {b : List Int} (hb : ∀ x ∈ b, 0 ≤ x ∧ x < 256) (hl : 4 ≤ b.length) : b.take 4 = le4 (le4V b) ∧ le4V b < 4294967296 := by
  match b, hl with
  | x0 :: x1 :: x2 :: x3 :: r, _ =>
    have h0 := hb x0 (by simp)
    have h1 := hb x1 (by simp)
    have h2 := hb x2 (by simp)
    have h3 := hb x3 (by simp)
    have hv : ((le4V (x0 :: x1 :: x2 :: x3 :: r) : Nat) : Int) = x0 + 256 * x1 + 65536 * x2 + 16777216 * x3 := by simp only [le4V]; omega
    refine ⟨?_, by omega⟩
    unfold le4
    rw [hv]
    simp only [List.take_succ_cons, List.take_zero, List.cons.injEq, and_true]
    omega
theorem whole_some {b y : List Int} (hb : ∀ x ∈ b, 0 ≤ x ∧ x < 256) (h : wholeM b = some y) : b = frameL y ++ b.drop (y.length + 10) ∧ y.length ≤ 4194304 ∧ (∀ x ∈ y, 0 ≤ x ∧ x < 256) ∧ y.length + 10 ≤ b.length := by
  unfold wholeM at h
  split at h
  · cases h
  · rename_i h10
    split at h
    · cases h
    · rename_i hm
      rw [not_or] at hm
      split at h
      · rename_i hs
        simp only [Option.some.injEq] at h
        have hyl : y.length = le4V b := by rw [← h]; simp only [List.length_take, List.length_drop]; omega
        obtain ⟨h4, -⟩ := le4_of hb (by omega)
        refine ⟨?_, by omega, fun x hx => ?_, by omega⟩
        · unfold frameL
          rw [h] at hs
          rw [hs, hyl, ← h4, List.append_assoc]
          have e1 : (b.drop 4).take (le4V b + 6) ++ b.drop (le4V b + 10) = b.drop 4 := by
            have := List.take_append_drop (le4V b + 6) (b.drop 4)
            rw [List.drop_drop, show 4 + (le4V b + 6) = le4V b + 10 by omega] at this
            exact this
          rw [e1, List.take_append_drop]
        · rw [← h] at hx
          exact hb x (List.mem_of_mem_drop (List.mem_of_mem_take hx))
      · cases h
/-- bytes are frames, and an end that is none -/
theorem frames_of : ∀ (n : Nat) (b : List Int), b.length ≤ n → (∀ x ∈ b, 0 ≤ x ∧ x < 256) → ∃ ys rest, b = framesL ys ++ rest ∧ wholeM rest = none ∧ (∀ y ∈ ys, y.length ≤ 4194304 ∧ ∀ x ∈ y, 0 ≤ x ∧ x < 256) ∧ (∀ x ∈ rest, 0 ≤ x ∧ x < 256) ∧ ys.length ≤ b.length
  | 0, b, hn, hb => by
    obtain rfl : b = [] := List.eq_nil_of_length_eq_zero (by omega)
    exact ⟨[], [], rfl, by simp [wholeM], by simp, by simp, by simp⟩
  | n + 1, b, hn, hb => by
    cases h : wholeM b with
    | none => exact ⟨[], b, rfl, h, by simp, hb, by simp⟩
    | some y =>
      obtain ⟨e, hy, hyb, hlen⟩ := whole_some hb h
      obtain ⟨ys, rest, e2, hr, hys, hrb, hl⟩ := frames_of n (b.drop (y.length + 10)) (by rw [List.length_drop]; omega) (fun x hx => hb x (List.mem_of_mem_drop hx))
      refine ⟨y :: ys, rest, ?_, hr, fun z hz => ?_, hrb, ?_⟩
      · rw [framesL_cons, List.append_assoc, ← e2]; exact e
      · rcases List.mem_cons.1 hz with rfl | hz
        · exact ⟨hy, hyb⟩
        · exact hys z hz
      · rw [List.length_drop] at hl; simp only [List.length_cons]; omega

set_option maxRecDepth 100000 in
set_option maxHeartbeats 2000000 in
theorem unseal_no (a : Option Addr) (n c : Nat) (b : List Int) (w : World) (h : Src w 1 (.slice a n c) n (byteCells b)) (hc : n ≤ c) (hb : ∀ x ∈ b, 0 ≤ x ∧ x < 256) (hn : n ≤ 1000000000) (h6 : 6 ≤ n) (hbad : sealL (b.take (n - 6)) ≠ b) :
    Calls Try.prog 110 #[.slice a n c] w fun e w' => e = .returned (.tuple #[.slice none 0 0, .int .i64 13]) ∧ Below w.heap.size w w' := by
  obtain ⟨i0, hi0, hz0, hz1, hz2⟩ := info_parts infoB
  have hl : b.length = n := by have := h.1; rw [byteCells_len] at this; omega
  obtain ⟨m, rfl⟩ : ∃ m, n = m + 6 := ⟨n - 6, by omega⟩
  rw [Nat.add_sub_cancel] at hbad
  have hsrc : Src w 1 (.slice a m c) m (byteCells (b.take m)) := h.take m (by omega)
  obtain ⟨bk, off, rfl, hbl, hcell⟩ := h.at_ (by omega)
  have hsl : ∀ w, (Instr.slice 25 (.slice (some ⟨bk, off, none⟩) (m + 6) c) none (some (.int .i64 (m : Int))) none).run Try.prog w = .ok (.slice (some ⟨bk, off, none⟩) m c) w := fun w => run_slice_to w 25 5 i0 Try.underlying25 hi0 _ _ _ _ (by omega) .i64
  have HS := Lib.hid (seal_any _ m c (b.take m) w hsrc (fun x hx => hb x (List.mem_of_mem_take hx)) (by omega))
  have hsl6 : (sealL (b.take m)).length = m + 6 := by rw [sealL_len, List.length_take, hl]; omega
  have hsame : ∀ j, j < m → (sealL (b.take m))[j]? = b[j]? := fun j hj => by
    unfold sealL
    rw [List.getElem?_append_left (by rw [List.length_take, hl]; omega), List.getElem?_take, if_pos hj]
  obtain ⟨sb, hsb⟩ : ∃ sb, sealL (b.take m) = sb := ⟨_, rfl⟩
  rw [hsb] at HS hsl6 hsame hbad
  have HCell := Lib.hid hcell
  have HBad := Lib.hid (And.intro hbad (And.intro hsl6 hl))
  have hwm : IntKind.i64.wrap ((m : Int) + 6 - 6) = (m : Int) := by rw [show (m : Int) + 6 - 6 = m by omega]; exact IntWalk.i64_in _ (by omega)
  have HSame := Lib.hid hsame
  clear h hsrc hcell hl hbad hsl6 hb hsame hsb
  go_enter Try.func110, Try.ntmps110
  go_wp2_with fail
  refine HS.out.mono ?_
  rintro e w2 ⟨a2, c2, rfl, hR2, hf2, hB2⟩
  rw [HBad.out.2.1] at hR2 hf2 ⊢
  obtain ⟨g2, rfl, hgl2, hgc2, -⟩ := hR2.view (by omega)
  have HB2 := Lib.hid hB2
  have HC2 := Lib.hid hgc2
  clear hR2 hf2 hB2 hgc2 HS
  go_wp2_with fail
  go_loopw [6] (fun i wr => ∃ k : Nat, i = .int .i64 (m + k : Nat) ∧ k ≤ 6 ∧ Hid (∀ j, j < m + k → sb[j]? = b[j]?) ∧ ∃ nd, wr = w2.drewN nd) (fun i _ => m + 6 - (intOf i).toNat)
  case atStart => exact ⟨0, rfl, by omega, HSame, 0, rfl⟩
  case round =>
    obtain ⟨k, rfl, hk, HK, nd, rfl⟩ := hrel
    obtain ⟨q, hq⟩ : ∃ q, m + k = q := ⟨_, rfl⟩
    rw [hq] at HK ⊢
    have hq1 : q ≤ m + 6 := by omega
    have hq2 : m ≤ q := by omega
    have hq3 : q ≤ m + k := by omega
    have hq4 : m + k ≤ q := by omega
    clear hq
    by_cases hlt : q < m + 6
    · obtain ⟨x, hx⟩ : ∃ x, sb[q]? = some x := ⟨_, List.getElem?_eq_getElem (by rw [HBad.out.2.1]; omega)⟩
      obtain ⟨y, hy⟩ : ∃ y, b[q]? = some y := ⟨_, List.getElem?_eq_getElem (by rw [HBad.out.2.2]; omega)⟩
      have e0 : w2.cell? ⟨g2, q, none⟩ = some (.int .u8 x) := by rw [HC2.out q (by omega)]; simp [byteCells, hx]
      have e1 : w2.cell? ⟨bk, off + q, none⟩ = some (.int .u8 y) := (HB2.out.cell (p := ⟨bk, off + q, none⟩) hbl).trans (HCell.out q _ (by simp [byteCells, hy]))
      have i1 : (0 : Int) ≤ (q : Int) := by omega
      have i2 : (q : Int) < (m : Int) + 6 := by omega
      by_cases hxy : x = y
      · subst hxy
        have t1 : (x != x) = false := by simp
        have HN : Hid (∀ j, j < q + 1 → sb[j]? = b[j]?) := fun j hj => by
          rcases Nat.lt_or_ge j q with h | h
          · exact HK.out j h
          · obtain rfl : j = q := by omega
            rw [hx, hy]
        clear hx hy
        go_wp2_with fail
        go_quiet (fail)
        go_wp2_with fail
        go_roundw
        case rel => exact ⟨k + 1, by congr 1; omega, by omega, by rw [show m + (k + 1) = q + 1 by omega]; exact HN, _, rfl⟩
        case measure => simp [intOf]; omega
      · have t1 : (x != y) = true := by simp [hxy]
        clear hx hy hxy
        go_wp2_with fail
        go_quiet (fail)
        go_wp2_with fail
        go_ret2
        exact ⟨rfl, HB2.out.os, HB2.out.tape, HB2.out.output, HB2.out.size, HB2.out.block⟩
    · obtain rfl : q = m + 6 := by omega
      exfalso
      refine HBad.out.1 (List.ext_getElem? fun j => ?_)
      rcases Nat.lt_or_ge j (m + 6) with h | h
      · exact HK.out j h
      · rw [List.getElem?_eq_none (by rw [HBad.out.2.1]; omega), List.getElem?_eq_none (by rw [HBad.out.2.2]; omega)]

set_option maxRecDepth 100000 in
set_option maxHeartbeats 2000000 in
theorem whole_no (a : Option Addr) (n c : Nat) (b : List Int) (w : World) (h : Src w 1 (.slice a n c) n (byteCells b)) (hc : n ≤ c) (hb : ∀ x ∈ b, 0 ≤ x ∧ x < 256) (hn : n ≤ 1000000000) (hno : wholeM b = none) :
    Calls Try.prog 80 #[.slice a n c] w fun e w' => e = .returned (.tuple #[.slice none 0 0, .bool false]) ∧ Below w.heap.size w w' := by
  have hl : b.length = n := by have := h.1; rw [byteCells_len] at this; omega
  rcases Nat.lt_or_ge n 10 with h10 | h10
  · exact (whole_short a n c h10 w).mono fun e w' ⟨he, hw⟩ => ⟨he, hw ▸ Below.refl _ _⟩
  · obtain ⟨i0, hi0, hz0, hz1, hz2⟩ := info_parts infoB
    obtain ⟨h4, hm4⟩ := le4_of hb (by omega)
    unfold wholeM at hno
    rw [if_neg (by omega)] at hno
    obtain ⟨m, hm⟩ : ∃ m, le4V b = m := ⟨_, rfl⟩
    rw [hm] at h4 hm4 hno
    obtain ⟨bk, off, rfl, hbk, hcell⟩ := h.at_ (by omega)
    have cell : ∀ j x, (le4 (m : Int))[j]? = some x → w.cell? ⟨bk, off + j, none⟩ = some (.int .u8 x) := fun j x hj => by
      refine hcell j _ ?_
      have hjl : j < 4 := by have := (List.getElem?_eq_some_iff.1 hj).1; simpa [le4] using this
      rw [← h4, List.getElem?_take, if_pos hjl] at hj
      unfold byteCells
      rw [List.getElem?_map, hj]; rfl
    have e0 : w.cell? ⟨bk, off, none⟩ = some (.int .u8 ((m : Int) % 256)) := cell 0 _ rfl
    have e1 : w.cell? ⟨bk, off + 1, none⟩ = some (.int .u8 ((m : Int) / 256 % 256)) := cell 1 _ rfl
    have e2 : w.cell? ⟨bk, off + 2, none⟩ = some (.int .u8 ((m : Int) / 65536 % 256)) := cell 2 _ rfl
    have e3 : w.cell? ⟨bk, off + 3, none⟩ = some (.int .u8 ((m : Int) / 16777216 % 256)) := cell 3 _ rfl
    have o1 : bits .or .u64 ((m : Int) % 256) ((m : Int) / 256 % 256 * 256) = (m : Int) % 65536 := or_join m 8 256 65536 rfl rfl (by omega)
    have o2 : bits .or .u64 ((m : Int) % 65536) ((m : Int) / 65536 % 256 * 65536) = (m : Int) % 16777216 := or_join m 16 65536 16777216 rfl rfl (by omega)
    have o3 : bits .or .u64 ((m : Int) % 16777216) ((m : Int) / 16777216 % 256 * 16777216) = (m : Int) := by
      have := or_join m 24 16777216 4294967296 rfl rfl (by omega)
      rw [show (m : Int) % ((4294967296 : Nat) : Int) = m by omega] at this; exact this
    by_cases hbig : 4194304 < m
    · have k1 : decide ((4194304 : Int) < (m : Int)) = true := decide_eq_true (by omega)
      clear h hl hcell cell hno h4 hm hb
      go_enter Try.func80, Try.ntmps80
      go_wp2_with fail
      go_quiet (fail)
      go_wp2_with fail
      go_ret2
      exact ⟨rfl, ⟨rfl, rfl, rfl, Nat.le_refl _, fun _ _ => rfl⟩⟩
    · have k1 : decide ((4194304 : Int) < (m : Int)) = false := decide_eq_false (by omega)
      have hw1 : IntKind.i64.wrap ((n : Int) - 4) = (n : Int) - 4 := IntWalk.i64_in _ (by omega)
      have hw2 : IntKind.i64.wrap ((n : Int) - 4 - 6) = (n : Int) - 4 - 6 := IntWalk.i64_in _ (by omega)
      have hw3 : IntKind.u64.wrap ((n : Int) - 4 - 6) = (n : Int) - 4 - 6 := by show ((n : Int) - 4 - 6) % 18446744073709551616 = _; omega
      by_cases hsm : n < m + 10
      · have k2 : decide ((n : Int) - 4 - 6 < (m : Int)) = true := decide_eq_true (by omega)
        clear h hl hcell cell hno h4 hm hb
        go_enter Try.func80, Try.ntmps80
        go_wp2_with fail
        go_quiet (fail)
        go_wp2_with fail
        go_ret2
        exact ⟨rfl, ⟨rfl, rfl, rfl, Nat.le_refl _, fun _ _ => rfl⟩⟩
      · have k2 : decide ((n : Int) - 4 - 6 < (m : Int)) = false := decide_eq_false (by omega)
        rw [if_neg (by omega)] at hno
        have hbad : sealL ((b.drop 4).take m) ≠ (b.drop 4).take (m + 6) := fun e => by rw [if_pos e] at hno; cases hno
        have hU : ∀ nq, Calls Try.prog 110 #[.slice (some ⟨bk, off + 4, none⟩) (m + 6) (c - 4)] (w.drewN nq) fun e w' => e = .returned (.tuple #[.slice none 0 0, .int .i64 13]) ∧ Below w.heap.size w w' := fun nq => by
          have hp := h.part 4 (m + 6) (by omega) hc
          have e : ((byteCells b).drop (4 * 1)).take ((m + 6) * 1) = byteCells ((b.drop 4).take (m + 6)) := by simp [byteCells, List.map_drop, List.map_take]
          rw [e] at hp
          have ea : fromAddr (some (⟨bk, off, none⟩ : Addr)) c 4 1 = some ⟨bk, off + 4, none⟩ := by unfold fromAddr; rw [if_neg (by omega)]; rfl
          rw [ea] at hp
          refine (unseal_no _ _ _ ((b.drop 4).take (m + 6)) (w.drewN nq) (hp.below (w' := w.drewN nq) ⟨rfl, rfl, rfl, Nat.le_refl _, fun _ _ => rfl⟩) (by omega) (fun x hx => hb x (List.mem_of_mem_drop (List.mem_of_mem_take hx))) (by omega) (by omega) ?_).mono fun e w' ⟨he, hB⟩ => ⟨he, hB.os, hB.tape, hB.output, hB.size, hB.block⟩
          rw [Nat.add_sub_cancel, List.take_take, show min m (m + 6) = m by omega]; exact hbad
        have HU := Lib.hid hU
        have hsl : ∀ w, (Instr.slice 25 (.slice (some ⟨bk, off, none⟩) n c) (some (.int .i64 4)) (some (.int .i64 (10 + (m : Int)))) none).run Try.prog w = .ok (.slice (some ⟨bk, off + 4, none⟩) (m + 6) (c - 4)) w := fun w => by
          have := run_slice_mid w 25 5 i0 Try.underlying25 hi0 hz1 bk off n c 4 (10 + m) (by omega) (by omega) (by omega) (by omega) .i64
          rw [show 10 + m - 4 = m + 6 by omega, show ((10 + m : Nat) : Int) = 10 + (m : Int) by omega] at this; exact this
        clear h hl hcell cell hno h4 hm hb hU hbad
        go_enter Try.func80, Try.ntmps80
        go_wp2_with fail
        go_quiet (fail)
        go_wp2_with fail
        refine (HU.out _).mono ?_
        rintro e w2 ⟨rfl, hB2⟩
        have HO := Lib.hid hB2
        clear HU hB2
        go_wp2_with fail
        go_ret2
        exact ⟨rfl, HO.out⟩
end Go.Proofs.Ytpkmnfpbcakflaa

/-! The walk of frame.List over any bytes. No condition. -/
namespace Go.Proofs.Ytpkmnfpbcakflaa
open Go.ChangeShapes Go.WideShapes Go.ChangeAt Go.RowKit

theorem TextsOf.below {lo : Nat} {w w' : World} {o : Value} {us : List Value} {ys : List (List Int)} (h : TextsOf lo w o us ys) (hB : Below w.heap.size w w') : TextsOf lo w' o us ys where
  row := h.row.of_block fun k hk => hB.block k (h.row.lt hk)
  len := h.len
  each := fun i u y hu hy => (h.each i u y hu hy).move (fun k hk => hB.block k hk.2.1) fun _ hk => ⟨hk.1, Nat.lt_of_lt_of_le hk.2.1 hB.size, hk.2.2⟩

set_option maxRecDepth 100000 in
set_option maxHeartbeats 2000000 in
theorem list_all (a : Option Addr) (n c : Nat) (ys : List (List Int)) (rest : List Int) (w : World) (h : Src w 1 (.slice a n c) n (byteCells (framesL ys ++ rest))) (hc : n ≤ c) (hr : wholeM rest = none) (hrb : ∀ x ∈ rest, 0 ≤ x ∧ x < 256)
    (hys : ∀ y ∈ ys, y.length ≤ 4194304 ∧ ∀ x ∈ y, 0 ≤ x ∧ x < 256) (hn : n ≤ 100000000) (hyl : ys.length ≤ 1000000) :
    Calls Try.prog 55 #[.slice a n c] w fun e w' => ListOut w w' e ys (framesL ys).length := by
  obtain ⟨i0, hi0, hz0, hz1, hz2⟩ := info_parts infoB
  obtain ⟨i1, hj0, hy0, hy1, hy2⟩ := info_parts infoL
  have hl : (framesL ys).length + rest.length = n := by have := h.1; rw [byteCells_len, List.length_append] at this; omega
  have HSrc := Lib.hid h
  have HL := Lib.hid hl
  have HYS := Lib.hid hys
  have HRest := Lib.hid (And.intro hr hrb)
  clear h hl hys hr hrb
  go_enter Try.func55, Try.ntmps55
  go_wp2_with fail
  apply wp_scope_one (ListI w a n c ys) ?h0 ?first ?pass0
  case h0 => repeat (first | exact fl_head | refine fl_right (by kernel_rfl) ?_)
  case first =>
    intro S R hR hret hp0
    rw [← hR]
    clear hR
    go_wp2_with fail
    go_step3
    go_wp2_with fail
    refine hp0 ys.length _ _ ?_
    unfold ListI
    repeat apply Exists.intro
    refine ⟨?_, rfl⟩
    exact ⟨Nat.zero_add _, rfl, rfl, ⟨Row.nil _ _ _, rfl, by intro j u y h; simp at h⟩, by intro b hb; simp [Value.ownBlock] at hb, Below.refl _ _⟩
  case pass0 =>
    intro r A wr hinv S hret hg
    unfold ListI at hinv
    obtain ⟨u6, hinv⟩ := hinv; obtain ⟨u7, hinv⟩ := hinv; obtain ⟨u8, hinv⟩ := hinv; obtain ⟨u9, hinv⟩ := hinv; obtain ⟨u10, hinv⟩ := hinv; obtain ⟨u11, hinv⟩ := hinv; obtain ⟨u12, hinv⟩ := hinv; obtain ⟨u13, hinv⟩ := hinv; obtain ⟨u14, hinv⟩ := hinv; obtain ⟨u15, hinv⟩ := hinv; obtain ⟨u16, hinv⟩ := hinv; obtain ⟨u17, hinv⟩ := hinv; obtain ⟨u18, hinv⟩ := hinv; obtain ⟨u19, hinv⟩ := hinv; obtain ⟨u20, hinv⟩ := hinv; obtain ⟨u21, hinv⟩ := hinv; obtain ⟨u22, hinv⟩ := hinv; obtain ⟨u23, hinv⟩ := hinv; obtain ⟨u24, hinv⟩ := hinv; obtain ⟨u25, hinv⟩ := hinv; obtain ⟨u26, hinv⟩ := hinv; obtain ⟨u27, hinv⟩ := hinv
    obtain ⟨o, va, us, k, ⟨hk, hva, hus, hT, hfr, hB⟩, hA⟩ := hinv
    subst hA
    subst hva
    subst hus
    obtain ⟨ao, co, rfl, hco, hmo, hmc⟩ := hT.row.form
    have HT := Lib.hid hT
    have HFr := Lib.hid hfr
    have HB := Lib.hid hB
    obtain ⟨L, hLd⟩ : ∃ L, (framesL (ys.take us.length)).length = L := ⟨_, rfl⟩
    rw [hLd]
    have hLn : L ≤ n := by
      have e := congrArg List.length (congrArg framesL (List.take_append_drop us.length ys))
      rw [framesL_append, List.length_append, hLd] at e
      have := HL.out; omega
    have hpart := (HSrc.out.below HB.out).part L (n - L) (by omega) hc
    have hsl : ∀ w, (Instr.slice 25 (.slice a n c) (some (.int .i64 (L : Int))) none none).run Try.prog w = .ok (.slice (fromAddr a c L 1) (n - L) (c - L)) w := fun w => run_slice_from w 25 5 i0 Try.underlying25 hi0 1 hz1 a n c L hLn .i64
    rw [Nat.mul_one, Nat.mul_one, List.take_of_length_le (by rw [List.length_drop, byteCells_len, List.length_append]; have := HL.out; omega)] at hpart
    obtain ⟨sl, hsld⟩ : ∃ sl, n - L = sl := ⟨_, rfl⟩
    obtain ⟨sc, hscd⟩ : ∃ sc, c - L = sc := ⟨_, rfl⟩
    have hslc : sl ≤ sc := by omega
    have hsln : sl ≤ n := by omega
    rw [hsld, hscd] at hpart
    rw [hsld, hscd] at hsl
    have hbd : (byteCells (framesL ys ++ rest)).drop L = byteCells ((framesL ys ++ rest).drop L) := by simp [byteCells, List.map_drop]
    rw [hbd] at hpart
    rcases Nat.lt_or_ge us.length ys.length with hlt | hge
    · obtain ⟨y, hy⟩ : ∃ y, ys[us.length]? = some y := ⟨_, List.getElem?_eq_getElem hlt⟩
      have hyp := HYS.out y (List.mem_of_getElem? hy)
      have hdr : (framesL ys ++ rest).drop L = frameL y ++ (framesL (ys.drop (us.length + 1)) ++ rest) := by
        rw [framesL_split ys us.length y hy, List.append_assoc, ← hLd, List.drop_left, List.append_assoc]
      rw [hdr] at hpart
      have HW := Lib.hid (whole_yes (fromAddr a c L 1) sl sc y _ wr hpart hslc hyp.2 hyp.1 (by omega))
      have hsn : (framesL (ys.take (us.length + 1))).length = L + (10 + y.length) := by rw [framesL_snoc ys us.length y hy, List.length_append, frameL_len, hLd]; omega
      have hLy : L + (10 + y.length) ≤ n := by
        have e := congrArg List.length (framesL_split ys us.length y hy)
        rw [List.length_append, List.length_append, frameL_len, hLd] at e
        have := HL.out; omega
      have hts : ys.take (us.length + 1) = ys.take us.length ++ [y] := by rw [List.take_succ_eq_append_getElem hlt, (List.getElem?_eq_some_iff.1 hy).2]
      have hby := hyp.2
      have HSn := Lib.hid (And.intro hsn (And.intro hts hby))
      clear hT hfr hB hLd hpart hsld hscd hbd hy hdr hsn hts hby hyp
      go_wp2_with fail
      refine HW.out.mono ?_
      rintro e w2 ⟨a2, c2, rfl, hR2, hf2, hB2⟩
      have hrow2 := HT.out.row.of_block (w' := w2) fun k hk => hB2.block k (HT.out.row.lt hk)
      have hdst : Row (w2.alloc (.cells #[.slice a2 y.length c2] 25)) 25 1 (.slice ao us.length co) us.length us := hrow2.of_block fun k hk => Below.heap_alloc w2 _ k (hrow2.lt hk)
      have hsrc2 : Src (w2.alloc (.cells #[.slice a2 y.length c2] 25)) 1 (.slice (some ⟨w2.heap.size, 0, none⟩) 1 1) 1 [.slice a2 y.length c2] := Src.of_block (heap_alloc_new w2 _) 1 1 rfl (by simp [Value.oneCell'])
      have HD := Lib.hid hdst
      have HS2 := Lib.hid hsrc2
      have HO := Lib.hid (And.intro hR2 (And.intro hf2 hB2))
      clear HW hR2 hf2 hB2 hrow2 hdst hsrc2
      go_wp2_with (at_builtin; refine wpList_append_row _ rfl _ _ 22 rfl 25 i1 _ 1 24 Try.underlying22 hj0 hy0 hy1 hy2 rfl (.slice ao us.length co) us.length _ rfl HD.out (.slice (some ⟨w2.heap.size, 0, none⟩) 1 1) 1 [.slice a2 y.length c2] rfl HS2.out (by unfold maxLen; omega) (by omega) (w2.heap.size + 1) (by simp) ?_; intro a5 cap5 w5 hown5 hgrow5 hat5)
      go_step3
      have hsz2 := HO.out.2.2.size
      have hB5 : Below w.heap.size w w5 := ((HB.out.trans (HO.out.2.2.mono HB.out.size)).alloc (by have := HB.out.size; omega) _).grown hgrow5 (by have := HB.out.size; simp; omega) HFr.out
      have hsz5 : w2.heap.size + 1 ≤ w5.heap.size := by have := hgrow5.size; simpa using this
      have hkeep : ∀ k, k < w2.heap.size → (Value.slice ao us.length co).ownBlock ≠ some k → w5.heap[k]? = w2.heap[k]? := fun k hk hne => (hgrow5.block k (by simp; omega) (fun e => hne e.symm)).trans (Below.heap_alloc w2 _ k hk)
      have hob : ∀ k, (Value.slice ao us.length co).ownBlock = some k → k < wr.heap.size := fun k hk => HT.out.row.lt hk
      have hrow5 := HO.out.1.of_block (w' := w5) fun k hk => hkeep k (HO.out.1.lt hk) fun e => by have := hob k e; have := HO.out.2.1 k hk; omega
      have hbts : Bts (fun k => w.heap.size ≤ k ∧ k < w5.heap.size ∧ (Value.slice a5 (us.length + 1) cap5).ownBlock ≠ some k) w5 (.slice a2 y.length c2) y := by
        refine Bts.of_row hrow5 HSn.out.2.2 fun k hk => ⟨?_, ?_, fun e => ?_⟩
        · have := HO.out.2.1 k hk; have := HB.out.size; omega
        · exact hrow5.lt hk
        · have h1 := HO.out.2.1 k hk
          have h2 := HO.out.1.lt hk
          rcases hat5 k e with h | h
          · have := hob k h; omega
          · omega
      have hT5 := TextsOf.snoc HT.out hown5 (fun k hk hne => (hkeep k (by omega) hne).trans (HO.out.2.2.block k hk)) (by omega) (fun k hk => by
        rcases hat5 k hk with h | h
        · exact .inl h
        · right; omega) hbts
      rw [← HSn.out.2.1] at hT5
      refine hg.out (r - 1) _ _ (by omega) ?_
      unfold ListI
      repeat apply Exists.intro
      refine ⟨⟨?c1, ?c2, ?c3, hT5, ?c4, hB5⟩, rfl⟩
      case c3 => simp
      case c1 => omega
      case c2 => rw [HSn.out.1]; go_num
      case c4 =>
        intro k hk
        rcases hat5 k hk with h | h
        · exact HFr.out k h
        · have := HB.out.size; omega
    · have hkk : us.length = ys.length := by omega
      have hdr : (framesL ys ++ rest).drop L = rest := by
        have e : framesL (ys.take us.length) = framesL ys := by rw [hkk, List.take_length]
        rw [← hLd, e, List.drop_left]
      rw [hdr] at hpart
      have hfin : L = (framesL ys).length := by rw [← hLd, hkk, List.take_length]
      have HW := Lib.hid (whole_no (fromAddr a c L 1) sl sc rest wr hpart hslc HRest.out.2 (by omega) HRest.out.1)
      have HFin := Lib.hid (And.intro hfin hkk)
      clear hT hfr hB hLd hpart hsld hscd hbd hdr hfin hkk
      go_wp2_with fail
      refine HW.out.mono ?_
      rintro e w2 ⟨rfl, hB2⟩
      have HO := Lib.hid hB2
      clear hB2
      go_wp2_with fail
      refine hret.out _ _ ?_
      try rw [Exit.noGoto_ret]
      go_ret2
      refine ⟨.slice ao us.length co, us, by rw [← HFin.out.1]; rfl, HFin.out.2, ?_, HFr.out, HB.out.trans (HO.out.mono HB.out.size)⟩
      have := HT.out.below HO.out
      rw [HFin.out.2, List.take_length] at this
      rw [HFin.out.2]; exact this
end Go.Proofs.Ytpkmnfpbcakflaa

/-! The walks of the reference's Sum, Seal and Frame. No condition. -/
namespace Go.Proofs.Ytpkmnfpbcakflaa
open Go.ChangeShapes Go.WideShapes Go.ChangeAt Go.RowKit

theorem pickV_emod (n k : Int) (hk : 0 < k) : pickV n k = n % k := by
  unfold pickV
  have h1 := Int.emod_add_mul_ediv n k
  have h2 := Int.tmod_add_mul_tdiv n k
  have h3 := Int.emod_nonneg n (show k ≠ 0 by omega)
  have h4 := Int.emod_lt_of_pos n hk
  by_cases hn : 0 ≤ n
  · rw [Int.tmod_eq_emod_of_nonneg hn, if_neg (by omega)]
  · have h5 := Int.tmod_eq_emod (a := n) (b := k)
    have hkk : (k.natAbs : Int) = k := by omega
    split at h5 <;> split <;> omega
theorem rem_of_shift (z M : Int) (hM : 0 < M) (j : Int) (h : 0 ≤ z + j * M) : (z + j * M).tmod M = pickV z M := by
  rw [pickV_emod z M hM, Int.tmod_eq_emod_of_nonneg h, Int.add_mul_emod_self_right]

set_option maxHeartbeats 1000000 in
theorem rsum_any (a : Option Addr) (n c : Nat) (b : List Int) (w : World) (h : Src w 1 (.slice a n c) n (byteCells b)) (hb : ∀ x ∈ b, 0 ≤ x ∧ x < 256) (hn : n ≤ 1000000000) :
    Calls Try.prog 82 #[.slice a n c] w fun e w' => e = .returned (.tuple #[.int .u64 (sumZ b).1, .int .u64 (sumZ b).2]) ∧ w = w' := by
  have hl : b.length = n := by have := h.1; rw [byteCells_len] at this; omega
  have HS := Lib.hid h
  have HL := Lib.hid hl
  have HB := Lib.hid hb
  clear h hl hb
  go_enter Try.func82, Try.ntmps82
  go_wp2_with fail
  go_loop [2, 3, 4] (fun s t i => ∃ k : Nat, i = .int .i64 k ∧ k ≤ n ∧ s = .int .u64 (sumZ (b.take k)).1 ∧ t = .int .u64 (sumZ (b.take k)).2) (fun _ _ i => n - (intOf i).toNat)
  case atStart => exact ⟨0, rfl, Nat.zero_le _, rfl, rfl⟩
  case round =>
    obtain ⟨k, rfl, hk, rfl, rfl⟩ := hrel
    by_cases hlt : k < n
    · obtain ⟨bk, off, rfl, hbl, hcell⟩ := HS.out.at_ (by omega)
      obtain ⟨x, hx⟩ : ∃ x, b[k]? = some x := ⟨_, List.getElem?_eq_getElem (by rw [HL.out]; omega)⟩
      have hxb := HB.out x (List.mem_of_getElem? hx)
      have c0 : w.cell? ⟨bk, off + k, none⟩ = some (.int .u8 x) := hcell k _ (by simp [byteCells, hx])
      have hr := sumZ_range (b.take k)
      have hsn := sumZ_snoc b k x hx
      generalize sumZ (b.take k) = p at *
      obtain ⟨u, v⟩ := p
      simp only at hr
      have uw : ∀ z : Int, 0 ≤ z → z < 18446744073709551616 → IntKind.u64.wrap z = z := fun z h1 h2 => by show z % 18446744073709551616 = z; omega
      have m1 : IntKind.u64.wrap (257 * u) = 257 * u := uw _ (by omega) (by omega)
      have m2 : IntKind.u64.wrap (257 * u + x) = 257 * u + x := uw _ (by omega) (by omega)
      have m3 : IntKind.u64.wrap (257 * u + x + 1) = 257 * u + x + 1 := uw _ (by omega) (by omega)
      have m4 : IntKind.u64.wrap (16777199 - v) = 16777199 - v := uw _ (by omega) (by omega)
      have m5 : IntKind.u64.wrap (3 * (16777199 - v)) = 3 * (16777199 - v) := uw _ (by omega) (by omega)
      have m6 : IntKind.u64.wrap (257 * u + x + 1 + 3 * (16777199 - v)) = 257 * u + x + 1 + 3 * (16777199 - v) := uw _ (by omega) (by omega)
      have m7 : IntKind.u64.wrap (257 * v) = 257 * v := uw _ (by omega) (by omega)
      have m8 : IntKind.u64.wrap (3 * u) = 3 * u := uw _ (by omega) (by omega)
      have m9 : IntKind.u64.wrap (257 * v + 3 * u) = 257 * v + 3 * u := uw _ (by omega) (by omega)
      have mx : IntKind.u64.wrap x = x := uw _ (by omega) (by omega)
      have r1 : (257 * u + x + 1 + 3 * (16777199 - v)).tmod 16777199 = wholeZ (u * 257 - v * 3 + (x + 1)) := by
        have := rem_of_shift (u * 257 - v * 3 + (x + 1)) 16777199 (by omega) 3 (by omega)
        rw [← show 257 * u + x + 1 + 3 * (16777199 - v) = u * 257 - v * 3 + (x + 1) + 3 * 16777199 by omega] at this
        exact this
      have r2 : (257 * v + 3 * u).tmod 16777199 = wholeZ (u * 3 + v * 257) := by
        have := rem_of_shift (u * 3 + v * 257) 16777199 (by omega) 0 (by omega)
        rw [← show 257 * v + 3 * u = u * 3 + v * 257 + 0 * 16777199 by omega] at this
        exact this
      have hst : sumZ (b.take (k + 1)) = (wholeZ (u * 257 - v * 3 + (x + 1)), wholeZ (u * 3 + v * 257)) := by rw [hsn]; rfl
      have q1 := wholeZ_range (u * 257 - v * 3 + (x + 1))
      have q2 := wholeZ_range (u * 3 + v * 257)
      have w1 : IntKind.u64.wrap (wholeZ (u * 257 - v * 3 + (x + 1))) = wholeZ (u * 257 - v * 3 + (x + 1)) := uw _ (by omega) (by omega)
      have w2 : IntKind.u64.wrap (wholeZ (u * 3 + v * 257)) = wholeZ (u * 3 + v * 257) := uw _ (by omega) (by omega)
      have HSt := Lib.hid hst
      clear hcell hx hsn hst uw q1 q2
      go_wp2_with fail
      go_round
      case rel => exact ⟨k + 1, by go_num, by omega, by rw [HSt.out], by rw [HSt.out]⟩
      case measure => simp [intOf]; omega
    · obtain rfl : k = n := by omega
      have e : b.take k = b := List.take_of_length_le (by rw [HL.out]; exact Nat.le_refl _)
      rw [e]
      go_wp2_with fail
      go_ret2
      exact ⟨rfl, rfl⟩
end Go.Proofs.Ytpkmnfpbcakflaa

/-! The walks of the reference's Seal and Frame. No condition. -/
namespace Go.Proofs.Ytpkmnfpbcakflaa
open Go.ChangeShapes Go.WideShapes Go.ChangeAt Go.RowKit

set_option maxRecDepth 100000 in
set_option maxHeartbeats 1000000 in
theorem rseal_any (a : Option Addr) (n c : Nat) (b : List Int) (w : World) (h : Src w 1 (.slice a n c) n (byteCells b)) (hb : ∀ x ∈ b, 0 ≤ x ∧ x < 256) (hn : n ≤ 1000000000) :
    Calls Try.prog 58 #[.slice a n c] w fun e w' => NewBytes w w' e (sealL b) := by
  obtain ⟨i0, hi0, hz0, hz1, hz2⟩ := info_parts infoB
  have hl : b.length = n := by have := h.1; rw [byteCells_len] at this; omega
  have hsrc : Src (w.alloc (.cells #[] 5)) 1 (.slice a n c) n (byteCells b) := h.below ((Below.refl _ w).alloc (Nat.le_refl _) _)
  have hdst := Row.lit_at w 5 1 #[] 0 w.heap.size rfl (Nat.zero_le _) rfl
  have HSum := Lib.hid (rsum_any a n c b w h hb hn)
  have hr := sumZ_range b
  have HL := Lib.hid hl
  have hse : byteCells (sealL b) = byteCells b ++ [.int .u8 ((sumZ b).1 % 256), .int .u8 ((sumZ b).1 / 256 % 256), .int .u8 ((sumZ b).1 / 65536 % 256), .int .u8 ((sumZ b).2 % 256), .int .u8 ((sumZ b).2 / 256 % 256), .int .u8 ((sumZ b).2 / 65536 % 256)] := by
    unfold sealL; rw [byteCells_append]; rfl
  obtain ⟨p, hp⟩ : ∃ p, (sumZ b).1 = p := ⟨_, rfl⟩
  obtain ⟨q, hq⟩ : ∃ q, (sumZ b).2 = q := ⟨_, rfl⟩
  rw [hp, hq] at hr HSum hse
  have hsl : (sealL b).length = n + 6 := by rw [sealL_len, hl]
  obtain ⟨sb, hsb⟩ : ∃ sb, sealL b = sb := ⟨_, rfl⟩
  rw [hsb] at hse hsl ⊢
  have HSe := Lib.hid (And.intro hse hsl)
  have hu8 := u8w
  clear h hl hp hq hse hsl hsb
  go_enter Try.func58, Try.ntmps58
  go_wp2_with fail
  refine HSum.out.mono ?_
  rintro e w1 ⟨rfl, rfl⟩
  clear HSum
  go_wp2_with (at_builtin; first
    | (refine wpList_append_row _ rfl _ _ 25 rfl 5 i0 _ 1 1 Try.underlying25 hi0 hz0 hz1 hz2 rfl (.slice (some ⟨w.heap.size, 0, none⟩) 0 0) 0 [] rfl hdst _ _ _ rfl hsrc (by unfold maxLen; omega) (by omega) (w.heap.size + 1) (by simp) ?_; intro a' cap' w2 hown2 hgrow2 hat2; simp only [Nat.zero_add, List.nil_append] at hown2 hat2; have hdst2 : Row (w2.alloc (.cells #[.int .u8 (p % 256), .int .u8 (p / 256 % 256), .int .u8 (p / 65536 % 256), .int .u8 (q % 256), .int .u8 (q / 256 % 256), .int .u8 (q / 65536 % 256)] 5)) 5 1 (.slice a' n cap') n (byteCells b) := hown2.of_block fun k hk => Below.heap_alloc w2 _ k (hown2.lt hk); have hsrc2 : Src (w2.alloc (.cells #[.int .u8 (p % 256), .int .u8 (p / 256 % 256), .int .u8 (p / 65536 % 256), .int .u8 (q % 256), .int .u8 (q / 256 % 256), .int .u8 (q / 65536 % 256)] 5)) 1 (.slice (some ⟨w2.heap.size, 0, none⟩) 6 6) 6 [.int .u8 (p % 256), .int .u8 (p / 256 % 256), .int .u8 (p / 65536 % 256), .int .u8 (q % 256), .int .u8 (q / 256 % 256), .int .u8 (q / 65536 % 256)] := Src.of_block (heap_alloc_new w2 _) 6 6 rfl (by simp [Value.oneCell']))
    | (refine wpList_append_row _ rfl _ _ 25 rfl 5 i0 _ 1 1 Try.underlying25 hi0 hz0 hz1 hz2 rfl (.slice a' n cap') n _ rfl hdst2 (.slice (some ⟨w2.heap.size, 0, none⟩) 6 6) 6 [.int .u8 (p % 256), .int .u8 (p / 256 % 256), .int .u8 (p / 65536 % 256), .int .u8 (q % 256), .int .u8 (q / 256 % 256), .int .u8 (q / 65536 % 256)] rfl hsrc2 (by unfold maxLen; omega) (by omega) (w2.heap.size + 1) (by simp) ?_; intro a5 cap5 w5 hown5 hgrow5 hat5))
  go_ret
  have hB2 : Below w.heap.size w w2 := ((Below.refl _ w).alloc (Nat.le_refl _) _).grown hgrow2 (by simp) (by intro k hk; simp [Value.ownBlock] at hk; omega)
  have hf2 : ∀ k, (Value.slice a' n cap').ownBlock = some k → w.heap.size ≤ k := fun k hk => by
    rcases hat2 k hk with e | e
    · simp [Value.ownBlock] at e; omega
    · omega
  have hs2 := hB2.size
  refine ⟨a5, cap5, by rw [HSe.out.2]; rfl, by rw [HSe.out.1, HSe.out.2]; exact hown5, fun k hk => ?_, (hB2.alloc hB2.size _).grown hgrow5 (by simp; omega) hf2⟩
  rw [HSe.out.2] at hk
  rcases hat5 k hk with e | e
  · exact hf2 k e
  · omega

set_option maxRecDepth 100000 in
set_option maxHeartbeats 1000000 in
theorem rframe_any (a : Option Addr) (n c : Nat) (b : List Int) (w : World) (h : Src w 1 (.slice a n c) n (byteCells b)) (hb : ∀ x ∈ b, 0 ≤ x ∧ x < 256) (hn : n ≤ 4194304) :
    Calls Try.prog 30 #[.slice a n c] w fun e w' => NewBytes w w' e (frameL b) := by
  obtain ⟨i0, hi0, hz0, hz1, hz2⟩ := info_parts infoB
  have hl : b.length = n := by have := h.1; rw [byteCells_len] at this; omega
  have hB1 := (Below.refl w.heap.size w).alloc (Nat.le_refl _) (.cells #[.int .u8 ((n : Int) % 256), .int .u8 ((n : Int) / 256 % 256), .int .u8 ((n : Int) / 65536 % 256), .int .u8 ((n : Int) / 16777216 % 256)] 5)
  have hrow := Row.lit_at w 5 1 #[.int .u8 ((n : Int) % 256), .int .u8 ((n : Int) / 256 % 256), .int .u8 ((n : Int) / 65536 % 256), .int .u8 ((n : Int) / 16777216 % 256)] 4 w.heap.size rfl (by unfold maxLen; omega) rfl
  have HS := Lib.hid (rseal_any a n c b _ (h.below hB1) hb (by omega))
  have HB1 := Lib.hid hB1
  have HRow := Lib.hid hrow
  have HL := Lib.hid hl
  have hu8 := u8w
  clear h hl hB1 hrow
  go_enter Try.func30, Try.ntmps30
  go_wp2_with fail
  refine HS.out.mono ?_
  rintro e w2 ⟨a2, c2, rfl, hR2, hf2, hB2⟩
  have hs1 : (w.alloc (.cells #[.int .u8 ((n : Int) % 256), .int .u8 ((n : Int) / 256 % 256), .int .u8 ((n : Int) / 65536 % 256), .int .u8 ((n : Int) / 16777216 % 256)] 5)).heap.size = w.heap.size + 1 := by simp
  rw [hs1] at hf2
  have hdst := HRow.out.of_block (w' := w2) fun k hk => hB2.block k (HRow.out.lt hk)
  have HD := Lib.hid hdst
  have HSr := Lib.hid (Src.of_row hR2 (byteCells_one _))
  have HB2 := Lib.hid (HB1.out.trans (hB2.mono HB1.out.size))
  have HF2 := Lib.hid hf2
  obtain ⟨m, hm⟩ : ∃ m, (sealL b).length = m := ⟨_, rfl⟩
  have hmn : m = n + 6 := by rw [← hm, sealL_len, HL.out]
  rw [hm] at HSr ⊢
  have HM := Lib.hid (And.intro hm hmn)
  have hml : m ≤ 4194310 := by omega
  clear hR2 hf2 hB2 hs1 hdst hm hmn HS
  go_wp2_with (at_builtin; refine wpList_append_row _ rfl _ _ 25 rfl 5 i0 _ 1 1 Try.underlying25 hi0 hz0 hz1 hz2 rfl (.slice (some ⟨w.heap.size, 0, none⟩) 4 4) 4 _ rfl HD.out _ _ _ rfl HSr.out (by unfold maxLen; omega) (by omega) w2.heap.size rfl ?_; intro a5 cap5 w5 hown5 hgrow5 hat5)
  go_ret
  have hfl : (frameL b).length = 4 + m := by rw [frameL_len, HL.out, HM.out.2]; omega
  have hfc : byteCells (frameL b) = [.int .u8 ((n : Int) % 256), .int .u8 ((n : Int) / 256 % 256), .int .u8 ((n : Int) / 65536 % 256), .int .u8 ((n : Int) / 16777216 % 256)] ++ byteCells (sealL b) := by
    unfold frameL; rw [byteCells_append, HL.out]; rfl
  refine ⟨a5, cap5, by rw [hfl]; rfl, ?_, fun k hk => ?_, HB2.out.grown hgrow5 HB2.out.size (by intro k hk; simp [Value.ownBlock] at hk; omega)⟩
  · rw [hfl, hfc]; exact hown5
  · rw [hfl] at hk
    rcases hat5 k hk with h | h
    · simp [Value.ownBlock] at h; omega
    · have := HB2.out.size; omega
theorem rframe_no (a : Option Addr) (n c : Nat) (hn : 4194304 < n) (hm : n ≤ maxLen) (w : World) :
    Calls Try.prog 30 #[.slice a n c] w fun e w' => e = .returned (.slice none 0 0) ∧ w = w' := by
  unfold maxLen at hm
  go_enter Try.func30, Try.ntmps30
  go_wp2_with fail
  go_ret
  exact ⟨rfl, rfl⟩
end Go.Proofs.Ytpkmnfpbcakflaa

/-! The walk of the reference's Unseal. No condition. -/
namespace Go.Proofs.Ytpkmnfpbcakflaa
open Go.ChangeShapes Go.WideShapes Go.ChangeAt Go.RowKit

theorem bytes_neq {a b : ByteArray} (h : a ≠ b) : (a.toList == b.toList) = false := by
  rw [ByteArray.toList_eq, ByteArray.toList_eq, beq_eq_false_iff_ne]
  exact fun e => h (ByteArray.ext (Array.toList_inj.1 e))
theorem conv_str {w : World} {a : Option Addr} {n c : Nat} {b : List Int} (h : Src w 1 (.slice a n c) n (byteCells b)) : (convert 25 9 (.slice a n c)).run Try.prog w = .ok (.string (strOfNums b)) w :=
  run_string_src (P := Try.prog) h 25 5 9 Try.underlying25 Try.underlying5 Try.underlying9

set_option maxRecDepth 100000 in
set_option maxHeartbeats 2000000 in
theorem runseal_no (a : Option Addr) (n c : Nat) (b : List Int) (w : World) (h : Src w 1 (.slice a n c) n (byteCells b)) (hc : n ≤ c) (hb : ∀ x ∈ b, 0 ≤ x ∧ x < 256) (hn : n ≤ 1000000000) (h6 : 6 ≤ n) (hbad : sealL (b.take (n - 6)) ≠ b) :
    Calls Try.prog 87 #[.slice a n c] w fun e w' => e = .returned (.tuple #[.slice none 0 0, .int .i64 13]) ∧ Below w.heap.size w w' := by
  obtain ⟨i0, hi0, hz0, hz1, hz2⟩ := info_parts infoB
  have hl : b.length = n := by have := h.1; rw [byteCells_len] at this; omega
  obtain ⟨m, rfl⟩ : ∃ m, n = m + 6 := ⟨n - 6, by omega⟩
  rw [Nat.add_sub_cancel] at hbad
  have hsrc : Src w 1 (.slice a m c) m (byteCells (b.take m)) := h.take m (by omega)
  have hsl : ∀ w, (Instr.slice 25 (.slice a (m + 6) c) none (some (.int .i64 (m : Int))) none).run Try.prog w = .ok (.slice a m c) w := fun w => run_slice_to w 25 5 i0 Try.underlying25 hi0 _ _ _ _ (by omega) .i64
  have hr1 : ∀ x ∈ b.take m, 0 ≤ x ∧ x < 256 := fun x hx => hb x (List.mem_of_mem_take hx)
  have HS := Lib.hid (fun w2 (hB : Below w.heap.size w w2) => rseal_any _ m c (b.take m) w2 (hsrc.below hB) hr1 (by omega))
  obtain ⟨S1, hS1⟩ : ∃ S1, strOfNums (sealL (b.take m)) = S1 := ⟨_, rfl⟩
  obtain ⟨S2, hS2⟩ : ∃ S2, strOfNums b = S2 := ⟨_, rfl⟩
  have hne : (S1.toList == S2.toList) = false := bytes_neq fun e => hbad (strOfNums_inj (sealL_range _ hr1) hb (by rw [hS1, hS2, e]))
  have hcv : ∀ w2, Below w.heap.size w w2 → (convert 25 9 (.slice a (m + 6) c)).run Try.prog w2 = .ok (.string S2) w2 := fun w2 hB => by rw [← hS2]; exact conv_str (h.below hB)
  have HCv := Lib.hid hcv
  have HS1 := Lib.hid hS1
  have hwm : IntKind.i64.wrap ((m : Int) + 6 - 6) = (m : Int) := by rw [show (m : Int) + 6 - 6 = m by omega]; exact IntWalk.i64_in _ (by omega)
  clear h hl hbad hr1 hb hS1 hS2 hsrc hcv
  go_enter Try.func87, Try.ntmps87
  have cI := HCv.out w.drew (Below.refl _ _).drew
  go_wp2_with fail
  go_region_with (go_at_call 58; refine (HS.out _ (Below.refl _ _).drew).mono ?_; rintro e w3 ⟨a3, c3, rfl, hR3, hf3, hB3⟩; have hB4 : Below w.heap.size w w3 := (Below.refl _ _).drew.trans hB3; have cB := HCv.out w3 hB4; have cA := conv_str (Src.of_row hR3 (byteCells_one _)); rw [HS1.out] at cA)
  all_goals
    have HO := Lib.hid hB4
    clear hR3 hf3 hB3 hB4 cA cB
    go_wp2_with fail
    go_ret2
    exact ⟨rfl, HO.out⟩

set_option maxRecDepth 100000 in
set_option maxHeartbeats 2000000 in
theorem runseal_yes (a : Option Addr) (n c : Nat) (b : List Int) (w : World) (h : Src w 1 (.slice a n c) n (byteCells (sealL b))) (hc : n ≤ c) (hb : ∀ x ∈ b, 0 ≤ x ∧ x < 256) (hn : n ≤ 1000000000) :
    Calls Try.prog 87 #[.slice a n c] w fun e w' => UnsealYes w w' e b := by
  obtain ⟨i0, hi0, hz0, hz1, hz2⟩ := info_parts infoB
  have hl : b.length + 6 = n := by have := h.1; rw [byteCells_len, sealL_len] at this; omega
  obtain ⟨m, hm⟩ : ∃ m, b.length = m := ⟨_, rfl⟩
  rw [hm] at hl
  subst hl
  have htk : (sealL b).take m = b := by unfold sealL; rw [← hm, List.take_left]
  have hsrc : Src w 1 (.slice a m c) m (byteCells b) := by have := h.take m (by omega); rw [htk] at this; exact this
  have hsl : ∀ w, (Instr.slice 25 (.slice a (m + 6) c) none (some (.int .i64 (m : Int))) none).run Try.prog w = .ok (.slice a m c) w := fun w => run_slice_to w 25 5 i0 Try.underlying25 hi0 _ _ _ _ (by omega) .i64
  have HS := Lib.hid (fun w2 (hB : Below w.heap.size w w2) => rseal_any _ m c b w2 (hsrc.below hB) hb (by omega))
  obtain ⟨S1, hS1⟩ : ∃ S1, strOfNums (sealL b) = S1 := ⟨_, rfl⟩
  have hcv : ∀ w2, Below w.heap.size w w2 → (convert 25 9 (.slice a (m + 6) c)).run Try.prog w2 = .ok (.string S1) w2 := fun w2 hB => by rw [← hS1]; exact conv_str (h.below hB)
  have HCv := Lib.hid hcv
  have HS1 := Lib.hid hS1
  have HSrc := Lib.hid hsrc
  have HM := Lib.hid hm
  have hwm : IntKind.i64.wrap ((m : Int) + 6 - 6) = (m : Int) := by rw [show (m : Int) + 6 - 6 = m by omega]; exact IntWalk.i64_in _ (by omega)
  clear h hm hb hS1 hsrc hcv htk
  go_enter Try.func87, Try.ntmps87
  have cI := HCv.out w.drew (Below.refl _ _).drew
  go_wp2_with fail
  go_region_with (go_at_call 58; refine (HS.out _ (Below.refl _ _).drew).mono ?_; rintro e w3 ⟨a3, c3, rfl, hR3, hf3, hB3⟩; have hB4 : Below w.heap.size w w3 := (Below.refl _ _).drew.trans hB3; have cB := HCv.out w3 hB4; have cA := conv_str (Src.of_row hR3 (byteCells_one _)); rw [HS1.out] at cA)
  all_goals
    have HO := Lib.hid hB4
    clear hR3 hf3 hB3 hB4 cA cB
    have hsrcW : Src (w3.alloc (.cells #[] 5)) 1 (.slice a m c) m (byteCells b) := (HSrc.out.below HO.out).below ((Below.refl _ w3).alloc (Nat.le_refl _) _)
    have hdstW := Row.lit_at w3 5 1 #[] 0 w3.heap.size rfl (Nat.zero_le _) rfl
    go_wp2_with (at_builtin; refine wpList_append_row _ rfl _ _ 25 rfl 5 i0 _ 1 1 Try.underlying25 hi0 hz0 hz1 hz2 rfl (.slice (some ⟨w3.heap.size, 0, none⟩) 0 0) 0 [] rfl hdstW _ _ _ rfl hsrcW (by unfold maxLen; omega) (by omega) (w3.heap.size + 1) (by simp) ?_; intro a' cap' w5 hown5 hgrow5 hat5)
    go_ret2
    simp only [Nat.zero_add, List.nil_append] at hown5 hat5
    refine ⟨a', cap', by rw [HM.out]; rfl, by rw [HM.out]; exact hown5, fun k hk => ?_, (HO.out.alloc HO.out.size _).grown hgrow5 (by have := HO.out.size; simp; omega) (by intro k hk; simp [Value.ownBlock] at hk; have := HO.out.size; omega)⟩
    rw [HM.out] at hk
    have := HO.out.size
    rcases hat5 k hk with e | e
    · simp [Value.ownBlock] at e; omega
    · omega
end Go.Proofs.Ytpkmnfpbcakflaa

/-! The walk of the reference's List over any bytes. No condition. -/
namespace Go.Proofs.Ytpkmnfpbcakflaa
open Go.ChangeShapes Go.WideShapes Go.ChangeAt Go.RowKit

theorem le4V_frame (y t : List Int) (h : y.length < 4294967296) : le4V (frameL y ++ t) = y.length := by
  simp only [frameL, le4, List.cons_append, le4V]
  omega
theorem frame_drop (y t : List Int) : (frameL y ++ t).drop 4 = sealL y ++ t := by
  unfold frameL
  rw [List.append_assoc, List.drop_append_of_le_length (by simp [le4]), List.drop_of_length_le (by simp [le4]), List.nil_append]
theorem seal_take (y t : List Int) : (sealL y ++ t).take y.length = y := by unfold sealL; rw [List.append_assoc, List.take_left]
theorem seal_take6 (y t : List Int) : (sealL y ++ t).take (y.length + 6) = sealL y := by rw [← sealL_len, List.take_left]
theorem le4_cell {r : List Int} {m : Nat} (h : r.take 4 = le4 (m : Int)) (j : Nat) (x : Int) (hj : (le4 (m : Int))[j]? = some x) : r[j]? = some x := by
  have hjl : j < 4 := by have := (List.getElem?_eq_some_iff.1 hj).1; simpa [le4] using this
  rw [← h, List.getElem?_take, if_pos hjl] at hj
  exact hj

theorem le4_join (m : Nat) (h : m < 4294967296) : wrap64 (wrap64 (wrap64 (wrap64 ((m : Int) % 256) + (m : Int) / 256 % 256 * 256) + (m : Int) / 65536 % 256 * 65536) + (m : Int) / 16777216 % 256 * 16777216) = (m : Int) := by
  have e1 : wrap64 ((m : Int) % 256) = (m : Int) % 256 := IntWalk.wrap64_in _ (by omega)
  have e2 : wrap64 ((m : Int) % 256 + (m : Int) / 256 % 256 * 256) = (m : Int) % 65536 := by rw [IntWalk.wrap64_in _ (by omega)]; omega
  have e3 : wrap64 ((m : Int) % 65536 + (m : Int) / 65536 % 256 * 65536) = (m : Int) % 16777216 := by rw [IntWalk.wrap64_in _ (by omega)]; omega
  have e4 : wrap64 ((m : Int) % 16777216 + (m : Int) / 16777216 % 256 * 16777216) = (m : Int) := by rw [IntWalk.wrap64_in _ (by omega)]; omega
  rw [e1, e2, e3, e4]
set_option maxRecDepth 100000 in
set_option maxHeartbeats 4000000 in
theorem rlist_all (a : Option Addr) (n c : Nat) (ys : List (List Int)) (rest : List Int) (w : World) (h : Src w 1 (.slice a n c) n (byteCells (framesL ys ++ rest))) (hc : n ≤ c) (hr : wholeM rest = none) (hrb : ∀ x ∈ rest, 0 ≤ x ∧ x < 256)
    (hys : ∀ y ∈ ys, y.length ≤ 4194304 ∧ ∀ x ∈ y, 0 ≤ x ∧ x < 256) (hn : n ≤ 100000000) (hyl : ys.length ≤ 1000000) :
    Calls Try.prog 64 #[.slice a n c] w fun e w' => ListOut w w' e ys (framesL ys).length := by
  obtain ⟨i0, hi0, hz0, hz1, hz2⟩ := info_parts infoB
  obtain ⟨i1, hj0, hy0, hy1, hy2⟩ := info_parts infoL
  have hl : (framesL ys).length + rest.length = n := by have := h.1; rw [byteCells_len, List.length_append] at this; omega
  have hall : ∀ x ∈ framesL ys ++ rest, 0 ≤ x ∧ x < 256 := by
    intro x hx
    rcases List.mem_append.1 hx with hx | hx
    · unfold framesL at hx
      rw [List.mem_flatten] at hx
      obtain ⟨l, hl, hxl⟩ := hx
      obtain ⟨y, hy, rfl⟩ := List.mem_map.1 hl
      exact frameL_range y (hys y hy).2 x hxl
    · exact hrb x hx
  have HSrc := Lib.hid h
  have HL := Lib.hid hl
  have HYS := Lib.hid hys
  have HRest := Lib.hid (And.intro hr hall)
  clear h hl hys hr hrb hall
  go_enter Try.func64, Try.ntmps64
  go_wp2_with fail
  go_loopw [4, 5] (fun o i wr => ∃ (us : List Value) (L : Nat), i = .int .i64 L ∧ L = (framesL (ys.take us.length)).length ∧ us.length ≤ ys.length ∧ TextsOf w.heap.size wr o us (ys.take us.length) ∧ (∀ b, o.ownBlock = some b → w.heap.size ≤ b) ∧ Below w.heap.size w wr) (fun _ i _ => n - (intOf i).toNat)
  case atStart => exact ⟨[], 0, rfl, rfl, Nat.zero_le _, ⟨Row.nil _ _ _, rfl, by intro j u y h; simp at h⟩, by intro b hb; simp [Value.ownBlock] at hb, Below.refl _ _⟩
  case round =>
    obtain ⟨us, L, rfl, hLd, hk, hT, hfr, hB⟩ := hrel
    obtain ⟨ao, co, rfl, hco, hmo, hmc⟩ := hT.row.form
    have hLn : L ≤ n := by
      have e := congrArg List.length (congrArg framesL (List.take_append_drop us.length ys))
      rw [framesL_append, List.length_append, ← hLd] at e
      have := HL.out; omega
    obtain ⟨r, hrd⟩ : ∃ r, (framesL ys ++ rest).drop L = r := ⟨_, rfl⟩
    have hrl : r.length = n - L := by rw [← hrd, List.length_drop, List.length_append]; have := HL.out; omega
    have hrb : ∀ x ∈ r, 0 ≤ x ∧ x < 256 := fun x hx => HRest.out.2 x (List.mem_of_mem_drop (by rw [hrd]; exact hx))
    have hcell : ∀ bk off, a = some ⟨bk, off, none⟩ → ∀ j x, r[j]? = some x → (byteCells (framesL ys ++ rest))[L + j]? = some (.int .u8 x) := fun _ _ _ j x hj => by
      rw [← hrd, List.getElem?_drop] at hj
      unfold byteCells; rw [List.getElem?_map, hj]; rfl
    have hway : (us.length < ys.length ∧ ∃ y t, ys[us.length]? = some y ∧ r = frameL y ++ t) ∨ (us.length = ys.length ∧ r = rest) := by
      rcases Nat.lt_or_ge us.length ys.length with hlt | hge
      · left
        obtain ⟨y, hy⟩ : ∃ y, ys[us.length]? = some y := ⟨_, List.getElem?_eq_getElem hlt⟩
        exact ⟨hlt, y, _, hy, by rw [← hrd, framesL_split ys us.length y hy, List.append_assoc, hLd, List.drop_left, List.append_assoc]⟩
      · right
        have hkk : us.length = ys.length := by omega
        have e : framesL (ys.take us.length) = framesL ys := by rw [hkk, List.take_length]
        exact ⟨hkk, by rw [← hrd, hLd, e, List.drop_left]⟩
    have HT := Lib.hid hT
    have HFr := Lib.hid hfr
    have HB := Lib.hid hB
    have HWay := Lib.hid hway
    have HLd := Lib.hid hLd
    have HR := Lib.hid (And.intro hrl hrb)
    have HRd := Lib.hid hrd
    have hdone : ∀ W, Below wr.heap.size wr W → us.length = ys.length → ListOut w W (.returned (.tuple #[.slice ao us.length co, .int .i64 L])) ys (framesL ys).length := fun W hW hkk => by
      have e : framesL (ys.take us.length) = framesL ys := by rw [hkk, List.take_length]
      refine ⟨_, us, by rw [← e, ← HLd.out], hkk, ?_, HFr.out, HB.out.trans (hW.mono HB.out.size)⟩
      have := HT.out.below hW
      rw [hkk, List.take_length] at this
      rw [hkk]; exact this
    have HDone := Lib.hid hdone
    clear hT hfr hB hway hLd hrl hrb hrd hdone
    have hnl : IntKind.i64.wrap ((n : Int) - (L : Int)) = (n : Int) - (L : Int) := IntWalk.i64_in _ (by omega)
    by_cases h4 : n < L + 4
    · as_aux_lemma =>
      have k0 : decide ((4 : Int) ≤ (n : Int) - (L : Int)) = false := decide_eq_false (by omega)
      have hkk : us.length = ys.length := by
        rcases HWay.out with ⟨-, y, t, -, e⟩ | ⟨e, -⟩
        · have := congrArg List.length e
          rw [HR.out.1, List.length_append, frameL_len] at this; omega
        · exact e
      have HDn := Lib.hid (HDone.out wr (Below.refl _ _) hkk)
      clear hcell hkk
      go_wp2_with fail
      go_ret2
      exact HDn.out
    · as_aux_lemma =>
      obtain ⟨bk, off, rfl, hbk, hsc⟩ := HSrc.out.at_ (by omega)
      obtain ⟨m, hm⟩ : ∃ m, le4V r = m := ⟨_, rfl⟩
      obtain ⟨ht4, hm4⟩ := le4_of HR.out.2 (by rw [HR.out.1]; omega)
      rw [hm] at ht4 hm4
      have cell : ∀ j x, r[j]? = some x → wr.cell? ⟨bk, off + (L + j), none⟩ = some (.int .u8 x) := fun j x hj => (HB.out.cell (p := ⟨bk, off + (L + j), none⟩) hbk).trans (hsc _ _ (hcell _ _ rfl j x hj))
      have e0 : wr.cell? ⟨bk, off + L, none⟩ = some (.int .u8 ((m : Int) % 256)) := cell 0 _ (le4_cell ht4 0 _ rfl)
      have e1 : wr.cell? ⟨bk, off + (L + 1), none⟩ = some (.int .u8 ((m : Int) / 256 % 256)) := cell 1 _ (le4_cell ht4 1 _ rfl)
      have e2 : wr.cell? ⟨bk, off + (L + 2), none⟩ = some (.int .u8 ((m : Int) / 65536 % 256)) := cell 2 _ (le4_cell ht4 2 _ rfl)
      have e3 : wr.cell? ⟨bk, off + (L + 3), none⟩ = some (.int .u8 ((m : Int) / 16777216 % 256)) := cell 3 _ (le4_cell ht4 3 _ rfl)
      have k0 : decide ((4 : Int) ≤ (n : Int) - (L : Int)) = true := decide_eq_true (by omega)
      have a1 : IntKind.i64.wrap ((L : Int) + 1) = (L : Int) + 1 := IntWalk.i64_in _ (by omega)
      have a2 : IntKind.i64.wrap ((L : Int) + 2) = (L : Int) + 2 := IntWalk.i64_in _ (by omega)
      have a3 : IntKind.i64.wrap ((L : Int) + 3) = (L : Int) + 3 := IntWalk.i64_in _ (by omega)
      have s1 : IntKind.i64.wrap ((m : Int) / 256 % 256 * 256) = (m : Int) / 256 % 256 * 256 := IntWalk.i64_in _ (by omega)
      have s2 : IntKind.i64.wrap ((m : Int) % 256 + (m : Int) / 256 % 256 * 256) = (m : Int) % 65536 := by rw [show (m : Int) % 256 + (m : Int) / 256 % 256 * 256 = (m : Int) % 65536 by omega]; exact IntWalk.i64_in _ (by omega)
      have s3 : IntKind.i64.wrap ((m : Int) / 65536 % 256 * 65536) = (m : Int) / 65536 % 256 * 65536 := IntWalk.i64_in _ (by omega)
      have s4 : IntKind.i64.wrap ((m : Int) % 65536 + (m : Int) / 65536 % 256 * 65536) = (m : Int) % 16777216 := by rw [show (m : Int) % 65536 + (m : Int) / 65536 % 256 * 65536 = (m : Int) % 16777216 by omega]; exact IntWalk.i64_in _ (by omega)
      have s5 : IntKind.i64.wrap ((m : Int) / 16777216 % 256 * 16777216) = (m : Int) / 16777216 % 256 * 16777216 := IntWalk.i64_in _ (by omega)
      have s6 : IntKind.i64.wrap ((m : Int) % 16777216 + (m : Int) / 16777216 % 256 * 16777216) = (m : Int) := by rw [show (m : Int) % 16777216 + (m : Int) / 16777216 % 256 * 16777216 = (m : Int) by omega]; exact IntWalk.i64_in _ (by omega)
      have HM := Lib.hid (And.intro hm ht4)
      have hpart := HSrc.out.part (L + 4) (m + 6)
      have HPart := Lib.hid (fun h1 h2 => (HSrc.out.below HB.out).part (L + 4) (m + 6) h1 h2)
      clear cell hsc hcell ht4 hm hpart
      go_upto_region 5 with (fail)
      go_cut [6] (fun t wx => t = .int .i64 m ∧ Hid (Below wr.heap.size wr wx))
      case first =>
        go_wp2_with fail
        go_quiet (fail)
        go_wp2_with fail
        go_meet
        exact ⟨congrArg (Value.int .i64) (le4_join m hm4), rfl, rfl, rfl, Nat.le_refl _, fun _ _ => rfl⟩
      case rest =>
      obtain ⟨rfl, HBW⟩ := hcut
      clear e0 e1 e2 e3 k0 a1 a2 a3 s1 s2 s3 s4 s5 s6
      have hnl2 : IntKind.i64.wrap ((n : Int) - (L : Int) - 10) = (n : Int) - (L : Int) - 10 := IntWalk.i64_in _ (by omega)
      by_cases hbig : 4194304 < m
      · as_aux_lemma =>
        have k1 : decide ((4194304 : Int) < (m : Int)) = true := decide_eq_true (by omega)
        have hkk : us.length = ys.length := by
          rcases HWay.out with ⟨-, y, t, hy, e⟩ | ⟨e, -⟩
          · have hyp := (HYS.out y (List.mem_of_getElem? hy)).1
            have := HM.out.1
            rw [e, le4V_frame y t (by omega)] at this; omega
          · exact e
        have HDn := Lib.hid (HDone.out wc HBW.out hkk)
        clear hkk
        go_wp2_with fail
        go_ret2
        exact HDn.out
      · have k1 : decide ((4194304 : Int) < (m : Int)) = false := decide_eq_false (by omega)
        by_cases hsm : n < L + m + 10
        · as_aux_lemma =>
          have k2 : decide ((n : Int) - (L : Int) - 10 < (m : Int)) = true := decide_eq_true (by omega)
          have hkk : us.length = ys.length := by
            rcases HWay.out with ⟨-, y, t, hy, e⟩ | ⟨e, -⟩
            · have hyp := (HYS.out y (List.mem_of_getElem? hy)).1
              have h1 := HM.out.1
              have h2 := congrArg List.length e
              rw [e, le4V_frame y t (by omega)] at h1
              rw [HR.out.1, List.length_append, frameL_len] at h2
              omega
            · exact e
          have HDn := Lib.hid (HDone.out wc HBW.out hkk)
          clear hkk
          go_wp2_with fail
          go_ret2
          exact HDn.out
        · have k2 : decide ((n : Int) - (L : Int) - 10 < (m : Int)) = false := decide_eq_false (by omega)
          have b1 : IntKind.i64.wrap ((L : Int) + 4) = (L : Int) + 4 := IntWalk.i64_in _ (by omega)
          have b2 : IntKind.i64.wrap ((L : Int) + 10) = (L : Int) + 10 := IntWalk.i64_in _ (by omega)
          have b3 : IntKind.i64.wrap ((L : Int) + 10 + (m : Int)) = (L : Int) + 10 + (m : Int) := IntWalk.i64_in _ (by omega)
          have hsl : ∀ w, (Instr.slice 25 (.slice (some ⟨bk, off, none⟩) n c) (some (.int .i64 ((L : Int) + 4))) (some (.int .i64 ((L : Int) + 10 + (m : Int)))) none).run Try.prog w = .ok (.slice (some ⟨bk, off + (L + 4), none⟩) (m + 6) (c - (L + 4))) w := fun w => by
            have := run_slice_mid w 25 5 i0 Try.underlying25 hi0 hz1 bk off n c (L + 4) (L + 10 + m) (by omega) (by omega) (by omega) (by omega) .i64
            rw [show L + 10 + m - (L + 4) = m + 6 by omega, show ((L + 4 : Nat) : Int) = (L : Int) + 4 by omega, show ((L + 10 + m : Nat) : Int) = (L : Int) + 10 + (m : Int) by omega] at this
            exact this
          have hp := HPart.out (by omega) hc
          have e : ((byteCells (framesL ys ++ rest)).drop ((L + 4) * 1)).take ((m + 6) * 1) = byteCells ((r.drop 4).take (m + 6)) := by
            rw [← HRd.out, List.drop_drop]; simp [byteCells, List.map_drop, List.map_take]
          rw [e] at hp
          have ea : fromAddr (some (⟨bk, off, none⟩ : Addr)) c (L + 4) 1 = some ⟨bk, off + (L + 4), none⟩ := by unfold fromAddr; rw [if_neg (by omega), Nat.mul_one]; show some (if L + 4 = 0 then _ else _) = _; rw [if_neg (by omega)]
          rw [ea] at hp
          have hp := hp.below HBW.out
          have hlen6 : ((r.drop 4).take (m + 6)).length = m + 6 := by rw [List.length_take, List.length_drop, HR.out.1]; omega
          by_cases hs : sealL ((r.drop 4).take m) = (r.drop 4).take (m + 6)
          · as_aux_lemma =>
            obtain ⟨hlt, y, t, hy, hrt⟩ : us.length < ys.length ∧ ∃ y t, ys[us.length]? = some y ∧ r = frameL y ++ t := by
              rcases HWay.out with h | ⟨e, hrr⟩
              · exact h
              · have hno := HRest.out.1
                rw [← hrr] at hno
                unfold wholeM at hno
                rw [if_neg (by have := HR.out.1; omega), HM.out.1, if_neg (by have := HR.out.1; omega), if_pos hs] at hno
                cases hno
            have hyp := HYS.out y (List.mem_of_getElem? hy)
            have hym : y.length = m := by have := HM.out.1; rw [hrt, le4V_frame y t (by omega)] at this; exact this
            have hyr : (r.drop 4).take m = y := by
              rw [hrt]; unfold frameL sealL
              rw [List.append_assoc, List.drop_append_of_le_length (by simp [le4]), List.drop_of_length_le (by simp [le4]), List.nil_append, List.append_assoc, ← hym, List.take_left]
            rw [← hs, hyr] at hp
            have HU := Lib.hid (runseal_yes _ (m + 6) (c - (L + 4)) y wc hp (by omega) hyp.2 (by omega))
            have hsn : (framesL (ys.take (us.length + 1))).length = L + 10 + m := by rw [framesL_snoc ys us.length y hy, List.length_append, frameL_len, ← HLd.out, hym]; omega
            have hts : ys.take (us.length + 1) = ys.take us.length ++ [y] := by rw [List.take_succ_eq_append_getElem hlt, (List.getElem?_eq_some_iff.1 hy).2]
            have HSn := Lib.hid (And.intro hsn (And.intro hts (And.intro hyp.2 (And.intro hym hlt))))
            have hkl : us.length ≤ 1000000 := by omega
            clear hp hs hyr hrt hy hyp hym hsn hts e ea hlen6 hlt
            go_wp2_with fail
            refine HU.out.mono ?_
            rintro e w2 ⟨a2, c2, rfl, hR2, hf2, hB2⟩
            rw [HSn.out.2.2.2.1] at hR2 hf2 ⊢
            have hTW := HT.out.below (HBW.out.trans (hB2.mono HBW.out.size))
            have hrow2 := hTW.row
            have hdst : Row (w2.alloc (.cells #[.slice a2 m c2] 25)) 25 1 (.slice ao us.length co) us.length us := hrow2.of_block fun k hk => Below.heap_alloc w2 _ k (hrow2.lt hk)
            have hsrc2 : Src (w2.alloc (.cells #[.slice a2 m c2] 25)) 1 (.slice (some ⟨w2.heap.size, 0, none⟩) 1 1) 1 [.slice a2 m c2] := Src.of_block (heap_alloc_new w2 _) 1 1 rfl (by simp [Value.oneCell'])
            have HD := Lib.hid hdst
            have HS2 := Lib.hid hsrc2
            have HO := Lib.hid (And.intro hR2 (And.intro hf2 hB2))
            have HTW := Lib.hid hTW
            clear HU hR2 hf2 hB2 hrow2 hdst hsrc2 hTW
            go_wp2_with (at_builtin; refine wpList_append_row _ rfl _ _ 22 rfl 25 i1 _ 1 24 Try.underlying22 hj0 hy0 hy1 hy2 rfl (.slice ao us.length co) us.length _ rfl HD.out (.slice (some ⟨w2.heap.size, 0, none⟩) 1 1) 1 [.slice a2 m c2] rfl HS2.out (by unfold maxLen; omega) (by omega) (w2.heap.size + 1) (by simp) ?_; intro a5 cap5 w5 hown5 hgrow5 hat5)
            go_roundw
            case measure => simp [intOf]; omega
            case rel =>
              have hszW := HBW.out.size
              have hsz2 := HO.out.2.2.size
              have hB02 : Below w.heap.size w w2 := HB.out.trans ((HBW.out.trans (HO.out.2.2.mono HBW.out.size)).mono HB.out.size)
              have hB5 : Below w.heap.size w w5 := (hB02.alloc hB02.size _).grown hgrow5 (by have := hB02.size; simp; omega) HFr.out
              have hsz5 : w2.heap.size + 1 ≤ w5.heap.size := by have := hgrow5.size; simpa using this
              have hkeep : ∀ k, k < w2.heap.size → (Value.slice ao us.length co).ownBlock ≠ some k → w5.heap[k]? = w2.heap[k]? := fun k hk hne => (hgrow5.block k (by simp; omega) (fun e => hne e.symm)).trans (Below.heap_alloc w2 _ k hk)
              have hob : ∀ k, (Value.slice ao us.length co).ownBlock = some k → k < wr.heap.size := fun k hk => HT.out.row.lt hk
              have hrow5 := HO.out.1.of_block (w' := w5) fun k hk => hkeep k (HO.out.1.lt hk) fun e => by have := hob k e; have := HO.out.2.1 k hk; omega
              have hbts : Bts (fun k => w.heap.size ≤ k ∧ k < w5.heap.size ∧ (Value.slice a5 (us.length + 1) cap5).ownBlock ≠ some k) w5 (.slice a2 m c2) y := by
                have hrow6 := hrow5
                rw [← HSn.out.2.2.2.1] at hrow6 ⊢
                refine Bts.of_row hrow6 HSn.out.2.2.1 fun k hk => ⟨?_, ?_, fun e => ?_⟩
                · rw [HSn.out.2.2.2.1] at hk; have := HO.out.2.1 k hk; have := HB.out.size; omega
                · exact hrow6.lt hk
                · rw [HSn.out.2.2.2.1] at hk
                  have h1 := HO.out.2.1 k hk
                  have h2 := HO.out.1.lt hk
                  rcases hat5 k e with h | h
                  · have := hob k h; omega
                  · omega
              have hT5 := TextsOf.snoc HTW.out hown5 (fun k hk hne => hkeep k hk hne) (by omega) (fun k hk => by
                rcases hat5 k hk with h | h
                · exact .inl h
                · right; omega) hbts
              rw [← HSn.out.2.1] at hT5
              refine ⟨us ++ [.slice a2 m c2], L + 10 + m, by go_num, ?_, ?_, ?_, ?_, hB5⟩
              · rw [List.length_append, List.length_singleton, HSn.out.1]
              · rw [List.length_append, List.length_singleton]; exact HSn.out.2.2.2.2
              · rw [List.length_append, List.length_singleton]; exact hT5
              · intro k hk
                rcases hat5 k hk with h | h
                · exact HFr.out k h
                · have := hB02.size; omega
          · as_aux_lemma =>
            have hkk : us.length = ys.length := by
              rcases HWay.out with ⟨-, y, t, hy, hrt⟩ | ⟨e, -⟩
              · exfalso
                have hyp := HYS.out y (List.mem_of_getElem? hy)
                have hym : y.length = m := by have := HM.out.1; rw [hrt, le4V_frame y t (by omega)] at this; exact this
                refine hs ?_
                rw [hrt, frame_drop, ← hym, seal_take, seal_take6]
              · exact e
            have HU := Lib.hid (runseal_no _ (m + 6) (c - (L + 4)) _ wc hp (by omega) (fun x hx => HR.out.2 x (List.mem_of_mem_drop (List.mem_of_mem_take hx))) (by omega) (by omega) (by rw [Nat.add_sub_cancel, List.take_take, show min m (m + 6) = m by omega]; exact hs))
            have HDn := Lib.hid (fun w2 (hB : Below wc.heap.size wc w2) => HDone.out w2 (HBW.out.trans (hB.mono HBW.out.size)) hkk)
            clear hp hs hkk e ea hlen6
            go_wp2_with fail
            refine HU.out.mono ?_
            rintro e w2 ⟨rfl, hB2⟩
            have HF := Lib.hid (HDn.out w2 hB2)
            clear HU HDn hB2
            go_wp2_with fail
            go_ret2
            exact HF.out
end Go.Proofs.Ytpkmnfpbcakflaa

/-! What snap does to a disk, as plain functions; the walks of snap's clear and Open, and of the reference's, over disks in order. No condition. -/
namespace Go.Proofs.Ytpkmnfpbcakflaa
open Go.ChangeShapes Go.WideShapes Go.ChangeAt Go.RowKit

/-! frames -/
theorem whole_frame (y t : List Int) (h : y.length ≤ 4194304) : wholeM (frameL y ++ t) = some y := by
  have hv := le4V_frame y t (by omega)
  have hl : (frameL y ++ t).length = y.length + 10 + t.length := by rw [List.length_append, frameL_len]
  unfold wholeM
  rw [if_neg (by omega), hv, if_neg (by omega), frame_drop, seal_take, seal_take6, if_pos rfl]
theorem frames_len : ∀ ys : List (List Int), 10 * ys.length ≤ (framesL ys).length
  | [] => by simp
  | y :: ys => by
    have := frames_len ys
    rw [framesL_cons, List.length_append, frameL_len, List.length_cons]; omega
/-- bytes that are one frame, and nothing behind -/
def oneM (b : List Int) : Option (List Int) := match wholeM b with | some y => if y.length + 10 = b.length then some y else none | none => none
theorem one_of {ys : List (List Int)} {rest : List Int} (hr : wholeM rest = none) (hys : ∀ y ∈ ys, y.length ≤ 4194304) :
    (∃ y, ys = [y] ∧ rest = [] ∧ oneM (framesL ys ++ rest) = some y) ∨ ((ys.length ≠ 1 ∨ (ys.length = 1 ∧ (framesL ys).length ≠ (framesL ys ++ rest).length)) ∧ oneM (framesL ys ++ rest) = none) := by
  match ys, hys with
  | [], _ =>
    right
    refine ⟨.inl (by simp), ?_⟩
    show oneM rest = none
    unfold oneM; rw [hr]
  | y :: ys', hys =>
    have hw : wholeM (framesL (y :: ys') ++ rest) = some y := by rw [framesL_cons, List.append_assoc]; exact whole_frame y _ (hys y (by simp))
    have hfl := frames_len ys'
    have hl : (framesL (y :: ys') ++ rest).length = y.length + 10 + (framesL ys').length + rest.length := by rw [framesL_cons, List.length_append, List.length_append, frameL_len]
    have hl2 : (framesL (y :: ys')).length = y.length + 10 + (framesL ys').length := by rw [framesL_cons, List.length_append, frameL_len]
    unfold oneM
    rw [hw]
    simp only
    by_cases h : y.length + 10 = (framesL (y :: ys') ++ rest).length
    · left
      rw [if_pos h]
      have h1 : ys' = [] := List.eq_nil_of_length_eq_zero (by omega)
      have h2 : rest = [] := List.eq_nil_of_length_eq_zero (by omega)
      subst h1; subst h2
      exact ⟨y, rfl, rfl, rfl⟩
    · right
      rw [if_neg h]
      refine ⟨?_, rfl⟩
      by_cases h1 : ys'.length = 0
      · right
        have : ys' = [] := List.eq_nil_of_length_eq_zero h1
        subst this
        refine ⟨rfl, fun e => h ?_⟩
        rw [← e, hl2]; simp [framesL]
      · left; simp only [List.length_cons]; omega

/-! what is done to the disk -/
def dataM (d : Dk) (s : ByteArray) : List Int := if hasF d.now s && !d.down then getF d.now s else []
def clearM (d : Dk) : (Bool × Int) × Dk := if hasF d.now nameN && !d.down then ((true, (removeM d nameN).1), (removeM d nameN).2) else ((false, 0), d)
def openS (d : Dk) : Int × Dk := if (clearM d).1.1 = true ∧ (clearM d).1.2 = 0 then syncM (clearM d).2 else ((clearM d).1.2, (clearM d).2)
def openM (d : Dk) : (Option (List Int) × Int) × Dk := if (openS d).1 = 0 then ((oneM (dataM (openS d).2 nameS), 0), (openS d).2) else ((none, (openS d).1), (openS d).2)
theorem Inv.cleared {C : Nat} {d : Dk} (h : Inv C d) : Inv (C + 1) (clearM d).2 := by
  unfold clearM
  split
  · exact h.removed (by decide)
  · exact h.more (Nat.le_succ _)
theorem Inv.openedS {C : Nat} {d : Dk} (h : Inv C d) : Inv (C + 1) (openS d).2 := by
  unfold openS
  split
  · exact h.cleared.sync
  · exact h.cleared
theorem Inv.opened {C : Nat} {d : Dk} (h : Inv C d) : Inv (C + 1) (openM d).2 := by
  unfold openM
  split <;> exact h.openedS
theorem data_len {C : Nat} {d : Dk} (h : Inv C d) (s : ByteArray) : (dataM d s).length ≤ 8388608 := by
  unfold dataM
  split
  · exact h.fine.get_le s
  · simp

/-! what reads tell, of either -/
theorem ReadOut.any {w w' : World} {e : Ending} {there : Bool} {b : List Int} (h : ReadOut w w' e there b) :
    ∃ a c, e = .returned (.tuple #[.slice a (if there then b else []).length c, .bool there]) ∧ Bts (fun k => k < w'.heap.size) w' (.slice a (if there then b else []).length c) (if there then b else []) ∧ Below w.heap.size w w' := by
  cases there with
  | true =>
    obtain ⟨v, rfl, hr, hf, hb, hB⟩ : ReadYes w w' e b := h
    obtain ⟨a, c, rfl, -⟩ := hr.form
    exact ⟨a, c, rfl, Bts.of_row hr hb fun k hk => hr.lt hk, hB⟩
  | false =>
    obtain ⟨rfl, hB⟩ : ReadNo w w' e := h
    exact ⟨none, 0, rfl, Bts.nil _ _, hB⟩
theorem RReadOut.any {T : Nat → Prop} {w w' : World} {e : Ending} {there : Bool} {b : List Int} (h : RReadOut T w w' e there b) :
    ∃ a c, e = .returned (.tuple #[.slice a (if there then b else []).length c, .bool there]) ∧ Bts T w (.slice a (if there then b else []).length c) (if there then b else []) ∧ w = w' := by
  cases there with
  | true =>
    obtain ⟨rfl, a, c, rfl, hb⟩ := h
    exact ⟨a, c, rfl, hb, rfl⟩
  | false =>
    obtain ⟨rfl, rfl⟩ := h
    exact ⟨none, 0, rfl, Bts.nil _ _, rfl⟩

section
variable {w0 w : World} {E : Nat → Prop} {p q : Nat} {dp dq : Dk}
theorem PairTo.trans {w1 w2 : World} {dp1 dq1 dp2 dq2 : Dk} (h : PairTo w0 w w1 E p q dp1 dq1) (h2 : PairTo w0 w1 w2 E p q dp2 dq2) : PairTo w0 w w2 E p q dp2 dq2 :=
  ⟨h2.1, fun k hk hl => (h2.2 k hk (by
    rcases hk with hk | hk
    · have := h.1.1.size; omega
    · exact (h.1.2.2.1 k hk).2.1)).trans (h.2 k hk hl)⟩
theorem PairAt.same (h : PairAt w0 w E p q dp dq) : PairTo w0 w w E p q dp dq := ⟨h, fun _ _ _ => rfl⟩
theorem PairAt.to_below {w1 : World} (h : PairAt w0 w E p q dp dq) (hB : Below w.heap.size w w1) : PairTo w0 w w1 E p q dp dq := ⟨h.below hB, fun k _ hl => hB.block k hl⟩
theorem PairTo.fewer {w1 : World} {E' : Nat → Prop} {dp1 dq1 : Dk} (h : PairTo w0 w w1 E' p q dp1 dq1) (hE : ∀ k, E k → E' k) : PairTo w0 w w1 E p q dp1 dq1 :=
  ⟨h.1.apart hE, fun k hk hl => h.2 k (by rcases hk with h | h; exact .inl h; exact .inr (hE k h)) hl⟩
theorem PairAt.dread (h : PairAt w0 w E p q dp dq) {C : Nat} (hI : Inv C dp) (s : ByteArray) (hs : s.size ≤ maxLen) :
    Calls Try.prog 20 #[.pointer (some ⟨p, 0, none⟩), .string s] w fun e w' => ∃ a c, e = .returned (.tuple #[.slice a (dataM dp s).length c, .bool (hasF dp.now s && !dp.down)]) ∧ Bts (fun k => k < w'.heap.size) w' (.slice a (dataM dp s).length c) (dataM dp s) ∧ Below w.heap.size w w' :=
  (h.read hI s hs).mono fun _ _ ho => ReadOut.any ho
theorem PairAt.dread2 (h : PairAt w0 w E p q dp dq) (s : ByteArray) :
    Calls Try.prog 63 #[.pointer (some ⟨q, 0, none⟩), .string s] w fun e w' => ∃ a c, e = .returned (.tuple #[.slice a (dataM dq s).length c, .bool (hasF dq.now s && !dq.down)]) ∧ Bts (fun k => k < w.heap.size) w (.slice a (dataM dq s).length c) (dataM dq s) ∧ w = w' := by
  obtain ⟨T, hT⟩ := h.read2 s
  refine hT.mono fun e w' ho => ?_
  obtain ⟨a, c, he, hb, hw⟩ := RReadOut.any ho
  refine ⟨a, c, he, ⟨hb.ex, hb.src, hb.byte, fun h0 k hk => hb.lt h0 k hk⟩, hw⟩

theorem PairAt.clearP (h : PairAt w0 w E p q dp dq) {C : Nat} (hI : Inv C dp) (hC : C ≤ 999999) :
    Calls Try.prog 54 #[.pointer (some ⟨p, 0, none⟩)] w fun e w' => e = .returned (.tuple #[.bool (clearM dp).1.1, .int .i64 (clearM dp).1.2]) ∧ PairTo w0 w w' E p q (clearM dp).2 dq := by
  have HRd := Lib.hid (h.dread hI nameN (by decide))
  have HP := Lib.hid h
  have HI := Lib.hid hI
  unfold clearM
  obtain ⟨th, hth⟩ : ∃ th, (hasF dp.now nameN && !dp.down) = th := ⟨_, rfl⟩
  rw [hth] at HRd ⊢
  obtain ⟨L, hL⟩ : ∃ L, (dataM dp nameN).length = L := ⟨_, rfl⟩
  rw [hL] at HRd
  clear h hI hth hL
  cases th with
  | false =>
    simp only [Bool.false_eq_true, if_false]
    go_enter Try.func54, Try.ntmps54
    go_wp2_with fail
    refine HRd.out.mono ?_
    rintro e w1 ⟨a, c, rfl, -, hB⟩
    have HB := Lib.hid hB
    clear hB HRd
    go_wp2_with fail
    go_ret2
    exact ⟨rfl, HP.out.to_below HB.out⟩
  | true =>
    simp only [if_true]
    go_enter Try.func54, Try.ntmps54
    go_wp2_with fail
    refine HRd.out.mono ?_
    rintro e w1 ⟨a, c, rfl, -, hB⟩
    have HT := Lib.hid (HP.out.to_below hB)
    have HRm := Lib.hid (HT.out.1.remove HI.out (by omega) nameN (by decide))
    clear hB HRd
    go_wp2_with fail
    refine HRm.out.mono ?_
    rintro e w2 ⟨rfl, hT2⟩
    have HT2 := Lib.hid (HT.out.trans hT2)
    clear hT2 HRm
    go_wp2_with fail
    go_ret2
    exact ⟨rfl, HT2.out⟩
theorem PairAt.here (h : PairAt w0 w E p q dp dq) (s : ByteArray) :
    Calls Try.prog 61 #[.pointer (some ⟨q, 0, none⟩), .string s] w fun e w' => e = .returned (.bool (hasF dq.now s && !dq.down)) ∧ w = w' := by
  have HRd := Lib.hid (h.dread2 s)
  obtain ⟨L, hL⟩ : ∃ L, (dataM dq s).length = L := ⟨_, rfl⟩
  obtain ⟨th, hth⟩ : ∃ th, (hasF dq.now s && !dq.down) = th := ⟨_, rfl⟩
  rw [hL, hth] at HRd
  rw [hth]
  clear h hL hth
  go_enter Try.func61, Try.ntmps61
  go_wp2_with fail
  refine HRd.out.mono ?_
  rintro e w1 ⟨a, c, rfl, -, rfl⟩
  clear HRd
  go_wp2_with fail
  go_ret
  exact ⟨rfl, rfl⟩
end
end Go.Proofs.Ytpkmnfpbcakflaa

/-! The walks of snap's Open and of the reference's, over disks in order. No condition. -/
namespace Go.Proofs.Ytpkmnfpbcakflaa
open Go.ChangeShapes Go.WideShapes Go.ChangeAt Go.RowKit

/-- what Open tells, and leaves -/
def OpOut (w0 w w' : World) (e : Ending) (E : Nat → Prop) (p q : Nat) (dp dq : Dk) (o : Option (List Int)) (err : Int) : Prop :=
  ∃ v wa, e = .returned (.tuple #[v, .bool o.isSome, .int .i64 err]) ∧ PairTo w0 w wa E p q dp dq ∧ Below wa.heap.size wa w' ∧ Bts (fun k => wa.heap.size ≤ k ∧ k < w'.heap.size) w' v (o.getD [])

/-- List over bytes, and what it means -/
def ListedAs (w w' : World) (e : Ending) (b : List Int) (n : Nat) : Prop :=
  ∃ o us at_, e = .returned (.tuple #[o, .int .i64 (at_ : Nat)]) ∧ Row w' 25 1 o us.length us ∧ Below w.heap.size w w' ∧
    ((∃ y u, us = [u] ∧ at_ = n ∧ oneM b = some y ∧ Bts (fun k => w.heap.size ≤ k ∧ k < w'.heap.size) w' u y) ∨ ((us.length ≠ 1 ∨ (us.length = 1 ∧ at_ ≠ n)) ∧ oneM b = none))
theorem ListOut.as {w w' : World} {e : Ending} {ys : List (List Int)} {rest : List Int} {n : Nat} (hr : wholeM rest = none) (hys : ∀ y ∈ ys, y.length ≤ 4194304) (hn : (framesL ys ++ rest).length = n) (h : ListOut w w' e ys (framesL ys).length) : ListedAs w w' e (framesL ys ++ rest) n := by
  obtain ⟨o, us, rfl, hl, hT, hf, hB⟩ := h
  refine ⟨o, us, _, rfl, hT.row, hB, ?_⟩
  rcases one_of hr hys with ⟨y, rfl, rfl, ho⟩ | ⟨hne, ho⟩
  · left
    match us, hl with
    | [u], _ =>
      refine ⟨y, u, rfl, by rw [← hn, List.append_nil], ho, ?_⟩
      exact (hT.each 0 u y rfl rfl).move (fun _ _ => rfl) fun k hk => ⟨hk.1, hk.2.1⟩
  · right
    refine ⟨?_, ho⟩
    rw [hl, ← hn]; exact hne
theorem list_as (a : Option Addr) (n c : Nat) (b : List Int) (S : Nat → Prop) (w : World) (h : Bts S w (.slice a n c) b) (hl : b.length = n) (hn : n ≤ 8388608) :
    Calls Try.prog 55 #[.slice a n c] w fun e w' => ListedAs w w' e b n := by
  obtain ⟨ys, rest, rfl, hr, hys, hrb, -⟩ := frames_of b.length b (Nat.le_refl _) h.byte
  obtain ⟨a', c', e1, e2, -⟩ := h.ex
  simp only [Value.slice.injEq] at e1
  obtain ⟨rfl, -, rfl⟩ := e1
  have hs := h.src
  rw [hl] at hs
  have hf := frames_len ys
  have hl2 := hl
  rw [List.length_append] at hl2
  exact (list_all a n c ys rest w hs (by omega) hr hrb hys (by omega) (by omega)).mono fun e w' ho => ho.as hr (fun y hy => (hys y hy).1) hl
theorem rlist_as (a : Option Addr) (n c : Nat) (b : List Int) (S : Nat → Prop) (w : World) (h : Bts S w (.slice a n c) b) (hl : b.length = n) (hn : n ≤ 8388608) :
    Calls Try.prog 64 #[.slice a n c] w fun e w' => ListedAs w w' e b n := by
  obtain ⟨ys, rest, rfl, hr, hys, hrb, -⟩ := frames_of b.length b (Nat.le_refl _) h.byte
  obtain ⟨a', c', e1, e2, -⟩ := h.ex
  simp only [Value.slice.injEq] at e1
  obtain ⟨rfl, -, rfl⟩ := e1
  have hs := h.src
  rw [hl] at hs
  have hf := frames_len ys
  have hl2 := hl
  rw [List.length_append] at hl2
  exact (rlist_all a n c ys rest w hs (by omega) hr hrb hys (by omega) (by omega)).mono fun e w' ho => ho.as hr (fun y hy => (hys y hy).1) hl

section
variable {w0 w : World} {E : Nat → Prop} {p q : Nat} {dp dq : Dk}
set_option maxRecDepth 100000 in
set_option maxHeartbeats 2000000 in
theorem PairAt.openP (h : PairAt w0 w E p q dp dq) {C : Nat} (hI : Inv C dp) (hC : C ≤ 999990) :
    Calls Try.prog 27 #[.pointer (some ⟨p, 0, none⟩)] w fun e w' => OpOut w0 w w' e E p q (openM dp).2 dq (openM dp).1.1 (openM dp).1.2 := by
  have hIc := hI.cleared
  have hIs := hI.openedS
  have hcl := h.clearP hI (by omega)
  have hom0 : openM dp = if (openS dp).1 = 0 then ((oneM (dataM (openS dp).2 nameS), 0), (openS dp).2) else ((none, (openS dp).1), (openS dp).2) := rfl
  have hop : openS dp = if (clearM dp).1.1 = true ∧ (clearM dp).1.2 = 0 then syncM (clearM dp).2 else ((clearM dp).1.2, (clearM dp).2) := rfl
  obtain ⟨cb, ce, dc, hcm⟩ : ∃ cb ce dc, clearM dp = ((cb, ce), dc) := ⟨_, _, _, rfl⟩
  rw [hcm] at hcl hIc hop
  obtain ⟨se, ds, hos⟩ : ∃ se ds, openS dp = (se, ds) := ⟨_, _, rfl⟩
  rw [hos] at hop hIs hom0
  simp only at hcl hIc hIs hop hom0
  obtain ⟨o', err, df, hom⟩ : ∃ o' err df, openM dp = ((o', err), df) := ⟨_, _, _, rfl⟩
  rw [hom] at hom0
  rw [hom]
  show Calls _ _ _ w fun e w' => OpOut w0 w w' e E p q df dq o' err
  have HOm := Lib.hid hom0
  have hc0 : cb = false → ce = 0 := by
    unfold clearM at hcm
    split at hcm
    · simp only [Prod.mk.injEq] at hcm
      intro h; rw [← hcm.1.1] at h; cases h
    · simp only [Prod.mk.injEq] at hcm
      intro _; exact hcm.1.2.symm
  have HCl := Lib.hid hcl
  have HI := Lib.hid (And.intro hIc hIs)
  have HOp := Lib.hid hop
  have HC0 := Lib.hid hc0
  clear h hI hIc hIs hcl hcm hos hop hc0 hom0 hom
  go_enter Try.func27, Try.ntmps27
  go_wp2_with fail
  refine HCl.out.mono ?_
  rintro e w1 ⟨rfl, T1⟩
  have HT := Lib.hid T1
  clear T1 HCl
  go_upto_region 4 with (fail)
  go_cut [22] (fun t wx => w1 = wx ∧ t = .bool (cb && decide (ce = 0)))
  case first =>
    cases cb with
    | false =>
      go_wp2_with fail
      go_meet
      exact ⟨rfl, rfl⟩
    | true =>
      by_cases h0 : ce = 0
      · subst h0
        go_wp2_with fail
        go_meet
        exact ⟨rfl, rfl⟩
      · have k0 : (ce == 0) = false := by simp [h0]
        have HN0 := Lib.hid h0
        clear h0
        go_wp2_with fail
        go_meet
        exact ⟨rfl, congrArg Value.bool (by simp [HN0.out])⟩
  case rest =>
  obtain ⟨hw, rfl⟩ := hcut
  subst hw
  obtain ⟨gd, hgd⟩ : ∃ gd, (cb && decide (ce = 0)) = gd := ⟨_, rfl⟩
  rw [hgd]
  have HG := Lib.hid hgd
  clear hgd
  go_upto_if 22 with (fail)
  go_cut [6] (fun t wx => t = .int .i64 se ∧ Hid (PairTo w0 w wx E p q ds dq))
  case first =>
    cases gd with
    | false =>
      have hop := HOp.out
      have hg := HG.out
      rw [if_neg (by rintro ⟨h1, h2⟩; subst h1; subst h2; simp at hg)] at hop
      simp only [Prod.mk.injEq] at hop
      obtain ⟨rfl, rfl⟩ := hop
      clear hg
      go_wp2_with fail
      go_meet
      exact ⟨rfl, HT.out⟩
    | true =>
      have hop := HOp.out
      have hg := HG.out
      simp only [Bool.and_eq_true, decide_eq_true_eq] at hg
      rw [if_pos hg] at hop
      have HS := Lib.hid (HT.out.1.sync HI.out.1)
      rw [← hop] at HS
      simp only at HS
      clear hop hg
      go_wp2_with fail
      refine HS.out.mono ?_
      rintro e w2 ⟨rfl, T2⟩
      have HT2 := Lib.hid (HT.out.trans T2)
      clear T2 HS
      go_wp2_with fail
      go_meet
      exact ⟨rfl, HT2.out⟩
  case rest =>
    obtain ⟨rfl, HT2⟩ := hcut
    clear HT HOp HC0 HG
    by_cases hse : se = 0
    · as_aux_lemma =>
      subst hse
      have hom := HOm.out
      rw [if_pos rfl] at hom
      simp only [Prod.mk.injEq] at hom
      obtain ⟨⟨hoo, rfl⟩, rfl⟩ := hom
      clear HOm
      have HRd := Lib.hid (HT2.out.1.dread HI.out.2 nameS (by decide))
      have hdl := data_len HI.out.2 nameS
      obtain ⟨th, hth⟩ : ∃ th, (hasF df.now nameS && !df.down) = th := ⟨_, rfl⟩
      obtain ⟨b, hb⟩ : ∃ b, dataM df nameS = b := ⟨_, rfl⟩
      obtain ⟨n, hn⟩ : ∃ n, b.length = n := ⟨_, rfl⟩
      rw [hth, hb, hn] at HRd
      rw [hb, hn] at hdl
      rw [hb] at hoo
      have HN := Lib.hid hn
      have HOo := Lib.hid hoo
      clear hth hb hn hoo
      go_wp2_with fail
      refine HRd.out.mono ?_
      rintro e w2 ⟨a, c, rfl, hb2, hB2⟩
      have HT3 := Lib.hid (HT2.out.trans (HT2.out.1.to_below hB2))
      have HLs := Lib.hid (list_as a n c b _ w2 hb2 HN.out hdl)
      clear HRd hb2 hB2 HT2
      go_wp2_with fail
      refine HLs.out.mono ?_
      rintro e w3 ⟨o, us, at_, rfl, hrow, hB3, hway⟩
      obtain ⟨ao, co, rfl, hco, hmo, -⟩ := hrow.form
      have HB3 := Lib.hid hB3
      unfold maxLen at hmo
      clear HLs hB3
      rcases hway with ⟨y, u, rfl, rfl, ho, hbu⟩ | ⟨hne | ⟨h1, hne⟩, ho⟩
      · obtain rfl : o' = some y := HOo.out.trans ho
        clear HOo
        obtain ⟨g, rfl, hgl, hgc, -⟩ := hrow.view (by simp)
        have e0 := hgc 0 (by simp)
        simp only [List.getElem?_cons_zero] at e0
        have HBu := Lib.hid hbu
        obtain ⟨au, cu, rfl, -⟩ := hbu.ex
        clear hbu hrow hgc ho
        simp only [List.length_singleton] at *
        go_wp2_with fail
        go_ret3
        exact ⟨_, w2, rfl, HT3.out, HB3.out, HBu.out⟩
      · obtain rfl : o' = none := HOo.out.trans ho
        clear HOo
        obtain ⟨L, hL⟩ : ∃ L, us.length = L := ⟨_, rfl⟩
        rw [hL] at hne hmo ⊢
        have k1 : ((L : Int) != 1) = true := by simp; omega
        clear hrow ho hne hL hco
        go_wp2_with fail
        go_ret3
        exact ⟨_, w2, rfl, HT3.out, HB3.out, Bts.nil _ _⟩
      · obtain rfl : o' = none := HOo.out.trans ho
        clear HOo
        rw [h1]
        have k1 : ((at_ : Int) != (n : Int)) = true := by simp; omega
        clear hrow ho hne h1 hco
        go_wp2_with fail
        go_ret3
        exact ⟨_, w2, rfl, HT3.out, HB3.out, Bts.nil _ _⟩
    · as_aux_lemma =>
      have hom := HOm.out
      rw [if_neg hse] at hom
      simp only [Prod.mk.injEq] at hom
      obtain ⟨⟨rfl, rfl⟩, rfl⟩ := hom
      clear HOm
      have k1 : (err != 0) = true := by simp [hse]
      clear hse
      go_wp2_with fail
      go_ret3
      exact ⟨_, wc, rfl, HT2.out, Below.refl _ _, Bts.nil _ _⟩
end
end Go.Proofs.Ytpkmnfpbcakflaa

/-! The walk of the reference's OpenSnap, over disks in order. No condition. -/
namespace Go.Proofs.Ytpkmnfpbcakflaa
open Go.ChangeShapes Go.WideShapes Go.ChangeAt Go.RowKit

section
variable {w0 w : World} {E : Nat → Prop} {p q : Nat} {dp dq : Dk}
set_option maxRecDepth 100000 in
set_option maxHeartbeats 2000000 in
theorem PairAt.openR (h : PairAt w0 w E p q dp dq) {C : Nat} (hI : Inv C dq) (hC : C ≤ 999990) :
    Calls Try.prog 32 #[.pointer (some ⟨q, 0, none⟩)] w fun e w' => OpOut w0 w w' e E p q dp (openM dq).2 (openM dq).1.1 (openM dq).1.2 := by
  have hIc := hI.cleared
  have hIs := hI.openedS
  have hhr := h.here nameN
  have hrm := h.remove2 hI (by omega) nameN (by decide)
  have hom0 : openM dq = if (openS dq).1 = 0 then ((oneM (dataM (openS dq).2 nameS), 0), (openS dq).2) else ((none, (openS dq).1), (openS dq).2) := rfl
  have hop : openS dq = if (clearM dq).1.1 = true ∧ (clearM dq).1.2 = 0 then syncM (clearM dq).2 else ((clearM dq).1.2, (clearM dq).2) := rfl
  have hcm0 : clearM dq = if hasF dq.now nameN && !dq.down then ((true, (removeM dq nameN).1), (removeM dq nameN).2) else ((false, 0), dq) := rfl
  obtain ⟨cb, ce, dc, hcm⟩ : ∃ cb ce dc, clearM dq = ((cb, ce), dc) := ⟨_, _, _, rfl⟩
  rw [hcm] at hIc hop hcm0
  obtain ⟨se, ds, hos⟩ : ∃ se ds, openS dq = (se, ds) := ⟨_, _, rfl⟩
  rw [hos] at hop hIs hom0
  obtain ⟨th, hth⟩ : ∃ th, (hasF dq.now nameN && !dq.down) = th := ⟨_, rfl⟩
  rw [hth] at hhr hcm0
  obtain ⟨re, dr, hre⟩ : ∃ re dr, removeM dq nameN = (re, dr) := ⟨_, _, rfl⟩
  rw [hre] at hrm hcm0
  simp only at hIc hIs hop hom0 hrm hcm0
  obtain ⟨o', err, df, hom⟩ : ∃ o' err df, openM dq = ((o', err), df) := ⟨_, _, _, rfl⟩
  rw [hom] at hom0
  rw [hom]
  show Calls _ _ _ w fun e w' => OpOut w0 w w' e E p q dp df o' err
  have HOm := Lib.hid hom0
  have HHr := Lib.hid hhr
  have HRm := Lib.hid hrm
  have HI := Lib.hid (And.intro hIc hIs)
  have HOp := Lib.hid hop
  have HC0 := Lib.hid hcm0
  have HP := Lib.hid h
  clear h hI hIc hIs hhr hrm hcm hos hop hcm0 hom0 hom hth hre
  go_enter Try.func32, Try.ntmps32
  go_wp2_with fail
  refine HHr.out.mono ?_
  rintro e w1 ⟨rfl, hw⟩
  subst hw
  clear HHr
  go_upto_if 13 with (fail)
  go_cut [] (fun wx => Hid (se = 0) ∧ Hid (PairTo w0 w wx E p q dp ds))
  case first =>
    cases th with
    | false =>
      have hc := HC0.out
      have hop := HOp.out
      simp only [Bool.false_eq_true, if_false, Prod.mk.injEq] at hc
      obtain ⟨⟨rfl, rfl⟩, rfl⟩ := hc
      simp only [Bool.false_eq_true, false_and, if_false, Prod.mk.injEq] at hop
      obtain ⟨rfl, rfl⟩ := hop
      have HS := Lib.hid HP.out.same
      clear HRm
      go_wp2_with fail
      go_meet
      exact ⟨Lib.hid trivial, HS⟩
    | true =>
      have hc := HC0.out
      simp only [if_true, Prod.mk.injEq] at hc
      obtain ⟨⟨rfl, rfl⟩, rfl⟩ := hc
      by_cases h0 : ce = 0
      · have hop := HOp.out
        rw [if_pos ⟨rfl, h0⟩] at hop
        have HIc := HI
        subst h0
        go_wp2_with fail
        refine HRm.out.mono ?_
        rintro e w2 ⟨rfl, T2⟩
        have HT := Lib.hid T2
        have HS := Lib.hid (T2.1.sync2 HI.out.1)
        rw [← hop] at HS
        simp only at HS
        clear T2 hop HRm
        go_wp2_with fail
        refine HS.out.mono ?_
        rintro e w3 ⟨rfl, T3⟩
        have HT3 := Lib.hid (HT.out.trans T3)
        clear T3 HS HT
        by_cases hse : se = 0
        · have HSe := Lib.hid hse
          subst hse
          go_wp2_with fail
          go_meet
          exact ⟨Lib.hid trivial, HT3⟩
        · have hom := HOm.out
          rw [if_neg hse] at hom
          simp only [Prod.mk.injEq] at hom
          obtain ⟨⟨rfl, rfl⟩, rfl⟩ := hom
          have k1 : (err != 0) = true := by simp [hse]
          clear hse HOm HOp
          go_wp2_with fail
          go_ret3
          exact ⟨_, w3, rfl, HT3.out, Below.refl _ _, Bts.nil _ _⟩
      · have hop := HOp.out
        rw [if_neg (fun h => h0 h.2)] at hop
        simp only [Prod.mk.injEq] at hop
        obtain ⟨rfl, rfl⟩ := hop
        have hom := HOm.out
        rw [if_neg h0] at hom
        simp only [Prod.mk.injEq] at hom
        obtain ⟨⟨rfl, rfl⟩, rfl⟩ := hom
        have k0 : (err == 0) = false := by simp [h0]
        have k1 : (err != 0) = true := by simp [h0]
        clear h0 HOm HOp HC0
        go_wp2_with fail
        refine HRm.out.mono ?_
        rintro e w2 ⟨rfl, T2⟩
        have HT := Lib.hid T2
        clear T2 HRm
        go_wp2_with fail
        go_ret3
        exact ⟨_, w2, rfl, HT.out, Below.refl _ _, Bts.nil _ _⟩
  case rest =>
    obtain ⟨hse, HT2⟩ := hcut
    have hom := HOm.out
    rw [if_pos hse.out] at hom
    simp only [Prod.mk.injEq] at hom
    obtain ⟨⟨hoo, rfl⟩, rfl⟩ := hom
    clear HOm HC0 HOp hse HRm HP
    have HRd := Lib.hid (HT2.out.1.dread2 nameS)
    have hdl := data_len HI.out.2 nameS
    obtain ⟨t2, ht2⟩ : ∃ t2, (hasF df.now nameS && !df.down) = t2 := ⟨_, rfl⟩
    obtain ⟨b, hb⟩ : ∃ b, dataM df nameS = b := ⟨_, rfl⟩
    obtain ⟨n, hn⟩ : ∃ n, b.length = n := ⟨_, rfl⟩
    rw [ht2, hb, hn] at HRd
    rw [hb, hn] at hdl
    rw [hb] at hoo
    have HN := Lib.hid hn
    have HOo := Lib.hid hoo
    clear ht2 hb hn hoo
    go_wp2_with fail
    refine HRd.out.mono ?_
    rintro e w2 ⟨a, c, rfl, hb2, hw⟩
    subst hw
    have HLs := Lib.hid (rlist_as a n c b _ _ hb2 HN.out hdl)
    clear HRd hb2
    go_wp2_with fail
    refine HLs.out.mono ?_
    rintro e w3 ⟨o, us, at_, rfl, hrow, hB3, hway⟩
    obtain ⟨ao, co, rfl, hco, hmo, -⟩ := hrow.form
    have HB3 := Lib.hid hB3
    unfold maxLen at hmo
    clear HLs hB3
    rcases hway with ⟨y, u, rfl, rfl, ho, hbu⟩ | ⟨hne | ⟨h1, hne⟩, ho⟩
    · obtain rfl : o' = some y := HOo.out.trans ho
      clear HOo
      obtain ⟨g, rfl, hgl, hgc, -⟩ := hrow.view (by simp)
      have e0 := hgc 0 (by simp)
      simp only [List.getElem?_cons_zero] at e0
      have HBu := Lib.hid hbu
      obtain ⟨au, cu, rfl, -⟩ := hbu.ex
      clear hbu hrow hgc ho
      simp only [List.length_singleton] at *
      go_wp2_with fail
      go_ret3
      exact ⟨_, _, rfl, HT2.out, HB3.out, HBu.out⟩
    · obtain rfl : o' = none := HOo.out.trans ho
      clear HOo
      obtain ⟨L, hL⟩ : ∃ L, us.length = L := ⟨_, rfl⟩
      rw [hL] at hne hmo ⊢
      have k1 : ((L : Int) != 1) = true := by simp; omega
      clear hrow ho hne hL hco
      go_wp2_with fail
      go_ret3
      exact ⟨_, _, rfl, HT2.out, HB3.out, Bts.nil _ _⟩
    · obtain rfl : o' = none := HOo.out.trans ho
      clear HOo
      rw [h1]
      have k1 : ((at_ : Int) != (n : Int)) = true := by simp; omega
      clear hrow ho hne h1 hco
      go_wp2_with fail
      go_ret3
      exact ⟨_, _, rfl, HT2.out, HB3.out, Bts.nil _ _⟩
end
end Go.Proofs.Ytpkmnfpbcakflaa

/-! The walks of snap's Save and of the reference's SaveSnap, over disks in order. No condition. -/
namespace Go.Proofs.Ytpkmnfpbcakflaa
open Go.ChangeShapes Go.WideShapes Go.ChangeAt Go.RowKit

def andM (r : Int × Dk) (f : Dk → Int × Dk) : Int × Dk := if r.1 = 0 then f r.2 else r
def saveA (d : Dk) (b : List Int) : Int × Dk :=
  if 4194304 < b.length then (12, d) else andM (andM (andM (andM ((clearM d).1.2, (clearM d).2) fun d => appendM d nameN (frameL b)) syncM) fun d => renameM d nameN nameS) syncM
/-- its five steps -/
structure Saving (C : Nat) (d : Dk) (b : List Int) (e0 e1 e2 e3 e4 : Int) (d0 d1 d2 d3 d4 : Dk) : Prop where
  c0 : ((clearM d).1.2, (clearM d).2) = (e0, d0)
  q1 : (e1, d1) = if e0 = 0 then appendM d0 nameN (frameL b) else (e0, d0)
  q2 : (e2, d2) = if e1 = 0 then syncM d1 else (e1, d1)
  q3 : (e3, d3) = if e2 = 0 then renameM d2 nameN nameS else (e2, d2)
  q4 : (e4, d4) = if e3 = 0 then syncM d3 else (e3, d3)
  i0 : Inv (C + 1) d0
  i1 : Inv (C + 2) d1
  i2 : Inv (C + 2) d2
  i3 : Inv (C + 3) d3
  i4 : Inv (C + 3) d4
theorem saving {C : Nat} {d : Dk} (h : Inv C d) (b : List Int) (hb : ¬ 4194304 < b.length) : ∃ e0 e1 e2 e3 e4 d0 d1 d2 d3 d4, Saving C d b e0 e1 e2 e3 e4 d0 d1 d2 d3 d4 ∧ saveA d b = (e4, d4) := by
  unfold saveA
  rw [if_neg hb]
  obtain ⟨e0, d0, h0⟩ : ∃ e0 d0, ((clearM d).1.2, (clearM d).2) = (e0, d0) := ⟨_, _, rfl⟩
  have i0 : Inv (C + 1) d0 := by have := h.cleared; rw [← (Prod.mk.inj h0).2]; exact this
  rw [h0]
  obtain ⟨e1, d1, h1⟩ : ∃ e1 d1, andM (e0, d0) (fun d => appendM d nameN (frameL b)) = (e1, d1) := ⟨_, _, rfl⟩
  have q1 : (e1, d1) = if e0 = 0 then appendM d0 nameN (frameL b) else (e0, d0) := by rw [← h1]; rfl
  have i1 : Inv (C + 2) d1 := by
    by_cases e : e0 = 0
    · rw [if_pos e] at q1; rw [show d1 = (appendM d0 nameN (frameL b)).2 by rw [← q1]]; exact i0.appended (by decide)
    · rw [if_neg e] at q1; rw [(Prod.mk.inj q1).2]; exact i0.more (by omega)
  rw [h1]
  obtain ⟨e2, d2, h2⟩ : ∃ e2 d2, andM (e1, d1) syncM = (e2, d2) := ⟨_, _, rfl⟩
  have q2 : (e2, d2) = if e1 = 0 then syncM d1 else (e1, d1) := by rw [← h2]; rfl
  have i2 : Inv (C + 2) d2 := by
    by_cases e : e1 = 0
    · rw [if_pos e] at q2; rw [show d2 = (syncM d1).2 by rw [← q2]]; exact i1.sync
    · rw [if_neg e] at q2; rw [(Prod.mk.inj q2).2]; exact i1
  rw [h2]
  obtain ⟨e3, d3, h3⟩ : ∃ e3 d3, andM (e2, d2) (fun d => renameM d nameN nameS) = (e3, d3) := ⟨_, _, rfl⟩
  have q3 : (e3, d3) = if e2 = 0 then renameM d2 nameN nameS else (e2, d2) := by rw [← h3]; rfl
  have i3 : Inv (C + 3) d3 := by
    by_cases e : e2 = 0
    · rw [if_pos e] at q3; rw [show d3 = (renameM d2 nameN nameS).2 by rw [← q3]]; exact i2.renamed (by decide) (by decide)
    · rw [if_neg e] at q3; rw [(Prod.mk.inj q3).2]; exact i2.more (by omega)
  rw [h3]
  obtain ⟨e4, d4, h4⟩ : ∃ e4 d4, andM (e3, d3) syncM = (e4, d4) := ⟨_, _, rfl⟩
  have q4 : (e4, d4) = if e3 = 0 then syncM d3 else (e3, d3) := by rw [← h4]; rfl
  have i4 : Inv (C + 3) d4 := by
    by_cases e : e3 = 0
    · rw [if_pos e] at q4; rw [show d4 = (syncM d3).2 by rw [← q4]]; exact i3.sync
    · rw [if_neg e] at q4; rw [(Prod.mk.inj q4).2]; exact i3
  exact ⟨e0, e1, e2, e3, e4, d0, d1, d2, d3, d4, ⟨h0, q1, q2, q3, q4, i0, i1, i2, i3, i4⟩, h4⟩
theorem Inv.savedA {C : Nat} {d : Dk} (h : Inv C d) (b : List Int) : Inv (C + 3) (saveA d b).2 := by
  by_cases hb : 4194304 < b.length
  · unfold saveA; rw [if_pos hb]; exact h.more (by omega)
  · obtain ⟨e0, e1, e2, e3, e4, d0, d1, d2, d3, d4, hs, he⟩ := saving h b hb
    rw [he]; exact hs.i4

section
variable {w0 w : World} {E : Nat → Prop} {p q : Nat} {dp dq : Dk}
theorem PairAt.elt (h : PairAt w0 w E p q dp dq) : ∀ k, (k < w0.heap.size ∨ E k) → k < w.heap.size := fun k hk => by
  rcases hk with hk | hk
  · have := h.1.size; omega
  · exact (h.2.2.1 k hk).2.1
theorem Bts.to {w1 : World} {v : Value} {b : List Int} {dp1 dq1 : Dk} (hb : Bts (fun k => k < w0.heap.size ∨ E k) w v b) (h : PairAt w0 w E p q dp dq) (hT : PairTo w0 w w1 E p q dp1 dq1) : Bts (fun k => k < w0.heap.size ∨ E k) w1 v b :=
  hb.move (fun k hk => hT.2 k hk (h.elt k hk)) fun _ h => h
/-- new bytes are appended -/
theorem PairAt.appendNew (h : PairAt w0 w E p q dp dq) {C : Nat} (hI : Inv C dp) (hC : C ≤ 1000000) (name : ByteArray) (hn : name.size ≤ maxLen) {w1 : World} {a : Option Addr} {m c : Nat} {fr : List Int} (hm : fr.length = m) (hml : m ≤ 10000000) (hb : ∀ x ∈ fr, 0 ≤ x ∧ x < 256)
    (hr : Row w1 5 1 (.slice a m c) m (byteCells fr)) (hf : ∀ k, (Value.slice a m c).ownBlock = some k → w.heap.size ≤ k) (hB : Below w.heap.size w w1) :
    Calls Try.prog 18 #[.pointer (some ⟨p, 0, none⟩), .string name, .slice a m c] w1 fun e w' => e = .returned (.int .i64 (appendM dp name fr).1) ∧ PairTo w0 w w' E p q (appendM dp name fr).2 dq :=
  ((h.fresh hB).append hI hC name a m c fr hn hm (by omega) (Src.of_row hr (byteCells_one _)) (fun _ k hk => .inr (.inr ⟨hf k hk, hr.lt hk⟩)) hb).mono fun e w' ⟨he, hT⟩ =>
    ⟨he, (h.to_below hB).trans (hT.fewer fun k hk => .inl hk)⟩
theorem PairAt.appendNew2 (h : PairAt w0 w E p q dp dq) {C : Nat} (hI : Inv C dq) (hC : C ≤ 1000000) (name : ByteArray) (hn : name.size ≤ maxLen) {w1 : World} {a : Option Addr} {m c : Nat} {fr : List Int} (hm : fr.length = m) (hml : m ≤ 10000000) (hb : ∀ x ∈ fr, 0 ≤ x ∧ x < 256)
    (hr : Row w1 5 1 (.slice a m c) m (byteCells fr)) (hf : ∀ k, (Value.slice a m c).ownBlock = some k → w.heap.size ≤ k) (hB : Below w.heap.size w w1) :
    Calls Try.prog 59 #[.pointer (some ⟨q, 0, none⟩), .string name, .slice a m c] w1 fun e w' => e = .returned (.int .i64 (appendM dq name fr).1) ∧ PairTo w0 w w' E p q dp (appendM dq name fr).2 :=
  ((h.fresh hB).append2 hI hC name a m c fr hn hm (by omega) (Src.of_row hr (byteCells_one _)) (fun _ k hk => .inr (.inr ⟨hf k hk, hr.lt hk⟩)) hb).mono fun e w' ⟨he, hT⟩ =>
    ⟨he, (h.to_below hB).trans (hT.fewer fun k hk => .inl hk)⟩

set_option maxRecDepth 100000 in
set_option maxHeartbeats 2000000 in
theorem PairAt.saveP (h : PairAt w0 w E p q dp dq) {C : Nat} (hI : Inv C dp) (hC : C ≤ 999980) {a : Option Addr} {m c : Nat} {b : List Int} (hb : Bts (fun k => k < w0.heap.size ∨ E k) w (.slice a m c) b) (hm : b.length = m) (hml : m ≤ maxLen) :
    Calls Try.prog 29 #[.pointer (some ⟨p, 0, none⟩), .slice a m c] w fun e w' => e = .returned (.int .i64 (saveA dp b).1) ∧ PairTo w0 w w' E p q (saveA dp b).2 dq := by
  unfold maxLen at hml
  by_cases hbig : 4194304 < m
  · have hbig2 : (4194304 : Int) < (m : Int) := by omega
    have HP := Lib.hid h.same
    unfold saveA
    rw [if_pos (by omega)]
    clear h hI hb hm hbig
    go_enter Try.func29, Try.ntmps29
    go_wp2_with fail
    go_ret
    exact ⟨rfl, HP.out⟩
  · have hbig2 : ¬ (4194304 : Int) < (m : Int) := by omega
    obtain ⟨e0, e1, e2, e3, e4, d0, d1, d2, d3, d4, hs, he⟩ := saving hI b (by omega)
    rw [he]
    show Calls _ _ _ w fun e w' => e = .returned (.int .i64 e4) ∧ PairTo w0 w w' E p q d4 dq
    have hcl := h.clearP hI (by omega)
    obtain ⟨cb, hcb⟩ : ∃ cb, (clearM dp).1.1 = cb := ⟨_, rfl⟩
    obtain ⟨s1, s2⟩ := Prod.mk.inj hs.c0
    rw [hcb, s1, s2] at hcl
    have HCl := Lib.hid hcl
    have HSv := Lib.hid hs
    have HP := Lib.hid h
    have HB := Lib.hid (And.intro hb hm)
    clear h hI hcl hs he hcb s1 s2 hb hm
    go_enter Try.func29, Try.ntmps29
    go_wp2_with fail
    refine HCl.out.mono ?_
    rintro e w1 ⟨rfl, T1⟩
    have HT := Lib.hid T1
    clear T1 HCl
    go_upto_if 20 with (fail)
    go_cut [6] (fun t wx => t = .int .i64 e1 ∧ Hid (PairTo w0 w wx E p q d1 dq))
    case first =>
      by_cases h0 : e0 = 0
      · as_aux_lemma =>
        have hq := HSv.out.q1
        rw [if_pos h0] at hq
        subst h0
        have HF := Lib.hid (frame_any a m c b w1 (by have := (HB.out.1.to HP.out HT.out).src; rw [HB.out.2] at this; exact this) HB.out.1.byte (by omega))
        have HQ := Lib.hid hq
        clear hq
        go_wp2_with fail
        refine HF.out.mono ?_
        rintro e w2 ⟨a2, c2, rfl, hR2, hf2, hB2⟩
        have hfl : (frameL b).length = m + 10 := by rw [frameL_len, HB.out.2]
        have HA := Lib.hid (HT.out.1.appendNew HSv.out.i0 (by omega) nameN (by decide) rfl (by omega) (frameL_range b HB.out.1.byte) hR2 hf2 hB2)
        rw [← HQ.out] at HA
        rw [hfl] at HA ⊢
        simp only at HA
        clear HF hR2 hf2 hB2 hfl
        go_wp2_with fail
        refine HA.out.mono ?_
        rintro e w3 ⟨rfl, T3⟩
        have HT3 := Lib.hid (HT.out.trans T3)
        clear T3 HA
        go_wp2_with fail
        go_meet
        exact ⟨rfl, HT3.out⟩
      · as_aux_lemma =>
        have hq := HSv.out.q1
        rw [if_neg h0] at hq
        simp only [Prod.mk.injEq] at hq
        obtain ⟨rfl, rfl⟩ := hq
        have k0 : (e1 == 0) = false := by simp [h0]
        clear h0
        go_wp2_with fail
        go_meet
        exact ⟨rfl, HT.out⟩
    case rest =>
    obtain ⟨rfl, HT1⟩ := hcut
    clear HT HB
    go_upto_if 26 with (fail)
    go_cut [6] (fun t wx => t = .int .i64 e2 ∧ Hid (PairTo w0 w wx E p q d2 dq))
    case first =>
      by_cases h0 : e1 = 0
      · as_aux_lemma =>
        have hq := HSv.out.q2
        rw [if_pos h0] at hq
        subst h0
        have HA := Lib.hid (HT1.out.1.sync HSv.out.i1)
        rw [← hq] at HA
        simp only at HA
        clear hq
        go_wp2_with fail
        refine HA.out.mono ?_
        rintro e w3 ⟨rfl, T3⟩
        have HT3 := Lib.hid (HT1.out.trans T3)
        clear T3 HA
        go_wp2_with fail
        go_meet
        exact ⟨rfl, HT3.out⟩
      · as_aux_lemma =>
        have hq := HSv.out.q2
        rw [if_neg h0] at hq
        simp only [Prod.mk.injEq] at hq
        obtain ⟨rfl, rfl⟩ := hq
        have k0 : (e2 == 0) = false := by simp [h0]
        clear h0
        go_wp2_with fail
        go_meet
        exact ⟨rfl, HT1.out⟩
    case rest =>
    obtain ⟨rfl, HT2⟩ := hcut
    clear HT1
    go_upto_if 30 with (fail)
    go_cut [6] (fun t wx => t = .int .i64 e3 ∧ Hid (PairTo w0 w wx E p q d3 dq))
    case first =>
      by_cases h0 : e2 = 0
      · as_aux_lemma =>
        have hq := HSv.out.q3
        rw [if_pos h0] at hq
        subst h0
        have HA := Lib.hid (HT2.out.1.rename HSv.out.i2 (by omega) nameN nameS (by decide) (by decide))
        rw [← hq] at HA
        simp only at HA
        clear hq
        go_wp2_with fail
        refine HA.out.mono ?_
        rintro e w3 ⟨rfl, T3⟩
        have HT3 := Lib.hid (HT2.out.trans T3)
        clear T3 HA
        go_wp2_with fail
        go_meet
        exact ⟨rfl, HT3.out⟩
      · as_aux_lemma =>
        have hq := HSv.out.q3
        rw [if_neg h0] at hq
        simp only [Prod.mk.injEq] at hq
        obtain ⟨rfl, rfl⟩ := hq
        have k0 : (e3 == 0) = false := by simp [h0]
        clear h0
        go_wp2_with fail
        go_meet
        exact ⟨rfl, HT2.out⟩
    case rest =>
    obtain ⟨rfl, HT3⟩ := hcut
    clear HT2
    by_cases h0 : e3 = 0
    · as_aux_lemma =>
      have hq := HSv.out.q4
      rw [if_pos h0] at hq
      subst h0
      have HA := Lib.hid (HT3.out.1.sync HSv.out.i3)
      rw [← hq] at HA
      simp only at HA
      clear hq
      go_wp2_with fail
      refine HA.out.mono ?_
      rintro e w4 ⟨rfl, T4⟩
      have HT4 := Lib.hid (HT3.out.trans T4)
      clear T4 HA
      go_wp2_with fail
      go_ret
      exact ⟨rfl, HT4.out⟩
    · as_aux_lemma =>
      have hq := HSv.out.q4
      rw [if_neg h0] at hq
      simp only [Prod.mk.injEq] at hq
      obtain ⟨rfl, rfl⟩ := hq
      have k0 : (e4 == 0) = false := by simp [h0]
      clear h0
      go_wp2_with fail
      go_ret
      exact ⟨rfl, HT3.out⟩
end
end Go.Proofs.Ytpkmnfpbcakflaa

/-! The walk of the reference's SaveSnap, over disks in order. No condition. -/
namespace Go.Proofs.Ytpkmnfpbcakflaa
open Go.ChangeShapes Go.WideShapes Go.ChangeAt Go.RowKit

section
variable {w0 w : World} {E : Nat → Prop} {p q : Nat} {dp dq : Dk}
set_option maxRecDepth 100000 in
set_option maxHeartbeats 2000000 in
theorem PairAt.saveR (h : PairAt w0 w E p q dp dq) {C : Nat} (hI : Inv C dq) (hC : C ≤ 999980) {a : Option Addr} {m c : Nat} {b : List Int} (hb : Bts (fun k => k < w0.heap.size ∨ E k) w (.slice a m c) b) (hm : b.length = m) (hml : m ≤ maxLen) :
    Calls Try.prog 35 #[.pointer (some ⟨q, 0, none⟩), .slice a m c] w fun e w' => e = .returned (.int .i64 (saveA dq b).1) ∧ PairTo w0 w w' E p q dp (saveA dq b).2 := by
  unfold maxLen at hml
  by_cases hbig : 4194304 < m
  · have hbig2 : (4194304 : Int) < (m : Int) := by omega
    have HP := Lib.hid h.same
    unfold saveA
    rw [if_pos (by omega)]
    clear h hI hb hm hbig
    go_enter Try.func35, Try.ntmps35
    go_wp2_with fail
    go_ret
    exact ⟨rfl, HP.out⟩
  · have hbig2 : ¬ (4194304 : Int) < (m : Int) := by omega
    obtain ⟨e0, e1, e2, e3, e4, d0, d1, d2, d3, d4, hs, he⟩ := saving hI b (by omega)
    rw [he]
    show Calls _ _ _ w fun e w' => e = .returned (.int .i64 e4) ∧ PairTo w0 w w' E p q dp d4
    have hhr := h.here nameN
    have hrm := h.remove2 hI (by omega) nameN (by decide)
    have hcm0 : (e0, d0) = ((clearM dq).1.2, (clearM dq).2) := hs.c0.symm
    unfold clearM at hcm0
    obtain ⟨th, hth⟩ : ∃ th, (hasF dq.now nameN && !dq.down) = th := ⟨_, rfl⟩
    rw [hth] at hhr hcm0
    obtain ⟨re, dr, hre⟩ : ∃ re dr, removeM dq nameN = (re, dr) := ⟨_, _, rfl⟩
    rw [hre] at hrm hcm0
    simp only at hrm hcm0
    have HHr := Lib.hid hhr
    have HRm := Lib.hid hrm
    have HC0 := Lib.hid hcm0
    have HSv := Lib.hid hs
    have HP := Lib.hid h
    have HB := Lib.hid (And.intro hb hm)
    clear h hI hhr hrm hcm0 hs he hth hre hb hm
    go_enter Try.func35, Try.ntmps35
    go_wp2_with fail
    refine HHr.out.mono ?_
    rintro e w1 ⟨rfl, hw⟩
    subst hw
    clear HHr
    go_upto_if 15 with (fail)
    go_cut [] (fun wx => Hid (e0 = 0) ∧ Hid (PairTo w0 w wx E p q dp d0))
    case first =>
      cases th with
      | false =>
        have hc := HC0.out
        simp only [Bool.false_eq_true, if_false, Prod.mk.injEq] at hc
        obtain ⟨h0, rfl⟩ := hc
        have H0 := Lib.hid h0
        have HS := Lib.hid HP.out.same
        clear HRm h0
        go_wp2_with fail
        go_meet
        exact ⟨by first | exact H0 | exact Lib.hid trivial, HS⟩
      | true =>
        have hc := HC0.out
        simp only [if_true, Prod.mk.injEq] at hc
        obtain ⟨rfl, rfl⟩ := hc
        by_cases h0 : e0 = 0
        · have H0 := Lib.hid h0
          subst h0
          go_wp2_with fail
          refine HRm.out.mono ?_
          rintro e w2 ⟨rfl, T2⟩
          have HT := Lib.hid T2
          clear T2 HRm
          go_wp2_with fail
          go_meet
          exact ⟨by first | exact H0 | exact Lib.hid trivial, HT⟩
        · have hq1 := HSv.out.q1
          rw [if_neg h0] at hq1
          obtain ⟨rfl, rfl⟩ := Prod.mk.inj hq1
          have hq2 := HSv.out.q2
          rw [if_neg h0] at hq2
          obtain ⟨rfl, rfl⟩ := Prod.mk.inj hq2
          have hq3 := HSv.out.q3
          rw [if_neg h0] at hq3
          obtain ⟨rfl, rfl⟩ := Prod.mk.inj hq3
          have hq4 := HSv.out.q4
          rw [if_neg h0] at hq4
          obtain ⟨rfl, rfl⟩ := Prod.mk.inj hq4
          have k1 : (e4 != 0) = true := by simp [h0]
          clear h0 hq1 hq2 hq3 hq4 HSv HC0
          go_wp2_with fail
          refine HRm.out.mono ?_
          rintro e w2 ⟨rfl, T2⟩
          have HT := Lib.hid T2
          clear T2 HRm
          go_wp2_with fail
          go_ret
          exact ⟨rfl, HT.out⟩
    case rest =>
      obtain ⟨h0, HT⟩ := hcut
      have hq1 := HSv.out.q1
      rw [if_pos h0.out] at hq1
      clear HC0 HRm h0
      have HF := Lib.hid (rframe_any a m c b wc (by have := (HB.out.1.to HP.out HT.out).src; rw [HB.out.2] at this; exact this) HB.out.1.byte (by omega))
      have HQ := Lib.hid hq1
      clear hq1
      go_wp2_with fail
      refine HF.out.mono ?_
      rintro e w2 ⟨a2, c2, rfl, hR2, hf2, hB2⟩
      have hfl : (frameL b).length = m + 10 := by rw [frameL_len, HB.out.2]
      have HA := Lib.hid (HT.out.1.appendNew2 HSv.out.i0 (by omega) nameN (by decide) rfl (by omega) (frameL_range b HB.out.1.byte) hR2 hf2 hB2)
      rw [← HQ.out] at HA
      rw [hfl] at HA ⊢
      simp only at HA
      clear HF hR2 hf2 hB2 hfl
      go_wp2_with fail
      refine HA.out.mono ?_
      rintro e w3 ⟨rfl, T3⟩
      have HT3 := Lib.hid (HT.out.trans T3)
      clear T3 HA HT HQ
      by_cases h1 : e1 = 0
      · as_aux_lemma =>
        have hq2 := HSv.out.q2
        rw [if_pos h1] at hq2
        have HA := Lib.hid (HT3.out.1.sync2 HSv.out.i1)
        rw [← hq2] at HA
        simp only at HA
        have k1 : (e1 != 0) = false := by simp [h1]
        clear hq2 h1
        go_wp2_with fail
        refine HA.out.mono ?_
        rintro e w4 ⟨rfl, T4⟩
        have HT4 := Lib.hid (HT3.out.trans T4)
        clear T4 HA HT3 k1
        by_cases h2 : e2 = 0
        · as_aux_lemma =>
          have hq3 := HSv.out.q3
          rw [if_pos h2] at hq3
          have HA := Lib.hid (HT4.out.1.rename2 HSv.out.i2 (by omega) nameN nameS (by decide) (by decide))
          rw [← hq3] at HA
          simp only at HA
          have k1 : (e2 != 0) = false := by simp [h2]
          clear hq3 h2
          go_wp2_with fail
          refine HA.out.mono ?_
          rintro e w5 ⟨rfl, T5⟩
          have HT5 := Lib.hid (HT4.out.trans T5)
          clear T5 HA HT4 k1
          by_cases h3 : e3 = 0
          · as_aux_lemma =>
            have hq4 := HSv.out.q4
            rw [if_pos h3] at hq4
            have HA := Lib.hid (HT5.out.1.sync2 HSv.out.i3)
            rw [← hq4] at HA
            simp only at HA
            have k1 : (e3 != 0) = false := by simp [h3]
            clear hq4 h3
            go_wp2_with fail
            refine HA.out.mono ?_
            rintro e w6 ⟨rfl, T6⟩
            have HT6 := Lib.hid (HT5.out.trans T6)
            clear T6 HA HT5 k1
            go_wp2_with fail
            go_ret
            exact ⟨rfl, HT6.out⟩
          · as_aux_lemma =>
            have hq4 := HSv.out.q4
            rw [if_neg h3] at hq4
            obtain ⟨rfl, rfl⟩ := Prod.mk.inj hq4
            have k1 : (e4 != 0) = true := by simp [h3]
            clear h3 hq4 HSv
            go_wp2_with fail
            go_ret
            exact ⟨rfl, HT5.out⟩
        · as_aux_lemma =>
          have hq3 := HSv.out.q3
          rw [if_neg h2] at hq3
          obtain ⟨rfl, rfl⟩ := Prod.mk.inj hq3
          have hq4 := HSv.out.q4
          rw [if_neg h2] at hq4
          obtain ⟨rfl, rfl⟩ := Prod.mk.inj hq4
          have k1 : (e4 != 0) = true := by simp [h2]
          clear h2 hq3 hq4 HSv
          go_wp2_with fail
          go_ret
          exact ⟨rfl, HT4.out⟩
      · as_aux_lemma =>
        have hq2 := HSv.out.q2
        rw [if_neg h1] at hq2
        obtain ⟨rfl, rfl⟩ := Prod.mk.inj hq2
        have hq3 := HSv.out.q3
        rw [if_neg h1] at hq3
        obtain ⟨rfl, rfl⟩ := Prod.mk.inj hq3
        have hq4 := HSv.out.q4
        rw [if_neg h1] at hq4
        obtain ⟨rfl, rfl⟩ := Prod.mk.inj hq4
        have k1 : (e4 != 0) = true := by simp [h1]
        clear h1 hq2 hq3 hq4 HSv
        go_wp2_with fail
        go_ret
        exact ⟨rfl, HT3.out⟩
end
end Go.Proofs.Ytpkmnfpbcakflaa

/-! The walks of tailracehand's Pair and Harms. No condition. -/
namespace Go.Proofs.Ytpkmnfpbcakflaa
open Go.ChangeShapes Go.WideShapes Go.ChangeAt Go.RowKit

theorem pair_start {w0 w : World} {p : Nat} {room : Int} (h : St w0 w p (emptyDk room)) :
    PairAt w0 (w.alloc (.cells (rhead room (.slice none 0 0) (.slice none 0 0) (.slice none 0 0) false 0 false) 99)) (fun _ => False) p w.heap.size (emptyDk room) (emptyDk room) := by
  have hB := (Below.refl w.heap.size w).alloc (Nat.le_refl _) (.cells (rhead room (.slice none 0 0) (.slice none 0 0) (.slice none 0 0) false 0 false) 99)
  refine ⟨h.2.trans (hB.mono h.2.size), h.2.size, fun k hk => hk.elim, fun _ => False, ⟨.slice none 0 0, .slice none 0 0, .slice none 0 0, false, 0, [], [], [], [], [], ?_⟩, fun k hk => hk.elim, (h.1.more hB).fewer fun k hk => ?_⟩
  · have hno : ∀ k, (Value.slice none 0 0).ownBlock = some k → False := fun k hk => by simp [Value.ownBlock] at hk
    have hRF : RF (fun _ => False) (w.alloc (.cells (rhead room (.slice none 0 0) (.slice none 0 0) (.slice none 0 0) false 0 false) 99)) (.slice none 0 0) [] [] :=
      ⟨Row.nil _ _ _, rfl, fun i x u hx => by simp at hx, hno⟩
    exact ⟨heap_alloc_new w _, .inr ⟨rfl, rfl⟩, hRF, rfl, hRF, rfl, Row.nil _ _ _, rfl, fun i x u hx => by simp [emptyDk] at hx, hno, id, fun k hk => hk.elim⟩
  · rcases hk with hk | rfl | hk | hk
    · exact .inl hk
    · exact .inr ⟨Nat.le_refl _, by simp⟩
    · exact hk.elim
    · exact hk.elim

/-- files lie so -/
structure FileAt (w : World) (a : Option Addr) (i : Nat) (x : ByteArray × List Int) : Prop where
  ex : ∃ bk off, a = some ⟨bk, off, none⟩ ∧ bk < w.heap.size ∧ w.cell? ⟨bk, off + i * 2, none⟩ = some (.string x.1) ∧ ∃ ab cb, w.cell? ⟨bk, off + i * 2 + 1, none⟩ = some (.slice ab x.2.length cb) ∧ Src w 1 (.slice ab x.2.length cb) x.2.length (byteCells x.2)
  byte : ∀ n ∈ x.2, 0 ≤ n ∧ n < 256
  name : x.1.size ≤ maxLen
  small : x.2.length ≤ 281474976710656
def FilesIn (w : World) (a : Option Addr) (n : Nat) (fs : List (ByteArray × List Int)) : Prop := fs.length = n ∧ ∀ i x, fs[i]? = some x → FileAt w a i x

set_option maxRecDepth 100000 in
set_option maxHeartbeats 4000000 in
theorem pair_any (w : World) (a : Option Addr) (n c : Nat) (fs : List (ByteArray × List Int)) (h : FilesIn w a n fs) :
    Calls Try.prog 31 #[.int .i64 8388608, .slice a n c] w fun e w' => ∃ p q d, e = .returned (.tuple #[.pointer (some ⟨p, 0, none⟩), .pointer (some ⟨q, 0, none⟩), .bool true]) ∧ PairAt w w' (fun _ => False) p q d d ∧ Inv 20 d := by
  have HQ := Lib.hid h
  have hxl : fs.length = n := h.1
  clear h
  go_enter Try.func31, Try.ntmps31
  go_wp2_with fail
  refine (new_ok 8388608 (by omega) (by omega) w).mono ?_
  rintro e w2 hNw
  obtain ⟨p, rfl, S2, -⟩ := St.of_new (Below.refl _ w) hNw
  clear hNw
  have H3 := Lib.hid (pair_start S2)
  clear S2
  have HI0 := Lib.hid (inv_empty (room := 8388608) (by omega) (by omega))
  unfold rhead at H3
  go_upto_region 5 with (fail)
  obtain ⟨q, hqq⟩ : ∃ q, w2.heap.size = q := ⟨_, rfl⟩
  rw [hqq] at H3 ⊢
  clear hqq
  generalize w2.alloc (.cells #[.int .i64 8388608, .slice none 0 0, .slice none 0 0, .slice none 0 0, .bool false, .int .i64 0, .bool false] 99) = w4 at *
  go_wp2_with fail
  go_loopw [10] (fun i wr => ∃ (k : Nat) (d : Dk), i = .int .i64 k ∧ k ≤ n ∧ k ≤ 20 ∧ PairAt w wr (fun _ => False) p q d d ∧ Inv k d) (fun i _ => 20 - (intOf i).toNat)
  case atStart => exact ⟨0, _, rfl, Nat.zero_le _, Nat.zero_le _, H3.out, HI0.out⟩
  case round =>
    obtain ⟨k, d, rfl, hk, hk20, hP, hI⟩ := hrel
    have HP := Lib.hid hP
    have HI := Lib.hid hI
    clear hP hI H3 HI0
    by_cases hgo : k < n ∧ k < 20
    · as_aux_lemma =>
      obtain ⟨hlt, hlt2⟩ := hgo
      obtain ⟨x, hx⟩ : ∃ x, fs[k]? = some x := ⟨_, List.getElem?_eq_getElem (by omega)⟩
      obtain ⟨⟨bk, off, rfl, hbl, q0, ab, cb, q1, hsrc⟩, hby, hnm, hsm⟩ := HQ.out.2 k x hx
      obtain ⟨s, b⟩ := x
      simp only at q0 q1 hsrc hby hnm hsm
      have cAt : ∀ (w' : World) (j : Nat) (v : Value), Below w.heap.size w w' → w.cell? ⟨bk, j, none⟩ = some v → w'.cell? ⟨bk, j, none⟩ = some v := fun w' j v hB h => (hB.cell (p := ⟨bk, j, none⟩) hbl).trans h
      have HCa := Lib.hid cAt
      have HQ0 := Lib.hid q0
      have HQ1 := Lib.hid q1
      have r0 := cAt wr _ _ HP.out.1 q0
      have r1 := cAt wr _ _ HP.out.1 q1
      obtain ⟨X, d', hT⟩ : ∃ X d', appendM d s b = (X, d') := ⟨_, _, rfl⟩
      have h1 := fun w3 (hB : Below wr.heap.size wr w3) => (HP.out.below hB).append HI.out (by omega) s ab b.length cb b hnm rfl hsm (hsrc.below (HP.out.1.trans (hB.mono HP.out.1.size))) (fun h0 k hk => .inl (hsrc.lt h0 k hk)) hby
      have h2 := fun w3 dp (h : PairAt w w3 (fun _ => False) p q dp d) => h.append2 HI.out (by omega) s ab b.length cb b hnm rfl hsm (hsrc.below h.1) (fun h0 k hk => .inl (hsrc.lt h0 k hk)) hby
      have hI' : Inv (k + 1) (appendM d s b).2 := HI.out.appended hnm
      simp only [hT] at h1 h2 hI'
      obtain ⟨m, hm⟩ : ∃ m, b.length = m := ⟨_, rfl⟩
      rw [hm] at h1 h2 r1 HQ1
      have H1 := Lib.hid h1
      have H2 := Lib.hid h2
      have HI' := Lib.hid hI'
      clear h1 h2 hI' hT hsrc hby hnm hsm cAt hx HQ q0 q1 hm
      go_wp2_with fail
      go_region_held3 (fun w' => w'.cell? ⟨bk, off + k * 2, none⟩ = some (.string s) ∧ w'.cell? ⟨bk, off + k * 2 + 1, none⟩ = some (.slice ab m cb))
        (first | go_keep | exact ⟨p1, p2⟩)
        (first
          | (go_at_call 18; refine (H1.out _ (Below.refl _ _).drew).mono ?_; rintro e w5 ⟨rfl, T3⟩; have p1 := HCa.out w5 _ _ T3.1.1 HQ0.out; have p2 := HCa.out w5 _ _ T3.1.1 HQ1.out)
          | (go_at_call 59; refine (H2.out _ _ T3.1).mono ?_; rintro e w6 ⟨rfl, T4⟩; have p1 := HCa.out w6 _ _ T4.1.1 HQ0.out; have p2 := HCa.out w6 _ _ T4.1.1 HQ1.out))
      all_goals
        as_aux_lemma =>
        have HD := Lib.hid T4.1
        clear T3 T4 p1 p2
        go_wp2_with fail
        go_roundw
        case rel => exact ⟨k + 1, d', by go_num, by omega, by omega, HD.out, HI'.out⟩
        case measure => simp [intOf]; omega
    · as_aux_lemma =>
      obtain ⟨X, d', hT⟩ : ∃ X d', syncM d = (X, d') := ⟨_, _, rfl⟩
      have h1 := HP.out.sync HI.out
      have h2 := fun w3 dp (h : PairAt w w3 (fun _ => False) p q dp d) => h.sync2 HI.out
      have hI' : Inv k (syncM d).2 := HI.out.sync
      simp only [hT] at h1 h2 hI'
      have H1 := Lib.hid h1
      have H2 := Lib.hid h2
      have HI' := Lib.hid (hI'.more hk20)
      clear h1 h2 hI' hT
      by_cases hl2 : k < n
      · have h40 : ¬ k < 20 := fun h => hgo ⟨hl2, h⟩
        go_wp2_with fail
        refine H1.out.mono ?_
        rintro e w5 ⟨rfl, T3⟩
        go_wp2_with fail
        refine (H2.out _ _ T3.1).mono ?_
        rintro e w6 ⟨rfl, T4⟩
        have HD := Lib.hid T4.1
        clear T3 T4
        go_wp2_with fail
        go_ret3
        exact ⟨p, q, d', by simp, HD.out, HI'.out⟩
      · go_wp2_with fail
        refine H1.out.mono ?_
        rintro e w5 ⟨rfl, T3⟩
        go_wp2_with fail
        refine (H2.out _ _ T3.1).mono ?_
        rintro e w6 ⟨rfl, T4⟩
        have HD := Lib.hid T4.1
        clear T3 T4
        go_wp2_with fail
        go_ret3
        exact ⟨p, q, d', by simp, HD.out, HI'.out⟩

set_option maxRecDepth 100000 in
set_option maxHeartbeats 4000000 in
theorem harms_any {w0 w : World} {p q C : Nat} {d : Dk} (h : PairAt w0 w (fun _ => False) p q d d) (hI : Inv C d) (hC : C ≤ 999999) (wh a bb : Int) :
    Calls Try.prog 34 #[.pointer (some ⟨p, 0, none⟩), .pointer (some ⟨q, 0, none⟩), .agg #[.int .i64 wh, .int .i64 a, .int .i64 bb]] w fun e w' => e = .returned (.tuple #[]) ∧ ∃ d', PairAt w0 w' (fun _ => False) p q d' d' ∧ Inv C d' := by
  obtain ⟨b, hb⟩ : ∃ b, w.heap.size = b := ⟨_, rfl⟩
  have hP := (h.fresh ((Below.refl w.heap.size w).alloc (Nat.le_refl _) (.cells #[.int .i64 wh, .int .i64 a, .int .i64 bb] 50))).apart (E' := fun k => k = b) (fun k hk => .inr ⟨by omega, by simp; omega⟩)
  have hbx : (w.alloc (.cells #[.int .i64 wh, .int .i64 a, .int .i64 bb] 50)).heap[b]? = some (.cells #[.int .i64 wh, .int .i64 a, .int .i64 bb] 50 (0, 0)) := by rw [← hb]; exact heap_alloc_new w _
  have HBx := Lib.hid hbx
  have HP := Lib.hid hP
  have HI := Lib.hid hI
  clear h hI hP hbx
  go_enter Try.func34, Try.ntmps34
  go_upto_region 1 with (fail)
  clear hb
  generalize w.alloc (.cells #[.int .i64 wh, .int .i64 a, .int .i64 bb] 50) = W at *
  have cells : ∀ w' : World, w'.heap[b]? = W.heap[b]? → w'.cell? ⟨b, 0, none⟩ = some (.int .i64 wh) ∧ w'.cell? ⟨b, 1, none⟩ = some (.int .i64 a) ∧ w'.cell? ⟨b, 2, none⟩ = some (.int .i64 bb) := fun w' e => by
    have e := e.trans HBx.out
    refine ⟨?_, ?_, ?_⟩ <;> (rw [cell_of_row _ _ _ _ _ _ e]; rfl)
  obtain ⟨c0, c1, c2⟩ := cells W rfl
  have hbl : b < W.heap.size := heap_lt HBx.out
  have HC := Lib.hid cells
  obtain ⟨V, hV0, hV1⟩ := pickV_at wh 9 (by omega)
  have hpv := fun w => pick_any wh 9 (by omega) (by omega) w
  rw [hV0] at hpv
  have HPv := Lib.hid hpv
  clear hpv hV0 cells
  go_wp2_with fail
  refine (HPv.out _).mono ?_
  rintro e w4 ⟨rfl, hw4⟩
  obtain rfl := hw4.symm
  clear HPv
  have HV : Hid (V < 9) := by show V < 9; omega
  clear hV1
  rcases (show V = 6 ∨ V = 7 ∨ V = 8 ∨ V < 6 by have := HV.out; omega) with rfl | rfl | rfl | hV
  · as_aux_lemma =>
    obtain ⟨A, hA0, hA1⟩ := pickV_at a 9 (by omega)
    have hpa := fun w => pick_any a 9 (by omega) (by omega) w
    rw [hA0] at hpa
    have HPa := Lib.hid hpa
    have H1 := Lib.hid (HP.out.fuse (A : Int))
    have H2 := Lib.hid (fun w3 dp (h : PairAt w0 w3 (fun k => k = b) p q dp d) => h.fuse2 (A : Int))
    have HI' := Lib.hid (HI.out.fused (n := (A : Int)) (by omega))
    clear hpa hA0
    go_wp2_with fail
    refine (HPa.out _).mono ?_
    rintro e w5 ⟨rfl, hw5⟩
    obtain rfl := hw5.symm
    go_wp2_with fail
    refine H1.out.mono ?_
    rintro e w3 ⟨rfl, T3⟩
    obtain ⟨-, d1, -⟩ := HC.out w3 (T3.2 b (.inr rfl) hbl)
    go_wp2_with fail
    refine (HPa.out _).mono ?_
    rintro e w5 ⟨rfl, hw5⟩
    obtain rfl := hw5.symm
    go_wp2_with fail
    refine (H2.out _ _ T3.1).mono ?_
    rintro e w4 ⟨rfl, T4⟩
    have HD := Lib.hid (T4.1.apart (E' := fun _ => False) fun k hk => hk.elim)
    clear T3 T4 d1
    go_wp2_with fail
    go_end0
    exact ⟨rfl, _, HD.out, HI'.out⟩
  · as_aux_lemma =>
    have H1 := Lib.hid (HP.out.crash HI.out (by omega) a bb)
    have H2 := Lib.hid (fun w3 dp (h : PairAt w0 w3 (fun k => k = b) p q dp d) => h.crash2 HI.out (by omega) a bb)
    have HI' := Lib.hid (HI.out.crashM a bb)
    go_wp2_with fail
    refine H1.out.mono ?_
    rintro e w3 ⟨rfl, T3⟩
    obtain ⟨-, d1, d2⟩ := HC.out w3 (T3.2 b (.inr rfl) hbl)
    go_wp2_with fail
    refine (H2.out _ _ T3.1).mono ?_
    rintro e w4 ⟨rfl, T4⟩
    have HD := Lib.hid (T4.1.apart (E' := fun _ => False) fun k hk => hk.elim)
    clear T3 T4 d1 d2
    go_wp2_with fail
    go_end0
    exact ⟨rfl, _, HD.out, HI'.out⟩
  · as_aux_lemma =>
    obtain ⟨A, hA0, hA1⟩ := pickV_at a 2000 (by omega)
    have hpa := fun w => pick_any a 2000 (by omega) (by omega) w
    rw [hA0] at hpa
    have HPa := Lib.hid hpa
    have H1 := Lib.hid (HP.out.room (A : Int) (by omega) (by omega))
    have HI' := Lib.hid (HI.out.roomed (n := (A : Int)) (by omega) (by omega))
    clear hpa hA0
    go_wp2_with fail
    refine (HPa.out _).mono ?_
    rintro e w5 ⟨rfl, hw5⟩
    obtain rfl := hw5.symm
    go_wp2_with fail
    refine H1.out.mono ?_
    rintro e w3 ⟨rfl, T3⟩
    obtain ⟨-, -, ⟨s0, e0⟩, f0, lq⟩ := T3.1.cells2
    have HD := Lib.hid ((T3.1.space (A : Int)).1.apart (E' := fun _ => False) fun k hk => hk.elim)
    clear T3
    go_wp2_with fail
    go_end0
    exact ⟨rfl, _, HD.out, HI'.out⟩
  · as_aux_lemma =>
    have h6 : ¬ (V : Int) = 6 := by omega
    have h7 : ¬ (V : Int) = 7 := by omega
    have h8 : ¬ (V : Int) = 8 := by omega
    have HD := Lib.hid (HP.out.apart (E' := fun _ => False) fun k hk => hk.elim)
    clear hV
    go_wp2_with fail
    go_end0
    exact ⟨rfl, d, HD.out, HI.out⟩
end Go.Proofs.Ytpkmnfpbcakflaa

/-! The walk of tailracehand's SameDisk: a disk and the reference's, alike, are found the same. No condition. -/
namespace Go.Proofs.Ytpkmnfpbcakflaa
open Go.ChangeShapes Go.WideShapes Go.ChangeAt Go.RowKit

def nameNo : ByteArray := ⟨#[116, 104, 101, 114, 101, 32, 105, 115, 32, 110, 111, 110, 101, 32, 115, 117, 99, 104]⟩
/-- a key of the files is there -/
theorem key_there {D : Fs} (hD : Maps.IsMap D) {j : Nat} {x : List UInt8} (h : (strKeys D)[j]? = some x) (hs : ∀ es, D = .map es → ∀ p ∈ es, ∃ x, p.1 = .string x) : hasF D ⟨x.toArray⟩ = true := by
  obtain ⟨es, rfl⟩ := hD
  have h2 : (es.map fun p => strOf p.1)[j]? = some x := h
  rw [List.getElem?_map] at h2
  obtain ⟨p, hp, rfl⟩ := Option.map_eq_some_iff.1 h2
  have hm := List.mem_of_getElem? hp
  obtain ⟨y, hy⟩ := hs es rfl p hm
  unfold hasF strKey
  rw [Maps.has_eq, List.any_eq_true]
  refine ⟨p, hm, ?_⟩
  rw [hy]
  simp [strOf, Lit.sameKey]
theorem PairAt.strs {w0 w : World} {E : Nat → Prop} {p q : Nat} {dp dq : Dk} (h : PairAt w0 w E p q dp dq) : ∀ es, dp.now = .map es → ∀ p ∈ es, ∃ x, p.1 = .string x := by
  obtain ⟨X, ⟨-, S, bs, bn, vp, us, hD, -⟩, -⟩ := h.left
  intro es e p hp
  have hown : w.ownsMap Try.prog 9 (RB S w) bn (Maps.size dp.now) dp.now := hD.now
  obtain ⟨es', hD', hko⟩ := hown.keysOf
  rw [e] at hD'; cases hD'
  obtain ⟨v, hv⟩ := hko p hp
  obtain ⟨x, _, hx, _⟩ := Maps.keyOf_str Try.underlying9 hv
  exact ⟨x, hx⟩

set_option maxRecDepth 100000 in
set_option maxHeartbeats 8000000 in
theorem same_any {w0 w : World} {E : Nat → Prop} {p q C : Nat} {d : Dk} (h : PairAt w0 w E p q d d) (hI : Inv C d) (_ : C ≤ 1000000) :
    Calls Try.prog 33 #[.pointer (some ⟨p, 0, none⟩), .pointer (some ⟨q, 0, none⟩)] w fun e w' => e = .returned (.bool true) ∧ Below w.heap.size w w' := by
  obtain ⟨ss, hss⟩ : ∃ ss, (if d.down then [] else strKeys d.now) = ss := ⟨_, rfl⟩
  have HN := Lib.hid (h.names hI)
  have HN2 := fun w1 (hB : Below w.heap.size w w1) => (h.below hB).names2 hI
  rw [hss] at HN HN2
  have HN2 := Lib.hid HN2
  have HP := Lib.hid h
  have HI := Lib.hid hI
  have HSs : Hid (ss.length ≤ 64 ∧ ∀ (j : Nat) x, ss[j]? = some x → d.down = false ∧ hasF d.now ⟨x.toArray⟩ = true ∧ x.length ≤ 16) := by
    have hz := hI.fine.size
    obtain ⟨es, he⟩ := hI.fine.isMap
    have hl : (strKeys d.now).length = Maps.size d.now := by rw [he]; simp [strKeys, Maps.size]
    cases hdn : d.down with
    | true =>
      rw [hdn] at hss
      simp only [if_true] at hss
      subst hss
      exact ⟨by simp, fun j x hx => by simp at hx⟩
    | false =>
      rw [hdn] at hss
      simp only [Bool.false_eq_true, if_false] at hss
      subst hss
      refine ⟨by omega, fun j x hx => ?_⟩
      have hh := key_there hI.fine.isMap hx h.strs
      exact ⟨rfl, hh, by have := hI.fine.names _ hh; simpa [ByteArray.size] using this⟩
  have hpn := hI.pend
  have hbig : (usedV d.now d.down : Int) ≤ 1000000000 := by
    have := hI.fine.total
    unfold usedV nV
    split <;> omega
  obtain ⟨uv, huv⟩ : ∃ uv, usedV d.now d.down = uv := ⟨_, rfl⟩
  have HU := Lib.hid huv
  rw [huv] at hbig
  clear h hI hss huv
  go_enter Try.func33, Try.ntmps33
  go_wp2_with fail
  refine HN.out.mono ?_
  rintro e w1 ⟨v1, rfl, hr1, -, hB1⟩
  obtain ⟨a1, k1, rfl, -⟩ := hr1.form
  have HR1 := Lib.hid (And.intro hr1 hB1)
  clear hr1 hB1 HN
  go_wp2_with fail
  refine (HN2.out _ HR1.out.2).mono ?_
  rintro e w2 ⟨v2, rfl, hr2, -, hB2⟩
  obtain ⟨a2, k2, rfl, -⟩ := hr2.form
  have hr1 := HR1.out.1.of_block fun b hb => hB2.block b (HR1.out.1.lt hb)
  have HR := Lib.hid (And.intro hr1 (And.intro hr2 (HR1.out.2.trans (hB2.mono HR1.out.2.size))))
  clear hr1 hr2 hB2 HN2 HR1
  obtain ⟨n, hn⟩ : ∃ n, ss.length = n := ⟨_, rfl⟩
  have HNn := Lib.hid hn
  rw [hn] at HR ⊢
  clear hn
  have HP2 := Lib.hid (HP.out.below HR.out.2.2)
  have hU1 := fun w3 (hB : Below w2.heap.size w2 w3) => (HP2.out.below hB).used HI.out
  have hU2 := fun w3 (hB : Below w2.heap.size w2 w3) => (HP2.out.below hB).used2 HI.out
  rw [HU.out] at hU1 hU2
  have HU1 := Lib.hid hU1
  have HU2 := Lib.hid hU2
  have HPd := Lib.hid (fun w3 (hB : Below w2.heap.size w2 w3) => (HP2.out.below hB).pending)
  have HDn := Lib.hid (fun w3 (hB : Below w2.heap.size w2 w3) => (HP2.out.below hB).down)
  obtain ⟨⟨ae, ce, c3⟩, c6, -, -, lq⟩ := HP2.out.cells2
  clear hU1 hU2
  go_wp2_with fail
  go_region_held3 (fun w' => w'.cell? ⟨q, 3, none⟩ = some (.slice ae d.pend.length ce) ∧ w'.cell? ⟨q, 6, none⟩ = some (.bool d.down))
    (first | go_keep | exact ⟨p1, p2⟩)
    (first
      | (go_at_call 48; refine (HU1.out _ (Below.refl _ _).drew).mono ?_; rintro e w3 ⟨rfl, hB3⟩; have hB3' : Below w2.heap.size w2 w3 := (Below.refl _ _).drew.trans hB3; have p1 := (hB3'.cell (p := ⟨q, 3, none⟩) lq).trans c3; have p2 := (hB3'.cell (p := ⟨q, 6, none⟩) lq).trans c6)
      | (go_at_call 66; refine (HU2.out _ hB3').mono ?_; rintro e w4 ⟨rfl, rfl⟩)
      | (go_at_call 22; refine (HPd.out _ hB3').mono ?_; rintro e w5 ⟨rfl, rfl⟩)
      | (go_at_call 24; refine (HDn.out _ hB3').mono ?_; rintro e w6 ⟨rfl, rfl⟩))
  all_goals
    as_aux_lemma =>
    have HP3 := Lib.hid (HP2.out.below hB3')
    have HR3 := Lib.hid (And.intro (HR.out.1.of_block fun b hb => hB3'.block b (HR.out.1.lt hb)) (And.intro (HR.out.2.1.of_block fun b hb => hB3'.block b (HR.out.2.1.lt hb)) (HR.out.2.2.trans (hB3'.mono HR.out.2.2.size))))
    have hnl : n ≤ 64 := by have := HSs.out.1; have := HNn.out; omega
    clear hB3 hB3' HU1 HU2 HPd HDn HP2 HR c3 c6 p1 p2
    go_wp2_with fail
    go_loopw [7] (fun i wr => ∃ j : Nat, i = .int .i64 j ∧ j ≤ n ∧ Below w3.heap.size w3 wr) (fun i _ => n - (intOf i).toNat)
    case atStart => exact ⟨0, rfl, Nat.zero_le _, Below.refl _ _⟩
    case round =>
      obtain ⟨j, rfl, hj, hB⟩ := hrel
      have HB := Lib.hid hB
      clear hB
      by_cases hjn : j < n
      · as_aux_lemma =>
        obtain ⟨x, hx⟩ : ∃ x, ss[j]? = some x := ⟨_, List.getElem?_eq_getElem (by have := HNn.out; omega)⟩
        obtain ⟨hdn, hh, hxl⟩ := HSs.out.2 j x hx
        obtain ⟨g1, rfl, hg1, hc1, -⟩ := HR3.out.1.view (by omega)
        obtain ⟨g2, rfl, hg2, hc2, -⟩ := HR3.out.2.1.view (by omega)
        obtain ⟨s, hs⟩ : ∃ s : ByteArray, (⟨x.toArray⟩ : ByteArray) = s := ⟨_, rfl⟩
        have hcell : (ss.map encStr)[j]? = some (.string s) := by rw [List.getElem?_map, hx, ← hs]; rfl
        have e1 := ((HB.out.cell (p := ⟨g1, j, none⟩) hg1).trans (hc1 j (by omega))).trans hcell
        have e2 := ((HB.out.cell (p := ⟨g2, j, none⟩) hg2).trans (hc2 j (by omega))).trans hcell
        rw [hs] at hh
        have hsl : s.size ≤ maxLen := by rw [← hs]; unfold maxLen; simp [ByteArray.size]; omega
        have hrd := (HP3.out.below HB.out).read HI.out s hsl
        rw [hh, hdn] at hrd
        have HRd := Lib.hid (show Calls _ _ _ _ fun e w' => ReadYes wr w' e (getF d.now s) from hrd)
        have conv : ∀ (w : World) (a : Option Addr) (n c : Nat) (b : List Int), Src w 1 (.slice a n c) n (byteCells b) → ∀ m, (convert 25 9 (.slice a n c)).run Try.prog (w.drewN m) = .ok (.string (strOfNums b)) (w.drewN m) := fun w a n c b h m => run_string_src (P := Try.prog) (h.below (w' := w.drewN m) ⟨rfl, rfl, rfl, Nat.le_refl _, fun _ _ => rfl⟩) 25 5 9 Try.underlying25 Try.underlying5 Try.underlying9
        have HCv := Lib.hid conv
        have HH := Lib.hid (And.intro hdn hh)
        obtain ⟨bb, hbb⟩ : ∃ bb, getF d.now s = bb := ⟨_, rfl⟩
        have HBb := Lib.hid hbb
        rw [hbb] at HRd
        have hgl : bb.length ≤ 9223372036854775807 := by have := HI.out.fine.get_le s; rw [hbb] at this; omega
        clear hx hcell hc1 hc2 hs hrd conv hbb hdn hh hxl
        go_wp2_with fail
        refine HRd.out.mono ?_
        rintro e w7 ⟨v7, rfl, hrow7, -, -, hB7⟩
        obtain ⟨a7, k7, rfl, -⟩ := hrow7.form
        have cA := HCv.out w7 a7 _ k7 _ (Src.of_row hrow7 (byteCells_one _))
        have HB7 := Lib.hid (HB.out.trans (hB7.mono HB.out.size))
        obtain ⟨T7, hrd2⟩ := (HP3.out.below HB7.out).read2 s
        rw [HH.out.1, HH.out.2, HBb.out] at hrd2
        have HRd2 := Lib.hid hrd2
        have f1 := (hB7.cell (p := ⟨g1, j, none⟩) (Nat.lt_of_lt_of_le hg1 HB.out.size)).trans e1
        have f2 := (hB7.cell (p := ⟨g2, j, none⟩) (Nat.lt_of_lt_of_le hg2 HB.out.size)).trans e2
        clear hrow7 hB7 HRd hrd2 e1 e2
        go_wp2_with fail
        refine HRd2.out.mono ?_
        rintro e w8 ⟨rfl, a8, k8, rfl, hb8⟩
        have cB := HCv.out w7 a8 _ k8 _ hb8.src
        clear HRd2 hb8 HCv
        go_wp2_with fail
        go_quiet (fail)
        go_wp2_with fail
        go_roundw
        case rel => exact ⟨j + 1, by go_num, by omega, HB7.out.os, HB7.out.tape, HB7.out.output, HB7.out.size, HB7.out.block⟩
        case measure => simp [intOf]; omega
      · as_aux_lemma =>
        go_wp2_with fail
        go_ret
        exact ⟨rfl, HR3.out.2.2.trans (HB.out.mono HR3.out.2.2.size)⟩
end Go.Proofs.Ytpkmnfpbcakflaa

/-! The argument of chapter 6's laws: steps, opened to cells, and how long their bytes are. No condition; no walk in sight. -/
namespace Go.Proofs.Ytpkmnfpbcakflaa
open Go.ChangeShapes Go.WideShapes Go.Deep Go.RowKit

def S6InW (w : World) (a : Option Addr) (len : Nat) (xs : List S6) : Prop := S6In w a len xs ∧ ∀ (i : Nat) x, xs[i]? = some x → x.b.length ≤ 140737488351232
theorem bytesOne : Try.prog.bytesOf 5 = 1 := by kernel_rfl
section
variable {H : Type} {enc : TypeId × Value → H} {w : World} {base : Nat} {spare : Nat → Bool} {held : Bool}
set_option maxRecDepth 100000 in
theorem open_one6w {fuel : Nat} {cs : List Value} {x : DataW H × List MemPlace} (h : DataW.trod enc Try.prog w base spare held fuel 52 cs = some x) :
    ∃ y : S6, ∃ ab cb, cs = [.int .i64 y.what, .slice ab y.b.length cb, .int .i64 y.hw, .int .i64 y.ha, .int .i64 y.hb] ∧ y.b.length ≤ cb ∧ cb ≤ maxLen ∧ Src w 1 (.slice ab y.b.length cb) y.b.length (byteCells y.b) ∧ (∀ n ∈ y.b, 0 ≤ n ∧ n < 256) ∧ ∀ R, (∀ q ∈ x.1.weights Try.prog 52, q ≤ R) → y.b.length ≤ R := by
  obtain ⟨fs, hu, f0, f1, f2⟩ := fields6
  obtain ⟨ys, n, _, hy, hlen, _, hf⟩ := DataW.trod_struct hu h
  rw [cells6] at hlen
  obtain ⟨c0, c1, c2, c3, c4, rfl⟩ := list5 hlen
  obtain ⟨g0, e0, t0⟩ := Option.map_eq_some_iff.1 f0
  obtain ⟨g1, e1, t1⟩ := Option.map_eq_some_iff.1 f1
  obtain ⟨g2, e2, t2⟩ := Option.map_eq_some_iff.1 f2
  simp only [Prod.mk.injEq] at t0 t1 t2
  have r0 := hf 0 g0 e0
  have r1 := hf 1 g1 e1
  have r2 := hf 2 g2 e2
  have l0 : 0 < ys.length := by have := (Array.getElem?_eq_some_iff.1 e2).1; omega
  have l1 : 1 < ys.length := by have := (Array.getElem?_eq_some_iff.1 e2).1; omega
  have l2 : 2 < ys.length := by have := (Array.getElem?_eq_some_iff.1 e2).1; omega
  rw [t0.1, t0.2, cellsI, List.getElem?_eq_getElem l0] at r0
  rw [t1.1, t1.2, cellsBs, List.getElem?_eq_getElem l1] at r1
  rw [t2.1, t2.2, cellsH, List.getElem?_eq_getElem l2] at r2
  simp only [List.drop_zero, List.take_succ_cons, List.take_zero, List.drop_succ_cons] at r0 r1 r2
  obtain ⟨fs2, hu2, h0, h1, h2⟩ := fieldsH
  obtain ⟨zs, n2, _, _, hlen2, _, hf2⟩ := DataW.trod_struct hu2 r2
  obtain ⟨k0, d0, s0⟩ := Option.map_eq_some_iff.1 h0
  obtain ⟨k1, d1, s1⟩ := Option.map_eq_some_iff.1 h1
  obtain ⟨k2, d2, s2⟩ := Option.map_eq_some_iff.1 h2
  simp only [Prod.mk.injEq] at s0 s1 s2
  have q0 := hf2 0 k0 d0
  have q1 := hf2 1 k1 d1
  have q2 := hf2 2 k2 d2
  have m0 : 0 < zs.length := by have := (Array.getElem?_eq_some_iff.1 d2).1; omega
  have m1 : 1 < zs.length := by have := (Array.getElem?_eq_some_iff.1 d2).1; omega
  have m2 : 2 < zs.length := by have := (Array.getElem?_eq_some_iff.1 d2).1; omega
  rw [s0.1, s0.2, cellsI, List.getElem?_eq_getElem m0] at q0
  rw [s1.1, s1.2, cellsI, List.getElem?_eq_getElem m1] at q1
  rw [s2.1, s2.2, cellsI, List.getElem?_eq_getElem m2] at q2
  simp only [List.drop_zero, List.take_succ_cons, List.take_zero, List.drop_succ_cons] at q0 q1 q2
  obtain ⟨a0, rfl, _⟩ := field_int Try.underlying3 r0
  obtain ⟨ab, lb, cb, b, rfl, hz, hlc, hcm, hsrc, hwf⟩ := field_ints Try.underlying25 Try.underlying5 cellsB1 r1
  obtain ⟨a2, rfl, _⟩ := field_int Try.underlying3 q0
  obtain ⟨a3, rfl, _⟩ := field_int Try.underlying3 q1
  obtain ⟨a4, rfl, _⟩ := field_int Try.underlying3 q2
  subst hz
  refine ⟨⟨a0, b, a2, a3, a4⟩, ab, cb, rfl, hlc, hcm, hsrc, bytes_wf hwf, fun R hR => ?_⟩
  refine len_weight Try.underlying25 bytesOne r1 fun q hq => hR q ?_
  have hd : x.1.weights Try.prog 52 = DataW.weightsEach Try.prog (fs.toList.map (·.type)) (ys.map (·.1)) := by
    have : x.1 = .agg (ys.map (·.1)) := by rw [hy]
    rw [this]; simp only [DataW.weights, hu]
  rw [hd]
  refine DataW.weights_mem_each (j := 1) (t := 25) (d := (ys[1]'(by omega)).1) ?_ (by rw [List.getElem?_map, List.getElem?_eq_getElem l1]; rfl) q hq
  rw [List.getElem?_map, Array.getElem?_toList, e1, ← t1.1]; rfl

set_option maxRecDepth 100000 in
theorem open_steps6w {v : Value} {d : DataW H} {ps : List MemPlace} (hv : Value.okWide Try.prog w .any base 48 v) (h : DataW.Trod enc Try.prog w 0 spare held 48 v d ps) (hzw : ∀ q ∈ d.weights Try.prog 48, q ≤ reachBytes) :
    ∃ a len cap xs, v = .slice a len cap ∧ len ≤ maxLen ∧ S6InW w a len xs := by
  obtain ⟨a0, len0, cap0, rfl⟩ := okWide_slice Try.underlying48 hv
  obtain ⟨fuel, hf⟩ := h
  rcases open_slice Try.underlying48 hf with ⟨e, _⟩ | ⟨a, len, cap, m, n, D, Pl, hcs, hb, hl, hm, hmm, hx, hi⟩
  · simp only [Value.cells, List.cons.injEq, Value.slice.injEq, and_true] at e
    obtain ⟨rfl, rfl, rfl⟩ := e
    exact ⟨none, 0, 0, [], rfl, Nat.zero_le _, ⟨rfl, by intro i x h; simp at h⟩, by intro i x h; simp at h⟩
  · simp only [Value.cells, List.cons.injEq, Value.slice.injEq, and_true] at hcs
    obtain ⟨rfl, rfl, rfl⟩ := hcs
    have key : ∀ i, ∃ x : S6, i < len0 → S6At w (some a) i x ∧ x.b.length ≤ 140737488351232 := by
      intro i
      by_cases hil : i < len0
      · have him : i < m := by rw [hmm]; split <;> omega
        obtain ⟨cs', hc, ht'⟩ := hi i him
        rw [cells6] at hc
        obtain ⟨y, ab, cb, rfl, hlc, hcm, hsrc, hby, hsm⟩ := open_one6w ht'
        have hsm := hsm reachBytes fun q hq => hzw q (by
          rw [(Prod.mk.inj hx).1]
          exact weights_elem Try.underlying48 (by rw [List.getElem?_map, List.getElem?_range hil]; rfl) q hq)
        unfold reachBytes at hsm
        obtain ⟨_, hcl, hat⟩ := World.cells?_some hc
        have c0 := hat 0 (by omega)
        have c1 := hat 1 (by omega)
        have c2 := hat 2 (by omega)
        have c3 := hat 3 (by omega)
        have c4 := hat 4 (by omega)
        rw [Go.Deep.add_add] at c0 c1 c2 c3 c4
        simp only [List.getElem?_cons_zero, List.getElem?_cons_succ, Nat.add_zero] at c0 c1 c2 c3 c4
        have hsp : a.spot = none := by
          obtain ⟨cz, hcz, htz⟩ := hi 0 (by rw [hmm]; split <;> omega)
          rw [cells6] at hcz
          obtain ⟨yz, az, bz, rfl, -⟩ := open_one6w htz
          obtain ⟨_, _, hatz⟩ := World.cells?_some hcz
          have z0 := hatz 0 (by omega)
          simp only [List.getElem?_cons_zero] at z0
          have := spot_of_cell z0
          simpa [Addr.add] using this
        obtain ⟨bk, off, sp⟩ := a
        simp only at hsp; subst hsp
        have hadd : ∀ j, (⟨bk, off, none⟩ : Addr).add j = ⟨bk, off + j, none⟩ := fun j => by unfold Addr.add; split <;> simp_all
        rw [hadd] at c0 c1 c2 c3 c4
        simp only [← Nat.add_assoc] at c1 c2 c3 c4
        exact ⟨y, fun _ => ⟨⟨⟨bk, off, rfl, block_lt_of_cell c0, c0, c2, c3, c4, ab, cb, c1, hlc, hcm, hsrc⟩, hby⟩, hsm⟩⟩
      · exact ⟨⟨0, [], 0, 0, 0⟩, fun h => absurd h hil⟩
    obtain ⟨f, hf⟩ := Classical.axiomOfChoice key
    suffices hall : ∀ (i : Nat) x, ((List.range len0).map f)[i]? = some x → S6At w (some a) i x ∧ x.b.length ≤ 140737488351232 from ⟨some a, len0, cap0, (List.range len0).map f, rfl, by omega, ⟨by simp, fun i x hx => (hall i x hx).1⟩, fun i x hx => (hall i x hx).2⟩
    intro i x hx
    rw [List.getElem?_map] at hx
    by_cases hi : i < len0
    · rw [List.getElem?_range hi] at hx
      simp at hx; subst hx
      exact hf i hi
    · rw [List.getElem?_eq_none (by simp; omega)] at hx; cases hx
end
end Go.Proofs.Ytpkmnfpbcakflaa

/-! The walk of SnapPlays. No condition. -/
namespace Go.Proofs.Ytpkmnfpbcakflaa
open Go.ChangeShapes Go.WideShapes Go.ChangeAt Go.RowKit

section
variable {w0 w : World} {E : Nat → Prop} {p q : Nat} {dp dq : Dk}
/-- what one Open told is there behind the other's -/
theorem OpOut.both {w1 w2 : World} {e1 e2 : Ending} {v : Value} {wa : World} {o o2 : Option (List Int)} {err2 : Int} {d1 d2 : Dk}
    (hb : Bts (fun k => wa.heap.size ≤ k ∧ k < w1.heap.size) w1 v (o.getD [])) (h : OpOut w0 w1 w2 e2 (fun k => E k ∨ (wa.heap.size ≤ k ∧ k < w1.heap.size)) p q d1 d2 o2 err2) (_ : e1 = e2) :
    Bts (fun k => wa.heap.size ≤ k ∧ k < w1.heap.size) w2 v (o.getD []) := by
  obtain ⟨v2, wb, -, hT, hB, -⟩ := h
  exact hb.move (fun k hk => (hB.block k (hT.1.elt k (.inr (.inr hk)))).trans (hT.2 k (.inr (.inr hk)) hk.2)) fun _ h => h
end

set_option maxRecDepth 100000 in
set_option maxHeartbeats 8000000 in
theorem snplays_law (qa : Option Addr) (qlen qcap : Nat) (xs : List S6) (w : World) (hq : S6InW w qa qlen xs) : Calls Try.prog 11 #[.slice qa qlen qcap] w fun e w' => e = .returned (.bool true) ∧ Below w.heap.size w w' := by
  obtain ⟨i0, hi0, hz0, hz1, hz2⟩ := info_parts infoB
  have HQ := Lib.hid hq
  have hxl : xs.length = qlen := hq.1.1
  clear hq
  go_enter Try.func11, Try.ntmps11
  go_wp2_with fail
  refine (pair_any w none 0 0 [] ⟨rfl, by simp⟩).mono ?_
  rintro e w2 ⟨p, q, d0, rfl, hP0, hI0⟩
  have HP0 := Lib.hid hP0
  have HI0 := Lib.hid hI0
  clear hP0 hI0
  go_wp2_with fail
  refine (snknown_any w2).mono ?_
  rintro e w3 ⟨rfl, hBk⟩
  have HP1 := Lib.hid (HP0.out.below hBk)
  clear HP0 hBk
  go_wp2_with fail
  go_loopw [6] (fun i wr => ∃ (k : Nat) (d : Dk), i = .int .i64 k ∧ k ≤ qlen ∧ k ≤ 80 ∧ PairAt w wr (fun _ => False) p q d d ∧ Inv (20 + 4 * k) d) (fun i _ => 80 - (intOf i).toNat)
  case atStart => exact ⟨0, d0, rfl, Nat.zero_le _, Nat.zero_le _, HP1.out, HI0.out⟩
  case round =>
    obtain ⟨k, d, rfl, hk, hk80, hP, hI⟩ := hrel
    have HP := Lib.hid hP
    have HI := Lib.hid hI
    clear hP hI HP1 HI0
    by_cases hgo : k < qlen ∧ k < 80
    · as_aux_lemma =>
      obtain ⟨hlt, hlt8⟩ := hgo
      obtain ⟨x, hx⟩ : ∃ x, xs[k]? = some x := ⟨_, List.getElem?_eq_getElem (by omega)⟩
      obtain ⟨⟨bk, off, rfl, hbl, q0, q2, q3, q4, ab, cb, q1, hlc, hcm, hsrc⟩, hbytes⟩ := HQ.out.1.2 k x hx
      have hsm := HQ.out.2 k x hx
      obtain ⟨what, b, hw, ha, hb⟩ := x
      simp only at q0 q1 q2 q3 q4 hlc hcm hsrc hbytes hsm
      have cAt : ∀ (w' : World) (j : Nat) (v : Value), Below w.heap.size w w' → w.cell? ⟨bk, j, none⟩ = some v → w'.cell? ⟨bk, j, none⟩ = some v := fun w' j v hB h => (hB.cell (p := ⟨bk, j, none⟩) hbl).trans h
      have HCa := Lib.hid cAt
      obtain ⟨m, hm⟩ : ∃ m, b.length = m := ⟨_, rfl⟩
      rw [hm] at q1 hlc hsrc hsm
      have HQs := Lib.hid (And.intro q0 q1)
      have r2 := cAt wr _ _ HP.out.1 q2
      have r3 := cAt wr _ _ HP.out.1 q3
      have r4 := cAt wr _ _ HP.out.1 q4
      have HHm := Lib.hid (harms_any HP.out HI.out (by omega) hw ha hb)
      have HSr := Lib.hid (And.intro hsrc (And.intro hbytes (And.intro hm (And.intro hlc hcm))))
      clear q0 q1 q2 q3 q4 cAt hsrc hbytes hm hx HQ hlc hcm
      go_wp2_with fail
      refine HHm.out.mono ?_
      rintro e w5 ⟨rfl, d1, hP1, hI1⟩
      have HP1 := Lib.hid hP1
      have HI1 := Lib.hid hI1
      have r0 := HCa.out w5 _ _ HP1.out.1 HQs.out.1
      obtain ⟨V, hV0, hV1⟩ := pickV_at what 6 (by omega)
      have hpv := fun w => pick_any what 6 (by omega) (by omega) w
      rw [hV0] at hpv
      have HPv := Lib.hid hpv
      clear hP1 hI1 HHm r2 r3 r4 hpv hV0 HP HI
      go_wp2_with fail
      refine (HPv.out _).mono ?_
      rintro e w6 ⟨rfl, hw6⟩
      obtain rfl := hw6.symm
      clear HPv r0
      go_upto_if 51 with (fail)
      go_cut [7] (fun t wx => t = .bool true ∧ ∃ d', Hid (PairAt w wx (fun _ => False) p q d' d' ∧ Inv (20 + 4 * k + 3) d'))
      case first =>
        by_cases hV : 4 ≤ V
        · as_aux_lemma =>
          have k1 : decide ((4 : Int) ≤ (V : Int)) = true := decide_eq_true (by omega)
          obtain ⟨o, err, df, hom⟩ : ∃ o err df, openM d1 = ((o, err), df) := ⟨_, _, _, rfl⟩
          have h1 := HP1.out.openP HI1.out (by omega)
          have hI' := HI1.out.opened
          rw [hom] at h1 hI'
          have H1 := Lib.hid (show Calls _ _ _ _ fun e w' => OpOut w w5 w' e (fun _ => False) p q df d1 o err from h1)
          have HI' := Lib.hid (show Inv (20 + 4 * k + 3) df from hI'.more (by omega))
          have HOm := Lib.hid hom
          clear h1 hI' hom
          go_wp2_with fail
          refine H1.out.mono ?_
          rintro e w7 ⟨v, wa, rfl, hT, hBa, hbv⟩
          have hF := hT.1.fresh hBa
          have h2 := hF.openR HI1.out (by omega)
          rw [HOm.out] at h2
          have H2 := Lib.hid (show Calls _ _ _ _ fun e w' => OpOut w w7 w' e (fun k => False ∨ (wa.heap.size ≤ k ∧ k < w7.heap.size)) p q df df o err from h2)
          have HBv := Lib.hid hbv
          obtain ⟨a1, c1, rfl, -⟩ := hbv.ex
          clear hT hBa hF h2 hbv H1
          go_wp2_with fail
          refine H2.out.mono ?_
          rintro e w8 ho
          have hbv2 := OpOut.both (e1 := e) HBv.out ho rfl
          obtain ⟨v2, wb, rfl, hT2, hBb, hb2⟩ := ho
          obtain ⟨a2, c2, rfl, -⟩ := hb2.ex
          have cA := conv_str hbv2.src
          have cB := conv_str hb2.src
          have HD := Lib.hid (hT2.1.below hBb)
          obtain ⟨S, hS⟩ : ∃ S, strOfNums (o.getD []) = S := ⟨_, rfl⟩
          obtain ⟨L, hL⟩ : ∃ L, (o.getD []).length = L := ⟨_, rfl⟩
          rw [hS, hL] at cA cB
          rw [hL]
          clear hbv2 hT2 hBb hb2 hS hL HBv H2
          go_wp2_with fail
          go_meet
          exact ⟨by simp, df, HD.out.apart (fun k hk => hk.elim), HI'.out⟩
        · as_aux_lemma =>
          rw [show decide ((4 : Int) ≤ (V : Int)) = false from decide_eq_false (by omega)]
          have r1 := HCa.out w5 _ _ HP1.out.1 HQs.out.2
          have hbl5 : bk < w5.heap.size := Nat.lt_of_lt_of_le hbl HP1.out.1.size
          have hsrc3 : Src (w5.alloc (.cells #[] 5)) 1 (.slice ab m cb) m (byteCells b) := HSr.out.1.below (HP1.out.1.alloc HP1.out.1.size _)
          have hdst := Row.lit_at w5 5 1 #[] 0 w5.heap.size rfl (Nat.zero_le _) rfl
          clear hV hV1
          go_upto_region 14 with (at_builtin; refine wpList_append_row _ rfl _ _ 25 rfl 5 i0 _ 1 1 Try.underlying25 hi0 hz0 hz1 hz2 rfl (.slice (some ⟨w5.heap.size, 0, none⟩) 0 0) 0 [] rfl hdst _ _ _ rfl hsrc3 (by unfold maxLen; omega) (by omega) (w5.heap.size + 1) (by simp) ?_; intro a' cap' w7 hown2 hgrow hat)
          have hB7 : Below w5.heap.size w5 w7 := ((Below.refl _ w5).alloc (Nat.le_refl _) (.cells #[] 5)).grown hgrow (by simp) (by intro k hk; simp [Value.ownBlock] at hk; omega)
          simp only [Nat.zero_add, List.nil_append] at hown2
          have hEo : ∀ k, (Value.slice a' m cap').ownBlock = some k → w5.heap.size ≤ k ∧ k < w7.heap.size := fun k hk => ⟨by
            rcases hat k (by simpa using hk) with e | e
            · simp [Value.ownBlock] at e; omega
            · omega, hown2.lt hk⟩
          have hP7 := HP1.out.fresh hB7
          obtain ⟨E, hE⟩ : ∃ E : Nat → Prop, (fun k => False ∨ (w5.heap.size ≤ k ∧ k < w7.heap.size)) = E := ⟨_, rfl⟩
          have hEo : ∀ k, (Value.slice a' m cap').ownBlock = some k → E k := fun k hk => by rw [← hE]; exact .inr (hEo k hk)
          rw [hE] at hP7
          clear hE
          obtain ⟨hsr, hbs, hm, hlc, hcm⟩ := HSr.out
          obtain ⟨X, d', hT⟩ : ∃ X d', saveA d1 b = (X, d') := ⟨_, _, rfl⟩
          have hown : Bts (fun k => k < w.heap.size ∨ E k) w7 (.slice a' m cap') b := by
            have := hown2
            rw [← hm] at this ⊢
            exact Bts.of_row this hbs fun k hk => .inr (hEo k (by rw [← hm]; exact hk))
          have h1 := fun w3 (hB : Below w7.heap.size w7 w3) => (hP7.below hB).saveP HI1.out (by omega) (hown.move (fun k hk => hB.block k (hP7.elt k hk)) fun _ h => h) hm (by omega)
          have hsb : ∀ w3 dp, PairAt w w3 E p q dp d1 → Bts (fun k => k < w.heap.size ∨ E k) w3 (.slice ab m cb) b := fun w3 dp h => by
            refine ⟨⟨ab, cb, by rw [hm], by omega, hcm⟩, ?_, hbs, fun h0 k hk => .inl (hsr.lt (by omega) k hk)⟩
            rw [hm]; exact hsr.below h.1
          have h2 := fun w3 dp (h : PairAt w w3 E p q dp d1) => h.saveR HI1.out (by omega) (hsb w3 dp h) hm (by omega)
          have hI' := HI1.out.savedA b
          simp only [hT] at h1 h2 hI'
          have r1' := HCa.out w7 _ _ hP7.1 HQs.out.2
          have H1 := Lib.hid h1
          have H2 := Lib.hid h2
          have HI' := Lib.hid hI'
          have HE := Lib.hid hEo
          have HO := Lib.hid hown2
          have HP7 := Lib.hid hP7
          obtain ⟨S, hS⟩ : ∃ S, strOfNums b = S := ⟨_, rfl⟩
          have cI := conv_str (w := w7.drew) (Src.of_row (hown2.of_block fun _ _ => rfl) (byteCells_one b))
          have cJ := conv_str (hsr.below (hP7.1.trans (Below.refl _ _).drew))
          rw [hS] at cI cJ
          have HS := Lib.hid hS
          clear h1 h2 hI' hEo hown2 hsr hbs hP7 hB7 hgrow hat hdst hsrc3 hT r1 hm hlc hcm hown hsb hS
          go_wp2_with fail
          go_region_held3 (fun w' => w'.cell? ⟨bk, off + k * 5 + 1, none⟩ = some (.slice ab m cb) ∧ (convert 25 9 (.slice a' m cap')).run Try.prog w' = .ok (.string S) w' ∧ (convert 25 9 (.slice ab m cb)).run Try.prog w' = .ok (.string S) w')
            (first | exact ⟨p1, cA, cB⟩ | exact ⟨r1', cI, cJ⟩)
            (first
              | (go_at_call 29; refine (H1.out _ (Below.refl _ _).drew).mono ?_; rintro e w8 ⟨rfl, T3⟩; have p1 := HCa.out w8 _ _ T3.1.1 HQs.out.2; have hr3 := HO.out.of_block fun k hk => T3.2 k (.inr (HE.out k hk)) (HO.out.lt hk); have cA := conv_str (Src.of_row hr3 (byteCells_one _)); have cB := conv_str (HSr.out.1.below T3.1.1); rw [HS.out] at cA cB)
              | (go_at_call 35; refine (H2.out _ _ T3.1).mono ?_; rintro e w9 ⟨rfl, T4⟩; have p1 := HCa.out w9 _ _ T4.1.1 HQs.out.2; have hr4 := hr3.of_block fun k hk => T4.2 k (.inr (HE.out k hk)) (hr3.lt hk); have cA := conv_str (Src.of_row hr4 (byteCells_one _)); have cB := conv_str (HSr.out.1.below T4.1.1); rw [HS.out] at cA cB))
          all_goals
            as_aux_lemma =>
            have HD := Lib.hid (And.intro T4.1 hr4)
            have HBs := Lib.hid HSr.out.2.2.1
            clear T3 T4 hr3 hr4 cA cB p1 cI cJ r1' H1 H2 HO HP7 HSr
            go_wp2_with fail
            go_loopw [15] (fun i wx => ∃ (j : Nat) (zs : List Int), i = .int .i64 j ∧ j ≤ m ∧ zs.length = m ∧ Row wx 5 1 (.slice a' m cap') m (byteCells zs) ∧ PairAt w wx E p q d' d') (fun i _ => m - (intOf i).toNat)
            case atStart => exact ⟨0, b, rfl, Nat.zero_le _, HBs.out, HD.out.2, HD.out.1⟩
            case round =>
              clear HD
              obtain ⟨j, zs, rfl, hjm, hzl, hR, hP⟩ := hrel
              have HR := Lib.hid hR
              have HP := Lib.hid hP
              clear hR hP
              by_cases hj : j < m
              · as_aux_lemma =>
                obtain ⟨g, rfl, hgl, hgc, hgf⟩ := HR.out.view (by omega)
                have c0 : ∃ u, wr.cell? ⟨g, j, none⟩ = some u := by
                  rw [hgc j (by omega)]
                  exact ⟨_, List.getElem?_eq_getElem (by rw [byteCells_len]; omega)⟩
                obtain ⟨u, c0⟩ := c0
                have f0 := hgf j
                have hset : byteCells (zs.set j 238) = (byteCells zs).set j (.int .u8 238) := by simp [byteCells, List.map_set]
                have HSet := Lib.hid hset
                clear hgc hgf hset
                go_wp2_with fail
                go_roundw
                case rel => exact ⟨j + 1, zs.set j 238, by go_num, by omega, by rw [List.length_set]; exact hzl, by rw [HSet.out]; exact HR.out.stored j _, HP.out.cell (HE.out g rfl) j _⟩
                case measure => simp [intOf]; omega
              · as_aux_lemma =>
                have HP' := Lib.hid (HP.out.apart (E' := fun _ => False) fun k hk => hk.elim)
                clear HP HR
                go_wp2_with fail
                go_meet
                exact ⟨by simp, d', HP'.out, HI'.out⟩
      case rest =>
        obtain ⟨rfl, d', HD⟩ := hcut
        have HSa := Lib.hid (same_any HD.out.1 HD.out.2 (by omega))
        clear HP1 HI1 HSr
        go_wp2_with fail
        refine HSa.out.mono ?_
        rintro e w9 ⟨rfl, hB9⟩
        have HP9 := Lib.hid (HD.out.1.below hB9)
        have HI9 := Lib.hid (HD.out.2.more (show 20 + 4 * k + 3 ≤ 20 + 4 * (k + 1) by omega))
        clear HD HSa hB9
        go_wp2_with fail
        go_roundw
        case rel => exact ⟨k + 1, d', by go_num, by omega, by omega, HP9.out, HI9.out⟩
        case measure => simp [intOf]; omega
    · as_aux_lemma =>
      have hB := HP.out.1
      by_cases hl2 : k < qlen
      · have h40 : ¬ k < 80 := fun h => hgo ⟨hl2, h⟩
        go_wp2_with fail
        go_ret
        exact ⟨rfl, hB⟩
      · go_wp2_with fail
        go_ret
        exact ⟨rfl, hB⟩
end Go.Proofs.Ytpkmnfpbcakflaa
