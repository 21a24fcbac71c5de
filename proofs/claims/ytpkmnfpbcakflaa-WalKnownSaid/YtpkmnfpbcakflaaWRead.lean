/- The walks of pack's Reader on a few bytes. No condition. -/
import Derived.Test.YtpkmnfpbcakflaaWLay
import Derived.Test.YtpkmnfpbcakflaaFrame
import Derived.Lib.MinMax
import Derived.Deep.QuietTactic
namespace Go.Proofs.Ytpkmnfpbcakflaa
open Go.ChangeShapes Go.WideShapes Go.ChangeAt Go.RowKit

/-- a Reader lies so: block p of the bytes b, the place k, no fault -/
def Rd (w : World) (p : Nat) (b : List Int) (k : Nat) : Prop :=
  ∃ a c, w.heap[p]? = some (.cells #[.slice a b.length c, .int .i64 k, .int .i64 0] 166 (0, 0)) ∧ Row w 5 1 (.slice a b.length c) b.length (byteCells b)
theorem row_not {w : World} {e t : TypeId} {size : Nat} {v : Value} {n : Nat} {xs : List Value} (h : Row w e size v n xs) {p : Nat} {cs : Array Value} {fr : Nat × Nat} (hp : w.heap[p]? = some (.cells cs t fr)) (hne : t ≠ e) : v.ownBlock ≠ some p := by
  intro hk
  rcases h.2 with ⟨rfl, _⟩ | ⟨g, cap, cur, rfl, hg, _⟩
  · simp [Value.ownBlock] at hk
  · simp [Value.ownBlock] at hk; subst hk
    rw [hg] at hp
    simp only [Option.some.injEq, Obj.cells.injEq] at hp
    exact hne hp.2.1.symm
theorem Rd.below {w w' : World} {p : Nat} {b : List Int} {k : Nat} (h : Rd w p b k) (hB : Below w.heap.size w w') : Rd w' p b k := by
  obtain ⟨a, c, hc, hR⟩ := h
  exact ⟨a, c, by rw [hB.block p (heap_lt hc)]; exact hc, hR.of_block fun j hj => hB.block j (hR.lt hj)⟩
theorem Rd.lt {w : World} {p : Nat} {b : List Int} {k : Nat} (h : Rd w p b k) : p < w.heap.size := by
  obtain ⟨a, c, hc, hR⟩ := h
  exact heap_lt hc
/-- a store into a block of another kind -/
theorem Rd.other {w : World} {p : Nat} {b : List Int} {k : Nat} (h : Rd w p b k) {g : Nat} {cs : Array Value} {t : TypeId} {fr : Nat × Nat} (hg : w.heap[g]? = some (.cells cs t fr)) (h1 : t ≠ 5) (h2 : t ≠ 166) (j : Nat) (u : Value) : Rd (w.setCell ⟨g, j, none⟩ u) p b k := by
  obtain ⟨a, c, hc, hR⟩ := h
  have hpg : p ≠ g := by
    rintro rfl
    rw [hg] at hc
    simp only [Option.some.injEq, Obj.cells.injEq] at hc
    exact h2 hc.2.1
  exact ⟨a, c, by rw [heap_setCell_other _ _ _ _ (show p ≠ (⟨g, j, none⟩ : Addr).block from hpg)]; exact hc, hR.of_block fun i hi => heap_setCell_other _ _ _ _ (show i ≠ (⟨g, j, none⟩ : Addr).block from fun e => row_not hR hg h1 (hi.trans (congrArg some e)))⟩
/-- the place moves -/
theorem Rd.move {w w1 : World} {p : Nat} {b : List Int} {k : Nat} (h : Rd w p b k) (hB : Below w.heap.size w w1) (k' : Nat) : Rd (w1.setCell ⟨p, 1, none⟩ (.int .i64 k')) p b k' ∧ Mod (fun j => j = p) w (w1.setCell ⟨p, 1, none⟩ (.int .i64 k')) := by
  refine ⟨?_, Mod.setCell (S := fun j => j = p) (p := ⟨p, 1, none⟩) (Mod.of_below hB) (.inr rfl) _⟩
  obtain ⟨a, c, hc, hR⟩ := h.below hB
  exact ⟨a, c, heap_setCell_same _ p 1 _ _ _ hc, hR.of_block fun i hi => heap_setCell_other _ _ _ _ (show i ≠ (⟨p, 1, none⟩ : Addr).block from fun e => row_not hR hc (by decide) (hi.trans (congrArg some e)))⟩
theorem Rd.cells {w : World} {p : Nat} {b : List Int} {k : Nat} (h : Rd w p b k) (hl : 0 < b.length) : ∃ g c, w.cell? ⟨p, 0, none⟩ = some (.slice (some ⟨g, 0, none⟩) b.length c) ∧ w.cell? ⟨p, 1, none⟩ = some (.int .i64 k) ∧ w.cell? ⟨p, 2, none⟩ = some (.int .i64 0) ∧ (∀ j, w.frozen? ⟨p, j, none⟩ = false) ∧ (∀ j x, b[j]? = some x → w.cell? ⟨g, j, none⟩ = some (.int .u8 x)) ∧ Src w 1 (.slice (some ⟨g, 0, none⟩) b.length c) b.length (byteCells b) ∧ b.length ≤ c ∧ g ≠ p := by
  obtain ⟨a, c, hc, hR⟩ := h
  obtain ⟨a2, c2, he, hn, -, -⟩ := hR.form
  simp only [Value.slice.injEq, true_and] at he
  obtain ⟨rfl, rfl⟩ := he
  obtain ⟨g, rfl, -, hgc, -⟩ := hR.view (by omega)
  refine ⟨g, c, ?_, ?_, ?_, fun j => frozen_of_row _ _ _ _ _ hc, fun j x hx => ?_, Src.of_row hR (byteCells_one _), hn, fun e => row_not hR hc (by decide) (congrArg some e)⟩
  · rw [cell_of_row _ _ _ _ _ _ hc]; rfl
  · rw [cell_of_row _ _ _ _ _ _ hc]; rfl
  · rw [cell_of_row _ _ _ _ _ _ hc]; rfl
  · have hj := (List.getElem?_eq_some_iff.1 hx).1
    rw [hgc j (by omega)]; simp [byteCells, hx]

set_option maxRecDepth 100000 in
set_option maxHeartbeats 1000000 in
theorem reader_new (x : Value) (b : List Int) (w : World) (h : Src w 1 x b.length (byteCells b)) (hl : b.length ≤ 1000000) :
    Calls Try.prog 114 #[x] w fun e w' => ∃ p, e = .returned (.pointer (some ⟨p, 0, none⟩)) ∧ w.heap.size ≤ p ∧ Rd w' p b 0 ∧ Below w.heap.size w w' := by
  obtain ⟨i0, hi0, hz0, hz1, hz2⟩ := info_parts infoB
  have hB1 := (Below.refl w.heap.size w).alloc (Nat.le_refl _) (.cells #[] 5)
  have HSrc := Lib.hid (h.below hB1)
  have HDst := Lib.hid (Row.lit_at w 5 1 #[] 0 w.heap.size rfl (Nat.zero_le _) rfl)
  have HB1 := Lib.hid hB1
  clear h hB1
  go_enter Try.func114, Try.ntmps114
  go_wp2_with (at_builtin; refine wpList_append_row _ rfl _ _ 25 rfl 5 i0 _ 1 1 Try.underlying25 hi0 hz0 hz1 hz2 rfl (.slice (some ⟨w.heap.size, 0, none⟩) 0 0) 0 [] rfl HDst.out x b.length _ rfl HSrc.out (by unfold maxLen; omega) (by omega) (w.heap.size + 1) (by simp) ?_; intro a5 cap5 w5 hown5 hgrow5 hat5)
  go_ret
  simp only [Nat.zero_add, List.nil_append] at hown5 hat5 ⊢
  have hB5 := HB1.out.grown hgrow5 HB1.out.size (by intro k hk; simp [Value.ownBlock] at hk; omega)
  exact ⟨w5.heap.size, rfl, hB5.size, ⟨a5, cap5, heap_alloc_new w5 _, hown5.of_block fun k hk => Below.heap_alloc _ _ _ (hown5.lt hk)⟩, hB5.alloc hB5.size _⟩

theorem and127 (x : Nat) (hx : x < 128) : bits .and .u8 (x : Int) 127 = (x : Int) := by
  have := u8_and_nat x 127 (by omega) (by omega)
  rw [show ((127 : Nat) : Int) = 127 from rfl] at this
  rw [this, Nat.and_two_pow_sub_one_eq_mod x 7, Nat.mod_eq_of_lt hx]
theorem or0 (x : Nat) (hx : x < 128) : bits .or .u64 0 (x : Int) = (x : Int) := by
  have := u64_or_nat 0 x (by omega) (by omega)
  rw [show ((0 : Nat) : Int) = 0 from rfl, Nat.zero_or] at this
  exact this
set_option maxRecDepth 100000 in
set_option maxHeartbeats 1000000 in
theorem number_any (g n c k x : Nat) (hx : x < 128) (hk : k < n) (hn : n ≤ 1000000) (w : World) (hc : w.cell? ⟨g, k, none⟩ = some (.int .u8 x)) :
    Calls Try.prog 130 #[.slice (some ⟨g, 0, none⟩) n c, .int .i64 k] w fun e w' => e = .returned (.tuple #[.int .u64 x, .int .i64 0, .int .i64 (k + 1 : Nat)]) ∧ w' = w := by
  have ha := and127 x hx
  have ho := or0 x hx
  have hx8 : (x : Int) < 128 := by omega
  go_enter Try.func130, Try.ntmps130
  go_wp2_with fail
  go_loopw [7, 8, 9] (fun n i _ w' => n = .int .u64 0 ∧ i = .int .i64 0 ∧ w' = w) (fun _ _ _ _ => 0)
  case atStart => exact ⟨rfl, rfl, rfl⟩
  case round =>
    obtain ⟨rfl, rfl, rfl⟩ := hrel
    by_cases hx0 : x = 0
    · subst hx0
      go_wp2_with fail
      go_ret3
      exact ⟨rfl, rfl⟩
    · have hx1 : ((x : Int) == 0) = false := by simp; omega
      have hx2 : decide ((128 : Int) ≤ (x : Int)) = false := by simp; omega
      clear hx0
      go_wp2_with fail
      go_ret3
      exact ⟨rfl, rfl⟩

theorem mod_drewN {S : Nat → Prop} {a w : World} (h : Mod S a w) (n : Nat) : Mod S a (w.drewN n) := ⟨h.os, h.tape, h.output, h.size, h.block⟩
theorem below_drewN (w : World) (n : Nat) : Below w.heap.size w (w.drewN n) := ⟨rfl, rfl, rfl, Nat.le_refl _, fun _ _ => rfl⟩
section
variable {w : World} {p : Nat} {b : List Int} {k : Nat}
set_option maxRecDepth 100000 in
set_option maxHeartbeats 1000000 in
theorem rnum_any (x : Nat) (most : Int) (h : Rd w p b k) (hb : b[k]? = some (x : Int)) (hx : x < 128) (hm : (x : Int) ≤ most) (hl : b.length ≤ 1000000) :
    Calls Try.prog 115 #[.pointer (some ⟨p, 0, none⟩), .int .u64 most] w fun e w' => e = .returned (.int .u64 x) ∧ Rd w' p b (k + 1) ∧ Mod (fun j => j = p) w w' := by
  have hkl := (List.getElem?_eq_some_iff.1 hb).1
  obtain ⟨g, c, c0, c1, c2, hfz, hcell, -, -, -⟩ := h.cells (by omega)
  obtain ⟨n, hn⟩ : ∃ n, b.length = n := ⟨_, rfl⟩
  have HMv := Lib.hid (fun nd => h.move (below_drewN w nd) (k + 1))
  rw [hn] at c0 hkl hl
  have HN := Lib.hid (fun (nd : Nat) => number_any g n c k x hx hkl hl (w.drewN nd) (hcell k x hb))
  have f1 := hfz 1
  have hlt : decide (most < (x : Int)) = false := by simp; omega
  have hlt2 : ¬ (most < (x : Int)) := by omega
  clear hfz hcell h hb hn hm
  go_enter Try.func115, Try.ntmps115
  go_wp2_with fail
  go_quiet ((go_at_call 130; exact Calls.quiet_of_same (HN.out _)))
  go_wp2_with fail
  go_ret
  exact ⟨rfl, HMv.out _⟩
set_option maxRecDepth 100000 in
set_option maxHeartbeats 1000000 in
theorem rbyte_any (x : Nat) (most : Int) (h : Rd w p b k) (hb : b[k]? = some (x : Int)) (hm : (x : Int) ≤ most) (hl : b.length ≤ 1000000) :
    Calls Try.prog 117 #[.pointer (some ⟨p, 0, none⟩), .int .u8 most] w fun e w' => e = .returned (.int .u8 x) ∧ Rd w' p b (k + 1) ∧ Mod (fun j => j = p) w w' := by
  have hkl := (List.getElem?_eq_some_iff.1 hb).1
  obtain ⟨g, c, c0, c1, c2, hfz, hcell, -, -, hgp⟩ := h.cells (by omega)
  obtain ⟨n, hn⟩ : ∃ n, b.length = n := ⟨_, rfl⟩
  have HMv := Lib.hid (fun nd => h.move (below_drewN w nd) (k + 1))
  rw [hn] at c0 hkl hl
  have cx := hcell k x hb
  have f1 := hfz 1
  have hlt2 : ¬ (most < (x : Int)) := by omega
  have hpg : ¬ p = g := fun e => hgp e.symm
  clear hfz hcell h hb hn hm
  go_enter Try.func117, Try.ntmps117
  go_wp2_with fail
  go_quiet (fail)
  go_wp2_with fail
  go_quiet (fail)
  go_wp2_with fail
  go_quiet (fail)
  go_wp2_with fail
  go_ret
  exact ⟨rfl, (HMv.out _).1.below (below_drewN _ _), mod_drewN (HMv.out _).2 _⟩
set_option maxRecDepth 100000 in
set_option maxHeartbeats 2000000 in
theorem rtext_any (m : Nat) (t : List Int) (most : Nat) (h : Rd w p b k) (hb : b[k]? = some (m : Int)) (hm0 : 0 < m) (hm1 : m < 128) (hm : m ≤ most) (hmost : most ≤ 1000000) (hl : b.length ≤ 1000000) (ht : (b.drop (k + 1)).take m = t) (hkm : k + 1 + m ≤ b.length) :
    Calls Try.prog 118 #[.pointer (some ⟨p, 0, none⟩), .int .i64 most] w fun e w' => e = .returned (.string (strOfNums t)) ∧ Rd w' p b (k + 1 + m) ∧ Mod (fun j => j = p) w w' := by
  obtain ⟨i0, hi0, hz0, hz1, hz2⟩ := info_parts infoB
  have hkl := (List.getElem?_eq_some_iff.1 hb).1
  obtain ⟨g, c, -, c1, -⟩ := h.cells (by omega)
  have HNum := Lib.hid (rnum_any m most h hb hm1 (by omega) hl)
  have HT := Lib.hid ht
  have HL := Lib.hid hl
  have HKM := Lib.hid hkm
  have hmx : max (most : Int) 0 = (most : Int) := by omega
  clear h hb hl ht hkm
  go_enter Try.func118, Try.ntmps118
  go_wp2_with fail
  refine HNum.out.mono ?_
  rintro e w1 ⟨rfl, S1, hM1⟩
  have hk1 : k + 1 < b.length := by have := HKM.out; omega
  obtain ⟨g1, c1', d0, d1, d2, hfz, -, hsrc, hnc, hgp⟩ := S1.cells (by omega)
  obtain ⟨n, hn⟩ : ∃ n, b.length = n := ⟨_, rfl⟩
  have HMv := Lib.hid (fun nd => S1.move (below_drewN w1 nd) (k + 1 + m))
  have hkm := HKM.out
  have hln := HL.out
  have f1 := hfz 1
  have HSrc := Lib.hid hsrc
  have HM1 := Lib.hid hM1
  rw [hn] at d0 hkm hln hnc
  clear hfz hsrc S1 hM1 hgp c1 hk1 hkl HNum
  go_wp2_with fail
  go_quiet (fail)
  go_wp2_with fail
  obtain ⟨S2, M2⟩ := HMv.out nq
  obtain ⟨q, hq⟩ : ∃ q, k + 1 + m = q := ⟨_, rfl⟩
  have hqi : (k : Int) + 1 + (m : Int) = (q : Int) := by omega
  rw [hq] at S2 M2
  rw [hqi]
  generalize (w1.drewN nq).setCell ⟨p, 1, none⟩ (.int .i64 (q : Int)) = W2 at *
  obtain ⟨g3, c3, r0, r1, -, -, -, hsrc3, hnc3, -⟩ := S2.cells (by omega)
  rw [hn] at r0 hnc3
  have hwq : (q : Int) - (m : Int) = ((k + 1 : Nat) : Int) := by omega
  have hsl : ∀ w, (Instr.slice 25 (.slice (some ⟨g3, 0, none⟩) n c3) (some (.int .i64 ((k + 1 : Nat) : Int))) (some (.int .i64 (q : Int))) none).run Try.prog w = .ok (.slice (some ⟨g3, 0 + (k + 1), none⟩) (q - (k + 1)) (c3 - (k + 1))) w := fun w => run_slice_mid w 25 5 i0 Try.underlying25 hi0 hz1 g3 0 n c3 (k + 1) q (by omega) (by omega) (by omega) (by omega) .i64
  have hqm : q - (k + 1) = m := by omega
  rw [hqm, Nat.zero_add, Int.natCast_add, Int.natCast_one] at hsl
  rw [Int.natCast_add, Int.natCast_one] at hwq
  have hw1 : IntKind.i64.wrap (m : Int) = (m : Int) := IntWalk.i64_in _ (by omega)
  have hw2 : IntKind.i64.wrap ((q : Int) - (m : Int)) = (k : Int) + 1 := by rw [hwq]; exact IntWalk.i64_in _ (by omega)
  clear hwq
  have hpt : Src W2 1 (.slice (some ⟨g3, k + 1, none⟩) m (c3 - (k + 1))) m (byteCells t) := by
    have h1 := hsrc3.part (k + 1) m (by omega) (by rw [hn]; omega)
    have ea : fromAddr (some (⟨g3, 0, none⟩ : Addr)) c3 (k + 1) 1 = some ⟨g3, k + 1, none⟩ := by unfold fromAddr; rw [if_neg (by omega)]; simp [Addr.add]
    rw [ea] at h1
    rw [← HT.out]
    simpa [byteCells, List.map_take, List.map_drop] using h1
  have hcv : ∀ nd, (convert 25 9 (.slice (some ⟨g3, k + 1, none⟩) m (c3 - (k + 1)))).run Try.prog (W2.drewN nd) = .ok (.string (strOfNums t)) (W2.drewN nd) := fun nd => run_string_src (P := Try.prog) (hpt.below (below_drewN W2 nd)) 25 5 9 Try.underlying25 Try.underlying5 Try.underlying9
  have HQ := Lib.hid hq
  have HZ := Lib.hid (And.intro S2 M2)
  clear hsrc3 hpt S2 M2 hq HMv d0 d1 d2 f1 hn hqi
  clear hkm hln HL HKM
  go_quiet (fail)
  go_wp2_with fail
  go_ret
  rw [HQ.out]
  exact ⟨rfl, HZ.out.1.below (below_drewN _ _), mod_drewN (HM1.out.trans HZ.out.2) _⟩
set_option maxRecDepth 100000 in
set_option maxHeartbeats 1000000 in
theorem rend_any (h : Rd w p b b.length) (h0 : 0 < b.length) :
    Calls Try.prog 119 #[.pointer (some ⟨p, 0, none⟩)] w fun e w' => e = .returned (.int .i64 0) ∧ Below w.heap.size w w' := by
  obtain ⟨g, c, c0, c1, c2, -⟩ := h.cells h0
  obtain ⟨n, hn⟩ : ∃ n, b.length = n := ⟨_, rfl⟩
  rw [hn] at c0 c1
  clear h h0 hn
  go_enter Try.func119, Try.ntmps119
  go_wp2_with fail
  go_quiet (fail)
  go_wp2_with fail
  go_ret
  exact ⟨rfl, below_drewN _ _⟩
set_option maxRecDepth 100000 in
set_option maxHeartbeats 1000000 in
theorem rmark_any (x y : Nat) (h : Rd w p b k) (hb : b[k]? = some (x : Int)) (hb2 : b[k + 1]? = some (y : Int)) (hx : x < 128) (hy : y < 128) (hl : b.length ≤ 1000000) :
    Calls Try.prog 116 #[.pointer (some ⟨p, 0, none⟩)] w fun e w' => e = .returned (.complex .f64 (fl x) (fl y)) ∧ Rd w' p b (k + 1 + 1) ∧ Mod (fun j => j = p) w w' := by
  have H1 := Lib.hid (rnum_any x 1099511627776 h hb hx (by omega) hl)
  have H2 := Lib.hid (fun (w1 : World) (S1 : Rd w1 p b (k + 1)) => rnum_any y 1099511627776 S1 hb2 hy (by omega) hl)
  have hf := fl_eq
  clear h hb hb2 hl
  go_enter Try.func116, Try.ntmps116
  go_wp2_with fail
  refine H1.out.mono ?_
  rintro e w1 ⟨rfl, S1, M1⟩
  have H3 := Lib.hid (H2.out w1 S1)
  have HM := Lib.hid M1
  clear S1 M1 H1 H2
  go_wp2_with fail
  refine H3.out.mono ?_
  rintro e w2 ⟨rfl, S2, M2⟩
  have HZ := Lib.hid (And.intro S2 (HM.out.trans M2))
  clear S2 M2 H3
  go_wp2_with fail
  go_ret
  exact ⟨rfl, HZ.out⟩
end
end Go.Proofs.Ytpkmnfpbcakflaa
