/- The walk of DiskPlays. No condition. -/
import Derived.Test.YtpkmnfpbcakflaaDoorPStep
import Derived.Test.YtpkmnfpbcakflaaDoorSame
namespace Go.Proofs.YtpkmnfpbcakflaaDoor
open Go.ChangeShapes Go.WideShapes Go.ChangeAt Go.RowKit

theorem pair_start {w0 w : World} {p : Nat} {room : Int} (h : St w0 w p (emptyDk room)) :
    PairAt w0 (w.alloc (.cells (rhead room (.slice none 0 0) (.slice none 0 0) (.slice none 0 0) false 0 false) 41)) (fun _ => False) p w.heap.size (emptyDk room) (emptyDk room) := by
  have hB := (Below.refl w.heap.size w).alloc (Nat.le_refl _) (.cells (rhead room (.slice none 0 0) (.slice none 0 0) (.slice none 0 0) false 0 false) 41)
  refine ⟨h.2.trans (hB.mono h.2.size), h.2.size, fun k hk => hk.elim, fun _ => False, ⟨.slice none 0 0, .slice none 0 0, .slice none 0 0, false, 0, [], [], [], [], [], ?_⟩, fun k hk => hk.elim, (h.1.more hB).fewer fun k hk => ?_⟩
  · have hno : ∀ k, (Value.slice none 0 0).ownBlock = some k → False := fun k hk => by simp [Value.ownBlock] at hk
    have hRF : RF (fun _ => False) (w.alloc (.cells (rhead room (.slice none 0 0) (.slice none 0 0) (.slice none 0 0) false 0 false) 41)) (.slice none 0 0) [] [] :=
      ⟨Row.nil _ _ _, rfl, fun i x u hx => by simp at hx, hno⟩
    exact ⟨heap_alloc_new w _, .inr ⟨rfl, rfl⟩, hRF, rfl, hRF, rfl, Row.nil _ _ _, rfl, fun i x u hx => by simp [emptyDk] at hx, hno, id, fun k hk => hk.elim⟩
  · rcases hk with hk | rfl | hk | hk
    · exact .inl hk
    · exact .inr ⟨Nat.le_refl _, by simp⟩
    · exact hk.elim
    · exact hk.elim

set_option maxRecDepth 100000 in
set_option maxHeartbeats 4000000 in
theorem plays_law (room : Int) (qa : Option Addr) (qlen qcap : Nat) (xs : List S2) (w : World) (hN : ∀ i, i < 4 → w.cell? ⟨0, i, none⟩ = some (.string (nm i))) (hq : S2In w qa qlen xs) :
    Calls Tryd.prog 4 #[.int .i64 room, .slice qa qlen qcap] w fun e w' => e = .returned (.bool true) ∧ Below w.heap.size w w' := by
  have HQ := Lib.hid hq
  have hxl : xs.length = qlen := hq.1
  have hw0 : 0 < w.heap.size := World.block_lt_of_cell? _ _ (hN 0 (by omega))
  have HN := Lib.hid (show ∀ w' i, Below w.heap.size w w' → i < 4 → w'.cell? ⟨0, i, none⟩ = some (.string (nm i)) from fun w' i hB hi => (hB.cell (p := ⟨0, i, none⟩) hw0).trans (hN i hi))
  clear hq hN hw0
  by_cases hr : 0 ≤ room ∧ room ≤ 8388608
  · obtain ⟨hr0, hr1⟩ := hr
    have k1 : decide (room < 0) = false := decide_eq_false (by omega)
    have k2 : decide (8388608 < room) = false := decide_eq_false (by omega)
    go_enter Tryd.func4, Tryd.ntmps4
    go_wp2_with fail
    refine (new_ok room hr0 hr1 w).mono ?_
    rintro e w2 hNw
    obtain ⟨p, rfl, S2, -⟩ := St.of_new (Below.refl _ w) hNw
    clear hNw
    have H2 := Lib.hid S2
    clear S2
    go_wp2_with fail
    refine (known_any w2).mono ?_
    rintro e w3 ⟨rfl, hBk⟩
    have H3 := Lib.hid (pair_start (H2.out.below hBk))
    clear H2 hBk
    have HI0 := Lib.hid (inv_empty hr0 hr1)
    unfold rhead at H3
    go_upto_region 9 with (fail)
    obtain ⟨q, hqq⟩ : ∃ q, w3.heap.size = q := ⟨_, rfl⟩
    rw [hqq] at H3 ⊢
    clear hqq
    generalize w3.alloc (.cells #[.int .i64 room, .slice none 0 0, .slice none 0 0, .slice none 0 0, .bool false, .int .i64 0, .bool false] 41) = w4 at *
    clear k1 k2
    go_wp2_with fail
    go_loopw [8] (fun i wr => ∃ (k : Nat) (d : Dk), i = .int .i64 k ∧ k ≤ qlen ∧ k ≤ 200 ∧ PairAt w wr (fun _ => False) p q d d ∧ Inv k d) (fun i _ => 200 - (intOf i).toNat)
    case atStart => exact ⟨0, _, rfl, Nat.zero_le _, Nat.zero_le _, H3.out, HI0.out⟩
    case round =>
      obtain ⟨k, d, rfl, hk, hk200, hP, hI⟩ := hrel
      have HP := Lib.hid hP
      have HI := Lib.hid hI
      clear hP hI H3 HI0
      by_cases hgo : k < qlen ∧ k < 200
      · as_aux_lemma =>
        obtain ⟨hlt, hlt2⟩ := hgo
        obtain ⟨x, hx⟩ : ∃ x, xs[k]? = some x := ⟨_, List.getElem?_eq_getElem (by omega)⟩
        obtain ⟨⟨bk, off, rfl, hbl, q0, q1, q2, q3, q4, q6, ab, cb, q5, hlc, hcm, hsrc⟩, hsm, hbytes, hn1, hn2, -⟩ := HQ.out.2 k x hx
        have cAt : ∀ (j : Nat) (v : Value), w.cell? ⟨bk, j, none⟩ = some v → wr.cell? ⟨bk, j, none⟩ = some v := fun j v h => (HP.out.1.cell (p := ⟨bk, j, none⟩) hbl).trans h
        have q0 := cAt _ _ q0
        have q1 := cAt _ _ q1
        have q2 := cAt _ _ q2
        have q3 := cAt _ _ q3
        have q4 := cAt _ _ q4
        have q5 := cAt _ _ q5
        have q6 := cAt _ _ q6
        have HSt := Lib.hid (step_any HN.out HP.out HI.out (by omega) x.what x.a x.b x.name x.dest ab x.bytes.length cb x.bytes x.near hn1 hn2 rfl hsm hsrc hbytes)
        clear hsrc hbytes hn1 hn2 cAt HQ hx hlc hcm hsm hbl
        go_wp2_with fail
        refine HSt.out.mono ?_
        rintro e w5 ⟨rfl, d', hP5, hI5⟩
        have HSa := Lib.hid (same_any hP5 hI5 (by omega))
        have HP5 := Lib.hid (And.intro hP5 hI5)
        clear hP5 hI5 HSt q0 q1 q2 q3 q4 q5 q6
        go_wp2_with fail
        refine HSa.out.mono ?_
        rintro e w6 ⟨rfl, hB6⟩
        have HP6 := Lib.hid (HP5.out.1.below hB6)
        have HI6 := Lib.hid HP5.out.2
        clear HP5 HSa hB6
        go_wp2_with fail
        go_roundw
        case rel => exact ⟨k + 1, d', by go_num, by omega, by omega, HP6.out, HI6.out⟩
        case measure => simp [intOf]; omega
      · as_aux_lemma =>
        have hB := HP.out.1
        by_cases hl2 : k < qlen
        · have h40 : ¬ k < 200 := fun h => hgo ⟨hl2, h⟩
          go_wp2_with fail
          go_ret
          exact ⟨rfl, hB⟩
        · go_wp2_with fail
          go_ret
          exact ⟨rfl, hB⟩
  · by_cases hn0 : room < 0
    · have k1 : decide (room < 0) = true := decide_eq_true hn0
      go_enter Tryd.func4, Tryd.ntmps4
      go_wp2_with fail
      refine (new_no room (by omega) w).mono ?_
      rintro e w2 ⟨rfl, rfl⟩
      go_wp2_with fail
      refine (known_any _).mono ?_
      rintro e w3 ⟨rfl, hBk⟩
      go_wp2_with fail
      go_ret
      exact ⟨rfl, hBk⟩
    · have k1 : decide (room < 0) = false := decide_eq_false hn0
      have k2 : decide (8388608 < room) = true := decide_eq_true (by omega)
      go_enter Tryd.func4, Tryd.ntmps4
      go_wp2_with fail
      refine (new_no room (by omega) w).mono ?_
      rintro e w2 ⟨rfl, rfl⟩
      go_wp2_with fail
      refine (known_any _).mono ?_
      rintro e w3 ⟨rfl, hBk⟩
      go_wp2_with fail
      go_ret
      exact ⟨rfl, hBk⟩
end Go.Proofs.YtpkmnfpbcakflaaDoor
