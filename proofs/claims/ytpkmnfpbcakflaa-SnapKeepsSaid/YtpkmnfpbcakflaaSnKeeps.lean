/- The walk of SnapKeeps. No condition. -/
import Derived.Test.YtpkmnfpbcakflaaSteps6
import Derived.Test.YtpkmnfpbcakflaaSaves
import Derived.StillTailTactics
import Derived.Laws.Strings
namespace Go.Proofs.Ytpkmnfpbcakflaa
open Go.ChangeShapes Go.WideShapes Go.ChangeAt Go.RowKit

theorem fuseV_pick (a : Int) : -1 ≤ fuseV (pickV a 6) ∧ fuseV (pickV a 6) ≤ 1000000000000 := by
  obtain ⟨m, hm, hm2⟩ := pickV_at a 6 (by omega)
  rw [hm]; unfold fuseV; split <;> omega
theorem belowN {B : Nat} {a w : World} (h : Below B a w) (n : Nat) : Below B a (w.drewN n) := ⟨h.os, h.tape, h.output, h.size, h.block⟩
theorem bytes_ne {a b : ByteArray} (h : a ≠ b) : (a.toList == b.toList) = false := by
  rw [ByteArray.toList_eq, ByteArray.toList_eq, beq_eq_false_iff_ne]
  exact fun e => h (ByteArray.ext (Array.toList_inj.1 e))
theorem fuseV_off : fuseV (-1) = -1 := by decide
theorem crash_at {X : Nat → Prop} {wa w : World} {p : Nat} {o : Option (List Int)} {fr : List Int} {d : Dk} (hc : CrashOk o fr d) (h : SX X wa w p d) (keep torn : Int) :
    Calls Try.prog 19 #[.pointer (some ⟨p, 0, none⟩), .int .i64 keep, .int .i64 torn] w fun e w' => ∃ k : Nat, e = .returned (.int .i64 k) ∧ ∃ o' n', SX X wa w' p (sOn o' n' (-1) false) ∧ (o' = o ∨ o' = some fr) ∧ (n'.getD []).length ≤ fr.length := by
  refine (h.crash2 keep torn hc.1 (by have := hc.2.1; omega) (fun k => ?_)).mono ?_
  · obtain ⟨o', n', -, h2, -⟩ := hc.2.2 k torn
    rw [h2]; have := two_size o' n'; omega
  · rintro e w' ⟨k, -, -, he, hS⟩
    obtain ⟨o', n', h1, -, h3, h4⟩ := hc.2.2 k torn
    rw [h1] at hS
    exact ⟨k, he, o', n', hS, h3, h4⟩

set_option maxRecDepth 100000 in
set_option maxHeartbeats 4000000 in
theorem snkeeps_law (qa : Option Addr) (qlen qcap : Nat) (xs : List S6) (w : World) (hq : S6In w qa qlen xs) : Calls Try.prog 9 #[.slice qa qlen qcap] w fun e w' => e = .returned (.bool true) ∧ Below w.heap.size w w' := by
  obtain ⟨i0, hi0, hz0, hz1, hz2⟩ := info_parts infoB
  have HQ := Lib.hid hq
  have hxl : xs.length = qlen := hq.1
  clear hq
  go_enter Try.func9, Try.ntmps9
  go_wp2_with fail
  refine (new_ok 8388608 (by omega) (by omega) w).mono ?_
  rintro e w2 hN
  obtain ⟨p, rfl, S2⟩ := sx_new hN
  clear hN
  have H2 := Lib.hid S2
  clear S2
  go_wp2_with fail
  refine (snknown_any w2).mono ?_
  rintro e w3 ⟨rfl, hBk⟩
  have H3 := Lib.hid (H2.out.below hBk)
  clear H2 hBk
  go_wp2_with fail
  go_loopw [5, 6, 7] (fun s h i wr => ∃ (k : Nat) (oc : Option (List Int)), s = .string (strOfNums (oc.getD [])) ∧ h = .bool oc.isSome ∧ i = .int .i64 k ∧ k ≤ qlen ∧ k ≤ 40 ∧ (∀ y, oc = some y → y.length ≤ 300 ∧ ∀ x ∈ y, 0 ≤ x ∧ x < 256) ∧ SX (fun k => k < w.heap.size) w wr p (sOn (oc.map frameL) none (-1) false)) (fun _ _ i _ => 40 - (intOf i).toNat)
  case atStart => exact ⟨0, none, rfl, rfl, rfl, Nat.zero_le _, Nat.zero_le _, (by intro y hy; cases hy), H3.out⟩
  case round =>
    obtain ⟨k, oc, rfl, rfl, rfl, hk, hk40, hoc, hS⟩ := hrel
    have HS := Lib.hid hS
    have HOC := Lib.hid hoc
    have HB := Lib.hid (show Below w.heap.size w wr from Keep.below hS.2 (fun _ h => h) (Nat.le_refl _))
    clear hS H3 hoc
    by_cases hgo : k < qlen ∧ k < 40
    · as_aux_lemma =>
      obtain ⟨hlt, hlt4⟩ := hgo
      obtain ⟨x, hx⟩ : ∃ x, xs[k]? = some x := ⟨_, List.getElem?_eq_getElem (by omega)⟩
      obtain ⟨⟨bk, off, rfl, hbl, q0, q2, q3, q4, ab, cb, q1, hlc, hcm, hsrc⟩, hbytes⟩ := HQ.out.2 k x hx
      have cAt : ∀ (w' : World) (j : Nat) (v : Value), w.cell? ⟨bk, j, none⟩ = some v → Below w.heap.size w w' → w'.cell? ⟨bk, j, none⟩ = some v := fun w' j v h hB => (hB.cell (p := ⟨bk, j, none⟩) hbl).trans h
      obtain ⟨m, hm⟩ : ∃ m, m = min x.b.length 300 := ⟨_, rfl⟩
      have hm1 : m ≤ x.b.length := by omega
      have hm3 : m ≤ 300 := by omega
      have hmin : ∀ ts t w, (Builtin.min_ ts t #[.int .i64 x.b.length, .int .i64 300]).run Try.prog w = .ok (.int .i64 m) w := fun ts t w => by
        rw [Lib.run_min_ints, hm]
        congr 2; omega
      have hsl := fun w => run_slice_to (P := Try.prog) w 25 5 i0 Try.underlying25 hi0 ab x.b.length cb m (by omega) .i64
      have hsr := hsrc.take m hm1
      obtain ⟨b, hb⟩ : ∃ b, x.b.take m = b := ⟨_, rfl⟩
      have hbm : b.length = m := by rw [← hb, List.length_take]; omega
      have hby : ∀ z ∈ b, 0 ≤ z ∧ z < 256 := fun z hz => hbytes z (List.mem_of_mem_take (hb ▸ hz))
      rw [hb] at hsr
      have r1 := cAt wr _ _ q1 HB.out
      have r2 := cAt wr _ _ q2 HB.out
      have r3 := cAt wr _ _ q3 HB.out
      have r4 := cAt wr _ _ q4 HB.out
      have hax : x.b.length ≤ maxLen := by omega
      obtain ⟨n0, hn0⟩ : ∃ n0, x.b.length = n0 := ⟨_, rfl⟩
      rw [hn0] at hmin hsl r1
      have HSr := Lib.hid hsr
      have HBm := Lib.hid (And.intro hbm hby)
      have HQ2 := Lib.hid q2
      have HQ3 := Lib.hid q3
      have HQ4 := Lib.hid q4
      have HCat := Lib.hid cAt
      clear hm hn0 hb hsrc hbytes hsr hbm hby q0 q1 q2 q3 q4 HQ hx hax cAt
      go_wp2_with fail
      go_quiet (fail)
      have S0 := HS.out.below (belowN (Below.refl wr.heap.size wr) nq)
      obtain ⟨W, hW⟩ : ∃ W, wr.drewN nq = W := ⟨_, rfl⟩
      rw [hW] at S0 ⊢
      have hBW : Below w.heap.size w W := Keep.below S0.2 (fun _ h => h) (Nat.le_refl _)
      clear r1 r2 r3 r4 hsl hmin HS HB hW
      have r2 := HCat.out W _ _ HQ2.out hBW
      have r3 := HCat.out W _ _ HQ3.out hBW
      clear hBW
      by_cases h3 : x.hw.tmod 3 = 0
      case' pos =>
        have HFu := Lib.hid (S0.fuse2 (pickV x.ha 6))
        have HFv := Lib.hid (fuseV_pick x.ha)
        have HPk := Lib.hid (pick_any x.ha 6 (by omega) (by omega) W)
        clear S0
        generalize fuseV (pickV x.ha 6) = f at *
        generalize pickV x.ha 6 = pk at *
        go_wp2_with fail
        refine HPk.out.mono ?_
        rintro e w' ⟨rfl, rfl⟩
        go_wp2_with fail
        refine HFu.out.mono ?_
        rintro e w4 ⟨rfl, S4⟩
        clear HFu HPk r2 r3 h3
        go_wp2_with fail
      case' neg =>
        obtain ⟨f, hf⟩ : ∃ f : Int, f = -1 := ⟨_, rfl⟩
        have HFv := Lib.hid (show -1 ≤ f ∧ f ≤ 1000000000000 by omega)
        rw [← hf] at S0
        obtain ⟨w4, hw4⟩ : ∃ w4, W = w4 := ⟨_, rfl⟩
        rw [hw4] at S0 r2 r3 ⊢
        have H4 := Lib.hid S0
        clear S0 hf
        go_wp2_with fail
        have S4 := H4.out
        clear H4 r2 r3 h3
      all_goals
        as_aux_lemma =>
        have hB4 : Below w.heap.size w w4 := Keep.below S4.2 (fun _ h => h) (Nat.le_refl _)
        have hoL : ((oc.map frameL).getD []).length ≤ 4194100 := by
          cases oc with
          | none => simp
          | some y => have := (HOC.out y rfl).1; show (frameL y).length ≤ _; rw [frameL_len]; omega
        have hSv := save_any b S4 (HSr.out.below hB4) HBm.out.2 (by omega) hoL HFv.out.1 HFv.out.2
        have hsc := save_cases (oc.map frameL) (frameL b) f (by rw [frameL_len, HBm.out.1]; omega)
        clear hoL hB4 S4 HFv
        rcases hsc with ⟨f', hs⟩ | ⟨d, hs, hcr⟩
        · as_aux_lemma =>
          rw [hs] at hSv
          have HSv := Lib.hid hSv
          clear hSv hs
          refine HSv.out.mono ?_
          rintro e w5 ⟨rfl, S5⟩
          have hB5 : Below w.heap.size w w5 := Keep.below S5.2 (fun _ h => h) (Nat.le_refl _)
          have hc5 := conv_src (HSr.out.below hB5)
          have r3 := HCat.out w5 _ _ HQ3.out hB5
          have r4 := HCat.out w5 _ _ HQ4.out hB5
          clear HSv hB5
          by_cases hg : 0 < x.hb.tmod 3
          · as_aux_lemma =>
            have HFu := Lib.hid (S5.fuse2 (-1))
            rw [fuseV_off] at HFu
            clear S5 r3
            go_wp2_with fail
            refine HFu.out.mono ?_
            rintro e w6 ⟨rfl, S6⟩
            have H6 := Lib.hid S6
            clear S6 HFu r4 hc5
            go_wp2_with fail
            go_roundw
            case rel => exact ⟨k + 1, some b, rfl, rfl, by go_num, by omega, by omega, fun y hy => by cases hy; exact ⟨by rw [HBm.out.1]; omega, HBm.out.2⟩, H6.out⟩
            case measure => simp [intOf]; omega
          · as_aux_lemma =>
            have HCr := Lib.hid (crash_at (crash_on_ok (some (frameL b)) none (frameL b) f' false (Nat.zero_le _)) (S5.below (Below.refl _ w5).drew) x.ha x.hb)
            clear S5
            go_wp2_with fail
            go_still_tail 13, (by kernel_rfl)
            change wpList _ _ _ _ _ w5.drew
            generalize w5.drew = w5b at HCr ⊢
            clear r3 r4 hc5
            go_wp2_with fail
            refine HCr.out.mono ?_
            rintro e w6 ⟨kk, rfl, o', n', S6, ho, hn⟩
            have ho2 : o' = (some b).map frameL := by rcases ho with h | h <;> exact h
            subst ho2
            have HOp := Lib.hid (open_any (some b) n' S6 (fun y hy => by cases hy; exact ⟨by rw [HBm.out.1]; omega, HBm.out.2⟩) (by rw [frameL_len, HBm.out.1] at hn; omega))
            clear ho hn S6 HCr
            go_wp2_with fail
            refine HOp.out.mono ?_
            rintro e w7 ⟨hK7, Y, hXY, S7, a7, c7, rfl, hsrc7, -⟩
            have cA := conv_src hsrc7
            have cB := conv_src (HSr.out.below (Keep.below hK7 (fun _ h => h) (Nat.le_refl _)))
            rw [HBm.out.1] at cA ⊢
            have H7 := Lib.hid (show SX (fun k => k < w.heap.size) w w7 p (sOn ((some b).map frameL) none (-1) false) from ⟨S7.1.fewer hXY, hK7⟩)
            obtain ⟨T, hT⟩ : ∃ T, strOfNums b = T := ⟨_, rfl⟩
            rw [hT] at cA cB ⊢
            have HT := Lib.hid hT
            clear hK7 hXY S7 hsrc7 hT HOp
            go_wp2_with fail
            go_roundw
            case rel => exact ⟨k + 1, some b, by rw [← HT.out]; rfl, rfl, by go_num, by omega, by omega, fun y hy => by cases hy; exact ⟨by rw [HBm.out.1]; omega, HBm.out.2⟩, H7.out⟩
            case measure => simp [intOf]; omega
        · as_aux_lemma =>
          rw [hs] at hSv
          have HSv := Lib.hid hSv
          have HCK := Lib.hid hcr
          clear hSv hs hcr
          refine HSv.out.mono ?_
          rintro e w5 ⟨rfl, S5⟩
          have hB5 : Below w.heap.size w w5 := Keep.below S5.2 (fun _ h => h) (Nat.le_refl _)
          have r3 := HCat.out w5 _ _ HQ3.out hB5
          have r4 := HCat.out w5 _ _ HQ4.out hB5
          have HCr := Lib.hid (crash_at HCK.out (S5.below (Below.refl _ w5).drew) x.ha x.hb)
          clear S5 HSv hB5
          go_wp2_with fail
          go_still_tail 13, (by kernel_rfl)
          change wpList _ _ _ _ _ w5.drew
          generalize w5.drew = w5b at HCr ⊢
          clear r3 r4
          go_wp2_with fail
          refine HCr.out.mono ?_
          rintro e w6 ⟨kk, rfl, o', n', S6, ho, hn⟩
          obtain ⟨oc', rfl, hoc'⟩ := old_or_new ho
          have hoc2 : ∀ y, oc' = some y → y.length ≤ 300 ∧ ∀ x ∈ y, 0 ≤ x ∧ x < 256 := fun y hy => by
            rcases hoc' with h | h
            · exact HOC.out y (h ▸ hy)
            · rw [h] at hy; cases hy; exact ⟨by rw [HBm.out.1]; omega, HBm.out.2⟩
          have HOp := Lib.hid (open_any oc' n' S6 (fun y hy => ⟨by have := (hoc2 y hy).1; omega, (hoc2 y hy).2⟩) (by rw [frameL_len, HBm.out.1] at hn; omega))
          have HO2 := Lib.hid hoc2
          have HO := Lib.hid hoc'
          clear ho hn S6 HCr hoc2 hoc'
          go_wp2_with fail
          refine HOp.out.mono ?_
          rintro e w7 ⟨hK7, Y, hXY, S7, hm7⟩
          have cB := conv_src (HSr.out.below (Keep.below hK7 (fun _ h => h) (Nat.le_refl _)))
          have H7 := Lib.hid (show SX (fun k => k < w.heap.size) w w7 p (sOn (oc'.map frameL) none (-1) false) from ⟨S7.1.fewer hXY, hK7⟩)
          clear hK7 hXY S7 HOp
          rcases oc' with _ | y
          · as_aux_lemma =>
            have hoc0 : oc = none := by
              rcases HO.out with h | h
              · exact h.symm
              · cases h
            subst hoc0
            obtain rfl := hm7
            clear cB
            go_wp2_with fail
            go_roundw
            case rel => exact ⟨k + 1, none, rfl, rfl, by go_num, by omega, by omega, HO2.out, H7.out⟩
            case measure => simp [intOf]; omega
          · as_aux_lemma =>
            obtain ⟨a7, c7, rfl, hsrc7, -⟩ := hm7
            have cA := conv_src hsrc7
            clear hsrc7
            by_cases hyb : y = b
            · as_aux_lemma =>
              subst hyb
              rw [HBm.out.1] at cA ⊢
              obtain ⟨T, hT⟩ : ∃ T, strOfNums y = T := ⟨_, rfl⟩
              rw [hT] at cA cB
              have HT := Lib.hid hT
              clear hT
              go_wp2_with fail
              go_roundw
              case rel => exact ⟨k + 1, some y, by rw [← HT.out]; rfl, rfl, by go_num, by omega, by omega, HO2.out, H7.out⟩
              case measure => simp [intOf]; omega
            · as_aux_lemma =>
              have hoc0 : oc = some y := by
                rcases HO.out with h | h
                · exact h.symm
                · exact absurd (Option.some.inj h) hyb
              subst hoc0
              have hne : strOfNums y ≠ strOfNums b := fun h => hyb (strOfNums_inj (HO2.out y rfl).2 HBm.out.2 h)
              rw [Option.getD_some, Option.isSome_some]
              obtain ⟨T, hT⟩ : ∃ T, strOfNums y = T := ⟨_, rfl⟩
              rw [hT] at cA hne ⊢
              have HT := Lib.hid hT
              generalize strOfNums b = U at *
              have hne2 := bytes_ne hne
              clear hT hyb hne
              go_wp2_with fail
              go_roundw
              case rel => exact ⟨k + 1, some y, by rw [← HT.out]; rfl, rfl, by go_num, by omega, by omega, HO2.out, H7.out⟩
              case measure => simp [intOf]; omega
    · as_aux_lemma =>
      have hB := HB.out
      by_cases hl2 : k < qlen
      · have h40 : ¬ k < 40 := fun h => hgo ⟨hl2, h⟩
        go_wp2_with fail
        go_ret
        exact ⟨rfl, hB⟩
      · go_wp2_with fail
        go_ret
        exact ⟨rfl, hB⟩
end Go.Proofs.Ytpkmnfpbcakflaa
