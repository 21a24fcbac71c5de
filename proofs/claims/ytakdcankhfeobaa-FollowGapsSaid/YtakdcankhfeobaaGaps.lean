/- The walk of the law FollowGaps. No condition. -/
import Derived.Test.YtakdcankhfeobaaTexts
import Derived.Test.YtakdcankhfeobaaStepsF
import Derived.Test.YtakdcankhfeobaaGapsNext
import Derived.Test.YtakdcankhfeobaaSmall
import Derived.Test.YtakdcankhfeobaaRef1
import Derived.Deep.DeepCutAuto
import Derived.Deep.CutBlock
import Derived.Deep.QuietTactic
import Derived.BigQuiet
import Derived.RegionTactic
import Derived.BigRegion
namespace Go.Proofs.Ytakdcankhfeobaa
open Go.ChangeShapes Go.WideShapes Go.ChangeAt Go.RowKit

theorem appendM_latest (gs : List Gn) (l : Int) (bs : List Int) : l ≤ (appendM gs l bs).2.2 := by
  unfold appendM
  split
  · split
    · split <;> exact Int.le_refl _
    · exact Int.le_refl _
  · split
    · exact Int.le_refl _
    · split
      · exact Int.le_refl _
      · simp only; omega
theorem GInv.top {C l lst : Int} {gs : List Gn} {hv : Int → List Int} {told : Nat → List Int} {id p : Nat} (h : GInv C gs l lst hv told id p) {n : Int} (h0 : 0 ≤ n) (h1 : n ≤ l) : GInv C gs l n hv told id p :=
  ⟨⟨h.fam.good, h.fam.ids, h.fam.sufs, h.fam.idl, h.fam.zero, h.fam.keeps, h.fam.fresh, ⟨h0, h1⟩⟩, h.idl, h.z0, h.ahead, h.pre, h.here, h.small⟩
theorem lrow_last (gs : List Gn) (q : Nat) (y : Gn) (hq : gs.length = q + 1) (hy : gs.getLast? = some y) : gs[q]? = some y := by
  rw [List.getLast?_eq_getElem?, hq] at hy; simpa using hy
theorem zero61 (w : World) : (zeroValue 61).run Try.prog w = .ok (.agg (noTexts 100)) w := by kernel_rfl
def XG (w : World) (h1 h2 : Nat) (k : Nat) : Prop := k < w.heap.size ∨ k = h1 ∨ k = h2
theorem pickf_any (n k : Int) (hk0 : 1 ≤ k) (hk : k ≤ 1000000) (w : World) :
    Calls Try.prog 21 #[.int .i64 n, .int .i64 k] w fun e w' => (∃ m : Nat, e = .returned (.int .i64 m) ∧ (m : Int) < k) ∧ w = w' := by
  have b1 : -k < n.tmod k := by
    have := Int.lt_tmod_of_pos n (show 0 < k by omega); omega
  have b2 : n.tmod k < k := Int.tmod_lt_of_pos n (by omega)
  have hd : (k == 0) = false := by simp; omega
  by_cases hlt : n.tmod k < 0
  · go_enter Try.func21, Try.ntmps21
    go_wp2
    go_ret
    exact ⟨⟨(n.tmod k + k).toNat, by rw [Int.toNat_of_nonneg (by omega)]; rfl, by omega⟩, rfl⟩
  · go_enter Try.func21, Try.ntmps21
    go_wp2
    go_ret
    exact ⟨⟨(n.tmod k).toNat, by rw [Int.toNat_of_nonneg (by omega)]; rfl, by omega⟩, rfl⟩

set_option maxRecDepth 100000 in
set_option maxHeartbeats 8000000 in
theorem gaps_any (a : Option Addr) (len cap : Nat) (xs : List Sf) (pa : Option Addr) (plen pcap : Nat) (zs : List Int) (w : World) (hlen : len ≤ maxLen) (hS : SfIn w a len xs) (_hplen : plen ≤ maxLen) (hZ : NumsIn w pa plen zs) :
    Calls Try.prog 8 #[.slice a len cap, .slice pa plen pcap] w fun e w' => e = .returned (.bool true) ∧ Below w.heap.size w w' := by
  have hz := zero61
  have hst := fun w => run_store_whole (P := Try.prog) w (noTexts 100) 61 (noTexts_one 100)
  unfold maxLen at hlen
  go_enter Try.func8, Try.ntmps8
  go_wp2_with fail
  refine (new_any _).mono ?_
  rintro e w1 ⟨p, rfl, hA1, hp, hB1⟩
  have F1 := FamOwn.new w w1 p hA1 hp hB1
  clear hA1 hp
  go_wp2_with fail
  refine (known24 _).mono ?_
  rintro e w2 ⟨rfl, hB2⟩
  have F2 := F1.below hB2
  have hB := hB1.trans (hB2.mono hB1.size)
  clear F1 hB1 hB2
  go_wp2_with fail
  have A1 := (Below.refl w2.heap.size w2).alloc (Nat.le_refl _) (.cells (noTexts 100) 61)
  have A2 := A1.alloc (by simp) (.cells (noTexts 100) 61)
  have F3 : FamOwn 64 67 (XG w w2.heap.size (w2.heap.size + 1)) ((w2.alloc (.cells (noTexts 100) 61)).alloc (.cells (noTexts 100) 61)) p [] 0 := (F2.more A2).fewer (by
    rintro k (hk | rfl | rfl)
    · exact .inl hk
    · exact .inr ⟨Nat.le_refl _, by simp; omega⟩
    · exact .inr ⟨by omega, by simp⟩)
  have T1 : TextsAt 61 100 ((w2.alloc (.cells (noTexts 100) 61)).alloc (.cells (noTexts 100) 61)) w2.heap.size (fun _ => []) := (TextsAt.new 61 100 w2).below ((Below.refl _ _).alloc (Nat.le_refl _) _)
  have T2 : TextsAt 61 100 ((w2.alloc (.cells (noTexts 100) 61)).alloc (.cells (noTexts 100) 61)) (w2.heap.size + 1) (fun _ => []) := by
    have := TextsAt.new 61 100 (w2.alloc (.cells (noTexts 100) 61))
    simpa using this
  have hB3 := hB.trans (A2.mono hB.size)
  have hh : w.heap.size ≤ w2.heap.size := hB.size
  have hg : w.heap.size ≤ w2.heap.size + 1 := by omega
  have hne : w2.heap.size ≠ w2.heap.size + 1 := by omega
  clear F2 hB A1 A2
  generalize (w2.alloc (.cells (noTexts 100) 61)).alloc (.cells (noTexts 100) 61) = w3 at *
  generalize w2.heap.size + 1 = g2 at *
  generalize w2.heap.size = g1 at *
  have HNE := Lib.hid hne
  clear hne
  go_loopw [8, 9, 10] (fun at_ la i wr => ∃ (k : Nat) (gs : List Gn) (l lst : Int) (hv : Int → List Int) (told : Nat → List Int) (id pl : Nat), at_ = .complex .f64 (fl id) (fl pl) ∧ la = .int .u64 lst ∧ i = .int .i64 k ∧ k ≤ len ∧ k ≤ 60 ∧ GInv k gs l lst hv told id pl ∧ FamOwn 64 67 (XG w g1 g2) wr p gs l ∧ TextsAt 61 100 wr g1 (fun j => hv j) ∧ TextsAt 61 100 wr g2 told ∧ Below w.heap.size w wr) (fun _ _ i _ => len - (intOf i).toNat)
  case atStart => exact ⟨0, [], 0, 0, _, _, 0, 0, by rw [fl_zero], rfl, rfl, by omega, by omega, GInv.new, F3, T1, T2, hB3⟩
  case round =>
    obtain ⟨k, gs, l, lst, hv, told, id, pl, rfl, rfl, rfl, hk, hk2, hI, hF, hT1, hT2, hB⟩ := hrel
    clear F3 T1 T2 hB3 hz hst
    by_cases hlt : k < len
    · by_cases hlt2 : k < 60
      · obtain ⟨x, hx⟩ : ∃ x, xs[k]? = some x := ⟨_, List.getElem?_eq_getElem (by rw [hS.1]; exact hlt)⟩
        have hs := hS.2 k x hx
        obtain ⟨bk, off, rfl, c0, c1, ab, cb, c2, hcb, hcm, hsrc⟩ := hs.ex
        obtain ⟨i0, hi0, hz0, hz1, hz2⟩ := info_parts info5
        have d2 := (hB.cell (p := ⟨bk, off + k * 3 + 2, none⟩) (block_lt_of_cell c2)).trans c2
        have hmn := run_minI
        have hr : minI (x.b.length : Int) 40 = ((min x.b.length 40 : Nat) : Int) := minI_nat x.b.length 40
        have hsl := fun w => run_slice_to (P := Try.prog) w 27 5 i0 Try.underlying27 hi0 ab x.b.length cb (min x.b.length 40) (by omega) .i64
        have hsrc0 := hsrc.take (min x.b.length 40) (Nat.min_le_left _ _)
        have hbs : ∀ n ∈ x.b.take (min x.b.length 40), 0 ≤ n ∧ n < 256 := fun n hn => hs.bytes n (List.mem_of_mem_take hn)
        have hr40 : min x.b.length 40 ≤ 40 := Nat.min_le_right _ _
        have hrl : (x.b.take (min x.b.length 40)).length = min x.b.length 40 := by simp
        generalize min x.b.length 40 = r at *
        generalize x.b.take r = bs at *
        have HS := Lib.hid hs
        have HRL := Lib.hid hrl
        have ik0 : (0 : Int) ≤ (k : Int) := by omega
        have ik1 : (k : Int) < (len : Int) := by omega
        clear hx hs hrl hsrc
        go_wp2_with fail
        go_quiet (fail)
        have hBq := below_drewN hB nq
        have hFq : FamOwn 64 67 (XG w g1 g2) (wr.drewN nq) p gs l := hF.below (below_drewN (Below.refl _ _) nq)
        have hT1q : TextsAt 61 100 (wr.drewN nq) g1 (fun j => hv j) := hT1.below (below_drewN (Below.refl _ _) nq)
        have hT2q : TextsAt 61 100 (wr.drewN nq) g2 told := hT2.below (below_drewN (Below.refl _ _) nq)
        clear hB hF hT1 hT2 d2 hsl hmn hr
        generalize wr.drewN nq = w4 at *
        have d0 := (hBq.cell (p := ⟨bk, off + k * 3, none⟩) (block_lt_of_cell c0)).trans c0
        go_wp2_with fail
        refine (pickf_any _ _ (by omega) (by omega) _).mono ?_
        rintro e w5 ⟨⟨m, rfl, hm⟩, rfl⟩
        go_upto_block 2 with fail
        go_cut [9] (fun la wx => ∃ (gs' : List Gn) (l' lst' : Int) (hv' : Int → List Int), la = .int .u64 lst' ∧ GInv (k + 1) gs' l' lst' hv' told id pl ∧ FamOwn 64 67 (XG w g1 g2) wx p gs' l' ∧ TextsAt 61 100 wx g1 (fun j => hv' j) ∧ TextsAt 61 100 wx g2 told ∧ Below w.heap.size w wx)
        case first =>
          as_aux_lemma =>
          have hX : ∀ (w5 : World), Keep (XG w g1 g2) w4 w5 → TextsAt 61 100 w5 g1 (fun j => hv j) ∧ TextsAt 61 100 w5 g2 told ∧ Below w.heap.size w w5 := fun w5 hK =>
            ⟨hT1q.keep hK (.inr (.inl rfl)), hT2q.keep hK (.inr (.inr rfl)), hBq.trans (hK.below (B := w.heap.size) (fun _ h => .inl h) hBq.size)⟩
          by_cases h4 : m = 5 ∨ m = 6
          · rcases h4 with rfl | rfl <;>
            · go_wp2_with fail
              refine (rename_own _ p _ _ k _ hFq hI.fam.good (by omega)).mono ?_
              rintro e w5 ⟨rfl, F5, hK5⟩
              obtain ⟨T15, T25, B5⟩ := hX w5 hK5
              go_wp2_with fail
              go_meet
              exact ⟨_, _, _, _, rfl, hI.fam' hI.fam.rename (Int.le_refl _), F5, T15, T25, B5⟩
          · by_cases h7 : m = 7
            · subst h7
              go_wp2_with fail
              refine (create_own _ p _ _ k _ hFq hI.fam.good (by omega)).mono ?_
              rintro e w5 ⟨rfl, F5, hK5⟩
              obtain ⟨T15, T25, B5⟩ := hX w5 hK5
              go_wp2_with fail
              go_meet
              refine ⟨_, _, _, _, rfl, hI.fam' (hI.fam.create (by omega)) ?_, F5, T15, T25, B5⟩
              unfold createM; split
              · exact Int.le_refl _
              · split
                · exact Int.le_refl _
                · simp only; omega
            · by_cases h8 : m = 8 ∨ m = 9
              · have d1 := (hBq.cell (p := ⟨bk, off + k * 3 + 1, none⟩) (block_lt_of_cell c1)).trans c1
                rcases h8 with rfl | rfl <;>
                · go_wp2_with fail
                  refine (pickf_any _ _ (by omega) (by omega) _).mono ?_
                  rintro e w5 ⟨⟨m2, rfl, hm2⟩, rfl⟩
                  go_wp2_with fail
                  refine (remove_own _ p _ _ k _ _ hFq hI.fam.good).mono ?_
                  rintro e w5 ⟨rfl, F5, hK5⟩
                  obtain ⟨T15, T25, B5⟩ := hX w5 hK5
                  go_wp2_with fail
                  go_meet
                  exact ⟨_, _, _, _, rfl, hI.fam' (hI.fam.remove _) (Int.le_refl _), F5, T15, T25, B5⟩
              · as_aux_lemma =>
                have t5 : ((m : Int) == 5) = false := by simp; omega
                have t6 : ((m : Int) == 6) = false := by simp; omega
                have t7 : ((m : Int) == 7) = false := by simp; omega
                have t8 : ((m : Int) == 8) = false := by simp; omega
                have t9 : ((m : Int) == 9) = false := by simp; omega
                have hmx : ∀ ts t w (a b : Int), (Builtin.max_ ts t #[.int .u64 a, .int .u64 b]).run Try.prog w = .ok (.int .u64 (maxI a b)) w := fun ts t w a b => run_max_int2 w ts t .u64 .u64 a b
                have hy : 0 < r → ∀ k, (Value.slice ab r cb).ownBlock = some k → XG w g1 g2 k := fun hr0 k hk => .inl (hsrc0.lt hr0 k hk)
                have hsrc4 := hsrc0.below hBq
                have hrl : r ≤ 140737488355328 := by omega
                clear h4 h7 h8 c0 c1 c2 d0
                go_wp2_with fail
                refine (append_own _ p _ _ k _ hFq hI.fam.good (by omega) ab r cb _ hsrc4 hy hbs hrl).mono ?_
                rintro e w5 ⟨rfl, F5, hK5⟩
                obtain ⟨T15, T25, B5⟩ := hX w5 hK5
                have hsrc5 := hsrc0.below B5
                have hlat := appendM_latest gs l bs
                clear hK5 hX hsrc4 hy hFq hT1q hT2q hBq hsrc0
                by_cases hok : (appendM gs l bs).1 = 0
                · obtain ⟨y, hy1, hy2, hy3, hI5⟩ := hI.fam.append (by omega) _ hok
                  have hG5 := hI.append y.id bs hy3 hI5 hlat
                  have tk : ((appendM gs l bs).1 == 0) = true := by simp [hok]
                  generalize hgs : (appendM gs l bs).2.1 = gs5 at *
                  generalize hls : (appendM gs l bs).2.2 = l5 at *
                  generalize (appendM gs l bs).1 = code at *
                  clear hgs hls hok hI
                  go_wp2_with fail
                  refine (list_own _ p _ _ _ _ F5 hI5.good).mono ?_
                  rintro e w6 ⟨vl, rfl, Rl, hfr, hB6⟩
                  have F6 := F5.below hB6
                  have T16 := T15.below hB6
                  have T26 := T25.below hB6
                  have B6 := B5.trans (hB6.mono B5.size)
                  have hsrc6 := hsrc5.below hB6
                  clear F5 T15 T25 B5 hsrc5 hfr
                  obtain ⟨q, hq⟩ : ∃ q, gs5.length = q + 1 := by
                    cases gs5 with
                    | nil => simp at hy1
                    | cons a b => exact ⟨b.length, rfl⟩
                  have hyq := lrow_last gs5 q y hq hy1
                  have hym := List.mem_of_getElem? hyq
                  obtain ⟨idn, hidn⟩ : ∃ n : Nat, y.id = n := ⟨y.id.toNat, by omega⟩
                  have hidl := (hI5.idl y hym).2
                  have hid100 : idn < 100 := by have h2 := hI5.good.latest.2; omega
                  obtain ⟨f0, f1⟩ := T16.cell hid100
                  obtain ⟨al, cl, rfl, -⟩ := Rl.form
                  rw [hq] at Rl
                  obtain ⟨gl, rfl, -, hlc, -⟩ := Rl.view (by omega)
                  have hl0 := (hlc (q * 3) (by omega)).trans (lrow_at gs5 q y hyq).1
                  rw [hidn] at hl0
                  have hconv : ∀ n, (convert 27 9 (.slice ab r cb)).run Try.prog (w6.drewN n) = .ok (.string (strOfNums bs)) (w6.drewN n) := fun n => run_string_src (P := Try.prog) (hsrc6.below (below_drewN (Below.refl _ _) n)) 27 5 9 Try.underlying27 Try.underlying5 Try.underlying9
                  have hconv1 : (convert 27 9 (.slice ab r cb)).run Try.prog w6.drew = .ok (.string (strOfNums bs)) w6.drew := hconv 1
                  have hlen65 : (hv idn).length + bs.length ≤ 65536 := by
                    have h1 := hI5.keeps y hym
                    rw [hidn] at h1
                    simp only [if_pos] at h1
                    have h2 := (hI5.good.each y hym).1
                    rw [← h1, List.length_append] at h2; exact h2
                  have hadd : ∀ w, (Op.stringOp .add (strOfNums (hv idn)) (strOfNums bs)).run Try.prog w = .ok (.string (strOfNums (hv idn ++ bs))) w := fun w => by
                    rw [str_append]; exact run_string_add_sum w _ _ (by rw [strOfNums_size, strOfNums_size]; omega)
                  have hq12 : q ≤ 12 := by have := hI5.good.len; omega
                  have HG5 := Lib.hid hG5
                  have HID := Lib.hid hidn
                  have HT1 := Lib.hid T16
                  have HT2 := Lib.hid T26
                  have HL : Hid ((idn : Int) ≤ l5) := by rw [← hidn]; exact hidl
                  have HLL := Lib.hid hG5.fam.last
                  rw [hq]
                  have i0 : (0 : Int) ≤ (idn : Int) := by omega
                  have i1 : (idn : Int) < 100 := by omega
                  clear hlc hconv hlen65 hI5 hG5 hy1 hyq hq hidn hy2 T16 T26 hidl
                  go_wp2_with fail
                  go_region
                  all_goals
                    go_wp2_with fail
                    go_meet
                    refine ⟨gs5, l5, maxI lst idn, _, rfl, HG5.out.top ?_ ?_, (F6.cell (.inr (.inl rfl)) idn (.string (strOfNums (hv idn ++ bs)))).below (below_drewN (Below.refl _ _) _), (HT1.out.set hid100 (hv idn ++ bs) ?_).below (below_drewN (Below.refl _ _) _), (HT2.out.other HNE.out.symm idn _).below (below_drewN (Below.refl _ _) _), below_drewN (B6.setCell (p := ⟨g1, idn, none⟩) hh _) _⟩
                    · have := HLL.out; unfold maxI; split <;> omega
                    · have := HLL.out; have := HL.out; unfold maxI; split <;> omega
                    · intro i
                      rw [HID.out]
                      by_cases e : i = idn
                      · subst e; rw [if_pos rfl, if_pos rfl]
                      · rw [if_neg (by omega), if_neg e]
                · have tk : ((appendM gs l bs).1 == 0) = false := by simp [hok]
                  go_wp2_with fail
                  go_meet
                  exact ⟨_, _, _, _, rfl, hI.fam' (hI.fam.append_no _ hok) hlat, F5, T15, T25, B5⟩
        case rest =>
          as_aux_lemma =>
          obtain ⟨gs5, l5, lst5, hv5, rfl, hI5, hF5, hT15, hT25, hB5⟩ := hcut
          clear hI hFq hT1q hT2q hBq hsrc0 c0 c1 c2 d0
          by_cases hpl : k < plen
          · obtain ⟨z, hzk⟩ : ∃ z, zs[k]? = some z := ⟨_, List.getElem?_eq_getElem (by rw [hZ.1]; exact hpl)⟩
            obtain ⟨bp, offp, rfl, cz⟩ := hZ.2 k z hzk
            have dz := (hB5.cell (p := ⟨bp, offp + k, none⟩) (block_lt_of_cell cz)).trans cz
            have hl60 : l5 ≤ 1000 := by have := hI5.fam.good.latest; omega
            have hidp : id ≤ 1099511627776 ∧ pl ≤ 1099511627776 := by have := hI5.idl; have := hI5.small; omega
            have HI5 := Lib.hid hI5
            clear hzk hI5
            go_wp2_with fail
            refine (pickf_any _ _ (by omega) (by omega) _).mono ?_
            rintro e w5 ⟨⟨m2, rfl, hm2⟩, rfl⟩
            go_wp2_with fail
            refine (next_gaps _ p gs5 l5 lst5 _ _ hF5 (by omega) hv5 told id pl HI5.out m2).mono ?_
            rintro e w6 ⟨a6, n6, c6, x6, id2, p2, gap, rfl, hx6, hsrc6, hB6, hid2, hid2l, hgap, hplace, hsz, hI6⟩
            have F6 := hF5.below hB6
            have T16 := hT15.below hB6
            have T26 := hT25.below hB6
            have B6 := hB5.trans (hB6.mono hB5.size)
            have hid2b : id2 < 100 := by have := HI5.out.fam.good.latest; omega
            have hp2 := hI6.small
            have hgood := hI6.fam.good
            have HGap := Lib.hid hgap
            have HPl := Lib.hid hplace
            have HI6 := Lib.hid hI6
            have HX6 := Lib.hid hx6
            clear hF5 hT15 hT25 hB5 dz cz hgap hplace hI6 hx6 hB6
            go_wp2_with fail
            refine (rparts_yes _ _ hidp.1 hidp.2 _).mono ?_
            rintro e w7 ⟨rfl, rfl⟩
            go_wp2_with fail
            refine (rparts_yes id2 p2 (by omega) (by omega) _).mono ?_
            rintro e w7 ⟨rfl, rfl⟩
            go_wp2_with fail
            refine (list_own _ p _ _ _ _ F6 hgood).mono ?_
            rintro e w7 ⟨vl, rfl, Rl, hfr, hB7⟩
            have F7 := F6.below hB7
            have T17 := T16.below hB7
            have T27 := T26.below hB7
            have B7 := B6.trans (hB7.mono B6.size)
            have hsrc7 := hsrc6.below hB7
            obtain ⟨al, cl, rfl, -, hn5, -⟩ := Rl.form
            unfold maxLen at hn5
            clear F6 T16 T26 B6 hsrc6 hB7 hfr
            go_wp2_with fail
            go_loop [21, 23] (fun th i => ∃ (j : Nat) (b : Bool), i = .int .i64 j ∧ th = .bool b ∧ j ≤ gs5.length ∧ b = (gs5.take j).any (fun g => decide (g.id = id))) (fun _ i => gs5.length - (intOf i).toNat)
            case atStart => exact ⟨0, false, rfl, rfl, Nat.zero_le _, rfl⟩
            case round =>
              obtain ⟨j, b, rfl, rfl, hj, hb⟩ := hrel
              have HBj := Lib.hid hb
              clear hb
              by_cases hjl : j < gs5.length
              · obtain ⟨y, hy⟩ : ∃ y, gs5[j]? = some y := ⟨_, List.getElem?_eq_getElem hjl⟩
                have hye : gs5[j] = y := (List.getElem?_eq_some_iff.1 hy).2
                obtain ⟨gl, rfl, -, hlc, -⟩ := Rl.view (by omega)
                have l0 := (hlc (j * 3) (by omega)).trans (lrow_at gs5 j y hy).1
                obtain ⟨yn, hyn⟩ : ∃ n : Nat, y.id = n := ⟨y.id.toNat, by have := HI6.out.fam.idl y (List.mem_of_getElem? hy); omega⟩
                rw [hyn] at l0
                have hnext : (gs5.take (j + 1)).any (fun g => decide (g.id = id)) = (b || ((yn : Int) == (id : Int))) := by
                  rw [HBj.out, List.take_succ_eq_append_getElem hjl, hye, List.any_append]
                  congr 1
                  show (decide (y.id = id) || false) = _
                  rw [hyn, Bool.or_false, Bool.eq_iff_iff]; simp
                have HN := Lib.hid hnext
                have ij0 : (0 : Int) ≤ (j : Int) := by omega
                have ij1 : (j : Int) < (gs5.length : Int) := by omega
                clear hlc hy hyn hnext hye
                cases b with
                | true =>
                  go_wp2_with fail
                  go_round
                  case rel => exact ⟨j + 1, true, by go_num, rfl, by omega, by rw [HN.out]; rfl⟩
                  case measure => simp [intOf]; omega
                | false =>
                  go_wp2_with fail
                  go_round
                  case rel => exact ⟨j + 1, _, by go_num, rfl, by omega, by rw [HN.out]; rfl⟩
                  case measure => simp [intOf]; omega
              · have hjn : j = gs5.length := by omega
                subst hjn
                rw [List.take_length] at HBj
                have h3 : ¬ id2 < id := by omega
                go_upto_region 40 with fail
                go_cut [178] (fun s wx => s = .bool false ∧ wx = w7)
                case first =>
                  as_aux_lemma =>
                  by_cases e1 : 0 < id
                  · by_cases e3 : id < id2
                    · rw [decide_eq_true e1, decide_eq_true e3, ← HBj.out] at HGap
                      cases b with
                      | true =>
                        obtain rfl : gap = false := HGap.out
                        go_wp2_with fail
                        go_meet
                        exact ⟨congrArg Value.bool (decide_eq_false (by omega)), rfl⟩
                      | false =>
                        obtain rfl : gap = true := HGap.out
                        go_wp2_with fail
                        go_meet
                        exact ⟨congrArg Value.bool (decide_eq_false (by omega)), rfl⟩
                    · rw [decide_eq_false e3, Bool.and_false] at HGap
                      obtain rfl : gap = false := HGap.out
                      cases b with
                      | true =>
                        go_wp2_with fail
                        go_meet
                        exact ⟨congrArg Value.bool (decide_eq_false (by omega)), rfl⟩
                      | false =>
                        go_wp2_with fail
                        go_meet
                        exact ⟨congrArg Value.bool (decide_eq_false (by omega)), rfl⟩
                  · rw [decide_eq_false e1, Bool.false_and, Bool.false_and] at HGap
                    obtain rfl : gap = false := HGap.out
                    go_wp2_with fail
                    go_meet
                    exact ⟨congrArg Value.bool (decide_eq_false (by omega)), rfl⟩
                case rest =>
                  as_aux_lemma =>
                  obtain ⟨rfl, rfl⟩ := hcut
                  have hsz2 : (told id2).length + x6.length ≤ 65536 := by rw [HX6.out]; exact hsz
                  have hplb : ∀ n : Nat, n6 = n → 0 < n → ((strOfNums (told id2 ++ x6)).size : Int) = (p2 : Int) := fun n e h0 => by
                    rw [strOfNums_size, HPl.out (by omega)]
                  obtain ⟨f0, f1⟩ := T27.cell hid2b
                  have hconv : ∀ n, (convert 27 9 (.slice a6 n6 c6)).run Try.prog (wc.drewN n) = .ok (.string (strOfNums x6)) (wc.drewN n) := fun n => run_string_src (P := Try.prog) (hsrc7.below (below_drewN (Below.refl _ _) n)) 27 5 9 Try.underlying27 Try.underlying5 Try.underlying9
                  have hconv1 : (convert 27 9 (.slice a6 n6 c6)).run Try.prog wc.drew = .ok (.string (strOfNums x6)) wc.drew := hconv 1
                  have hadd : ∀ w, (Op.stringOp .add (strOfNums (told id2)) (strOfNums x6)).run Try.prog w = .ok (.string (strOfNums (told id2 ++ x6))) w := fun w => by
                    rw [str_append]; exact run_string_add_sum w _ _ (by rw [strOfNums_size, strOfNums_size]; omega)
                  have hsl : (strOfNums (told id2 ++ x6)).size ≤ 65536 := by rw [strOfNums_size, List.length_append]; exact hsz2
                  have HF7 := Lib.hid F7
                  have HT17 := Lib.hid T17
                  have HT27 := Lib.hid T27
                  have HB7 := Lib.hid B7
                  have HPB := Lib.hid hplb
                  have i0 : (0 : Int) ≤ (id2 : Int) := by omega
                  have i1 : (id2 : Int) < 100 := by omega
                  have hend : ∀ n, FamOwn 64 67 (XG w g1 g2) ((wc.setCell ⟨g2, id2, none⟩ (.string (strOfNums (told id2 ++ x6)))).drewN n) p gs5 l5 ∧ TextsAt 61 100 ((wc.setCell ⟨g2, id2, none⟩ (.string (strOfNums (told id2 ++ x6)))).drewN n) g1 (fun j => hv5 j) ∧
                      TextsAt 61 100 ((wc.setCell ⟨g2, id2, none⟩ (.string (strOfNums (told id2 ++ x6)))).drewN n) g2 (fun k => if k = id2 then told k ++ x6 else told k) ∧ Below w.heap.size w ((wc.setCell ⟨g2, id2, none⟩ (.string (strOfNums (told id2 ++ x6)))).drewN n) := fun n =>
                    ⟨(HF7.out.cell (.inr (.inr rfl)) id2 _).below (below_drewN (Below.refl _ _) n), (HT17.out.other HNE.out id2 _).below (below_drewN (Below.refl _ _) n), (HT27.out.set hid2b _ (fun i => by
                      by_cases e : i = id2
                      · subst e; simp
                      · simp [e])).below (below_drewN (Below.refl _ _) n), below_drewN (HB7.out.setCell (p := ⟨g2, id2, none⟩) hg _) n⟩
                  have HEnd := Lib.hid hend
                  clear hconv hend F7 T17 T27 B7 hplb Rl hsrc7 HX6 HPl hsz hsz2
                  by_cases h0 : n6 = 0
                  · subst h0
                    go_wp2_with fail
                    go_region
                    all_goals
                      go_wp2_with fail
                      go_roundw
                      case rel =>
                        obtain ⟨E1, E2, E3, E4⟩ := HEnd.out _
                        exact ⟨k + 1, gs5, l5, lst5, hv5, _, id2, p2, rfl, rfl, by go_num, by omega, by omega, HI6.out, E1, E2, E3, E4⟩
                      case measure => simp [intOf]; omega
                  · have hn0 : 0 < n6 := by omega
                    have hs2 := HPB.out _ rfl hn0
                    clear h0
                    go_wp2_with fail
                    go_region
                    all_goals
                      go_wp2_with fail
                      go_roundw
                      case rel =>
                        obtain ⟨E1, E2, E3, E4⟩ := HEnd.out _
                        exact ⟨k + 1, gs5, l5, lst5, hv5, _, id2, p2, rfl, rfl, by go_num, by omega, by omega, HI6.out, E1, E2, E3, E4⟩
                      case measure => simp [intOf]; omega
          · go_wp2_with fail
            go_roundw
            case rel => exact ⟨k + 1, gs5, l5, lst5, hv5, told, id, pl, rfl, rfl, by go_num, by omega, by omega, hI5, hF5, hT15, hT25, hB5⟩
            case measure => simp [intOf]; omega
      · have hidp : id ≤ 1099511627776 ∧ pl ≤ 1099511627776 := by have := hI.idl; have := hI.small; have := hI.fam.good.latest; omega
        have hlst : 0 ≤ lst ∧ lst ≤ 60 := by have := hI.fam.last; have := hI.fam.good.latest; omega
        have HI := Lib.hid hI
        have HF := Lib.hid hF
        clear hI hF
        go_wp2_with fail
        refine (rparts_yes _ _ hidp.1 hidp.2 _).mono ?_
        rintro e w7 ⟨rfl, rfl⟩
        go_wp2_with fail
        obtain ⟨wo, rfl⟩ : ∃ wo : World, wo = wr := ⟨_, rfl⟩
        go_loopw [26, 27] (fun i _ w8 => ∃ j : Nat, i = .int .u64 j ∧ 1 ≤ j ∧ (j : Int) ≤ lst + 1 ∧ Below wo.heap.size wo w8) (fun i _ _ => 1000 - (intOf i).toNat)
        case atStart => exact ⟨1, rfl, by omega, by omega, Below.refl _ _⟩
        case round =>
          obtain ⟨j, rfl, hj1, hj2, hB8⟩ := hrel
          by_cases hjl : (j : Int) ≤ lst
          · obtain ⟨f1, -⟩ := (hT1.below hB8).cell (show j < 100 by omega)
            obtain ⟨f2, -⟩ := (hT2.below hB8).cell (show j < 100 by omega)
            have hpre := HI.out.pre j
            have hle : (strOfNums (told j)).size ≤ (strOfNums (hv j)).size := by
              have := congrArg List.length hpre
              rw [List.length_take] at this
              rw [strOfNums_size, strOfNums_size]; omega
            have hex : (strOfNums (hv j)).extract 0 (strOfNums (told j)).size = strOfNums (told j) := by
              rw [strOfNums_take, strOfNums_size, ← hpre]
            have hzero : id < j → (strOfNums (told j)).size = 0 := fun h => by rw [HI.out.ahead j h]; rfl
            have hsl : ∀ w, (Instr.slice 9 (.string (strOfNums (hv j))) none (some (.int .i64 (((strOfNums (told j)).size : Nat) : Int))) none).run Try.prog w = .ok (.string (strOfNums (told j))) w := fun w => by
              rw [run_slice_string_h w 9 _ Try.underlying9 .i64 _ (by omega) (by omega), Int.toNat_natCast, hex]
            have hjb : j ≤ 60 := by omega
            generalize strOfNums (hv j) = S1 at *
            generalize strOfNums (told j) = S2 at *
            have t1 : decide (S1.size < S2.size) = false := by simp; omega
            have t2 : (!(S2.toList == S2.toList)) = false := by simp
            have i0 : (0 : Int) ≤ (j : Int) := by omega
            have i1 : (j : Int) < 100 := by omega
            clear hpre hex hle
            by_cases hji : id < j
            · have t3 : decide (id < j) = true := by simp; omega
              have t4 : decide (0 < S2.size) = false := by rw [hzero hji]; rfl
              clear hzero
              go_wp2_with fail
              go_quiet (fail)
              go_wp2_with fail
              go_roundw
              case rel => exact ⟨j + 1, by go_num, by omega, by omega, below_drewN hB8 _⟩
              case measure => simp [intOf]; omega
            · have t3 : decide (id < j) = false := by simp; omega
              clear hzero
              go_wp2_with fail
              go_quiet (fail)
              go_wp2_with fail
              go_roundw
              case rel => exact ⟨j + 1, by go_num, by omega, by omega, below_drewN hB8 _⟩
              case measure => simp [intOf]; omega
          · have B9 := hB.trans (hB8.mono hB.size)
            go_wp2_with fail
            go_ret
            exact ⟨rfl, B9⟩
    · have hidp : id ≤ 1099511627776 ∧ pl ≤ 1099511627776 := by have := hI.idl; have := hI.small; have := hI.fam.good.latest; omega
      have hlst : 0 ≤ lst ∧ lst ≤ 60 := by have := hI.fam.last; have := hI.fam.good.latest; omega
      have HI := Lib.hid hI
      have HF := Lib.hid hF
      clear hI hF
      go_wp2_with fail
      refine (rparts_yes _ _ hidp.1 hidp.2 _).mono ?_
      rintro e w7 ⟨rfl, rfl⟩
      go_wp2_with fail
      obtain ⟨wo, rfl⟩ : ∃ wo : World, wo = wr := ⟨_, rfl⟩
      go_loopw [26, 27] (fun i _ w8 => ∃ j : Nat, i = .int .u64 j ∧ 1 ≤ j ∧ (j : Int) ≤ lst + 1 ∧ Below wo.heap.size wo w8) (fun i _ _ => 1000 - (intOf i).toNat)
      case atStart => exact ⟨1, rfl, by omega, by omega, Below.refl _ _⟩
      case round =>
        obtain ⟨j, rfl, hj1, hj2, hB8⟩ := hrel
        by_cases hjl : (j : Int) ≤ lst
        · obtain ⟨f1, -⟩ := (hT1.below hB8).cell (show j < 100 by omega)
          obtain ⟨f2, -⟩ := (hT2.below hB8).cell (show j < 100 by omega)
          have hpre := HI.out.pre j
          have hle : (strOfNums (told j)).size ≤ (strOfNums (hv j)).size := by
            have := congrArg List.length hpre
            rw [List.length_take] at this
            rw [strOfNums_size, strOfNums_size]; omega
          have hex : (strOfNums (hv j)).extract 0 (strOfNums (told j)).size = strOfNums (told j) := by
            rw [strOfNums_take, strOfNums_size, ← hpre]
          have hzero : id < j → (strOfNums (told j)).size = 0 := fun h => by rw [HI.out.ahead j h]; rfl
          have hsl : ∀ w, (Instr.slice 9 (.string (strOfNums (hv j))) none (some (.int .i64 (((strOfNums (told j)).size : Nat) : Int))) none).run Try.prog w = .ok (.string (strOfNums (told j))) w := fun w => by
            rw [run_slice_string_h w 9 _ Try.underlying9 .i64 _ (by omega) (by omega), Int.toNat_natCast, hex]
          have hjb : j ≤ 60 := by omega
          generalize strOfNums (hv j) = S1 at *
          generalize strOfNums (told j) = S2 at *
          have t1 : decide (S1.size < S2.size) = false := by simp; omega
          have t2 : (!(S2.toList == S2.toList)) = false := by simp
          have i0 : (0 : Int) ≤ (j : Int) := by omega
          have i1 : (j : Int) < 100 := by omega
          clear hpre hex hle
          by_cases hji : id < j
          · have t3 : decide (id < j) = true := by simp; omega
            have t4 : decide (0 < S2.size) = false := by rw [hzero hji]; rfl
            clear hzero
            go_wp2_with fail
            go_quiet (fail)
            go_wp2_with fail
            go_roundw
            case rel => exact ⟨j + 1, by go_num, by omega, by omega, below_drewN hB8 _⟩
            case measure => simp [intOf]; omega
          · have t3 : decide (id < j) = false := by simp; omega
            clear hzero
            go_wp2_with fail
            go_quiet (fail)
            go_wp2_with fail
            go_roundw
            case rel => exact ⟨j + 1, by go_num, by omega, by omega, below_drewN hB8 _⟩
            case measure => simp [intOf]; omega
        · have B9 := hB.trans (hB8.mono hB.size)
          go_wp2_with fail
          go_ret
          exact ⟨rfl, B9⟩
end Go.Proofs.Ytakdcankhfeobaa
