/- The walk of the law FollowAll. No condition. -/
import Derived.Test.YtakdcankhfeobaaPoll
import Derived.Test.YtakdcankhfeobaaStepsF
import Derived.Test.YtakdcankhfeobaaSmall
import Derived.Deep.DeepCutAuto
import Derived.Deep.CutBlock
import Derived.Deep.QuietTactic
import Derived.Deep.RegionWith
import Derived.BigQuiet
import Derived.RegionTactic
import Derived.BigRegion
namespace Go.Proofs.Ytakdcankhfeobaa
open Go.ChangeShapes Go.WideShapes Go.ChangeAt Go.RowKit

def XA (w : World) (bf ba bg : Nat) (k : Nat) : Prop := k < w.heap.size ∨ k = bf ∨ k = ba ∨ k = bg
def pickV (n k : Int) : Int := if n.tmod k < 0 then n.tmod k + k else n.tmod k
theorem pickV_at (n k : Int) (hk0 : 1 ≤ k) : ∃ m : Nat, pickV n k = m ∧ (m : Int) < k := by
  have b1 : -k < n.tmod k := by
    have := Int.lt_tmod_of_pos n (show 0 < k by omega); omega
  have b2 : n.tmod k < k := Int.tmod_lt_of_pos n (by omega)
  unfold pickV
  split
  · exact ⟨(n.tmod k + k).toNat, by omega, by omega⟩
  · exact ⟨(n.tmod k).toNat, by omega, by omega⟩
theorem pick_val (n k : Int) (hk0 : 1 ≤ k) (hk : k ≤ 1000000) (w : World) :
    Calls Try.prog 21 #[.int .i64 n, .int .i64 k] w fun e w' => e = .returned (.int .i64 (pickV n k)) ∧ w' = w := by
  have b1 : -k < n.tmod k := by
    have := Int.lt_tmod_of_pos n (show 0 < k by omega); omega
  have b2 : n.tmod k < k := Int.tmod_lt_of_pos n (by omega)
  have hd : (k == 0) = false := by simp; omega
  unfold pickV
  by_cases hlt : n.tmod k < 0
  · rw [if_pos hlt]
    go_enter Try.func21, Try.ntmps21
    go_wp2
    go_ret
    exact ⟨rfl, rfl⟩
  · rw [if_neg hlt]
    go_enter Try.func21, Try.ntmps21
    go_wp2
    go_ret
    exact ⟨rfl, rfl⟩
theorem suf_one {gs : List Gn} (h : gs.Pairwise (fun a b => b.suf < a.suf)) {y g : Gn} (hy : y ∈ gs) (hg : g ∈ gs) (he : g.suf = y.suf) : g = y := by
  obtain ⟨i, hi, rfl⟩ := List.getElem_of_mem hy
  obtain ⟨j, hj, rfl⟩ := List.getElem_of_mem hg
  have hp := List.pairwise_iff_getElem.1 h
  rcases Nat.lt_trichotomy i j with c | c | c
  · have := hp i j hi hj c; omega
  · subst c; rfl
  · have := hp j i hj hi c; omega

set_option maxRecDepth 100000 in
set_option maxHeartbeats 8000000 in
theorem all_any (a : Option Addr) (len cap : Nat) (xs : List Sf) (pa : Option Addr) (plen pcap : Nat) (zs : List Int) (w : World) (hlen : len ≤ maxLen) (hS : SfIn w a len xs) (_hplen : plen ≤ maxLen) (hZ : NumsIn w pa plen zs) :
    Calls Try.prog 7 #[.slice a len cap, .slice pa plen pcap] w fun e w' => e = .returned (.bool true) ∧ Below w.heap.size w w' := by
  unfold maxLen at hlen
  go_enter Try.func7, Try.ntmps7
  go_wp2_with fail
  refine (new_any _).mono ?_
  rintro e w1 ⟨p, rfl, hA1, hp, hB1⟩
  have F1 := FamOwn.new w w1 p hA1 hp hB1
  clear hA1 hp
  go_wp2_with fail
  refine (known24 _).mono ?_
  rintro e w2 ⟨rfl, hB2⟩
  have F2 : FamOwn 64 67 (fun k => k < w.heap.size ∨ k = w1.heap.size) w2 p [] 0 := ((F1.more ((Below.refl _ w1).alloc (Nat.le_refl _) (.cells #[.pointer (some ⟨p, 0, none⟩)] 22))).below hB2).fewer (by
    rintro k (hk | rfl)
    · exact .inl hk
    · exact .inr ⟨Nat.le_refl _, by simp⟩)
  have hfl : w1.heap.size < w2.heap.size := by have := hB2.size; simp at this; omega
  have f2 : w2.heap[w1.heap.size]? = some (.cells #[.pointer (some ⟨p, 0, none⟩)] 22 (0, 0)) := (hB2.block _ (by simp)).trans (heap_alloc_new w1 _)
  have hB : Below w.heap.size w w2 := (hB1.alloc hB1.size (.cells #[.pointer (some ⟨p, 0, none⟩)] 22)).trans (hB2.mono (by have := hB1.size; simp; omega))
  have hwf : w.heap.size ≤ w1.heap.size := hB1.size
  clear F1 hB1 hB2
  generalize w1.heap.size = bf at *
  have cf2 := cell_of_one f2
  have HF2 := Lib.hid f2
  clear f2
  go_wp2_with fail
  have f2 := HF2.out
  clear HF2 cf2
  have A1 := (Below.refl w2.heap.size w2).alloc (Nat.le_refl _) (.cells #[.string ⟨#[]⟩] 9)
  have A2 := A1.alloc (by simp) (.cells #[.complex .f64 0 0] 49)
  have F3 : FamOwn 64 67 (XA w bf (w2.heap.size + 1) w2.heap.size) ((w2.alloc (.cells #[.string ⟨#[]⟩] 9)).alloc (.cells #[.complex .f64 0 0] 49)) p [] 0 := (F2.more A2).fewer (by
    rintro k (hk | rfl | rfl | rfl)
    · exact .inl (.inl hk)
    · exact .inl (.inr rfl)
    · exact .inr ⟨by omega, by simp⟩
    · exact .inr ⟨Nat.le_refl _, by simp; omega⟩)
  have H3 : Held ((w2.alloc (.cells #[.string ⟨#[]⟩] 9)).alloc (.cells #[.complex .f64 0 0] 49)) bf (w2.heap.size + 1) w2.heap.size p 0 0 [] := by
    refine ⟨(A2.block _ hfl).trans f2, ?_, ?_⟩
    · have := heap_alloc_new (w2.alloc (.cells #[.string ⟨#[]⟩] 9)) (.cells #[.complex .f64 0 0] 49)
      rw [fl_zero]; simpa using this
    · have h1 := heap_alloc_new w2 (.cells #[.string ⟨#[]⟩] 9)
      rw [Below.heap_alloc _ _ _ (by simp)]; exact h1
  have hB3 := hB.trans (A2.mono hB.size)
  have hg : w.heap.size ≤ w2.heap.size := hB.size
  have ha : w.heap.size ≤ w2.heap.size + 1 := by omega
  have n1 : bf ≠ w2.heap.size + 1 := by omega
  have n2 : bf ≠ w2.heap.size := by omega
  have n3 : w2.heap.size + 1 ≠ w2.heap.size := by omega
  clear F2 hB A1 A2 f2 hfl
  generalize (w2.alloc (.cells #[.string ⟨#[]⟩] 9)).alloc (.cells #[.complex .f64 0 0] 49) = w3 at *
  generalize w2.heap.size + 1 = ba at *
  generalize w2.heap.size = bg at *
  have N1 := Lib.hid n1
  have N2 := Lib.hid n2
  have N3 := Lib.hid n3
  clear n1 n2 n3
  go_loopw [6, 10] (fun al i wr => ∃ (k : Nat) (gs : List Gn) (l : Int) (all got : List Int) (id pl : Nat), al = .string (strOfNums all) ∧ i = .int .i64 k ∧ k ≤ len ∧ k ≤ 60 ∧ AInv k gs l all got id pl ∧ FamOwn 64 67 (XA w bf ba bg) wr p gs l ∧ Held wr bf ba bg p id pl got ∧ Below w.heap.size w wr) (fun _ i _ => len - (intOf i).toNat)
  case atStart => exact ⟨0, [], 0, [], [], 0, 0, rfl, rfl, by omega, by omega, AInv.new, F3, H3, hB3⟩
  case round =>
    obtain ⟨k, gs, l, all, got, id, pl, rfl, rfl, hk, hk2, hI, hF, hH, hB⟩ := hrel
    clear F3 H3 hB3
    by_cases hlt : k < len
    · by_cases hlt2 : k < 60
      · obtain ⟨x, hx⟩ : ∃ x, xs[k]? = some x := ⟨_, List.getElem?_eq_getElem (by rw [hS.1]; exact hlt)⟩
        have hs := hS.2 k x hx
        obtain ⟨bk, off, rfl, c0, c1, ab, cb, c2, hcb, hcm, hsrc⟩ := hs.ex
        obtain ⟨i0, hi0, hz0, hz1, hz2⟩ := info_parts info5
        have d2 := (hB.cell (p := ⟨bk, off + k * 3 + 2, none⟩) (block_lt_of_cell c2)).trans c2
        have hmn := run_minI
        have hr : minI (x.b.length : Int) 60 = ((min x.b.length 60 : Nat) : Int) := minI_nat x.b.length 60
        have hsl := fun w => run_slice_to (P := Try.prog) w 27 5 i0 Try.underlying27 hi0 ab x.b.length cb (min x.b.length 60) (by omega) .i64
        have hsrc0 := hsrc.take (min x.b.length 60) (Nat.min_le_left _ _)
        have hbs : ∀ n ∈ x.b.take (min x.b.length 60), 0 ≤ n ∧ n < 256 := fun n hn => hs.bytes n (List.mem_of_mem_take hn)
        have hr60 : min x.b.length 60 ≤ 60 := Nat.min_le_right _ _
        have hrl : (x.b.take (min x.b.length 60)).length = min x.b.length 60 := by simp
        generalize min x.b.length 60 = r at *
        generalize x.b.take r = bs at *
        have HS := Lib.hid hs
        have HRL := Lib.hid hrl
        have ik0 : (0 : Int) ≤ (k : Int) := by omega
        have ik1 : (k : Int) < (len : Int) := by omega
        clear hx hs hrl hsrc
        go_wp2_with fail
        go_quiet (fail)
        have hBq := below_drewN hB nq
        have hFq : FamOwn 64 67 (XA w bf ba bg) (wr.drewN nq) p gs l := hF.below (below_drewN (Below.refl _ _) nq)
        have hHq : Held (wr.drewN nq) bf ba bg p id pl got := hH.below (below_drewN (Below.refl _ _) nq)
        clear hB hF hH d2 hsl hmn hr
        generalize wr.drewN nq = w4 at *
        have d0 := (hBq.cell (p := ⟨bk, off + k * 3, none⟩) (block_lt_of_cell c0)).trans c0
        go_wp2_with fail
        refine (pick_val _ _ (by omega) (by omega) _).mono ?_
        obtain ⟨m, hm1, hm⟩ := pickV_at x.what 10 (by omega)
        rw [hm1]
        clear hm1
        rintro e w5 ⟨rfl, rfl⟩
        have cf := cell_of_one hHq.f
        go_upto_block 2 with fail
        go_cut [6] (fun al wx => ∃ (gs' : List Gn) (l' : Int) (all' : List Int), al = .string (strOfNums all') ∧ AInv (k + 1) gs' l' all' got id pl ∧ FamOwn 64 67 (XA w bf ba bg) wx p gs' l' ∧ Held wx bf ba bg p id pl got ∧ Below w.heap.size w wx)
        case first =>
          as_aux_lemma =>
          have hX : ∀ (w6 : World), Keep (XA w bf ba bg) w5 w6 → Held w6 bf ba bg p id pl got ∧ Below w.heap.size w w6 := fun w6 hK =>
            ⟨hHq.keep hK (.inr (.inl rfl)) (.inr (.inr (.inl rfl))) (.inr (.inr (.inr rfl))), hBq.trans (hK.below (B := w.heap.size) (fun _ h => .inl h) hBq.size)⟩
          by_cases h4 : m = 5 ∨ m = 6
          · rcases h4 with rfl | rfl <;>
            · go_wp2_with fail
              refine (rename_own _ p _ _ k _ hFq hI.good (by omega)).mono ?_
              rintro e w6 ⟨rfl, F6, hK6⟩
              obtain ⟨H6, B6⟩ := hX w6 hK6
              go_wp2_with fail
              go_meet
              exact ⟨_, _, _, rfl, hI.rename, F6, H6, B6⟩
          · by_cases h7 : m = 7
            · subst h7
              go_wp2_with fail
              refine (create_own _ p _ _ k _ hFq hI.good (by omega)).mono ?_
              rintro e w6 ⟨rfl, F6, hK6⟩
              obtain ⟨H6, B6⟩ := hX w6 hK6
              go_wp2_with fail
              go_meet
              exact ⟨_, _, _, rfl, hI.create (by omega), F6, H6, B6⟩
            · by_cases h8 : m = 8 ∨ m = 9
              · as_aux_lemma =>
                have t5 : ((m : Int) == 5) = false := by simp; omega
                have t6 : ((m : Int) == 6) = false := by simp; omega
                have t7 : ((m : Int) == 7) = false := by simp; omega
                have hsm := hI.small
                have d1 : w5.cell? ⟨bk, off + k * 3 + 1, none⟩ = some (.int .i64 x.k) := (hBq.cell (p := ⟨bk, off + k * 3 + 1, none⟩) (block_lt_of_cell c1)).trans c1
                have ca := cell_of_one hHq.at_
                rcases h8 with rfl | rfl
                all_goals
                  go_wp2_with fail
                  refine (list_own _ p _ _ _ _ hFq hI.good).mono ?_
                  rintro e w6 ⟨vl, rfl, Rl, hfr, hB6⟩
                  have F6 := hFq.more hB6
                  have H6 := hHq.below hB6
                  have B6 := hBq.trans (hB6.mono hBq.size)
                  have ca6 := cell_of_one H6.at_
                  obtain ⟨al, cl, rfl, -, hn5, -⟩ := Rl.form
                  unfold maxLen at hn5
                  have hfr6 : ∀ k, (Value.slice al gs.length cl).ownBlock = some k → Plus (XA w bf ba bg) w5 w6 k := fun k hk => .inr ⟨hfr k hk, Rl.lt hk⟩
                  clear hfr hX cf ca
                  go_wp2_with fail
                  refine (rparts_yes id pl (by omega) (by omega) _).mono ?_
                  rintro e w7 ⟨rfl, rfl⟩
                  have hq2 : ∀ k2, XA w bf ba bg k2 → Plus (XA w bf ba bg) w5 w6 k2 := Plus.left
                  go_wp2_with fail
                  go_loopw [15] (fun i2 w7 => ∃ (j : Nat) (gs2 : List Gn), i2 = .int .i64 j ∧ j ≤ gs.length ∧ gs2.Sublist gs ∧ AInv k gs2 l all got id pl ∧ FamOwn 64 67 (Plus (XA w bf ba bg) w5 w6) w7 p gs2 l ∧ Held w7 bf ba bg p id pl got ∧ Below w.heap.size w w7 ∧ Row w7 45 3 (.slice al gs.length cl) gs.length (lcells gs)) (fun i2 _ => gs.length - (intOf i2).toNat)
                  case atStart => exact ⟨0, gs, rfl, Nat.zero_le _, List.Sublist.refl _, hI, F6, H6, B6, Rl⟩
                  case round =>
                    obtain ⟨j, gs2, rfl, hj, hsub, hI2, hF2, hH2, hB2, hR2⟩ := hrel
                    by_cases hjl : j < gs.length
                    · obtain ⟨y, hy⟩ : ∃ y, gs[j]? = some y := ⟨_, List.getElem?_eq_getElem hjl⟩
                      have hym := List.mem_of_getElem? hy
                      obtain ⟨gl, rfl, -, hlc, -⟩ := hR2.view (by omega)
                      have l0 := (hlc (j * 3) (by omega)).trans (lrow_at gs j y hy).1
                      have l1 := (hlc (j * 3 + 1) (by omega)).trans (lrow_at gs j y hy).2.1
                      have d1' := (hB2.cell (p := ⟨bk, off + k * 3 + 1, none⟩) (block_lt_of_cell c1)).trans c1
                      have cf7 := cell_of_one hH2.f
                      obtain ⟨hv, hkv⟩ := hI.fam
                      obtain ⟨yn, hyn⟩ : ∃ n : Nat, y.id = n := ⟨y.id.toNat, by have := (hkv.idl y hym).1; omega⟩
                      have hys := (hkv.good.each y hym).2
                      rw [hyn] at l0
                      have hpk := fun w => pick_val x.k 5 (by omega) (by omega) w
                      generalize pickV x.k 5 = pv at hpk
                      have HPk := Lib.hid hpk
                      have HI2 := Lib.hid hI2
                      have HF2 := Lib.hid hF2
                      have HH2 := Lib.hid hH2
                      have HB2 := Lib.hid hB2
                      have HR2 := Lib.hid hR2
                      have HSub := Lib.hid hsub
                      have HFr := Lib.hid hfr6
                      have HQ := Lib.hid hq2
                      have hone : ∀ g ∈ gs2, g.suf = y.suf → g.id = (yn : Int) := fun g hg he => by rw [suf_one hkv.sufs hym (hsub.subset hg) he]; exact hyn
                      have HOne := Lib.hid hone
                      have ij0 : (0 : Int) ≤ (j : Int) := by omega
                      have ij1 : (j : Int) < (gs.length : Int) := by omega
                      clear hlc hy hym hpk hI2 hF2 hH2 hB2 hR2 hsub hfr6 hq2 hone hkv hyn d1 ca6 hI F6 H6 B6 Rl hFq hHq hBq hB6
                      by_cases hsuf : y.suf = pv
                      · have ts : (y.suf == pv) = true := by simp [hsuf]
                        by_cases hid : yn < id
                        · have ti : decide (yn < id) = true := decide_eq_true hid
                          have HHid := Lib.hid hid
                          clear hsuf hid
                          go_wp2_with fail
                          go_quiet ((go_at_call 21; exact Calls.quiet_of_same (HPk.out _)))
                          go_wp2_with fail
                          go_region_with (go_at_call 14; refine (remove_own _ p gs2 l k y.suf _ (HF2.out.below (below_drewN (Below.refl _ _) _)) HI2.out.good).mono ?_; rintro e w8 ⟨rfl, F8, hK8⟩)
                          all_goals
                            have H8 : Held w8 bf ba bg p id pl got := Held.keep (w := wr.drewN _) (HH2.out.same rfl rfl rfl) hK8 (HQ.out _ (.inr (.inl rfl))) (HQ.out _ (.inr (.inr (.inl rfl)))) (HQ.out _ (.inr (.inr (.inr rfl))))
                            have B8 : Below w.heap.size w w8 := (below_drewN HB2.out _).trans (hK8.below (B := w.heap.size) (fun _ h => HQ.out _ (.inl h)) HB2.out.size)
                            have R8 := HR2.out.of_block (w' := w8) (fun k hk => hK8.block k (HR2.out.lt hk) (fun e => e (HFr.out k hk)))
                            have F8' := Lib.hid F8
                            clear F8 hK8
                            go_wp2_with fail
                            go_roundw
                            case rel => exact ⟨j + 1, (removeM gs2 y.suf).2, by go_num, by omega, (removeM_sub gs2 y.suf).trans HSub.out, HI2.out.remove y.suf (fun g hg he => by rw [HOne.out g hg he]; have := HHid.out; omega), F8'.out, H8, B8, R8⟩
                            case measure => simp [intOf]; omega
                        · have ti : decide (yn < id) = false := decide_eq_false hid
                          clear hsuf hid
                          go_wp2_with fail
                          go_quiet ((go_at_call 21; exact Calls.quiet_of_same (HPk.out _)))
                          go_wp2_with fail
                          go_roundw
                          case rel => exact ⟨j + 1, gs2, by go_num, by omega, HSub.out, HI2.out, HF2.out.below (below_drewN (Below.refl _ _) _), HH2.out.below (below_drewN (Below.refl _ _) _), below_drewN HB2.out _, HR2.out.of_block (fun _ _ => rfl)⟩
                          case measure => simp [intOf]; omega
                      · have ts : (y.suf == pv) = false := by simp [hsuf]
                        clear hsuf
                        go_wp2_with fail
                        go_quiet ((go_at_call 21; exact Calls.quiet_of_same (HPk.out _)))
                        go_wp2_with fail
                        go_roundw
                        case rel => exact ⟨j + 1, gs2, by go_num, by omega, HSub.out, HI2.out, HF2.out.below (below_drewN (Below.refl _ _) _), HH2.out.below (below_drewN (Below.refl _ _) _), below_drewN HB2.out _, HR2.out.of_block (fun _ _ => rfl)⟩
                        case measure => simp [intOf]; omega
                    · go_wp2_with fail
                      go_meet
                      exact ⟨gs2, l, all, rfl, hI2.more, hF2.fewer hq2, hH2, hB2⟩
              · as_aux_lemma =>
                have t5 : ((m : Int) == 5) = false := by simp; omega
                have t6 : ((m : Int) == 6) = false := by simp; omega
                have t7 : ((m : Int) == 7) = false := by simp; omega
                have t8 : ((m : Int) == 8) = false := by simp; omega
                have t9 : ((m : Int) == 9) = false := by simp; omega
                have hy : 0 < r → ∀ k, (Value.slice ab r cb).ownBlock = some k → XA w bf ba bg k := fun hr0 k hk => .inl (hsrc0.lt hr0 k hk)
                have hsrc4 := hsrc0.below hBq
                have hrl : r ≤ 140737488355328 := by omega
                have hbl : bs.length ≤ 60 := by have := HRL.out; omega
                clear h4 h7 h8 c0 c1 c2 d0
                go_wp2_with fail
                refine (append_own _ p _ _ k _ hFq hI.good (by omega) ab r cb _ hsrc4 hy hbs hrl).mono ?_
                rintro e w6 ⟨rfl, F6, hK6⟩
                obtain ⟨H6, B6⟩ := hX w6 hK6
                have hsrc6 := hsrc0.below B6
                clear hK6 hX hsrc4 hy hFq hHq hBq hsrc0
                by_cases hok : (appendM gs l bs).1 = 0
                · have hI6 := hI.append (by omega) bs hbl hok
                  have tk : ((appendM gs l bs).1 == 0) = true := by simp [hok]
                  have hlen6 : all.length + bs.length ≤ 60000 := by have := hI6.len; rw [List.length_append] at this; omega
                  have hconv : (convert 27 9 (.slice ab r cb)).run Try.prog w6 = .ok (.string (strOfNums bs)) w6 := run_string_src (P := Try.prog) hsrc6 27 5 9 Try.underlying27 Try.underlying5 Try.underlying9
                  have hadd : ∀ w, (Op.stringOp .add (strOfNums all) (strOfNums bs)).run Try.prog w = .ok (.string (strOfNums (all ++ bs))) w := fun w => by
                    rw [str_append]; exact run_string_add_sum w _ _ (by rw [strOfNums_size, strOfNums_size]; omega)
                  generalize hgs : (appendM gs l bs).2.1 = gs5 at *
                  generalize hls : (appendM gs l bs).2.2 = l5 at *
                  generalize (appendM gs l bs).1 = code at *
                  clear hgs hls hok hI hlen6 HRL
                  go_wp2_with fail
                  go_meet
                  exact ⟨gs5, l5, _, rfl, hI6, F6, H6, B6⟩
                · have tk : ((appendM gs l bs).1 == 0) = false := by simp [hok]
                  go_wp2_with fail
                  go_meet
                  exact ⟨_, _, _, rfl, hI.append_no _ hok, F6, H6, B6⟩
        case rest =>
          as_aux_lemma =>
          obtain ⟨gs5, l5, all5, rfl, hI5, hF5, hH5, hB5⟩ := hcut
          clear hI hFq hHq hBq hsrc0 c0 c1 c2 d0 cf
          by_cases hpl : k < plen
          · obtain ⟨z, hzk⟩ : ∃ z, zs[k]? = some z := ⟨_, List.getElem?_eq_getElem (by rw [hZ.1]; exact hpl)⟩
            obtain ⟨bp, offp, rfl, cz⟩ := hZ.2 k z hzk
            have dz := (hB5.cell (p := ⟨bp, offp + k, none⟩) (block_lt_of_cell cz)).trans cz
            obtain ⟨m2, hm2, hm3⟩ := pickV_at z 20 (by omega)
            clear hzk
            go_wp2_with fail
            refine (pick_val _ _ (by omega) (by omega) _).mono ?_
            rw [hm2]
            clear hm2
            rintro e w6 ⟨rfl, rfl⟩
            go_wp2_with fail
            refine (poll_any (XA w bf ba bg) w.heap.size bf ba bg p gs5 l5 (k + 1) _ hF5 (by omega) all5 got id pl hI5 hH5 N1.out N2.out N3.out (.inr (.inr (.inl rfl))) (.inr (.inr (.inr rfl))) ha hg hB5.size m2).mono ?_
            rintro e w7 ⟨x7, id2, p2, rfl, H7, F7, A7, B7, -⟩
            go_wp2_with fail
            go_roundw
            case rel => exact ⟨k + 1, gs5, l5, all5, _, id2, p2, rfl, by go_num, by omega, by omega, A7, F7, H7, hB5.trans B7⟩
            case measure => simp [intOf]; omega
          · go_wp2_with fail
            go_roundw
            case rel => exact ⟨k + 1, gs5, l5, all5, got, id, pl, rfl, by go_num, by omega, by omega, hI5, hF5, hH5, hB5⟩
            case measure => simp [intOf]; omega
      · have HI := Lib.hid hI
        have hfew := hI.few
        have HF := Lib.hid hF
        have HH := Lib.hid hH
        have HB := Lib.hid hB
        clear hI hF hH hB
        go_wp2_with fail
        go_loopw [16] (fun i w8 => ∃ (j : Nat) (got : List Int) (id pl : Nat), i = .int .i64 j ∧ (j : Int) + polls id pl gs ≤ 360 ∧ AInv k gs l all got id pl ∧ FamOwn 64 67 (XA w bf ba bg) w8 p gs l ∧ Held w8 bf ba bg p id pl got ∧ Below w.heap.size w w8) (fun i _ => 1000 - (intOf i).toNat)
        case atStart => exact ⟨0, got, id, pl, rfl, by omega, HI.out, HF.out, HH.out, HB.out⟩
        case round =>
          clear HI HF HH HB hfew
          obtain ⟨j, got, id, pl, rfl, hj, hI, hF, hH, hB⟩ := hrel
          have cg := cell_of_one hH.got
          by_cases hgl : got.length < all.length
          · have t1 : decide ((strOfNums got).size < (strOfNums all).size) = true := by rw [strOfNums_size, strOfNums_size]; simp; exact hgl
            go_wp2_with fail
            refine (poll_any (XA w bf ba bg) w.heap.size bf ba bg p gs l k _ hF (by omega) all got id pl hI hH N1.out N2.out N3.out (.inr (.inr (.inl rfl))) (.inr (.inr (.inr rfl))) ha hg hB.size 11).mono ?_
            rintro e w7 ⟨x7, id2, p2, rfl, H7, F7, A7, B7, hdec⟩
            have hd := hdec rfl hgl
            go_wp2_with fail
            go_roundw
            case rel => exact ⟨j + 1, _, id2, p2, by go_num, by omega, A7, F7, H7, hB.trans B7⟩
            case measure => simp [intOf]; omega
          · have t1 : decide ((strOfNums got).size < (strOfNums all).size) = false := by rw [strOfNums_size, strOfNums_size]; simp; omega
            have he := hI.done (by omega)
            subst he
            go_wp2_with fail
            go_ret
            exact ⟨by simp, hB⟩
    · have HI := Lib.hid hI
      have hfew := hI.few
      have HF := Lib.hid hF
      have HH := Lib.hid hH
      have HB := Lib.hid hB
      clear hI hF hH hB
      go_wp2_with fail
      go_loopw [16] (fun i w8 => ∃ (j : Nat) (got : List Int) (id pl : Nat), i = .int .i64 j ∧ (j : Int) + polls id pl gs ≤ 360 ∧ AInv k gs l all got id pl ∧ FamOwn 64 67 (XA w bf ba bg) w8 p gs l ∧ Held w8 bf ba bg p id pl got ∧ Below w.heap.size w w8) (fun i _ => 1000 - (intOf i).toNat)
      case atStart => exact ⟨0, got, id, pl, rfl, by omega, HI.out, HF.out, HH.out, HB.out⟩
      case round =>
        clear HI HF HH HB hfew
        obtain ⟨j, got, id, pl, rfl, hj, hI, hF, hH, hB⟩ := hrel
        have cg := cell_of_one hH.got
        by_cases hgl : got.length < all.length
        · have t1 : decide ((strOfNums got).size < (strOfNums all).size) = true := by rw [strOfNums_size, strOfNums_size]; simp; exact hgl
          go_wp2_with fail
          refine (poll_any (XA w bf ba bg) w.heap.size bf ba bg p gs l k _ hF (by omega) all got id pl hI hH N1.out N2.out N3.out (.inr (.inr (.inl rfl))) (.inr (.inr (.inr rfl))) ha hg hB.size 11).mono ?_
          rintro e w7 ⟨x7, id2, p2, rfl, H7, F7, A7, B7, hdec⟩
          have hd := hdec rfl hgl
          go_wp2_with fail
          go_roundw
          case rel => exact ⟨j + 1, _, id2, p2, by go_num, by omega, A7, F7, H7, hB.trans B7⟩
          case measure => simp [intOf]; omega
        · have t1 : decide ((strOfNums got).size < (strOfNums all).size) = false := by rw [strOfNums_size, strOfNums_size]; simp; omega
          have he := hI.done (by omega)
          subst he
          go_wp2_with fail
          go_ret
          exact ⟨by simp, hB⟩
end Go.Proofs.Ytakdcankhfeobaa
