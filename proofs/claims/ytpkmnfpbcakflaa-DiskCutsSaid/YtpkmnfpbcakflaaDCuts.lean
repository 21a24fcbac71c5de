/- The walk of DiskCuts. No condition. -/
import Derived.Test.YtpkmnfpbcakflaaCutsPlain
namespace Go.Proofs.Ytpkmnfpbcakflaa
open Go.ChangeShapes Go.WideShapes Go.ChangeAt Go.RowKit

theorem infoI : (Try.prog.info? 3).map (fun i => (i.zero, i.size, i.bytes)) = some (some (.int .i64 0), 1, 8) := by kernel_rfl
abbrev nameF : ByteArray := ⟨#[102]⟩
def intCells (l : List Int) : List Value := l.map (Value.int .i64)

theorem below_drewN {B : Nat} {a w : World} (h : Below B a w) (n : Nat) : Below B a (w.drewN n) := ⟨h.os, h.tape, h.output, h.size, h.block⟩

set_option maxRecDepth 100000 in
set_option maxHeartbeats 4000000 in
theorem dcuts_law (qa : Option Addr) (qlen qcap : Nat) (qs : List (List Int)) (at0 : Int) (w : World) (hq : PartsIn w qa qlen qs) :
    Calls Try.prog 3 #[.slice qa qlen qcap, .int .i64 at0] w fun e w' => e = .returned (.bool true) ∧ Below w.heap.size w w' := by
  obtain ⟨i0, hi0, hz0, hz1, hz2⟩ := info_parts infoI
  go_enter Try.func3, Try.ntmps3
  go_wp2_with fail
  refine (short_any qa qlen qcap qs 12 2000 w hq (by omega) (by omega)).mono ?_
  rintro e w1 ⟨a1, c1, rfl, hP, hB1⟩
  have hle := shorten_le qs 12 2000
  have hln := shorten_len qs 12 2000
  generalize shorten qs 12 2000 = ys at *
  clear hq
  have HLe := Lib.hid hle
  have HPI := Lib.hid hP
  have HP := Lib.hid hP.2
  have HB1 := Lib.hid hB1
  clear hle hP hB1
  go_wp2_with fail
  go_loopw [5, 6, 7] (fun s o i wr => ∃ k : Nat, s = .string (strOfNums (ys.take k).flatten) ∧ i = .int .i64 k ∧ k ≤ ys.length ∧ Row wr 3 1 o (ne (ys.take k)).length (intCells (endsOf (ne (ys.take k)))) ∧ (∀ b, o.ownBlock = some b → w1.heap.size ≤ b) ∧ Below w1.heap.size w1 wr) (fun _ _ i _ => ys.length - (intOf i).toNat)
  case atStart => exact ⟨0, rfl, rfl, Nat.zero_le _, Row.nil _ _ _, by intro b hb; simp [Value.ownBlock] at hb, Below.refl _ _⟩
  case round =>
    obtain ⟨k, rfl, rfl, hk, hR, hfr, hB⟩ := hrel
    obtain ⟨ao, co, rfl, hco, hmo, hmc⟩ := hR.form
    have HR := Lib.hid hR
    have HFr := Lib.hid hfr
    have HB := Lib.hid hB
    clear hR hfr hB
    by_cases hlt : k < ys.length
    · have hlt2 : k < 12 := by omega
      obtain ⟨y, hy⟩ : ∃ y, ys[k]? = some y := ⟨_, List.getElem?_eq_getElem hlt⟩
      obtain ⟨⟨bk, off, rfl, ab, cb, hcell, hc1, hc2, hsrc⟩, hbytes⟩ := HP.out k y hy
      have hbl := World.block_lt_of_cell? _ _ hcell
      have hSnoc := take_snoc ys k y hy
      have hyl : y.length ≤ 2000 := HLe.out y (List.mem_of_getElem? hy)
      have hfl : (ys.take k).flatten.length ≤ 24000 := Nat.le_trans (flat_take_le ys HLe.out k) (by omega)
      have hc0 := (HB.out.cell (p := ⟨bk, off + k, none⟩) hbl).trans hcell
      by_cases hy0 : 0 < y.length
      · as_aux_lemma =>
        have hadd : ∀ w, (Op.stringOp .add (strOfNums (ys.take k).flatten) (strOfNums y)).run Try.prog w = .ok (.string (strOfNums (ys.take (k + 1)).flatten)) w := fun w => by
          rw [hSnoc, List.flatten_append, List.flatten_cons, List.flatten_nil, List.append_nil, ← str_append]
          exact run_string_add_sum w _ _ (by rw [strOfNums_size, strOfNums_size]; omega)
        have hconv : (convert 25 9 (.slice ab y.length cb)).run Try.prog wr = .ok (.string (strOfNums y)) wr := run_string_src (P := Try.prog) (hsrc.below HB.out) 25 5 9 Try.underlying25 Try.underlying5 Try.underlying9
        have hne := ne_yes ys k y hy hy0
        have hends : intCells (endsOf (ne (ys.take (k + 1)))) = intCells (endsOf (ne (ys.take k))) ++ [.int .i64 ((strOfNums (ys.take (k + 1)).flatten).size : Nat)] := by
          rw [strOfNums_size, ← ne_flat (ys.take (k + 1)), hne, endsOf_snoc]
          simp [intCells]
        have hnl : (ne (ys.take (k + 1))).length = (ne (ys.take k)).length + 1 := by rw [hne]; simp
        have hnk : (ne (ys.take k)).length ≤ 12 := Nat.le_trans (ne_len _) (by rw [List.length_take]; omega)
        obtain ⟨T, hT⟩ : ∃ T, strOfNums (ys.take (k + 1)).flatten = T := ⟨_, rfl⟩
        rw [hT] at hends
        have hadd2 : ∀ w, (Op.stringOp .add (strOfNums (ys.take k).flatten) (strOfNums y)).run Try.prog w = .ok (.string T) w := by rw [← hT]; exact hadd
        have HE := Lib.hid (And.intro hends (And.intro hnl hT))
        clear hadd hT
        have hdst : ∀ o, Row (wr.alloc o) 3 1 (.slice ao (ne (ys.take k)).length co) (ne (ys.take k)).length (intCells (endsOf (ne (ys.take k)))) := fun o => HR.out.of_block fun b hb => Below.heap_alloc wr o b (HR.out.lt hb)
        have HD := Lib.hid hdst
        clear hSnoc hsrc hcell hbytes hy HP HLe HPI hne hends hnl hdst
        go_wp2_with (at_builtin; refine wpList_append_row _ rfl _ _ 24 rfl 3 i0 _ 1 8 Try.underlying24 hi0 hz0 hz1 hz2 rfl (.slice ao (ne (ys.take k)).length co) (ne (ys.take k)).length _ rfl (HD.out _) (.slice (some ⟨wr.heap.size, 0, none⟩) 1 1) 1 [.int .i64 (T.size : Nat)] rfl (Src.of_block (heap_alloc_new wr _) 1 1 rfl (by simp [Value.oneCell'])) (by unfold maxLen; omega) (by omega) (wr.heap.size + 1) (by simp) ?_; intro a' cap' w2 hown2 hgrow hat)
        rw [← HE.out.1] at hown2
        go_roundw
        case rel => exact ⟨k + 1, by rw [HE.out.2.2], by go_num, by omega, by rw [HE.out.2.1]; exact hown2, fun b hb => by
          rcases hat b (by rw [own_slice a' ((ne (ys.take k)).length + 1) cap' ((ne (ys.take k)).length + 1) cap']; exact hb) with h | h
          · exact HFr.out b h
          · have := HB.out.size; omega, (HB.out.alloc HB.out.size _).grown hgrow (by have := HB.out.size; simp; omega) HFr.out⟩
        case measure => simp [intOf]; omega
      · as_aux_lemma =>
        have hne := ne_no ys k y hy hy0
        have hT : strOfNums (ys.take (k + 1)).flatten = strOfNums (ys.take k).flatten := by
          have : y = [] := by cases y with | nil => rfl | cons _ _ => simp at hy0
          rw [hSnoc, this]; simp
        have hyz : y.length = 0 := by omega
        rw [hyz] at hc0
        have HE := Lib.hid (And.intro hne hT)
        clear hSnoc hsrc hcell hbytes hy HP HLe HPI hne hT hyl
        go_wp2_with fail
        go_roundw
        case rel => exact ⟨k + 1, by rw [HE.out.2], by go_num, by omega, by rw [HE.out.1]; exact HR.out, HFr.out, HB.out⟩
        case measure => simp [intOf]; omega
    · as_aux_lemma =>
      have hkk : k = ys.length := by omega
      rw [hkk, List.take_length] at HR ⊢
      clear HFr hco hmo hkk hlt hk k
      have hfl : ys.flatten.length ≤ 24000 := by
        have := flat_le ys HLe.out
        omega
      have hnk : (ne ys).length ≤ 12 := Nat.le_trans (ne_len _) (by omega)
      obtain ⟨T, hT⟩ : ∃ T, strOfNums ys.flatten = T := ⟨_, rfl⟩
      have hTz : T.size = ys.flatten.length := by rw [← hT, strOfNums_size]
      rw [hT]
      have HT := Lib.hid hT
      clear hT
      obtain ⟨m, hm⟩ : ∃ m, ys.flatten.length = m := ⟨_, rfl⟩
      rw [hm] at hfl hTz
      have HM := Lib.hid hm
      clear hm
      obtain ⟨A, hA0, hA1⟩ := pickV_at at0 ((m : Int) + 1) (by omega)
      have hpk := fun w => pick_any at0 ((m : Int) + 1) (by omega) (by omega) w
      rw [hA0] at hpk
      have HPk := Lib.hid hpk
      clear hpk hA0
      go_wp2_with fail
      refine (HPk.out _).mono ?_
      rintro e w5 ⟨rfl, rfl⟩
      clear HPk
      obtain ⟨zs, hzs⟩ : ∃ zs, zs = ne ys := ⟨_, rfl⟩
      rw [← hzs] at hnk HR ⊢
      have hzf : zs.flatten = ys.flatten := by rw [hzs]; exact ne_flat ys
      have hzp : ∀ z ∈ zs, 0 < z.length := by rw [hzs]; exact ne_pos ys
      have HZ := Lib.hid (And.intro hzs (And.intro hzf hzp))
      clear hzs hzf hzp
      obtain ⟨wo, rfl⟩ : ∃ wo : World, wo = w5 := ⟨_, rfl⟩
      go_wp2_with fail
      go_loopw [8, 9, 10] (fun q t i wx => ∃ j : Nat, q = .int .i64 j ∧ t = .int .i64 ((A : Int) - (Lz zs j : Nat)) ∧ i = .int .i64 j ∧ j ≤ zs.length ∧ Lz zs j ≤ A ∧ wx = wo) (fun _ _ i _ => zs.length - (intOf i).toNat)
      case atStart => exact ⟨0, rfl, by simp [Lz], rfl, Nat.zero_le _, Nat.zero_le _, rfl⟩
      case round =>
        obtain ⟨j, rfl, rfl, rfl, hj, hL, rfl⟩ := hrel
        by_cases hcont : j < zs.length ∧ Lz zs (j + 1) ≤ A
        · as_aux_lemma =>
          obtain ⟨hj2, hL2⟩ := hcont
          obtain ⟨g, rfl, hgl, hgc, -⟩ := HR.out.view (by omega)
          have c0 : wr.cell? ⟨g, j, none⟩ = some (.int .i64 (Lz zs (j + 1) : Nat)) := by
            rw [hgc j (by omega)]
            unfold intCells
            rw [List.getElem?_map, endsOf_at zs j hj2]; rfl
          have hLb : Lz zs (j + 1) ≤ 24000 := by omega
          have hAb : A ≤ 24000 := by omega
          have t1 : decide (Lz zs (j + 1) ≤ A) = true := by simp; omega
          clear hgc HLe HP HPI
          go_wp2_with fail
          go_roundw
          case rel => exact ⟨j + 1, by go_num, by go_num, by go_num, by omega, hL2, trivial⟩
          case measure => simp [intOf]; omega
        · have h2 : j < zs.length → A < Lz zs (j + 1) := fun h => by
            by_cases h3 : Lz zs (j + 1) ≤ A
            · exact absurd ⟨h, h3⟩ hcont
            · omega
          have hcut := cut_cuts zs HZ.out.2.2 A j hj hL h2 (by rw [HZ.out.2.1, HM.out]; omega)
          rw [HZ.out.2.1] at hcut
          have HCut := Lib.hid hcut
          clear hcut hcont
          have HAb := Lib.hid (show A ≤ 24000 by omega)
          rcases Nat.lt_or_ge j zs.length with hj2 | hj2
          case' inl =>
            obtain ⟨g, rfl, hgl, hgc, -⟩ := HR.out.view (by omega)
            have c0 : wr.cell? ⟨g, j, none⟩ = some (.int .i64 (Lz zs (j + 1) : Nat)) := by
              rw [hgc j (by omega)]
              unfold intCells
              rw [List.getElem?_map, endsOf_at zs j hj2]; rfl
            have h3 := h2 hj2
            have t1 : decide (Lz zs (j + 1) ≤ A) = false := by simp; omega
            clear hgc
            go_wp2_with fail
          case' inr =>
            have hj3 : ¬ j < zs.length := by omega
            go_wp2_with fail
          all_goals
            as_aux_lemma =>
            refine (new_ok 8388608 (by omega) (by omega) wr).mono ?_
            rintro e w6 hN
            obtain ⟨p, rfl, S6, -⟩ := St.of_new (Below.refl _ wr) hN
            rw [empty_one nameF] at S6
            clear hN
            have H6 := Lib.hid S6
            clear S6
            go_wp2_with fail
            refine (known_any w6).mono ?_
            rintro e w7 ⟨rfl, hBk⟩
            have H7 := Lib.hid (H6.out.below hBk)
            clear H6 hBk
            have HPo := Lib.hid (HPI.out.below HB.out).2
            obtain ⟨wo, hwo⟩ : ∃ wo : World, wr = wo := ⟨_, rfl⟩
            rw [hwo] at H7 HPo HB
            go_wp2_with fail
            go_loopw [13] (fun i wx => ∃ k : Nat, i = .int .i64 k ∧ k ≤ ys.length ∧ St wo wx p (oneDk nameF 8388608 none (ne (ys.take k)) (-1) false)) (fun i _ => ys.length - (intOf i).toNat)
            case atStart => exact ⟨0, rfl, Nat.zero_le _, H7.out⟩
            case round =>
              obtain ⟨k, rfl, hk, hS⟩ := hrel
              have HS := Lib.hid hS
              clear hS H7
              by_cases hlt : k < ys.length
              · have hlt2 : k < 12 := by omega
                obtain ⟨y, hy⟩ : ∃ y, ys[k]? = some y := ⟨_, List.getElem?_eq_getElem hlt⟩
                obtain ⟨⟨bk, off, rfl, ab, cb, hcell, hc1, hc2, hsrc⟩, hbytes⟩ := HPo.out k y hy
                have hbl := World.block_lt_of_cell? _ _ hcell
                have hyl : y.length ≤ 2000 := HLe.out y (List.mem_of_getElem? hy)
                have hfl2 : (ne (ys.take k)).flatten.length ≤ 24000 := by rw [ne_flat]; exact Nat.le_trans (flat_take_le ys HLe.out k) (by omega)
                have hnl2 : (ne (ys.take k)).length ≤ 1000 := Nat.le_trans (ne_len _) (by rw [List.length_take]; omega)
                have hc0 := (HS.out.2.cell (p := ⟨bk, off + k, none⟩) hbl).trans hcell
                by_cases hy0 : 0 < y.length
                · as_aux_lemma =>
                  have hApp := HS.out.appP ab cb y hsrc (by rfl) (by decide) (.inl rfl) (by omega) (by omega) (by simp only [Option.getD_none, List.length_nil]; omega) (by omega) hbytes
                  rw [← ne_yes ys k y hy hy0] at hApp
                  have HApp := Lib.hid hApp
                  clear hApp hsrc hcell hbytes hy HP HLe HPI HPo HS
                  go_wp2_with fail
                  refine HApp.out.mono ?_
                  rintro e w8 ⟨rfl, S8⟩
                  have H8 := Lib.hid S8
                  clear S8 HApp hc0
                  go_wp2_with fail
                  go_roundw
                  case rel => exact ⟨k + 1, by go_num, by omega, H8.out⟩
                  case measure => simp [intOf]; omega
                · as_aux_lemma =>
                  have hne := ne_no ys k y hy hy0
                  have hyz : y.length = 0 := by omega
                  rw [hyz] at hc0
                  have HE := Lib.hid hne
                  clear hsrc hcell hbytes hy HP HLe HPI HPo hne hyl
                  go_wp2_with fail
                  go_roundw
                  case rel => exact ⟨k + 1, by go_num, by omega, by rw [HE.out]; exact HS.out⟩
                  case measure => simp [intOf]; omega
              · as_aux_lemma =>
                have hkk : k = ys.length := by omega
                rw [hkk, List.take_length, ← HZ.out.1] at HS
                have hpj : pickV (j : Int) (zs.length + 1) = (j : Nat) := by
                  unfold pickV
                  rw [Int.tmod_eq_of_lt (by omega) (by omega), if_neg (by omega)]
                have hCr := HS.out.crash (j : Int) ((A : Int) - (Lz zs j : Nat)) (by decide) (by omega) (by rw [HZ.out.2.1, HM.out]; simp only [Option.getD_none, List.length_nil]; omega) j hpj hj
                rw [HCut.out] at hCr
                obtain ⟨o, ho⟩ : ∃ o, (if A = 0 then none else some (ys.flatten.take A)) = o := ⟨_, rfl⟩
                rw [ho] at hCr
                have HCr := Lib.hid hCr
                obtain ⟨b, hb⟩ : ∃ b, decide (0 < A) = b := ⟨_, rfl⟩
                have hob : o.isSome = b := by
                  rw [← ho, ← hb]
                  by_cases h0 : A = 0
                  · simp [h0]
                  · rw [if_neg h0]; simp; omega
                have hog : o.getD [] = ys.flatten.take A := by
                  rw [← ho]
                  by_cases h0 : A = 0
                  · simp [h0]
                  · rw [if_neg h0]; rfl
                have hlA : (ys.flatten.take A).length = A := by rw [List.length_take, HM.out]; omega
                have hTs : ∀ w, (Instr.slice 9 (.string T) none (some (.int .i64 (A : Int))) none).run Try.prog w = .ok (.string (strOfNums (ys.flatten.take A))) w := fun w => by
                  rw [run_slice_string_h w 9 _ Try.underlying9 .i64 _ (by omega) (by rw [hTz]; omega), Int.toNat_natCast, ← HT.out]
                  congr 2
                  apply ByteArray.ext
                  rw [ByteArray.data_extract]
                  apply Array.toList_inj.1
                  simp [strOfNums, List.map_take]
                generalize ys.flatten.take A = G at *
                have i1 : decide ((0 : Int) < (A : Int)) = b := by rw [← hb]; exact decide_eq_decide.2 (by omega)
                have HG := Lib.hid (And.intro hob (And.intro hog hlA))
                clear ho hob hog hlA hCr hpj HS hkk
                go_wp2_with fail
                refine HCr.out.mono ?_
                rintro e w9 ⟨rfl, S9⟩
                have H9 := Lib.hid S9
                clear S9 HCr
                have HRd := Lib.hid (show Calls _ _ _ _ fun e w' => BytesOut w9 w' e b G from by
                  have := readB H9.out.1 (s := nameF) (by decide) (by rw [HG.out.2.1, HG.out.2.2]; simp only [List.flatten_nil, List.length_nil]; omega)
                  rw [grown_nil, HG.out.1, HG.out.2.1, List.flatten_nil, List.append_nil] at this
                  exact this)
                go_wp2_with fail
                refine HRd.out.mono ?_
                rintro e w10 ⟨a10, c10, rfl, R10, -, -, hB10⟩
                rw [HG.out.2.2] at R10 ⊢
                have hconvN : ∀ n, (convert 25 9 (.slice a10 A c10)).run Try.prog (w10.drewN n) = .ok (.string (strOfNums G)) (w10.drewN n) := fun n => run_string_src (P := Try.prog) ((Src.of_row R10 (byteCells_one _)).below (below_drewN (Below.refl _ _) n)) 25 5 9 Try.underlying25 Try.underlying5 Try.underlying9
                have hconv1 : (convert 25 9 (.slice a10 A c10)).run Try.prog w10.drew = .ok (.string (strOfNums G)) w10.drew := hconvN 1
                have hconv0 : (convert 25 9 (.slice a10 A c10)).run Try.prog w10 = .ok (.string (strOfNums G)) w10 := hconvN 0
                have hW := HB1.out.trans ((HB.out.trans ((H9.out.below hB10).2.mono HB.out.size)).mono HB1.out.size)
                have HW := Lib.hid (fun n => below_drewN hW n)
                generalize strOfNums G = S at *
                have i2 : (S.toList == S.toList) = true := by simp
                clear HRd R10 hB10 H9 hW
                go_wp2_with fail
                go_quiet (fail)
                go_wp2_with fail
                go_ret
                exact ⟨rfl, HW.out _⟩
end Go.Proofs.Ytpkmnfpbcakflaa
