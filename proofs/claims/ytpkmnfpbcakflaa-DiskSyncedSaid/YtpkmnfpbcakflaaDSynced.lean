/- The walk of DiskSynced. No condition. -/
import Derived.Test.YtpkmnfpbcakflaaLawK
namespace Go.Proofs.Ytpkmnfpbcakflaa
open Go.ChangeShapes Go.WideShapes Go.ChangeAt Go.RowKit

set_option maxRecDepth 100000 in
set_option maxHeartbeats 4000000 in
theorem dsynced_law (qa : Option Addr) (qlen qcap : Nat) (qs : List (List Int)) (ra : Option Addr) (rlen rcap : Nat) (rs : List (List Int)) (keep torn : Int) (w : World) (hq : PartsIn w qa qlen qs) (hr : PartsIn w ra rlen rs) :
    Calls Try.prog 5 #[.slice qa qlen qcap, .slice ra rlen rcap, .int .i64 keep, .int .i64 torn] w fun e w' => e = .returned (.bool true) ∧ Below w.heap.size w w' := by
  have HQ := Lib.hid hq
  have HR := Lib.hid hr
  clear hq hr
  go_enter Try.func5, Try.ntmps5
  go_wp2_with fail
  refine (new_ok 8388608 (by omega) (by omega) w).mono ?_
  rintro e w1 hN
  obtain ⟨p, rfl, S1, -⟩ := St.of_new (Below.refl _ w) hN
  rw [empty_one nameA] at S1
  clear hN
  have H1 := Lib.hid S1
  clear S1
  go_wp2_with fail
  refine (known_any w1).mono ?_
  rintro e w2 ⟨rfl, hBk⟩
  have H2 := Lib.hid (H1.out.below hBk)
  clear H1 hBk
  go_wp2_with fail
  refine (short_new qa qlen qcap qs 30 2000 w2 (HQ.out.below H2.out.2) (by omega) (by omega)).mono ?_
  rintro e w3 ⟨a3, c3, rfl, hP3, hB3⟩
  have hle := shorten_le qs 30 2000
  have hln := shorten_len qs 30 2000
  generalize shorten qs 30 2000 = ys at *
  have HLe := Lib.hid hle
  have HP3 := Lib.hid hP3
  have HB3 := Lib.hid hB3
  clear hle hP3 hB3 HQ
  go_wp2_with fail
  refine (short_new ra rlen rcap rs 30 2000 w3 ((HR.out.below H2.out.2).below HB3.out) (by omega) (by omega)).mono ?_
  rintro e w4 ⟨a4, c4, rfl, hP4, hB4⟩
  have hle4 := shorten_le rs 30 2000
  have hln4 := shorten_len rs 30 2000
  generalize shorten rs 30 2000 = zs at *
  have hB24 : Below w2.heap.size w2 w4 := HB3.out.trans (hB4.mono HB3.out.size)
  have hs3 := HB3.out.size
  have hs4 := hB4.size
  have S4 : StK (More (fun k => k < w.heap.size) w2 w4) w4 w4 p (oneDk nameA 8388608 none [] (-1) false) := ⟨H2.out.1.more hB24, Mod.refl _ _⟩
  have hPy : ∀ i y, ys[i]? = some y → PtX (More (fun k => k < w.heap.size) w2 w4) w4 a3 i y := fun i y hy => PtX.of (HP3.out i y hy) hB4 fun k h1 h2 => .inr ⟨h1, by omega⟩
  have hPz : ∀ i y, zs[i]? = some y → PtX (More (fun k => k < w.heap.size) w2 w4) w4 a4 i y := fun i y hy => PtX.of (hP4 i y hy) (Below.refl _ _) fun k h1 h2 => .inr ⟨by omega, h2⟩
  have hXl : ∀ k, k < w.heap.size → More (fun k => k < w.heap.size) w2 w4 k := fun _ h => .inl h
  have hW4 : Below w.heap.size w w4 := H2.out.2.trans (hB24.mono H2.out.2.size)
  generalize More (fun k => k < w.heap.size) w2 w4 = X at *
  have HLe4 := Lib.hid hle4
  have HPy := Lib.hid hPy
  have HPz := Lib.hid hPz
  have HXl := Lib.hid hXl
  have HW4 := Lib.hid hW4
  have HS4 := Lib.hid S4
  clear hle4 hP4 hB4 hB24 hs3 hs4 S4 hPy hPz hXl hW4 HP3 HB3 H2 HR
  go_wp2_with fail
  go_loopw [11, 12] (fun s i wr => ∃ k : Nat, s = .string (strOfNums (ys.take k).flatten) ∧ i = .int .i64 k ∧ k ≤ ys.length ∧ StK X w4 wr p (oneDk nameA 8388608 none (ys.take k) (-1) false)) (fun _ i _ => ys.length - (intOf i).toNat)
  case atStart => exact ⟨0, rfl, rfl, Nat.zero_le _, HS4.out⟩
  case round =>
    obtain ⟨k, rfl, rfl, hk, hS⟩ := hrel
    have HS := Lib.hid hS
    clear hS HS4
    by_cases hlt : k < ys.length
    · as_aux_lemma =>
      have hlt2 : k < 30 := by omega
      obtain ⟨y, hy⟩ : ∃ y, ys[k]? = some y := ⟨_, List.getElem?_eq_getElem hlt⟩
      obtain ⟨⟨bk, off, ab, cb, rfl, hbX, hbl, hcell, hc1, hc2, hsrc, hown⟩, hbytes⟩ := HPy.out k y hy
      have hSnoc := take_snoc ys k y hy
      have hyl : y.length ≤ 2000 := HLe.out y (List.mem_of_getElem? hy)
      have hfl : (ys.take k).flatten.length ≤ 60000 := Nat.le_trans (flat_take_le ys HLe.out k) (by omega)
      have hadd : ∀ w, (Op.stringOp .add (strOfNums (ys.take k).flatten) (strOfNums y)).run Try.prog w = .ok (.string (strOfNums (ys.take (k + 1)).flatten)) w := fun w => by
        rw [hSnoc, List.flatten_append, List.flatten_cons, List.flatten_nil, List.append_nil, ← str_append]
        exact run_string_add_sum w _ _ (by rw [strOfNums_size, strOfNums_size]; omega)
      have hc0 := (HS.out.2.cellX (j := off + k) hbX hbl).trans hcell
      have HApp := Lib.hid (HS.out.appP ab cb y hsrc hown (by rfl) (by decide) (.inl rfl) (by omega) (by omega) (by simp only [Option.getD_none, List.length_nil]; omega) (by rw [List.length_take]; omega) hbytes)
      have HSnoc := Lib.hid hSnoc
      have HSrc := Lib.hid (And.intro hsrc hown)
      have HCell := Lib.hid (And.intro hcell hbX)
      clear hSnoc hsrc hown hcell hbX hbytes hy HLe
      go_wp2_with fail
      refine HApp.out.mono ?_
      rintro e w5 ⟨rfl, S5⟩
      rw [← HSnoc.out] at S5
      have H5 := Lib.hid S5
      have hc5 := (H5.out.2.cellX (j := off + k) HCell.out.2 hbl).trans HCell.out.1
      have hconv : (convert 25 9 (.slice ab y.length cb)).run Try.prog w5 = .ok (.string (strOfNums y)) w5 := run_string_src (P := Try.prog) (HSrc.out.1.mod H5.out.2 fun h0 k hk hn => hn (HSrc.out.2 h0 k hk)) 25 5 9 Try.underlying25 Try.underlying5 Try.underlying9
      clear S5 HApp HS HSrc
      go_wp2_with fail
      go_roundw
      case rel => exact ⟨k + 1, rfl, by go_num, by omega, H5.out⟩
      case measure => simp [intOf]; omega
    · as_aux_lemma =>
      have hkk : k = ys.length := by omega
      rw [hkk, List.take_length] at HS ⊢
      clear hkk hlt hk k
      have hfl : ys.flatten.length ≤ 60000 := by
        have := flat_le ys HLe.out
        omega
      have HApp := Lib.hid (HS.out.appP none 0 [] ⟨rfl, by simp [byteCells], .inl ⟨rfl, rfl⟩⟩ (fun h0 => absurd h0 (by simp)) (by rfl) (by decide) (.inl rfl) (by omega) (by omega) (by simp only [Option.getD_none, List.length_nil]; omega) (by omega) (by simp))
      have hgr : grown none (ys ++ [[]]) = some ys.flatten := by simp [grown]
      have HGr := Lib.hid hgr
      clear hgr HS HPy HLe
      go_wp2_with fail
      refine HApp.out.mono ?_
      rintro e w5 ⟨rfl, S5⟩
      have H5 := Lib.hid S5
      clear S5 HApp
      go_wp2_with fail
      refine (H5.out.sync (.inl rfl) (by decide)).mono ?_
      rintro e w6 ⟨rfl, S6⟩
      rw [HGr.out] at S6
      have H6 := Lib.hid (show StK X w4 w6 p (oneDk nameA 8388608 (some ys.flatten) [] (-1) false) from S6)
      clear S6 H5 HGr
      generalize ys.flatten = F at *
      clear hln
      go_wp2_with fail
      go_loopw [13, 14] (fun s i wr => ∃ k : Nat, s = .string (strOfNums (zs.take k).flatten) ∧ i = .int .i64 k ∧ k ≤ zs.length ∧ StK X w4 wr p (oneDk nameA 8388608 (some F) (zs.take k) (-1) false)) (fun _ i _ => zs.length - (intOf i).toNat)
      case atStart => exact ⟨0, rfl, rfl, Nat.zero_le _, H6.out⟩
      case round =>
        obtain ⟨k, rfl, rfl, hk, hS⟩ := hrel
        have HS := Lib.hid hS
        clear hS H6
        by_cases hlt : k < zs.length
        · as_aux_lemma =>
          have hlt2 : k < 30 := by omega
          obtain ⟨y, hy⟩ : ∃ y, zs[k]? = some y := ⟨_, List.getElem?_eq_getElem hlt⟩
          obtain ⟨⟨bk, off, ab, cb, rfl, hbX, hbl, hcell, hc1, hc2, hsrc, hown⟩, hbytes⟩ := HPz.out k y hy
          have hSnoc := take_snoc zs k y hy
          have hyl : y.length ≤ 2000 := HLe4.out y (List.mem_of_getElem? hy)
          have hfl2 : (zs.take k).flatten.length ≤ 60000 := Nat.le_trans (flat_take_le zs HLe4.out k) (by omega)
          have hadd : ∀ w, (Op.stringOp .add (strOfNums (zs.take k).flatten) (strOfNums y)).run Try.prog w = .ok (.string (strOfNums (zs.take (k + 1)).flatten)) w := fun w => by
            rw [hSnoc, List.flatten_append, List.flatten_cons, List.flatten_nil, List.append_nil, ← str_append]
            exact run_string_add_sum w _ _ (by rw [strOfNums_size, strOfNums_size]; omega)
          have hc0 := (HS.out.2.cellX (j := off + k) hbX hbl).trans hcell
          have HApp := Lib.hid (HS.out.appP ab cb y hsrc hown (by rfl) (by decide) (.inl rfl) (by omega) (by omega) (by simp only [Option.getD_some]; omega) (by rw [List.length_take]; omega) hbytes)
          have HSnoc := Lib.hid hSnoc
          have HSrc := Lib.hid (And.intro hsrc hown)
          have HCell := Lib.hid (And.intro hcell hbX)
          clear hSnoc hsrc hown hcell hbX hbytes hy HLe4
          go_wp2_with fail
          refine HApp.out.mono ?_
          rintro e w5 ⟨rfl, S5⟩
          rw [← HSnoc.out] at S5
          have H5 := Lib.hid S5
          have hc5 := (H5.out.2.cellX (j := off + k) HCell.out.2 hbl).trans HCell.out.1
          have hconv : (convert 25 9 (.slice ab y.length cb)).run Try.prog w5 = .ok (.string (strOfNums y)) w5 := run_string_src (P := Try.prog) (HSrc.out.1.mod H5.out.2 fun h0 k hk hn => hn (HSrc.out.2 h0 k hk)) 25 5 9 Try.underlying25 Try.underlying5 Try.underlying9
          clear S5 HApp HS HSrc
          go_wp2_with fail
          go_roundw
          case rel => exact ⟨k + 1, rfl, by go_num, by omega, H5.out⟩
          case measure => simp [intOf]; omega
        · as_aux_lemma =>
          have hkk : k = zs.length := by omega
          rw [hkk, List.take_length] at HS ⊢
          clear hkk hlt hk k
          have hflz : zs.flatten.length ≤ 60000 := by
            have := flat_le zs HLe4.out
            omega
          obtain ⟨k0, hk0, hk1⟩ := pickV_at keep (zs.length + 1) (by omega)
          obtain ⟨t, ht, hct⟩ := cut_pre F zs k0 torn
          have hCr := fun w => fun (h : StK X w4 w p (oneDk nameA 8388608 (some F) zs (-1) false)) => h.crash keep torn (by decide) (by omega) (by simp only [Option.getD_some]; omega) k0 (by rw [← hk0]) (by omega)
          rw [hct] at hCr
          have HCr := Lib.hid (hCr _ HS.out)
          clear hCr hct HS HPz HLe4 hk0 hk1
          generalize zs.flatten = G at *
          clear hln4
          obtain ⟨S, hS⟩ : ∃ S, strOfNums F = S := ⟨_, rfl⟩
          obtain ⟨L, hL⟩ : ∃ L, strOfNums G = L := ⟨_, rfl⟩
          obtain ⟨T, hT⟩ : ∃ T, strOfNums (F ++ G.take t) = T := ⟨_, rfl⟩
          obtain ⟨m, hm⟩ : ∃ m, F.length = m := ⟨_, rfl⟩
          have hSz : S.size = m := by rw [← hS, strOfNums_size, hm]
          have hLz : L.size = G.length := by rw [← hL, strOfNums_size]
          have hslL : ∀ w, (Instr.slice 9 (.string L) none (some (.int .i64 (t : Int))) none).run Try.prog w = .ok (.string (strOfNums (G.take t))) w := fun w => by
            rw [run_slice_string_h w 9 _ Try.underlying9 .i64 _ (by omega) (by rw [hLz]; omega), Int.toNat_natCast, ← hL]
            congr 2
            apply ByteArray.ext
            rw [ByteArray.data_extract]
            apply Array.toList_inj.1
            simp [strOfNums, List.map_take]
          have hlT : (F ++ G.take t).length = m + t := by rw [List.length_append, List.length_take, hm]; omega
          have haddT : ∀ w, (Op.stringOp .add S (strOfNums (G.take t))).run Try.prog w = .ok (.string T) w := fun w => by
            rw [← hT, ← str_append, ← hS]
            exact run_string_add_sum w _ _ (by rw [strOfNums_size, strOfNums_size, List.length_take]; omega)
          rw [hm] at hfl
          rw [hS, hL]
          generalize strOfNums (G.take t) = L2 at *
          obtain ⟨o, ho⟩ : ∃ o, F ++ G.take t = o := ⟨_, rfl⟩
          rw [ho] at HCr hlT hT
          have HTe := Lib.hid hT
          have hgt : G.length = G.length := rfl
          obtain ⟨g, hg⟩ : ∃ g, G.length = g := ⟨_, rfl⟩
          rw [hg] at ht hflz hLz
          have hlT2 := Lib.hid hlT
          clear hS hL hT hgt hg ho hlT hm
          go_wp2_with fail
          refine HCr.out.mono ?_
          rintro e w5 ⟨rfl, S5⟩
          have H5 := Lib.hid S5
          clear S5 HCr
          have HRd := Lib.hid (show Calls _ _ _ _ fun e w' => BytesOut w5 w' e true o from by
            have := readB H5.out.1 (s := nameA) (by decide) (by simp only [Option.getD_some, List.flatten_nil, List.length_nil]; have := hlT2.out; omega)
            rw [grown_nil, Option.getD_some, List.flatten_nil, List.append_nil] at this
            exact this)
          go_wp2_with fail
          refine HRd.out.mono ?_
          rintro e w6 ⟨a6, c6, rfl, R6, hfr6, -, hB6⟩
          rw [hlT2.out] at R6 hfr6 ⊢
          have D6 := H5.out.1.more hB6
          have hsrc6 := Src.of_row R6 (byteCells_one _)
          have hconv6 : (convert 25 9 (.slice a6 (m + t) c6)).run Try.prog w6.drew = .ok (.string T) w6.drew := by
            rw [← HTe.out]
            exact run_string_src (P := Try.prog) (hsrc6.below (Below.refl _ _).drew) 25 5 9 Try.underlying25 Try.underlying5 Try.underlying9
          have hW6 := (HW4.out.trans (H5.out.2.below HXl.out HW4.out.size)).trans (hB6.mono (Nat.le_trans HW4.out.size H5.out.2.size))
          have hXl6 : ∀ k, k < w.heap.size → More X w5 w6 k := fun k h => .inl (HXl.out k h)
          have hX6 : ∀ k, (Value.slice a6 (m + t) c6).ownBlock = some k → More X w5 w6 k := fun k hk => .inr ⟨hfr6 k hk, R6.lt hk⟩
          generalize More X w5 w6 = X6 at *
          have HD6 := Lib.hid D6
          have HSrc6 := Lib.hid hsrc6
          have HW6 := Lib.hid hW6
          have HX6 := Lib.hid hX6
          have HXl6 := Lib.hid hXl6
          clear HRd H5 R6 hfr6 hB6 D6 hsrc6 hW6 hXl6 hX6
          have hPend := Lib.hid (fun (w' : World) (hB : Below w6.heap.size w6 w') => pending_one _ p nameA 8388608 (some o) [] (-1) false _ (HD6.out.below hB))
          go_wp2_with fail
          rw [show (m : Int) + (t : Int) - (m : Int) = (t : Int) by omega]
          have i0 : decide ((t : Int) < 0) = false := by simp
          have i1 : decide (L.size < t) = false := by simp; omega
          have i2 : decide (g < t) = false := by simp; omega
          have i3 : (!(T.toList == T.toList)) = false := by simp
          have hconvH := hconv6
          clear hconvH
          go_region_held3 (fun w' => w' = w6.drew)
            (first | rfl)
            (first
              | (go_at_call 22; refine (hPend.out _ (Below.refl _ _).drew).mono ?_; rintro e w7 ⟨rfl, rfl⟩))
          all_goals
            clear hconv6 hPend i0 i1 i2 i3 hslL haddT
            have S6 : StK X6 w6.drew w6.drew p (oneDk nameA 8388608 (some o) [] (-1) false) := ⟨HD6.out.below (Below.refl _ _).drew, Mod.refl _ _⟩
            obtain ⟨k1, hk2, hk3⟩ := pickV_at torn 1 (by omega)
            obtain rfl : k1 = 0 := by omega
            have hCr := S6.crash torn keep (by decide) (by simp) (by simp only [Option.getD_some, List.flatten_nil, List.length_nil]; have := hlT2.out; omega) 0 (by simpa using hk2) (Nat.zero_le _)
            rw [cut_nil] at hCr
            have HCr := Lib.hid hCr
            clear hCr S6 hk2 hk3 HD6
            go_wp2_with fail
            refine HCr.out.mono ?_
            rintro e w8 ⟨rfl, S8⟩
            have H8 := Lib.hid S8
            clear S8 HCr
            have HRd := Lib.hid (show Calls _ _ _ _ fun e w' => BytesOut w8 w' e true o from by
              have := readB H8.out.1 (s := nameA) (by decide) (by simp only [Option.getD_some, List.flatten_nil, List.length_nil]; have := hlT2.out; omega)
              rw [grown_nil, Option.getD_some, List.flatten_nil, List.append_nil] at this
              exact this)
            go_wp2_with fail
            refine HRd.out.mono ?_
            rintro e w9 ⟨a9, c9, rfl, R9, -, -, hB9⟩
            rw [hlT2.out] at R9 ⊢
            have hconv9 : (convert 25 9 (.slice a9 (m + t) c9)).run Try.prog w9 = .ok (.string T) w9 := by
              rw [← HTe.out]
              exact run_string_src (P := Try.prog) (Src.of_row R9 (byteCells_one _)) 25 5 9 Try.underlying25 Try.underlying5 Try.underlying9
            have hconvB : (convert 25 9 (.slice a6 (m + t) c6)).run Try.prog w9 = .ok (.string T) w9 := by
              rw [← HTe.out]
              exact run_string_src (P := Try.prog) (((HSrc6.out.below (Below.refl _ _).drew).mod H8.out.2 fun _ k hk hn => hn (HX6.out k hk)).below hB9) 25 5 9 Try.underlying25 Try.underlying5 Try.underlying9
            have hW8 := HW6.out.trans ((Below.refl w6.heap.size w6).drew.mono HW6.out.size)
            have hW9 := (hW8.trans (H8.out.2.below HXl6.out hW8.size)).trans (hB9.mono (Nat.le_trans hW8.size H8.out.2.size))
            clear HRd R9 hB9 H8
            go_wp2_with fail
            go_ret
            exact ⟨rfl, hW9⟩
end Go.Proofs.Ytpkmnfpbcakflaa
