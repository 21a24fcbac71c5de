/- The walk of DiskFuses. No condition. -/
import Derived.Test.YtpkmnfpbcakflaaLawK
namespace Go.Proofs.Ytpkmnfpbcakflaa
open Go.ChangeShapes Go.WideShapes Go.ChangeAt Go.RowKit

theorem cut_all (o : Option (List Int)) (l : List (List Int)) (torn : Int) : cutO o l l.length torn = grown o l := by
  simp [cutO]
theorem St.fuseN {w0 w : World} {p : Nat} (h : St w0 w p (oneDk nameA 8388608 none [] (-1) false)) (N : Nat) : Calls Try.prog 23 #[.pointer (some ⟨p, 0, none⟩), .int .i64 N] w fun e w' => e = .returned (.tuple #[]) ∧ St w0 w' p (oneDk nameA 8388608 none [] N false) := by
  have e : fuseV (N : Int) = N := by unfold fuseV; rw [if_neg (by omega)]
  have := fuse_own _ p _ N w h.1
  rw [e] at this
  exact this.mono fun _ _ ⟨he, hD, hK⟩ => ⟨he, St.keep h.2 hD hK⟩
theorem St.down {w0 w : World} {p : Nat} {d : Dk} (h : St w0 w p d) : Calls Try.prog 24 #[.pointer (some ⟨p, 0, none⟩)] w fun e w' => e = .returned (.bool d.down) ∧ w = w' := down_own _ p d w h.1

/-- the state behind i calls under a fuse of N -/
def fz (N : Nat) (ys : List (List Int)) (i : Nat) : Dk := oneDk nameA 8388608 none (ys.take (min i N)) ((N : Int) - (min i N : Nat)) (decide (N < i))

set_option maxRecDepth 100000 in
set_option maxHeartbeats 4000000 in
theorem dfuses_law (n : Int) (qa : Option Addr) (qlen qcap : Nat) (qs : List (List Int)) (w : World) (hq : PartsIn w qa qlen qs) :
    Calls Try.prog 6 #[.int .i64 n, .slice qa qlen qcap] w fun e w' => e = .returned (.bool true) ∧ Below w.heap.size w w' := by
  go_enter Try.func6, Try.ntmps6
  go_wp2_with fail
  refine (pick_any n 12 (by omega) (by omega) w).mono ?_
  rintro e wp ⟨rfl, rfl⟩
  obtain ⟨N, hN0, hN1⟩ := pickV_at n 12 (by omega)
  rw [hN0]
  clear hN0
  go_wp2_with fail
  refine (short_any qa qlen qcap qs 20 2000 wp hq (by omega) (by omega)).mono ?_
  rintro e w1 ⟨a1, c1, rfl, hP, hB1⟩
  have hle := shorten_le qs 20 2000
  have hln := shorten_len qs 20 2000
  generalize shorten qs 20 2000 = ys at *
  clear hq
  have HLe := Lib.hid hle
  have HP := Lib.hid hP.2
  have HB1 := Lib.hid hB1
  clear hle hP hB1
  go_wp2_with fail
  refine (new_ok 8388608 (by omega) (by omega) w1).mono ?_
  rintro e w2 hN
  obtain ⟨p, rfl, S2, -⟩ := St.of_new (Below.refl _ w1) hN
  rw [empty_one nameA] at S2
  clear hN
  have H2 := Lib.hid S2
  clear S2
  go_wp2_with fail
  refine (known_any w2).mono ?_
  rintro e w3 ⟨rfl, hBk⟩
  have H3 := Lib.hid (H2.out.below hBk)
  clear H2 hBk
  go_wp2_with fail
  refine (H3.out.fuseN N).mono ?_
  rintro e w4 ⟨rfl, S4⟩
  have e0 : oneDk nameA 8388608 none [] (N : Int) false = fz N ys 0 := by simp [fz]
  rw [e0] at S4
  have H4 := Lib.hid S4
  clear S4 H3 e0
  go_wp2_with fail
  go_loopw [7, 8] (fun d i wr => ∃ k : Nat, d = .int .i64 (min k N : Nat) ∧ i = .int .i64 k ∧ k ≤ ys.length ∧ St w1 wr p (fz N ys k)) (fun _ i _ => ys.length - (intOf i).toNat)
  case atStart => exact ⟨0, by simp, rfl, Nat.zero_le _, H4.out⟩
  case round =>
    obtain ⟨k, rfl, rfl, hk, hS⟩ := hrel
    have HS := Lib.hid hS
    clear hS H4
    by_cases hlt : k < ys.length
    · have hlt2 : k < 20 := by omega
      obtain ⟨y, hy⟩ : ∃ y, ys[k]? = some y := ⟨_, List.getElem?_eq_getElem hlt⟩
      obtain ⟨⟨bk, off, rfl, ab, cb, hcell, hc1, hc2, hsrc⟩, hbytes⟩ := HP.out k y hy
      have hbl := World.block_lt_of_cell? _ _ hcell
      have hyl : y.length ≤ 2000 := HLe.out y (List.mem_of_getElem? hy)
      have hfl : (ys.take k).flatten.length ≤ 40000 := Nat.le_trans (flat_take_le ys HLe.out k) (by omega)
      have hc0 := (HS.out.2.cell (p := ⟨bk, off + k, none⟩) hbl).trans hcell
      by_cases hkN : k < N
      · as_aux_lemma =>
        have e1 : fz N ys k = oneDk nameA 8388608 none (ys.take k) ((N : Int) - (k : Nat)) false := by
          unfold fz
          rw [show min k N = k by omega, show decide (N < k) = false by simp; omega]
        have e2 : oneDk nameA 8388608 none (ys.take k ++ [y]) (nf ((N : Int) - (k : Nat))) false = fz N ys (k + 1) := by
          unfold fz nf
          rw [show min (k + 1) N = k + 1 by omega, show decide (N < k + 1) = false by simp; omega, if_pos (by omega), take_snoc ys k y hy]
          congr 1; omega
        have hS := HS.out
        rw [e1] at hS
        have hApp := hS.appP ab cb y hsrc (by rfl) (by decide) (.inr (by omega)) (by omega) (by omega) (by simp only [Option.getD_none, List.length_nil]; omega) (by rw [List.length_take]; omega) hbytes
        rw [e2] at hApp
        have HApp := Lib.hid hApp
        have hmin : min k N = k := by omega
        rw [hmin]
        have t1 : decide (k < N) = true := by simp; omega
        clear hsrc hcell hbytes hy HP HLe hS hApp e1 e2 HS hmin
        go_wp2_with fail
        refine HApp.out.mono ?_
        rintro e w5 ⟨rfl, S5⟩
        have H5 := Lib.hid S5
        clear S5 HApp hc0
        go_wp2_with fail
        go_roundw
        case rel => exact ⟨k + 1, by rw [show min (k + 1) N = k + 1 by omega]; go_num, by go_num, by omega, H5.out⟩
        case measure => simp [intOf]; omega
      · as_aux_lemma =>
        have e1 : fz N ys k = oneDk nameA 8388608 none (ys.take N) 0 (decide (N < k)) := by
          unfold fz
          rw [show min k N = N by omega]
          congr 1; omega
        have e2 : oneDk nameA 8388608 none (ys.take N) 0 true = fz N ys (k + 1) := by
          unfold fz
          rw [show min (k + 1) N = N by omega, show decide (N < k + 1) = true by simp; omega]
          congr 1; omega
        have hS := HS.out
        rw [e1] at hS
        have hApp := hS.stopP ab y.length cb (by omega) (by omega) (by simp)
        rw [e2] at hApp
        have HApp := Lib.hid hApp
        have hmin : min k N = N := by omega
        rw [hmin]
        have t1 : decide (k < N) = false := by simp; omega
        have hdn : (fz N ys (k + 1)).down = true := by show decide (N < k + 1) = true; simp; omega
        have HDn := Lib.hid hdn
        clear hsrc hcell hbytes hy HP HLe hS hApp e1 e2 HS hmin hdn
        go_wp2_with fail
        refine HApp.out.mono ?_
        rintro e w5 ⟨rfl, S5⟩
        have hD := S5.down
        rw [HDn.out] at hD
        have HD := Lib.hid hD
        have H5 := Lib.hid S5
        clear S5 HApp hc0 hD
        go_wp2_with fail
        refine HD.out.mono ?_
        rintro e w6 ⟨rfl, rfl⟩
        go_wp2_with fail
        go_roundw
        case rel => exact ⟨k + 1, by rw [show min (k + 1) N = N by omega], by go_num, by omega, H5.out⟩
        case measure => simp [intOf]; omega
    · as_aux_lemma =>
      have hkk : k = ys.length := by omega
      subst hkk
      obtain ⟨M, hM⟩ : ∃ M, min ys.length N = M := ⟨_, rfl⟩
      have hMl : (ys.take M).length = M := by rw [List.length_take]; omega
      have hS := HS.out
      unfold fz at hS
      rw [hM] at hS ⊢
      have hfl : (ys.take M).flatten.length ≤ 40000 := Nat.le_trans (flat_take_le ys HLe.out M) (by omega)
      have hMy : M ≤ ys.length := by omega
      have hPend := pending_one _ p _ _ _ _ _ _ _ hS.1
      rw [hMl] at hPend
      have hCr := hS.crash (M : Int) 0 (by decide) (by omega) (by simp only [Option.getD_none, List.length_nil]; omega) M (by
        rw [hMl]; unfold pickV
        rw [Int.tmod_eq_of_lt (by omega) (by omega), if_neg (by omega)]) (by omega)
      have hcut : cutO none (ys.take M) M 0 = grown none (ys.take M) := by
        have := cut_all none (ys.take M) 0
        rw [hMl] at this; exact this
      rw [hcut] at hCr
      have HPend := Lib.hid hPend
      have HCr := Lib.hid hCr
      clear hS HS hPend hCr hcut hMl
      go_wp2_with fail
      refine HPend.out.mono ?_
      rintro e w5 ⟨rfl, rfl⟩
      go_wp2_with fail
      refine HCr.out.mono ?_
      rintro e w6 ⟨rfl, S6⟩
      have H6 := Lib.hid S6
      clear S6 HCr HPend
      go_wp2_with fail
      go_loopw [10, 11] (fun s i wx => ∃ j : Nat, s = .string (strOfNums (ys.take j).flatten) ∧ i = .int .i64 j ∧ j ≤ M ∧ wx = w6) (fun _ i _ => M - (intOf i).toNat)
      case atStart => exact ⟨0, rfl, rfl, Nat.zero_le _, rfl⟩
      case round =>
        obtain ⟨j, rfl, rfl, hj, rfl⟩ := hrel
        by_cases hjm : j < M
        · as_aux_lemma =>
          obtain ⟨y, hy⟩ : ∃ y, ys[j]? = some y := ⟨_, List.getElem?_eq_getElem (by omega)⟩
          obtain ⟨⟨bk, off, rfl, ab, cb, hcell, hc1, hc2, hsrc⟩, hbytes⟩ := HP.out j y hy
          have hbl := World.block_lt_of_cell? _ _ hcell
          have hSnoc := take_snoc ys j y hy
          have hyl : y.length ≤ 2000 := HLe.out y (List.mem_of_getElem? hy)
          have hfl2 : (ys.take j).flatten.length ≤ 40000 := Nat.le_trans (flat_take_le ys HLe.out j) (by omega)
          have hadd : ∀ w, (Op.stringOp .add (strOfNums (ys.take j).flatten) (strOfNums y)).run Try.prog w = .ok (.string (strOfNums (ys.take (j + 1)).flatten)) w := fun w => by
            rw [hSnoc, List.flatten_append, List.flatten_cons, List.flatten_nil, List.append_nil, ← str_append]
            exact run_string_add_sum w _ _ (by rw [strOfNums_size, strOfNums_size]; omega)
          have hc0 := (H6.out.2.cell (p := ⟨bk, off + j, none⟩) hbl).trans hcell
          have hconv : (convert 25 9 (.slice ab y.length cb)).run Try.prog wr = .ok (.string (strOfNums y)) wr := run_string_src (P := Try.prog) (hsrc.below H6.out.2) 25 5 9 Try.underlying25 Try.underlying5 Try.underlying9
          clear hSnoc hsrc hcell hbytes hy HP HLe
          go_wp2_with fail
          go_roundw
          case rel => exact ⟨j + 1, rfl, by go_num, by omega, trivial⟩
          case measure => simp [intOf]; omega
        · as_aux_lemma =>
          obtain rfl : j = M := by omega
          have HRd := Lib.hid (show Calls _ _ _ _ fun e w' => BytesOut wr w' e (grown none (ys.take j)).isSome (ys.take j).flatten from by
            have hb : (grown none (ys.take j)).getD [] = (ys.take j).flatten := by rw [grown_bytes]; rfl
            have := readB H6.out.1 (s := nameA) (by decide) (by rw [hb]; simp only [List.flatten_nil, List.length_nil]; omega)
            rw [grown_nil, hb, List.flatten_nil, List.append_nil] at this
            exact this)
          generalize hth : (grown none (ys.take j)).isSome = there at *
          generalize hTf : (ys.take j).flatten = F at *
          clear hth hTf
          go_wp2_with fail
          refine HRd.out.mono ?_
          rintro e w7 ⟨a7, c7, rfl, R7, -, -, hB7⟩
          have hconv7 : (convert 25 9 (.slice a7 F.length c7)).run Try.prog w7 = .ok (.string (strOfNums F)) w7 := run_string_src (P := Try.prog) (Src.of_row R7 (byteCells_one _)) 25 5 9 Try.underlying25 Try.underlying5 Try.underlying9
          have S7 := H6.out.below hB7
          have HD7 := Lib.hid S7.down
          have HSy := Lib.hid (S7.sync (.inl rfl) (by decide))
          generalize strOfNums F = T at *
          clear HRd R7 hB7 H6 S7
          go_wp2_with fail
          refine HD7.out.mono ?_
          rintro e w8 ⟨rfl, rfl⟩
          go_wp2_with fail
          refine HSy.out.mono ?_
          rintro e w9 ⟨rfl, S9⟩
          have hW := HB1.out.trans (S9.2.mono HB1.out.size)
          clear S9 HSy
          go_wp2_with fail
          go_ret
          exact ⟨rfl, hW⟩
end Go.Proofs.Ytpkmnfpbcakflaa
