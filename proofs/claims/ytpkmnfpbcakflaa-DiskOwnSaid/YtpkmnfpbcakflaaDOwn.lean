/- The walk of DiskOwn. No condition. -/
import Derived.Test.YtpkmnfpbcakflaaLaw
namespace Go.Proofs.Ytpkmnfpbcakflaa
open Go.ChangeShapes Go.WideShapes Go.ChangeAt Go.RowKit

set_option maxRecDepth 100000 in
set_option maxHeartbeats 4000000 in
theorem down_law (qa : Option Addr) (qlen qcap : Nat) (qs : List (List Int)) (w : World) (hq : PartsIn w qa qlen qs) : Calls Try.prog 4 #[.slice qa qlen qcap] w fun e w' => e = .returned (.bool true) ∧ Below w.heap.size w w' := by
  obtain ⟨i0, hi0, hz0, hz1, hz2⟩ := info_parts infoB
  go_enter Try.func4, Try.ntmps4
  go_wp2_with fail
  refine (short_any qa qlen qcap qs 20 2000 w hq (by omega) (by omega)).mono ?_
  rintro e w1 ⟨a1, c1, rfl, hP, hB1⟩
  have hle := shorten_le qs 20 2000
  have hln := shorten_len qs 20 2000
  generalize shorten qs 20 2000 = ys at *
  clear hq
  have HLe := Lib.hid hle
  have HP := Lib.hid hP.2
  have HB1 := Lib.hid hB1
  clear hle hP hB1
  go_wp2_with fail
  refine (new_ok 8388608 (by omega) (by omega) w1).mono ?_
  rintro e w2 hN
  obtain ⟨p, rfl, S2, -⟩ := St.of_new (Below.refl _ w1) hN
  rw [empty_one nameA] at S2
  clear hN
  have H2 := Lib.hid S2
  clear S2
  go_wp2_with fail
  refine (known_any w2).mono ?_
  rintro e w3 ⟨rfl, hBk⟩
  have H3 := Lib.hid (H2.out.below hBk)
  clear H2 hBk
  go_wp2_with fail
  go_loopw [5, 6] (fun s i wr => ∃ k : Nat, s = .string (strOfNums (ys.take k).flatten) ∧ i = .int .i64 k ∧ k ≤ ys.length ∧ St w1 wr p (oneDk nameA 8388608 none (ys.take k) (-1) false)) (fun _ i _ => ys.length - (intOf i).toNat)
  case atStart => exact ⟨0, rfl, rfl, Nat.zero_le _, H3.out⟩
  case round =>
    obtain ⟨k, rfl, rfl, hk, hS⟩ := hrel
    have HS := Lib.hid hS
    clear hS H3
    by_cases hlt : k < ys.length
    · as_aux_lemma =>
      have hlt2 : k < 20 := by omega
      obtain ⟨y, hy⟩ : ∃ y, ys[k]? = some y := ⟨_, List.getElem?_eq_getElem hlt⟩
      obtain ⟨⟨bk, off, rfl, ab, cb, hcell, hc1, hc2, hsrc⟩, hbytes⟩ := HP.out k y hy
      have hbl := World.block_lt_of_cell? _ _ hcell
      have hSnoc := take_snoc ys k y hy
      have hyl : y.length ≤ 2000 := HLe.out y (List.mem_of_getElem? hy)
      have hfl : (ys.take k).flatten.length ≤ 40000 := Nat.le_trans (flat_take_le ys HLe.out k) (by omega)
      have hadd : ∀ w, (Op.stringOp .add (strOfNums (ys.take k).flatten) (strOfNums y)).run Try.prog w = .ok (.string (strOfNums (ys.take (k + 1)).flatten)) w := fun w => by
        rw [hSnoc, List.flatten_append, List.flatten_cons, List.flatten_nil, List.append_nil, ← str_append]
        exact run_string_add_sum w _ _ (by rw [strOfNums_size, strOfNums_size]; omega)
      have hc0 := (HS.out.2.cell (p := ⟨bk, off + k, none⟩) hbl).trans hcell
      have HApp := Lib.hid (HS.out.appP ab cb y hsrc (by rfl) (by decide) (.inl rfl) (by omega) (by omega) (by simp only [Option.getD_none, List.length_nil]; omega) (by rw [List.length_take]; omega) hbytes)
      have HSnoc := Lib.hid hSnoc
      have HSrc := Lib.hid hsrc
      have HCell := Lib.hid hcell
      clear hSnoc hsrc hcell hbytes hy HP HLe
      go_wp2_with fail
      refine HApp.out.mono ?_
      rintro e w4 ⟨rfl, S4⟩
      rw [← HSnoc.out] at S4
      have H4 := Lib.hid S4
      have hc4 := (H4.out.2.cell (p := ⟨bk, off + k, none⟩) hbl).trans HCell.out
      have hconv : (convert 25 9 (.slice ab y.length cb)).run Try.prog w4 = .ok (.string (strOfNums y)) w4 := run_string_src (P := Try.prog) (HSrc.out.below H4.out.2) 25 5 9 Try.underlying25 Try.underlying5 Try.underlying9
      clear S4 HApp HS HSrc
      go_wp2_with fail
      go_roundw
      case rel => exact ⟨k + 1, rfl, by go_num, by omega, H4.out⟩
      case measure => simp [intOf]; omega
    · as_aux_lemma =>
      have hkk : k = ys.length := by omega
      rw [hkk, List.take_length] at HS ⊢
      clear hkk hlt hk k
      have hfl : ys.flatten.length ≤ 40000 := by
        have := flat_le ys HLe.out
        omega
      have HRd := Lib.hid (show Calls _ _ _ _ fun e w' => BytesOut wr w' e (grown none ys).isSome ys.flatten from readB HS.out.1 (s := nameA) (by decide) (by simp only [Option.getD_none, List.length_nil]; omega))
      have HYl := Lib.hid hln
      clear hln
      generalize (grown none ys).isSome = there at *
      go_wp2_with fail
      refine HRd.out.mono ?_
      rintro e w5 ⟨a5, c5, rfl, R5, hfr5, hby5, hB5⟩
      have D5 := HS.out.1.more hB5
      have hW5 := (HS.out.below hB5).2
      have hX5 : ∀ k, (Value.slice a5 ys.flatten.length c5).ownBlock = some k → More (fun k => k < w1.heap.size) wr w5 k ∧ w1.heap.size ≤ k := fun k hk => ⟨.inr ⟨hfr5 k hk, R5.lt hk⟩, Nat.le_trans HS.out.2.size (hfr5 k hk)⟩
      have hXl : ∀ k, k < w1.heap.size → More (fun k => k < w1.heap.size) wr w5 k := fun _ h => .inl h
      have HXl := Lib.hid hXl
      generalize More (fun k => k < w1.heap.size) wr w5 = X5 at *
      obtain ⟨S, hS⟩ : ∃ S, strOfNums ys.flatten = S := ⟨_, rfl⟩
      have hSz : S.size = ys.flatten.length := by rw [← hS, strOfNums_size]
      rw [hS]
      obtain ⟨F, hF⟩ : ∃ F, ys.flatten = F := ⟨_, rfl⟩
      rw [hF] at R5 hby5 hX5 hSz hfl hS ⊢
      obtain ⟨m, hm⟩ : ∃ m, F.length = m := ⟨_, rfl⟩
      rw [hm] at R5 hX5 hSz hfl ⊢
      have HX5 := Lib.hid hX5
      have HD5 := Lib.hid D5
      have HBy5 := Lib.hid hby5
      have HR5 := Lib.hid R5
      have HW5 := Lib.hid hW5
      have HSe := Lib.hid hS
      have HF := Lib.hid hF
      have HM := Lib.hid hm
      clear HRd D5 R5 hfr5 hby5 hB5 hW5 hX5 hXl HS hS hF hm
      go_wp2_with fail
      go_loopw [9] (fun i wx => ∃ (j : Nat) (bs : List Int), i = .int .i64 j ∧ j ≤ m ∧ bs.length = m ∧ (∀ n ∈ bs, 0 ≤ n ∧ n < 256) ∧ Row wx 5 1 (.slice a5 m c5) m (byteCells bs) ∧ DiskOwn X5 wx p (oneDk nameA 8388608 none ys (-1) false) ∧ Below w1.heap.size w1 wx) (fun i _ => m - (intOf i).toNat)
      case atStart => exact ⟨0, F, rfl, Nat.zero_le _, HM.out, HBy5.out, HR5.out, HD5.out, HW5.out⟩
      case round =>
        clear HD5 HBy5 HR5 HW5
        obtain ⟨j, bs, rfl, hjm, hbl, hbb, R, D, hW⟩ := hrel
        have HR := Lib.hid R
        have HD := Lib.hid D
        have HW := Lib.hid hW
        have HBb := Lib.hid hbb
        clear R D hW hbb
        by_cases hjm2 : j < m
        · as_aux_lemma =>
          obtain ⟨g, rfl, hgl, hgc, hgf⟩ := HR.out.view (by omega)
          have c0 : ∃ u, wr.cell? ⟨g, j, none⟩ = some u := by
            rw [hgc j (by omega)]
            exact ⟨_, List.getElem?_eq_getElem (by rw [byteCells_len]; omega)⟩
          obtain ⟨u, c0⟩ := c0
          have f0 := hgf j
          obtain ⟨x1, x2⟩ := HX5.out g (by simp [Value.ownBlock])
          have hset : byteCells (bs.set j 238) = (byteCells bs).set j (.int .u8 238) := by simp [byteCells, List.map_set]
          have HSet := Lib.hid hset
          clear hgc hgf hset
          go_wp2_with fail
          go_roundw
          case rel => exact ⟨j + 1, bs.set j 238, by go_num, by omega, by rw [List.length_set]; exact hbl, fun n hn => by
            rcases List.mem_or_eq_of_mem_set hn with h | h
            · exact HBb.out n h
            · subst h; omega, by rw [HSet.out]; exact HR.out.stored j _, HD.out.cell x1 j _, HW.out.setCell x2 _⟩
          case measure => simp [intOf]; omega
        · as_aux_lemma =>
          obtain ⟨r, hr⟩ : ∃ r, r = min m 1 := ⟨_, rfl⟩
          have hrm : r ≤ m := by omega
          have hr1 : r ≤ 1 := by omega
          have hmin : ∀ ts t w, (Builtin.min_ ts t #[.int .i64 m, .int .i64 1]).run Try.prog w = .ok (.int .i64 r) w := fun ts t w => by
            rw [Lib.run_min_ints, hr]
            congr 2; omega
          clear hr
          obtain ⟨_, _, e5, hc51, -, hc52⟩ := HR.out.form
          simp only [Value.slice.injEq, true_and] at e5
          obtain ⟨-, rfl⟩ := e5
          have hsl := fun w => run_slice_to (P := Try.prog) w 25 5 i0 Try.underlying25 hi0 a5 m c5 r (by omega) .i64
          have hsrc : Src wr 1 (.slice a5 r c5) r (byteCells (bs.take r)) := by
            have := Src.of_row HR.out (byteCells_one _)
            exact this.take r hrm
          have hlr : (bs.take r).length = r := by rw [List.length_take]; omega
          have hbr : ∀ z ∈ bs.take r, 0 ≤ z ∧ z < 256 := fun z hz => HBb.out z (List.mem_of_mem_take hz)
          generalize bs.take r = y at *
          have HApp := Lib.hid (app_one X5 p nameA 8388608 none ys (-1) wr a5 r c5 y HD.out (by rfl) (by decide) (.inl rfl) (by omega) (by omega) (by simp only [Option.getD_none, List.length_nil, HF.out, HM.out]; omega) (by have := HYl.out; omega) hlr hsrc (fun _ k hk => (HX5.out k (by rw [own_slice a5 m c5 r c5]; exact hk)).1) hbr)
          clear hsrc hbr HD HR HBb
          go_wp2_with fail
          refine HApp.out.mono ?_
          rintro e w6 ⟨rfl, D6, K6⟩
          have hW6 := HW.out.trans (K6.below HXl.out HW.out.size)
          have hfl6 : (ys ++ [y]).flatten = F ++ y := by rw [List.flatten_append, HF.out]; simp
          have HRd := Lib.hid (show Calls _ _ _ _ fun e w' => BytesOut w6 w' e (grown none (ys ++ [y])).isSome (F ++ y) from by
            have := readB D6 (s := nameA) (by decide) (by rw [hfl6, List.length_append, HM.out, hlr]; simp only [Option.getD_none, List.length_nil]; omega)
            rw [hfl6] at this
            exact this)
          generalize (grown none (ys ++ [y])).isSome = there2 at *
          have HW6 := Lib.hid hW6
          have HLr := Lib.hid hlr
          clear hW6 hfl6 D6 K6 HApp hlr
          go_wp2_with fail
          refine HRd.out.mono ?_
          rintro e w7 ⟨a7, c7, rfl, R7, -, -, hB7⟩
          have hW7 := HW6.out.trans (hB7.mono HW6.out.size)
          have hl7 : (F ++ y).length = m + r := by rw [List.length_append, HM.out, HLr.out]
          rw [hl7] at R7 ⊢
          obtain ⟨_, _, e7, hc71, -, hc72⟩ := R7.form
          simp only [Value.slice.injEq, true_and] at e7
          obtain ⟨-, rfl⟩ := e7
          have hsl7 := fun w => run_slice_to (P := Try.prog) w 25 5 i0 Try.underlying25 hi0 a7 (m + r) c7 m (by omega) .i64
          have hsrc7 : Src w7 1 (.slice a7 m c7) m (byteCells F) := by
            have h := (Src.of_row R7 (byteCells_one _)).take m (by omega)
            rw [List.take_append_of_le_length (by rw [HM.out]; exact Nat.le_refl _), show F.take m = F from List.take_of_length_le (by rw [HM.out]; exact Nat.le_refl _)] at h
            exact h
          have hconv : (convert 25 9 (.slice a7 m c7)).run Try.prog w7 = .ok (.string S) w7 := by
            rw [← HSe.out]
            exact run_string_src (P := Try.prog) hsrc7 25 5 9 Try.underlying25 Try.underlying5 Try.underlying9
          have ht : (((m + r : Nat) : Int) == (m : Int) + (r : Int)) = true := by simp
          clear HRd R7 hB7 hsrc7
          go_wp2_with fail
          go_ret
          exact ⟨rfl, HB1.out.trans (hW7.mono HB1.out.size)⟩
end Go.Proofs.Ytpkmnfpbcakflaa
