/- The walks of the statements WalNames and WalKnown. No condition. -/
import Derived.Test.YtpkmnfpbcakflaaWKnown
namespace Go.Proofs.Ytpkmnfpbcakflaa
open Go.ChangeShapes Go.WideShapes Go.ChangeAt Go.RowKit Go.Sort

set_option maxRecDepth 100000 in
set_option maxHeartbeats 4000000 in
theorem walNames_any (n : Int) (hn : (Lit.int IntKind.u64 n).wf = true) (w : World) : Calls Try.prog 12 #[.int .u64 n] w fun e w' => e = .returned (.bool true) ∧ Below w.heap.size w w' := by
  have h0 : 0 ≤ n := by
    simp only [Lit.wf, Bool.and_eq_true, decide_eq_true_eq] at hn
    exact hn.1
  obtain ⟨m, rfl⟩ : ∃ m : Nat, n = m := ⟨n.toNat, by omega⟩
  have HW := Lib.hid (fun w => wal_name m w)
  have HR := Lib.hid (fun w => ref_name m w)
  clear hn h0
  generalize nameN m = s at *
  go_enter Try.func12, Try.ntmps12
  go_wp2_with fail
  refine (wknown_any w).mono ?_
  rintro e w1 ⟨rfl, hB1⟩
  have H1 := Lib.hid hB1
  clear hB1
  go_wp2_with fail
  refine (HW.out w1).mono ?_
  rintro e w2 ⟨rfl, hB2⟩
  have H2 := Lib.hid (H1.out.trans (hB2.mono H1.out.size))
  clear hB2
  go_wp2_with fail
  refine (HR.out w2).mono ?_
  rintro e w3 ⟨rfl, rfl⟩
  go_wp2_with fail
  go_ret
  exact ⟨by simp, H2.out⟩
set_option maxRecDepth 100000 in
set_option maxHeartbeats 8000000 in
theorem walKnown_any (w : World) : Calls Try.prog 13 #[] w fun e w' => e = .returned (.bool true) ∧ Below w.heap.size w w' := by
  go_enter Try.func13, Try.ntmps13
  go_wp2_with fail
  refine (new_ok 8388608 (by decide) (by decide) w).mono ?_
  rintro e w1 hN
  obtain ⟨p, rfl, S1, -⟩ := St.of_new (Below.refl _ w) hN
  rw [empty_one nm5] at S1
  have H1 := Lib.hid (show St w w1 p (wd none) from S1)
  clear hN S1
  go_wp2_with fail
  refine (wopen_nil 0 w1).mono ?_
  rintro e w2 ⟨rfl, rfl⟩
  go_wp2_with fail
  refine (wopen_big p w1).mono ?_
  rintro e w2 ⟨rfl, rfl⟩
  go_wp2_with fail
  refine (wknown_any w1).mono ?_
  rintro e w2 ⟨rfl, hB2⟩
  have H2 := Lib.hid (wopen_none (H1.out.below hB2) 4 (by decide))
  clear hB2 H1
  go_wp2_with fail
  refine H2.out.mono ?_
  rintro e w3 ⟨l, rfl, J3⟩
  have H3 := Lib.hid J3
  clear J3 H2
  go_wp2_with fail
  refine (batch_any 5 w3).mono ?_
  rintro e w4 ⟨g4, rfl, -, hS4, hB4⟩
  have H4 := Lib.hid (wappend_ok (H3.out.below hB4) _ _ hS4)
  clear hS4 hB4 H3
  go_wp2_with fail
  refine H4.out.mono ?_
  rintro e w5 ⟨rfl, J5⟩
  have HZ5 := Lib.hid (wsize_one J5)
  have H5 := Lib.hid J5
  clear J5 H4
  go_wp2_with fail
  refine HZ5.out.mono ?_
  rintro e w6 ⟨rfl, hB6⟩
  have J6 := H5.out.below hB6
  have J6' := J6
  obtain ⟨X6, v6, -, -, -, -, -, hL6, -⟩ := J6'
  have HBd := Lib.hid (wbegin_bad hL6)
  have HOk := Lib.hid (wbegin_ok J6)
  clear hB6 J6 hL6 H5 HZ5
  go_wp2_with fail
  refine HBd.out.mono ?_
  rintro e w7 ⟨rfl, rfl⟩
  clear HBd
  go_wp2_with fail
  refine HOk.out.mono ?_
  rintro e w8 ⟨rfl, S8, a8, c8, hL8⟩
  have HZ8 := Lib.hid (wsize_none hL8)
  have HO8 := Lib.hid (wopen_none S8 5 (by decide))
  clear S8 hL8 HOk
  go_wp2_with fail
  refine HZ8.out.mono ?_
  rintro e w9 ⟨rfl, rfl⟩
  clear HZ8
  go_wp2_with fail
  refine HO8.out.mono ?_
  rintro e w10 ⟨l2, rfl, J10⟩
  have HB10 := Lib.hid J10.st.2
  obtain ⟨X10, v10, -, -, -, -, -, hL10, -⟩ := J10
  have HLs := Lib.hid (wlast_any hL10)
  clear hL10 HO8
  go_wp2_with fail
  refine HLs.out.mono ?_
  rintro e w11 ⟨rfl, rfl⟩
  clear HLs
  go_wp2_with fail
  refine (wname_big 1099511627777 (by decide) _).mono ?_
  rintro e w11 ⟨rfl, rfl⟩
  go_wp2_with fail
  refine (wright_zero _).mono ?_
  rintro e w12 ⟨rfl, hB12⟩
  have H12 := Lib.hid (HB10.out.trans (hB12.mono HB10.out.size))
  clear hB12
  go_wp2_with fail
  go_ret
  exact ⟨rfl, H12.out⟩
end Go.Proofs.Ytpkmnfpbcakflaa
