/- The walk of chapter 5's closed sentence. No condition. -/
import Derived.Test.YtpkmnfpbcakflaaWSame
namespace Go.Proofs.Ytpkmnfpbcakflaa
open Go.ChangeShapes Go.WideShapes Go.ChangeAt Go.RowKit Go.Sort

theorem nm5_lit : nm5 = ⟨#[106, 48, 48, 48, 48, 48, 48, 48, 48, 48, 48, 48, 48, 48, 48, 53]⟩ := by
  unfold nm5 nameN
  rw [if_neg (by omega)]
  decide
theorem wal_name5 (w : World) : Calls Try.prog 37 #[.int .u64 5] w fun e w' => e = .returned (.string ⟨#[106, 48, 48, 48, 48, 48, 48, 48, 48, 48, 48, 48, 48, 48, 48, 53]⟩) ∧ Below w.heap.size w w' := by
  have := wal_name 5 w
  rw [show nameN 5 = _ from nm5_lit] at this
  exact this
set_option maxRecDepth 100000 in
set_option maxHeartbeats 8000000 in
theorem wknown_any (w : World) : Calls Try.prog 36 #[] w fun e w' => e = .returned (.bool true) ∧ Below w.heap.size w w' := by
  go_enter Try.func36, Try.ntmps36
  go_wp2_with fail
  refine (new_ok 8388608 (by decide) (by decide) w).mono ?_
  rintro e w1 hN
  obtain ⟨p, rfl, S1, -⟩ := St.of_new (Below.refl _ w) hN
  rw [empty_one nm5] at S1
  have H1 := Lib.hid (show St w w1 p (wd none) from S1)
  clear hN S1
  go_wp2_with fail
  refine (wal_name5 w1).mono ?_
  rintro e w2 ⟨rfl, hB2⟩
  have H2 := Lib.hid (wopen_none (H1.out.below hB2) 4 (by decide))
  clear hB2 H1
  go_wp2_with fail
  refine H2.out.mono ?_
  rintro e w3 ⟨l, rfl, J3⟩
  have H3 := Lib.hid J3
  clear J3 H2
  go_wp2_with fail
  refine (batch_any 5 w3).mono ?_
  rintro e w4 ⟨g4, rfl, -, hS4, hB4⟩
  have H4 := Lib.hid (wappend_ok (H3.out.below hB4) _ _ hS4)
  clear hS4 hB4 H3
  go_wp2_with fail
  refine H4.out.mono ?_
  rintro e w5 ⟨rfl, J5⟩
  have H5 := Lib.hid J5
  clear J5 H4
  go_wp2_with fail
  refine (batch_any 7 w5).mono ?_
  rintro e w6 ⟨g6, rfl, -, hS6, hB6⟩
  have J6 := H5.out.below hB6
  have J6' := J6
  obtain ⟨X6, v6, -, -, -, -, -, hL6, -⟩ := J6'
  have HA6 := Lib.hid (wappend_bad hL6 _ _ hS6)
  have H6 := Lib.hid J6
  clear hS6 hB6 J6 hL6 H5
  go_wp2_with fail
  refine HA6.out.mono ?_
  rintro e w7 ⟨rfl, hB7⟩
  have J7 := H6.out.below hB7
  have J7' := J7
  obtain ⟨X7, v7, -, -, -, -, -, hL7, -⟩ := J7'
  have HL7 := Lib.hid (wlast_any hL7)
  have HO7 := Lib.hid (wopen_one J7.st)
  clear J7 hL7 hB7 H6 HA6
  go_wp2_with fail
  refine HL7.out.mono ?_
  rintro e w8 ⟨rfl, rfl⟩
  clear HL7
  go_wp2_with fail
  refine HO7.out.mono ?_
  rintro e w8 ⟨l8, v8, rfl, hO8, J8⟩
  obtain ⟨g8, c8, a8, cb8, rfl, hR8, hS8, -, -⟩ := hO8
  obtain ⟨gg, hgg, hgl, hgc, -⟩ := hR8.view (by omega)
  simp only [Option.some.injEq, Addr.mk.injEq, and_true] at hgg
  subst hgg
  have r0 : w8.cell? ⟨g8, 0, none⟩ = some (.int .u64 5) := hgc 0 (by omega)
  have r1 : w8.cell? ⟨g8, 1, none⟩ = some (.int .u64 3) := hgc 1 (by omega)
  have r2 : w8.cell? ⟨g8, 2, none⟩ = some (.complex .f64 4607182418800017408 0) := hgc 2 (by omega)
  have r3 : w8.cell? ⟨g8, 3, none⟩ = some (.complex .f64 4607182418800017408 4611686018427387904) := hgc 3 (by omega)
  have r4 : w8.cell? ⟨g8, 4, none⟩ = some (.bool false) := hgc 4 (by omega)
  have r5 : w8.cell? ⟨g8, 5, none⟩ = some (.slice a8 2 cb8) := hgc 5 (by omega)
  have r6 : w8.cell? ⟨g8, 6, none⟩ = some (.bool false) := hgc 6 (by omega)
  have HB8 := Lib.hid (show Below w.heap.size w w8 from J8.st.2)
  have HS8 := Lib.hid hS8
  clear hgc hR8 hS8 J8 HO7
  go_wp2_with fail
  go_region_held3 (fun w' => w'.cell? ⟨g8, 0, none⟩ = some (.int .u64 5) ∧ w'.cell? ⟨g8, 1, none⟩ = some (.int .u64 3) ∧ w'.cell? ⟨g8, 2, none⟩ = some (.complex .f64 4607182418800017408 0) ∧ w'.cell? ⟨g8, 3, none⟩ = some (.complex .f64 4607182418800017408 4611686018427387904) ∧ w'.cell? ⟨g8, 4, none⟩ = some (.bool false) ∧ w'.cell? ⟨g8, 5, none⟩ = some (.slice a8 2 cb8) ∧ w'.cell? ⟨g8, 6, none⟩ = some (.bool false))
    (first | exact ⟨p0, p1, p2, p3, p4, p5, p6⟩ | exact ⟨r0, r1, r2, r3, r4, r5, r6⟩ | go_keep)
    (first
      | (go_at_call 41; refine (batch_any 5 _).mono ?_; rintro e w9 ⟨g9, rfl, hg9, hS9, hB9⟩; have hB89 : Below w8.heap.size w8 w9 := (Below.refl _ _).drew.trans hB9; have p0 := ((hB89.cell (p := ⟨g8, 0, none⟩) hgl).trans r0 : w9.cell? ⟨g8, 0, none⟩ = some (.int .u64 5)); have p1 := ((hB89.cell (p := ⟨g8, 1, none⟩) hgl).trans r1 : w9.cell? ⟨g8, 1, none⟩ = some (.int .u64 3)); have p2 := ((hB89.cell (p := ⟨g8, 2, none⟩) hgl).trans r2 : w9.cell? ⟨g8, 2, none⟩ = some (.complex .f64 4607182418800017408 0)); have p3 := ((hB89.cell (p := ⟨g8, 3, none⟩) hgl).trans r3 : w9.cell? ⟨g8, 3, none⟩ = some (.complex .f64 4607182418800017408 4611686018427387904)); have p4 := ((hB89.cell (p := ⟨g8, 4, none⟩) hgl).trans r4 : w9.cell? ⟨g8, 4, none⟩ = some (.bool false)); have p5 := ((hB89.cell (p := ⟨g8, 5, none⟩) hgl).trans r5 : w9.cell? ⟨g8, 5, none⟩ = some (.slice a8 2 cb8)); have p6 := ((hB89.cell (p := ⟨g8, 6, none⟩) hgl).trans r6 : w9.cell? ⟨g8, 6, none⟩ = some (.bool false)))
      | (go_at_call 71; refine (wsame_yes _ _ _ _ (HS8.out.below hB89) hS9).mono ?_; rintro e w10 ⟨rfl, hB10⟩; have hB810 : Below w8.heap.size w8 w10 := hB89.trans (hB10.mono hB89.size); have p0 := ((hB810.cell (p := ⟨g8, 0, none⟩) hgl).trans r0 : w10.cell? ⟨g8, 0, none⟩ = some (.int .u64 5)); have p1 := ((hB810.cell (p := ⟨g8, 1, none⟩) hgl).trans r1 : w10.cell? ⟨g8, 1, none⟩ = some (.int .u64 3)); have p2 := ((hB810.cell (p := ⟨g8, 2, none⟩) hgl).trans r2 : w10.cell? ⟨g8, 2, none⟩ = some (.complex .f64 4607182418800017408 0)); have p3 := ((hB810.cell (p := ⟨g8, 3, none⟩) hgl).trans r3 : w10.cell? ⟨g8, 3, none⟩ = some (.complex .f64 4607182418800017408 4611686018427387904)); have p4 := ((hB810.cell (p := ⟨g8, 4, none⟩) hgl).trans r4 : w10.cell? ⟨g8, 4, none⟩ = some (.bool false)); have p5 := ((hB810.cell (p := ⟨g8, 5, none⟩) hgl).trans r5 : w10.cell? ⟨g8, 5, none⟩ = some (.slice a8 2 cb8)); have p6 := ((hB810.cell (p := ⟨g8, 6, none⟩) hgl).trans r6 : w10.cell? ⟨g8, 6, none⟩ = some (.bool false))))
  have HBZ := Lib.hid (HB8.out.trans (hB810.mono HB8.out.size))
  clear p0 p1 p2 p3 p4 p5 p6 hB10 hB810 hB89 hB9 hS9 r0 r1 r2 r3 r4 r5 r6
  go_wp2_with fail
  go_ret
  exact ⟨rfl, HBZ.out⟩
end Go.Proofs.Ytpkmnfpbcakflaa
