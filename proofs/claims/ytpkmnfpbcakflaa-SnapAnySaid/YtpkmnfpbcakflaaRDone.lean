/- The walk of the reference's done. (Printed by wip/tools/rdone.py.) No condition. -/
import Derived.Test.YtpkmnfpbcakflaaRWith
import Derived.Test.YtpkmnfpbcakflaaCrash
import Derived.Deep.RegionHeld3
namespace Go.Proofs.Ytpkmnfpbcakflaa
open Go.ChangeShapes Go.WideShapes Go.ChangeAt Go.RowKit

theorem ROut.back {T : Nat → Prop} {w w3 w4 : World} {e : Ending} {L : Fl} (h : ROut w3 w4 e (More T w w3) L) (hB : Below w.heap.size w w3) : ROut w w4 e T L := by
  obtain ⟨v, us, he, hR, hB2⟩ := h
  have s1 := hB.size
  have s2 := hB2.size
  refine ⟨v, us, he, hR.move (fun _ _ => rfl) fun k hk => ?_, hB.trans (hB2.mono s1)⟩
  rcases hk with (hk | hk) | hk
  · exact .inl hk
  · exact .inr ⟨hk.1, by omega⟩
  · exact .inr ⟨by omega, hk.2⟩
theorem ROut.below {T : Nat → Prop} {w w3 : World} {e : Ending} {L : Fl} (h : ROut w w3 e T L) : Below w.heap.size w w3 := by
  obtain ⟨v, us, he, hR, hB2⟩ := h
  exact hB2
theorem more_lt {T : Nat → Prop} {w w3 : World} (hT : ∀ k, T k → k < w.heap.size) (hB : Below w.heap.size w w3) : ∀ k, More T w w3 k → k < w3.heap.size := by
  rintro k (hk | hk)
  · exact Nat.lt_of_lt_of_le (hT k hk) hB.size
  · exact hk.2
theorem RF.later {T : Nat → Prop} {w w3 : World} {v : Value} {L : Fl} {us : List Value} (h : RF T w v L us) (hT : ∀ k, T k → k < w.heap.size) (hB : Below w.heap.size w w3) : RF (More T w w3) w3 v L us :=
  h.move (fun k hk => hB.block k (hT k hk)) fun _ hk => .inl hk
theorem with_at {T : Nat → Prop} {w : World} {v : Value} {L : Fl} {us : List Value} (h : RF T w v L us) (hT : ∀ k, T k → k < w.heap.size) (hl : L.length ≤ 1000000) (name : ByteArray) (g : List Int) (w3 : World) (u : Value) (hB : Below w.heap.size w w3) (hu : Bts (More T w w3) w3 u g) :
    Calls Try.prog 112 #[v, .agg #[.string name, u]] w3 fun e w' => ROut w w' e T (insL (withoutL L name) (name, g)) ∧ Below w3.heap.size w3 w' :=
  (rwith (h.later hT hB) (more_lt hT hB) hl (name, g) u hu).mono fun _ _ ho => ⟨ho.back hB, ho.below⟩
theorem without_at {T : Nat → Prop} {w : World} {v : Value} {L : Fl} {us : List Value} (h : RF T w v L us) (hT : ∀ k, T k → k < w.heap.size) (hl : L.length ≤ 1000000) (name : ByteArray) (w3 : World) (hB : Below w.heap.size w w3) :
    Calls Try.prog 113 #[v, .string name] w3 fun e w' => ROut w w' e T (withoutL L name) ∧ Below w3.heap.size w3 w' :=
  (rwithout (h.later hT hB) (more_lt hT hB) hl name).mono fun _ _ ho => ⟨ho.back hB, ho.below⟩
/-- a row of bytes of the call's own -/
theorem bts_own {T : Nat → Prop} {w w3 : World} {a : Option Addr} {n c : Nat} {cells : List Value} {g : List Int} (h : Row w3 5 1 (.slice a n c) n cells) (hn : g.length = n) (hc : cells = byteCells g) (hat : ∀ k, (Value.slice a n c).ownBlock = some k → w.heap.size ≤ k) (hb : ∀ m ∈ g, 0 ≤ m ∧ m < 256) : Bts (More T w w3) w3 (.slice a n c) g := by
  subst hn hc
  exact Bts.of_row h hb fun k hk => .inr ⟨hat k hk, h.lt hk⟩
set_option maxRecDepth 100000 in
set_option maxHeartbeats 4000000 in
theorem done_remove {T : Nat → Prop} {w : World} {v : Value} {L : Fl} {us : List Value} (h : RF T w v L us) (hT : ∀ k, T k → k < w.heap.size) (hl : L.length ≤ 1000000) (name dest : ByteArray) (bs : List Int) (size : Int) (u : Value) (hu : Bts T w u bs) (hg : (getF (filesOf L) name).length ≤ 1000000000000) :
    Calls Try.prog 89 #[v, .agg #[.int .i64 3, .string name, .string dest, u, .int .i64 size]] w fun e w' => ROut w w' e T (withoutL L name) := by
  obtain ⟨i0, hi0, hz0, hz1, hz2⟩ := info_parts infoB
  obtain ⟨au, cu, rfl, hcu1, hcu2⟩ := hu.ex
  obtain ⟨W, hW⟩ : ∃ W, w.alloc (.cells #[.int .i64 3, .string name, .string dest, .slice au bs.length cu, .int .i64 size] 120) = W := ⟨_, rfl⟩
  have hB0 : Below w.heap.size w W := hW ▸ (Below.refl _ w).alloc (Nat.le_refl _) _
  have hnew : W.heap[w.heap.size]? = some (.cells #[.int .i64 3, .string name, .string dest, .slice au bs.length cu, .int .i64 size] 120 (0, 0)) := hW ▸ heap_alloc_new w _
  have lb0 : w.heap.size < W.heap.size := heap_lt hnew
  have b0 : W.cell? ⟨w.heap.size, 0, none⟩ = some (.int .i64 3) := by rw [cell_of_row _ _ _ _ _ _ hnew]; rfl
  have b1 : W.cell? ⟨w.heap.size, 1, none⟩ = some (.string name) := by rw [cell_of_row _ _ _ _ _ _ hnew]; rfl
  have b2 : W.cell? ⟨w.heap.size, 2, none⟩ = some (.string dest) := by rw [cell_of_row _ _ _ _ _ _ hnew]; rfl
  have b3 : W.cell? ⟨w.heap.size, 3, none⟩ = some (.slice au bs.length cu) := by rw [cell_of_row _ _ _ _ _ _ hnew]; rfl
  have b4 : W.cell? ⟨w.heap.size, 4, none⟩ = some (.int .i64 size) := by rw [cell_of_row _ _ _ _ _ _ hnew]; rfl
  have HFd := Lib.hid (rfind (h.move (w' := W) (fun k hk => hB0.block k (hT k hk)) fun _ hk => hk) name)
  have HH := Lib.hid (And.intro h hT)
  have HU := Lib.hid hu
  have HB0 := Lib.hid hB0
  have HWith := Lib.hid (with_at h hT hl)
  have HWout := Lib.hid (without_at h hT hl name)
  have HWlen := Lib.hid (Nat.le_trans (withoutL_len L name) hl)
  have hbl : bs.length ≤ cu := hcu1
  unfold maxLen at hcu2
  obtain ⟨m0, hm0⟩ : ∃ m0, bs.length = m0 := ⟨_, rfl⟩
  have HM0 := Lib.hid hm0
  obtain ⟨a, cap, rfl, hnc, hml, hcm⟩ := h.row.form
  unfold maxLen at hml
  obtain ⟨g0, hg0⟩ : ∃ g0, getF (filesOf L) name = g0 := ⟨_, rfl⟩
  have hcase := has_find L name
  rw [hg0] at hcase hg 
  rw [hm0] at hW b3 hbl ⊢
  have HLl := Lib.hid hl
  clear h hT hu hB0 hnew hl hcu1 hg0 hm0
  rcases hcase with ⟨hlt, -, rfl⟩ | ⟨i, x, hi, hx, -, rfl⟩
  · as_aux_lemma =>
    obtain ⟨fi, hfi⟩ : ∃ fi, findL L name = fi := ⟨_, rfl⟩
    rw [hfi] at HFd hlt
    go_enter Try.func89, Try.ntmps89
    go_wp2_with fail
    clear hW
    refine HFd.out.mono ?_
    rintro e w1 ⟨rfl, rfl⟩
    clear HFd hfi
    go_wp2_with fail
    have HRow := Lib.hid (Row.nil W 5 1)
    have HBx := Lib.hid HB0.out
    have hat0 : ∀ k, (Value.slice none 0 0).ownBlock = some k → w.heap.size ≤ k := fun k hk => by simp [Value.ownBlock] at hk
    have HAt0 := Lib.hid hat0
    clear hat0
    refine (HWout.out W HBx.out).mono ?_
    rintro e w4 ⟨⟨v4, us4, rfl, hR4, hB4⟩, -⟩
    have HO : Hid (ROut w w4 (.returned v4) T _) := ⟨v4, us4, rfl, hR4, hB4⟩
    clear hR4 hB4
    go_wp2_with fail
    go_ret
    exact HO.out
  · as_aux_lemma =>
    have hil : i < L.length := (List.getElem?_eq_some_iff.1 hx).1
    obtain ⟨ux, hux⟩ : ∃ u, us[i]? = some u := ⟨_, List.getElem?_eq_getElem (by rw [HH.out.1.len]; exact hil)⟩
    obtain ⟨g, rfl, hgl, hcell, -⟩ := HH.out.1.row.view (by omega)
    have hbx := HH.out.1.bts i x ux hx hux
    obtain ⟨ax, cx, rfl, hcx1, hcx2⟩ := hbx.ex
    obtain ⟨-, d1⟩ := fcells_at L us i x _ hx hux
    have e1 := ((HB0.out.cell (p := ⟨g, i * 2 + 1, none⟩) hgl).trans (hcell (i * 2 + 1) (by omega))).trans d1
    have hgW : g < W.heap.size := Nat.lt_of_lt_of_le hgl HB0.out.size
    replace e1 := (World.cell?_of_block (a := ⟨g, i * 2 + 1, none⟩) (Below.heap_alloc W (.cells #[] 5) g hgW)).trans e1
    obtain ⟨n2, hn2⟩ : ∃ n2, x.2.length = n2 := ⟨_, rfl⟩
    have HN2 := Lib.hid hn2
    have HBx2 := Lib.hid hbx
    rw [hn2] at e1 hg
    have hsx : Src (W.alloc (.cells #[] 5)) 1 (.slice ax n2 cx) n2 (byteCells x.2) := (hn2 ▸ hbx.src).below (HB0.out.alloc HB0.out.size _)
    have HSx := Lib.hid hsx
    have hdst := Row.lit_at W 5 1 #[] 0 W.heap.size rfl (by simp [maxLen]) rfl
    have HDst := Lib.hid hdst
    have HX := Lib.hid (And.intro hx hux)
    unfold maxLen at hcx2
    have hlL : L.length ≤ 9223372036854775807 := by omega
    rw [hi] at HFd
    clear hx hux hcell d1 hbx hsx hdst hi hn2
    go_enter Try.func89, Try.ntmps89
    go_wp2_with fail
    clear hW
    refine HFd.out.mono ?_
    rintro e w1 ⟨rfl, rfl⟩
    clear HFd
    go_wp2_with (at_builtin; refine wpList_append_row _ rfl _ _ 25 rfl 5 i0 _ 1 1 Try.underlying25 hi0 hz0 hz1 hz2 rfl (.slice (some ⟨W.heap.size, 0, none⟩) 0 0) 0 [] rfl HDst.out _ _ _ rfl HSx.out (by unfold maxLen; omega) (by omega) (W.heap.size + 1) (by simp) ?_; intro a2 c2 w2 hrow2 hgrow2 hat2; have hWw : Below W.heap.size W w2 := ((Below.refl _ W).alloc (Nat.le_refl _) (.cells #[] 5)).grown hgrow2 (by simp) (by intro k hk; simp [Value.ownBlock] at hk; omega); have b0 := (hWw.cell (p := ⟨w.heap.size, 0, none⟩) lb0).trans b0; have b1 := (hWw.cell (p := ⟨w.heap.size, 1, none⟩) lb0).trans b1; have b2 := (hWw.cell (p := ⟨w.heap.size, 2, none⟩) lb0).trans b2; have b3 := (hWw.cell (p := ⟨w.heap.size, 3, none⟩) lb0).trans b3; have b4 := (hWw.cell (p := ⟨w.heap.size, 4, none⟩) lb0).trans b4)
    have HBx := Lib.hid ((HB0.out.alloc HB0.out.size (.cells #[] 5)).grown hgrow2 (by have := HB0.out.size; simp; omega) (by intro k hk; simp [Value.ownBlock] at hk; have := HB0.out.size; omega))
    have HRow := Lib.hid (show Row w2 5 1 (.slice a2 n2 c2) n2 (byteCells x.2) by rw [Nat.zero_add] at hrow2; simpa using hrow2)
    have hat0 : ∀ k, (Value.slice a2 n2 c2).ownBlock = some k → w.heap.size ≤ k := fun k hk => by
      have := HB0.out.size
      rcases hat2 k (by rw [Nat.zero_add]; exact hk) with h | h
      · simp [Value.ownBlock] at h; omega
      · omega
    have HAt0 := Lib.hid hat0
    have lbx : w.heap.size < w2.heap.size := by have := hWw.size; omega
    have HRc : Hid (∀ k, (Value.slice a2 n2 c2).ownBlock = some k → W.heap.size ≤ k) := fun k hk => by
      rcases hat2 k (by rw [Nat.zero_add]; exact hk) with h | h
      · simp [Value.ownBlock] at h; omega
      · omega
    have hrc := HRow.out.form
    obtain ⟨_, _, ecv, hn2c, -, hc2m⟩ := hrc
    simp only [Value.slice.injEq, true_and] at ecv
    obtain ⟨rfl, rfl⟩ := ecv
    unfold maxLen at hc2m
    clear hrow2 hgrow2 hat2 hat0 hWw
    go_wp2_with fail
    refine (HWout.out w2 HBx.out).mono ?_
    rintro e w4 ⟨⟨v4, us4, rfl, hR4, hB4⟩, -⟩
    have HO : Hid (ROut w w4 (.returned v4) T _) := ⟨v4, us4, rfl, hR4, hB4⟩
    clear hR4 hB4
    go_wp2_with fail
    go_ret
    exact HO.out
set_option maxRecDepth 100000 in
set_option maxHeartbeats 4000000 in
theorem done_trunc {T : Nat → Prop} {w : World} {v : Value} {L : Fl} {us : List Value} (h : RF T w v L us) (hT : ∀ k, T k → k < w.heap.size) (hl : L.length ≤ 1000000) (name dest : ByteArray) (bs : List Int) (u : Value) (hu : Bts T w u bs) (m : Nat) (hm : m ≤ (getF (filesOf L) name).length) (hg : (getF (filesOf L) name).length ≤ 1000000000000) :
    Calls Try.prog 89 #[v, .agg #[.int .i64 1, .string name, .string dest, u, .int .i64 (m : Int)]] w fun e w' => ROut w w' e T (insL (withoutL L name) (name, (getF (filesOf L) name).take m)) := by
  obtain ⟨i0, hi0, hz0, hz1, hz2⟩ := info_parts infoB
  obtain ⟨au, cu, rfl, hcu1, hcu2⟩ := hu.ex
  obtain ⟨W, hW⟩ : ∃ W, w.alloc (.cells #[.int .i64 1, .string name, .string dest, .slice au bs.length cu, .int .i64 (m : Int)] 120) = W := ⟨_, rfl⟩
  have hB0 : Below w.heap.size w W := hW ▸ (Below.refl _ w).alloc (Nat.le_refl _) _
  have hnew : W.heap[w.heap.size]? = some (.cells #[.int .i64 1, .string name, .string dest, .slice au bs.length cu, .int .i64 (m : Int)] 120 (0, 0)) := hW ▸ heap_alloc_new w _
  have lb0 : w.heap.size < W.heap.size := heap_lt hnew
  have b0 : W.cell? ⟨w.heap.size, 0, none⟩ = some (.int .i64 1) := by rw [cell_of_row _ _ _ _ _ _ hnew]; rfl
  have b1 : W.cell? ⟨w.heap.size, 1, none⟩ = some (.string name) := by rw [cell_of_row _ _ _ _ _ _ hnew]; rfl
  have b2 : W.cell? ⟨w.heap.size, 2, none⟩ = some (.string dest) := by rw [cell_of_row _ _ _ _ _ _ hnew]; rfl
  have b3 : W.cell? ⟨w.heap.size, 3, none⟩ = some (.slice au bs.length cu) := by rw [cell_of_row _ _ _ _ _ _ hnew]; rfl
  have b4 : W.cell? ⟨w.heap.size, 4, none⟩ = some (.int .i64 (m : Int)) := by rw [cell_of_row _ _ _ _ _ _ hnew]; rfl
  have HFd := Lib.hid (rfind (h.move (w' := W) (fun k hk => hB0.block k (hT k hk)) fun _ hk => hk) name)
  have HH := Lib.hid (And.intro h hT)
  have HU := Lib.hid hu
  have HB0 := Lib.hid hB0
  have HWith := Lib.hid (with_at h hT hl)
  have HWout := Lib.hid (without_at h hT hl name)
  have HWlen := Lib.hid (Nat.le_trans (withoutL_len L name) hl)
  have hbl : bs.length ≤ cu := hcu1
  unfold maxLen at hcu2
  obtain ⟨m0, hm0⟩ : ∃ m0, bs.length = m0 := ⟨_, rfl⟩
  have HM0 := Lib.hid hm0
  obtain ⟨a, cap, rfl, hnc, hml, hcm⟩ := h.row.form
  unfold maxLen at hml
  obtain ⟨g0, hg0⟩ : ∃ g0, getF (filesOf L) name = g0 := ⟨_, rfl⟩
  have hcase := has_find L name
  rw [hg0] at hcase hg hm ⊢
  rw [hm0] at hW b3 hbl ⊢
  have HLl := Lib.hid hl
  clear h hT hu hB0 hnew hl hcu1 hg0 hm0
  rcases hcase with ⟨hlt, -, rfl⟩ | ⟨i, x, hi, hx, -, rfl⟩
  · as_aux_lemma =>
    obtain ⟨fi, hfi⟩ : ∃ fi, findL L name = fi := ⟨_, rfl⟩
    rw [hfi] at HFd hlt
    go_enter Try.func89, Try.ntmps89
    go_wp2_with fail
    clear hW
    refine HFd.out.mono ?_
    rintro e w1 ⟨rfl, rfl⟩
    clear HFd hfi
    obtain rfl : m = 0 := by simpa using hm
    go_wp2_with fail
    have HRow := Lib.hid (Row.nil W 5 1)
    have HBx := Lib.hid HB0.out
    have hat0 : ∀ k, (Value.slice none 0 0).ownBlock = some k → w.heap.size ≤ k := fun k hk => by simp [Value.ownBlock] at hk
    have HAt0 := Lib.hid hat0
    clear hat0
    have hsl := fun w => run_slice_to (P := Try.prog) w 25 5 i0 Try.underlying25 hi0 none 0 0 0 (by omega) .i64
    have hu3 : Bts (More T w W) W (.slice none 0 0) ([].take 0) := by simpa using Bts.nil (More T w W) W
    have HCall := Lib.hid (HWith.out name _ W.drew _ HBx.out.drew (hu3.move (w' := W.drew) (fun _ _ => rfl) fun _ hk => hk))
    go_region_with (go_at_call 112; refine HCall.out.mono ?_; rintro e w4 ⟨⟨v4, us4, rfl, hR4, hB4⟩, -⟩)
    all_goals
      have HO : Hid (ROut w w4 (.returned v4) T _) := ⟨v4, us4, rfl, hR4, hB4⟩
      clear hR4 hB4
      go_wp2_with fail
      go_ret
      exact HO.out
  · as_aux_lemma =>
    have hil : i < L.length := (List.getElem?_eq_some_iff.1 hx).1
    obtain ⟨ux, hux⟩ : ∃ u, us[i]? = some u := ⟨_, List.getElem?_eq_getElem (by rw [HH.out.1.len]; exact hil)⟩
    obtain ⟨g, rfl, hgl, hcell, -⟩ := HH.out.1.row.view (by omega)
    have hbx := HH.out.1.bts i x ux hx hux
    obtain ⟨ax, cx, rfl, hcx1, hcx2⟩ := hbx.ex
    obtain ⟨-, d1⟩ := fcells_at L us i x _ hx hux
    have e1 := ((HB0.out.cell (p := ⟨g, i * 2 + 1, none⟩) hgl).trans (hcell (i * 2 + 1) (by omega))).trans d1
    have hgW : g < W.heap.size := Nat.lt_of_lt_of_le hgl HB0.out.size
    replace e1 := (World.cell?_of_block (a := ⟨g, i * 2 + 1, none⟩) (Below.heap_alloc W (.cells #[] 5) g hgW)).trans e1
    obtain ⟨n2, hn2⟩ : ∃ n2, x.2.length = n2 := ⟨_, rfl⟩
    have HN2 := Lib.hid hn2
    have HBx2 := Lib.hid hbx
    rw [hn2] at e1 hg hm
    have hsx : Src (W.alloc (.cells #[] 5)) 1 (.slice ax n2 cx) n2 (byteCells x.2) := (hn2 ▸ hbx.src).below (HB0.out.alloc HB0.out.size _)
    have HSx := Lib.hid hsx
    have hdst := Row.lit_at W 5 1 #[] 0 W.heap.size rfl (by simp [maxLen]) rfl
    have HDst := Lib.hid hdst
    have HX := Lib.hid (And.intro hx hux)
    unfold maxLen at hcx2
    have hlL : L.length ≤ 9223372036854775807 := by omega
    rw [hi] at HFd
    clear hx hux hcell d1 hbx hsx hdst hi hn2
    go_enter Try.func89, Try.ntmps89
    go_wp2_with fail
    clear hW
    refine HFd.out.mono ?_
    rintro e w1 ⟨rfl, rfl⟩
    clear HFd
    go_wp2_with (at_builtin; refine wpList_append_row _ rfl _ _ 25 rfl 5 i0 _ 1 1 Try.underlying25 hi0 hz0 hz1 hz2 rfl (.slice (some ⟨W.heap.size, 0, none⟩) 0 0) 0 [] rfl HDst.out _ _ _ rfl HSx.out (by unfold maxLen; omega) (by omega) (W.heap.size + 1) (by simp) ?_; intro a2 c2 w2 hrow2 hgrow2 hat2; have hWw : Below W.heap.size W w2 := ((Below.refl _ W).alloc (Nat.le_refl _) (.cells #[] 5)).grown hgrow2 (by simp) (by intro k hk; simp [Value.ownBlock] at hk; omega); have b0 := (hWw.cell (p := ⟨w.heap.size, 0, none⟩) lb0).trans b0; have b1 := (hWw.cell (p := ⟨w.heap.size, 1, none⟩) lb0).trans b1; have b2 := (hWw.cell (p := ⟨w.heap.size, 2, none⟩) lb0).trans b2; have b3 := (hWw.cell (p := ⟨w.heap.size, 3, none⟩) lb0).trans b3; have b4 := (hWw.cell (p := ⟨w.heap.size, 4, none⟩) lb0).trans b4)
    have HBx := Lib.hid ((HB0.out.alloc HB0.out.size (.cells #[] 5)).grown hgrow2 (by have := HB0.out.size; simp; omega) (by intro k hk; simp [Value.ownBlock] at hk; have := HB0.out.size; omega))
    have HRow := Lib.hid (show Row w2 5 1 (.slice a2 n2 c2) n2 (byteCells x.2) by rw [Nat.zero_add] at hrow2; simpa using hrow2)
    have hat0 : ∀ k, (Value.slice a2 n2 c2).ownBlock = some k → w.heap.size ≤ k := fun k hk => by
      have := HB0.out.size
      rcases hat2 k (by rw [Nat.zero_add]; exact hk) with h | h
      · simp [Value.ownBlock] at h; omega
      · omega
    have HAt0 := Lib.hid hat0
    have lbx : w.heap.size < w2.heap.size := by have := hWw.size; omega
    have HRc : Hid (∀ k, (Value.slice a2 n2 c2).ownBlock = some k → W.heap.size ≤ k) := fun k hk => by
      rcases hat2 k (by rw [Nat.zero_add]; exact hk) with h | h
      · simp [Value.ownBlock] at h; omega
      · omega
    have hrc := HRow.out.form
    obtain ⟨_, _, ecv, hn2c, -, hc2m⟩ := hrc
    simp only [Value.slice.injEq, true_and] at ecv
    obtain ⟨rfl, rfl⟩ := ecv
    unfold maxLen at hc2m
    clear hrow2 hgrow2 hat2 hat0 hWw
    go_wp2_with fail
    have hsl := fun w => run_slice_to (P := Try.prog) w 25 5 i0 Try.underlying25 hi0 a2 n2 c2 m (by omega) .i64
    have hu3 : Bts (More T w w2) w2 (.slice a2 m c2) (x.2.take m) := Bts.take (bts_own HRow.out HN2.out rfl HAt0.out HBx2.out.byte) m (by rw [HN2.out]; exact hm) (by rw [HN2.out])
    have HCall := Lib.hid (HWith.out name _ w2.drew _ HBx.out.drew (hu3.move (w' := w2.drew) (fun _ _ => rfl) fun _ hk => hk))
    go_region_with (go_at_call 112; refine HCall.out.mono ?_; rintro e w4 ⟨⟨v4, us4, rfl, hR4, hB4⟩, -⟩)
    all_goals
      have HO : Hid (ROut w w4 (.returned v4) T _) := ⟨v4, us4, rfl, hR4, hB4⟩
      clear hR4 hB4
      go_wp2_with fail
      go_ret
      exact HO.out
set_option maxRecDepth 100000 in
set_option maxHeartbeats 4000000 in
theorem done_append {T : Nat → Prop} {w : World} {v : Value} {L : Fl} {us : List Value} (h : RF T w v L us) (hT : ∀ k, T k → k < w.heap.size) (hl : L.length ≤ 1000000) (name dest : ByteArray) (bs : List Int) (size : Int) (u : Value) (hu : Bts T w u bs) (hg : (getF (filesOf L) name).length + bs.length ≤ 1000000000000) :
    Calls Try.prog 89 #[v, .agg #[.int .i64 0, .string name, .string dest, u, .int .i64 size]] w fun e w' => ROut w w' e T (insL (withoutL L name) (name, getF (filesOf L) name ++ bs)) := by
  obtain ⟨i0, hi0, hz0, hz1, hz2⟩ := info_parts infoB
  obtain ⟨au, cu, rfl, hcu1, hcu2⟩ := hu.ex
  obtain ⟨W, hW⟩ : ∃ W, w.alloc (.cells #[.int .i64 0, .string name, .string dest, .slice au bs.length cu, .int .i64 size] 120) = W := ⟨_, rfl⟩
  have hB0 : Below w.heap.size w W := hW ▸ (Below.refl _ w).alloc (Nat.le_refl _) _
  have hnew : W.heap[w.heap.size]? = some (.cells #[.int .i64 0, .string name, .string dest, .slice au bs.length cu, .int .i64 size] 120 (0, 0)) := hW ▸ heap_alloc_new w _
  have lb0 : w.heap.size < W.heap.size := heap_lt hnew
  have b0 : W.cell? ⟨w.heap.size, 0, none⟩ = some (.int .i64 0) := by rw [cell_of_row _ _ _ _ _ _ hnew]; rfl
  have b1 : W.cell? ⟨w.heap.size, 1, none⟩ = some (.string name) := by rw [cell_of_row _ _ _ _ _ _ hnew]; rfl
  have b2 : W.cell? ⟨w.heap.size, 2, none⟩ = some (.string dest) := by rw [cell_of_row _ _ _ _ _ _ hnew]; rfl
  have b3 : W.cell? ⟨w.heap.size, 3, none⟩ = some (.slice au bs.length cu) := by rw [cell_of_row _ _ _ _ _ _ hnew]; rfl
  have b4 : W.cell? ⟨w.heap.size, 4, none⟩ = some (.int .i64 size) := by rw [cell_of_row _ _ _ _ _ _ hnew]; rfl
  have HFd := Lib.hid (rfind (h.move (w' := W) (fun k hk => hB0.block k (hT k hk)) fun _ hk => hk) name)
  have HH := Lib.hid (And.intro h hT)
  have HU := Lib.hid hu
  have HB0 := Lib.hid hB0
  have HWith := Lib.hid (with_at h hT hl)
  have HWout := Lib.hid (without_at h hT hl name)
  have HWlen := Lib.hid (Nat.le_trans (withoutL_len L name) hl)
  have hbl : bs.length ≤ cu := hcu1
  unfold maxLen at hcu2
  obtain ⟨m0, hm0⟩ : ∃ m0, bs.length = m0 := ⟨_, rfl⟩
  have HM0 := Lib.hid hm0
  obtain ⟨a, cap, rfl, hnc, hml, hcm⟩ := h.row.form
  unfold maxLen at hml
  obtain ⟨g0, hg0⟩ : ∃ g0, getF (filesOf L) name = g0 := ⟨_, rfl⟩
  have hcase := has_find L name
  rw [hg0] at hcase hg ⊢
  rw [hm0] at hW b3 hbl hg ⊢
  have HLl := Lib.hid hl
  clear h hT hu hB0 hnew hl hcu1 hg0 hm0
  rcases hcase with ⟨hlt, -, rfl⟩ | ⟨i, x, hi, hx, -, rfl⟩
  · as_aux_lemma =>
    obtain ⟨fi, hfi⟩ : ∃ fi, findL L name = fi := ⟨_, rfl⟩
    rw [hfi] at HFd hlt
    go_enter Try.func89, Try.ntmps89
    go_wp2_with fail
    clear hW
    refine HFd.out.mono ?_
    rintro e w1 ⟨rfl, rfl⟩
    clear HFd hfi
    go_wp2_with fail
    have HRow := Lib.hid (Row.nil W 5 1)
    have HBx := Lib.hid HB0.out
    have hat0 : ∀ k, (Value.slice none 0 0).ownBlock = some k → w.heap.size ≤ k := fun k hk => by simp [Value.ownBlock] at hk
    have HAt0 := Lib.hid hat0
    clear hat0
    have HQ := Lib.hid (And.intro b1 b3)
    have HSu := Lib.hid (show Src W.drew 1 (.slice au m0 cu) m0 (byteCells bs) from (HM0.out ▸ HU.out.src).below HBx.out.drew)
    go_region_held3 (fun w' => w'.cell? ⟨w.heap.size, 1, none⟩ = some (.string name) ∧ w'.cell? ⟨w.heap.size, 3, none⟩ = some (.slice au m0 cu))
      (first | go_keep | exact ⟨p1, p2⟩ | exact ⟨p3, p4⟩)
      (first
        | (refine step_append_nil _ (by rfl) _ _ _ (by rfl) 5 i0 _ 1 1 Try.underlying25 hi0 hz0 hz1 hz2 rfl (by rfl) (.slice au m0 cu) m0 _ (by rfl) HSu.out (by unfold maxLen; omega) (by omega) W.heap.size rfl ?_; intro a3 c3 w3 hrow3 hgrow3 hat3
           have hB3 := HBx.out.drew.grown hgrow3 HBx.out.size (by intro k hk; cases hk)
           have hW3 : Below W.heap.size W w3 := (Below.refl _ W).drew.grown hgrow3 (Nat.le_refl _) (by intro k hk; cases hk)
           have p1 := (hW3.cell (p := ⟨w.heap.size, 1, none⟩) lb0).trans HQ.out.1
           have p2 := (hW3.cell (p := ⟨w.heap.size, 3, none⟩) lb0).trans HQ.out.2
           have hu3 : Bts (More T w w3) w3 (.slice a3 m0 c3) ([] ++ bs) := bts_own hrow3 HM0.out rfl (fun k hk => by have := hat3 k hk; have := HB0.out.size; omega) HU.out.byte
           have lb3 : w.heap.size < w3.heap.size := by have := hgrow3.size; have : W.drew.heap.size = W.heap.size := rfl; omega
           clear hrow3 hgrow3 hat3)
        | (go_at_call 112; refine (HWith.out name _ w3 _ hB3 hu3).mono ?_; rintro e w4 ⟨⟨v4, us4, rfl, hR4, hB4⟩, hB5⟩; have p3 := (hB5.cell (p := ⟨w.heap.size, 1, none⟩) lb3).trans p1; have p4 := (hB5.cell (p := ⟨w.heap.size, 3, none⟩) lb3).trans p2))
    all_goals
      have HO : Hid (ROut w w4 (.returned v4) T _) := ⟨v4, us4, rfl, hR4, hB4⟩
      clear hR4 hB4
      go_wp2_with fail
      go_ret
      exact HO.out
  · as_aux_lemma =>
    have hil : i < L.length := (List.getElem?_eq_some_iff.1 hx).1
    obtain ⟨ux, hux⟩ : ∃ u, us[i]? = some u := ⟨_, List.getElem?_eq_getElem (by rw [HH.out.1.len]; exact hil)⟩
    obtain ⟨g, rfl, hgl, hcell, -⟩ := HH.out.1.row.view (by omega)
    have hbx := HH.out.1.bts i x ux hx hux
    obtain ⟨ax, cx, rfl, hcx1, hcx2⟩ := hbx.ex
    obtain ⟨-, d1⟩ := fcells_at L us i x _ hx hux
    have e1 := ((HB0.out.cell (p := ⟨g, i * 2 + 1, none⟩) hgl).trans (hcell (i * 2 + 1) (by omega))).trans d1
    have hgW : g < W.heap.size := Nat.lt_of_lt_of_le hgl HB0.out.size
    replace e1 := (World.cell?_of_block (a := ⟨g, i * 2 + 1, none⟩) (Below.heap_alloc W (.cells #[] 5) g hgW)).trans e1
    obtain ⟨n2, hn2⟩ : ∃ n2, x.2.length = n2 := ⟨_, rfl⟩
    have HN2 := Lib.hid hn2
    have HBx2 := Lib.hid hbx
    rw [hn2] at e1 hg
    have hsx : Src (W.alloc (.cells #[] 5)) 1 (.slice ax n2 cx) n2 (byteCells x.2) := (hn2 ▸ hbx.src).below (HB0.out.alloc HB0.out.size _)
    have HSx := Lib.hid hsx
    have hdst := Row.lit_at W 5 1 #[] 0 W.heap.size rfl (by simp [maxLen]) rfl
    have HDst := Lib.hid hdst
    have HX := Lib.hid (And.intro hx hux)
    unfold maxLen at hcx2
    have hlL : L.length ≤ 9223372036854775807 := by omega
    rw [hi] at HFd
    clear hx hux hcell d1 hbx hsx hdst hi hn2
    go_enter Try.func89, Try.ntmps89
    go_wp2_with fail
    clear hW
    refine HFd.out.mono ?_
    rintro e w1 ⟨rfl, rfl⟩
    clear HFd
    go_wp2_with (at_builtin; refine wpList_append_row _ rfl _ _ 25 rfl 5 i0 _ 1 1 Try.underlying25 hi0 hz0 hz1 hz2 rfl (.slice (some ⟨W.heap.size, 0, none⟩) 0 0) 0 [] rfl HDst.out _ _ _ rfl HSx.out (by unfold maxLen; omega) (by omega) (W.heap.size + 1) (by simp) ?_; intro a2 c2 w2 hrow2 hgrow2 hat2; have hWw : Below W.heap.size W w2 := ((Below.refl _ W).alloc (Nat.le_refl _) (.cells #[] 5)).grown hgrow2 (by simp) (by intro k hk; simp [Value.ownBlock] at hk; omega); have b0 := (hWw.cell (p := ⟨w.heap.size, 0, none⟩) lb0).trans b0; have b1 := (hWw.cell (p := ⟨w.heap.size, 1, none⟩) lb0).trans b1; have b2 := (hWw.cell (p := ⟨w.heap.size, 2, none⟩) lb0).trans b2; have b3 := (hWw.cell (p := ⟨w.heap.size, 3, none⟩) lb0).trans b3; have b4 := (hWw.cell (p := ⟨w.heap.size, 4, none⟩) lb0).trans b4)
    have HBx := Lib.hid ((HB0.out.alloc HB0.out.size (.cells #[] 5)).grown hgrow2 (by have := HB0.out.size; simp; omega) (by intro k hk; simp [Value.ownBlock] at hk; have := HB0.out.size; omega))
    have HRow := Lib.hid (show Row w2 5 1 (.slice a2 n2 c2) n2 (byteCells x.2) by rw [Nat.zero_add] at hrow2; simpa using hrow2)
    have hat0 : ∀ k, (Value.slice a2 n2 c2).ownBlock = some k → w.heap.size ≤ k := fun k hk => by
      have := HB0.out.size
      rcases hat2 k (by rw [Nat.zero_add]; exact hk) with h | h
      · simp [Value.ownBlock] at h; omega
      · omega
    have HAt0 := Lib.hid hat0
    have lbx : w.heap.size < w2.heap.size := by have := hWw.size; omega
    have HRc : Hid (∀ k, (Value.slice a2 n2 c2).ownBlock = some k → W.heap.size ≤ k) := fun k hk => by
      rcases hat2 k (by rw [Nat.zero_add]; exact hk) with h | h
      · simp [Value.ownBlock] at h; omega
      · omega
    have hrc := HRow.out.form
    obtain ⟨_, _, ecv, hn2c, -, hc2m⟩ := hrc
    simp only [Value.slice.injEq, true_and] at ecv
    obtain ⟨rfl, rfl⟩ := ecv
    unfold maxLen at hc2m
    clear hrow2 hgrow2 hat2 hat0 hWw
    go_wp2_with fail
    have HQ := Lib.hid (And.intro b1 b3)
    have HSu := Lib.hid (show Src w2.drew 1 (.slice au m0 cu) m0 (byteCells bs) from (HM0.out ▸ HU.out.src).below HBx.out.drew)
    go_region_held3 (fun w' => w'.cell? ⟨w.heap.size, 1, none⟩ = some (.string name) ∧ w'.cell? ⟨w.heap.size, 3, none⟩ = some (.slice au m0 cu))
      (first | go_keep | exact ⟨p1, p2⟩ | exact ⟨p3, p4⟩)
      (first
        | (refine step_append_row _ (by rfl) _ _ _ (by rfl) 5 i0 _ 1 1 Try.underlying25 hi0 hz0 hz1 hz2 rfl (.slice a2 n2 c2) n2 _ (by rfl) (HRow.out.of_block (w' := w2.drew) fun _ _ => rfl) (.slice au m0 cu) m0 _ (by rfl) HSu.out (by unfold maxLen; omega) (by omega) w2.heap.size rfl ?_; intro a3 c3 w3 hrow3 hgrow3 hat3
           have hB3 := HBx.out.drew.grown hgrow3 HBx.out.size HAt0.out
           have pb : w3.heap[w.heap.size]? = w2.heap[w.heap.size]? := hgrow3.block w.heap.size lbx (fun e => by have := HRc.out w.heap.size e.symm; omega)
           have p1 := (World.cell?_of_block (a := ⟨w.heap.size, 1, none⟩) pb).trans HQ.out.1
           have p2 := (World.cell?_of_block (a := ⟨w.heap.size, 3, none⟩) pb).trans HQ.out.2
           have hu3 : Bts (More T w w3) w3 (.slice a3 (n2 + m0) c3) (x.2 ++ bs) := bts_own hrow3 (by rw [List.length_append, HN2.out, HM0.out]) (by rw [byteCells_append]) (fun k hk => by rcases hat3 k hk with h | h; exact HAt0.out k h; have := HBx.out.size; omega) (fun n hn => by rcases List.mem_append.1 hn with h | h; exact HBx2.out.byte n h; exact HU.out.byte n h)
           have lb3 : w.heap.size < w3.heap.size := by have := hgrow3.size; have : w2.drew.heap.size = w2.heap.size := rfl; omega
           clear hrow3 hgrow3 hat3)
        | (go_at_call 112; refine (HWith.out name _ w3 _ hB3 hu3).mono ?_; rintro e w4 ⟨⟨v4, us4, rfl, hR4, hB4⟩, hB5⟩; have p3 := (hB5.cell (p := ⟨w.heap.size, 1, none⟩) lb3).trans p1; have p4 := (hB5.cell (p := ⟨w.heap.size, 3, none⟩) lb3).trans p2))
    all_goals
      have HO : Hid (ROut w w4 (.returned v4) T _) := ⟨v4, us4, rfl, hR4, hB4⟩
      clear hR4 hB4
      go_wp2_with fail
      go_ret
      exact HO.out
set_option maxRecDepth 100000 in
set_option maxHeartbeats 4000000 in
theorem done_rename {T : Nat → Prop} {w : World} {v : Value} {L : Fl} {us : List Value} (h : RF T w v L us) (hT : ∀ k, T k → k < w.heap.size) (hl : L.length ≤ 1000000) (name dest : ByteArray) (bs : List Int) (size : Int) (u : Value) (hu : Bts T w u bs) (hg : (getF (filesOf L) name).length ≤ 1000000000000) :
    Calls Try.prog 89 #[v, .agg #[.int .i64 2, .string name, .string dest, u, .int .i64 size]] w fun e w' => ROut w w' e T (insL (withoutL (withoutL L name) dest) (dest, getF (filesOf L) name)) := by
  obtain ⟨i0, hi0, hz0, hz1, hz2⟩ := info_parts infoB
  obtain ⟨au, cu, rfl, hcu1, hcu2⟩ := hu.ex
  obtain ⟨W, hW⟩ : ∃ W, w.alloc (.cells #[.int .i64 2, .string name, .string dest, .slice au bs.length cu, .int .i64 size] 120) = W := ⟨_, rfl⟩
  have hB0 : Below w.heap.size w W := hW ▸ (Below.refl _ w).alloc (Nat.le_refl _) _
  have hnew : W.heap[w.heap.size]? = some (.cells #[.int .i64 2, .string name, .string dest, .slice au bs.length cu, .int .i64 size] 120 (0, 0)) := hW ▸ heap_alloc_new w _
  have lb0 : w.heap.size < W.heap.size := heap_lt hnew
  have b0 : W.cell? ⟨w.heap.size, 0, none⟩ = some (.int .i64 2) := by rw [cell_of_row _ _ _ _ _ _ hnew]; rfl
  have b1 : W.cell? ⟨w.heap.size, 1, none⟩ = some (.string name) := by rw [cell_of_row _ _ _ _ _ _ hnew]; rfl
  have b2 : W.cell? ⟨w.heap.size, 2, none⟩ = some (.string dest) := by rw [cell_of_row _ _ _ _ _ _ hnew]; rfl
  have b3 : W.cell? ⟨w.heap.size, 3, none⟩ = some (.slice au bs.length cu) := by rw [cell_of_row _ _ _ _ _ _ hnew]; rfl
  have b4 : W.cell? ⟨w.heap.size, 4, none⟩ = some (.int .i64 size) := by rw [cell_of_row _ _ _ _ _ _ hnew]; rfl
  have HFd := Lib.hid (rfind (h.move (w' := W) (fun k hk => hB0.block k (hT k hk)) fun _ hk => hk) name)
  have HH := Lib.hid (And.intro h hT)
  have HU := Lib.hid hu
  have HB0 := Lib.hid hB0
  have HWith := Lib.hid (with_at h hT hl)
  have HWout := Lib.hid (without_at h hT hl name)
  have HWlen := Lib.hid (Nat.le_trans (withoutL_len L name) hl)
  have hbl : bs.length ≤ cu := hcu1
  unfold maxLen at hcu2
  obtain ⟨m0, hm0⟩ : ∃ m0, bs.length = m0 := ⟨_, rfl⟩
  have HM0 := Lib.hid hm0
  obtain ⟨a, cap, rfl, hnc, hml, hcm⟩ := h.row.form
  unfold maxLen at hml
  obtain ⟨g0, hg0⟩ : ∃ g0, getF (filesOf L) name = g0 := ⟨_, rfl⟩
  have hcase := has_find L name
  rw [hg0] at hcase hg ⊢
  rw [hm0] at hW b3 hbl ⊢
  have HLl := Lib.hid hl
  clear h hT hu hB0 hnew hl hcu1 hg0 hm0
  rcases hcase with ⟨hlt, -, rfl⟩ | ⟨i, x, hi, hx, -, rfl⟩
  · as_aux_lemma =>
    obtain ⟨fi, hfi⟩ : ∃ fi, findL L name = fi := ⟨_, rfl⟩
    rw [hfi] at HFd hlt
    go_enter Try.func89, Try.ntmps89
    go_wp2_with fail
    clear hW
    refine HFd.out.mono ?_
    rintro e w1 ⟨rfl, rfl⟩
    clear HFd hfi
    go_wp2_with fail
    have HRow := Lib.hid (Row.nil W 5 1)
    have HBx := Lib.hid HB0.out
    have hat0 : ∀ k, (Value.slice none 0 0).ownBlock = some k → w.heap.size ≤ k := fun k hk => by simp [Value.ownBlock] at hk
    have HAt0 := Lib.hid hat0
    clear hat0
    have HQ := Lib.hid b2
    have HWc := Lib.hid (rwithout (HH.out.1.later HH.out.2 HBx.out.drew) (more_lt HH.out.2 HBx.out.drew) (by have := HLl.out; exact this) name)
    have HWd : Hid (∀ v3 us3 w3, RF (More (More T w W.drew) W.drew w3) w3 v3 (withoutL L name) us3 → Below W.drew.heap.size W.drew w3 → Calls Try.prog 112 #[v3, .agg #[.string dest, .slice none 0 0]] w3 fun e w' => ROut w w' e T (insL (withoutL (withoutL L name) dest) (dest, []))) := fun v3 us3 w3 hR3 hB3 => (rwith hR3 (more_lt (more_lt HH.out.2 HBx.out.drew) hB3) HWlen.out (dest, []) _ (Bts.nil _ _)).mono fun _ _ ho => (ho.back hB3).back HBx.out.drew
    go_region_with (first
      | (go_at_call 113; refine (HWc.out).mono ?_; rintro e w3 ⟨v3, us3, rfl, hR3, hB3⟩; have p2 := (hB3.cell (p := ⟨w.heap.size, 2, none⟩) lb0).trans HQ.out)
      | (go_at_call 112; refine (HWd.out v3 us3 w3 hR3 hB3).mono ?_; rintro e w4 ⟨v4, us4, rfl, hR4, hB4⟩))
    all_goals
      have HO : Hid (ROut w w4 (.returned v4) T _) := ⟨v4, us4, rfl, hR4, hB4⟩
      clear hR4 hB4
      go_wp2_with fail
      go_ret
      exact HO.out
  · as_aux_lemma =>
    have hil : i < L.length := (List.getElem?_eq_some_iff.1 hx).1
    obtain ⟨ux, hux⟩ : ∃ u, us[i]? = some u := ⟨_, List.getElem?_eq_getElem (by rw [HH.out.1.len]; exact hil)⟩
    obtain ⟨g, rfl, hgl, hcell, -⟩ := HH.out.1.row.view (by omega)
    have hbx := HH.out.1.bts i x ux hx hux
    obtain ⟨ax, cx, rfl, hcx1, hcx2⟩ := hbx.ex
    obtain ⟨-, d1⟩ := fcells_at L us i x _ hx hux
    have e1 := ((HB0.out.cell (p := ⟨g, i * 2 + 1, none⟩) hgl).trans (hcell (i * 2 + 1) (by omega))).trans d1
    have hgW : g < W.heap.size := Nat.lt_of_lt_of_le hgl HB0.out.size
    replace e1 := (World.cell?_of_block (a := ⟨g, i * 2 + 1, none⟩) (Below.heap_alloc W (.cells #[] 5) g hgW)).trans e1
    obtain ⟨n2, hn2⟩ : ∃ n2, x.2.length = n2 := ⟨_, rfl⟩
    have HN2 := Lib.hid hn2
    have HBx2 := Lib.hid hbx
    rw [hn2] at e1 hg
    have hsx : Src (W.alloc (.cells #[] 5)) 1 (.slice ax n2 cx) n2 (byteCells x.2) := (hn2 ▸ hbx.src).below (HB0.out.alloc HB0.out.size _)
    have HSx := Lib.hid hsx
    have hdst := Row.lit_at W 5 1 #[] 0 W.heap.size rfl (by simp [maxLen]) rfl
    have HDst := Lib.hid hdst
    have HX := Lib.hid (And.intro hx hux)
    unfold maxLen at hcx2
    have hlL : L.length ≤ 9223372036854775807 := by omega
    rw [hi] at HFd
    clear hx hux hcell d1 hbx hsx hdst hi hn2
    go_enter Try.func89, Try.ntmps89
    go_wp2_with fail
    clear hW
    refine HFd.out.mono ?_
    rintro e w1 ⟨rfl, rfl⟩
    clear HFd
    go_wp2_with (at_builtin; refine wpList_append_row _ rfl _ _ 25 rfl 5 i0 _ 1 1 Try.underlying25 hi0 hz0 hz1 hz2 rfl (.slice (some ⟨W.heap.size, 0, none⟩) 0 0) 0 [] rfl HDst.out _ _ _ rfl HSx.out (by unfold maxLen; omega) (by omega) (W.heap.size + 1) (by simp) ?_; intro a2 c2 w2 hrow2 hgrow2 hat2; have hWw : Below W.heap.size W w2 := ((Below.refl _ W).alloc (Nat.le_refl _) (.cells #[] 5)).grown hgrow2 (by simp) (by intro k hk; simp [Value.ownBlock] at hk; omega); have b0 := (hWw.cell (p := ⟨w.heap.size, 0, none⟩) lb0).trans b0; have b1 := (hWw.cell (p := ⟨w.heap.size, 1, none⟩) lb0).trans b1; have b2 := (hWw.cell (p := ⟨w.heap.size, 2, none⟩) lb0).trans b2; have b3 := (hWw.cell (p := ⟨w.heap.size, 3, none⟩) lb0).trans b3; have b4 := (hWw.cell (p := ⟨w.heap.size, 4, none⟩) lb0).trans b4)
    have HBx := Lib.hid ((HB0.out.alloc HB0.out.size (.cells #[] 5)).grown hgrow2 (by have := HB0.out.size; simp; omega) (by intro k hk; simp [Value.ownBlock] at hk; have := HB0.out.size; omega))
    have HRow := Lib.hid (show Row w2 5 1 (.slice a2 n2 c2) n2 (byteCells x.2) by rw [Nat.zero_add] at hrow2; simpa using hrow2)
    have hat0 : ∀ k, (Value.slice a2 n2 c2).ownBlock = some k → w.heap.size ≤ k := fun k hk => by
      have := HB0.out.size
      rcases hat2 k (by rw [Nat.zero_add]; exact hk) with h | h
      · simp [Value.ownBlock] at h; omega
      · omega
    have HAt0 := Lib.hid hat0
    have lbx : w.heap.size < w2.heap.size := by have := hWw.size; omega
    have HRc : Hid (∀ k, (Value.slice a2 n2 c2).ownBlock = some k → W.heap.size ≤ k) := fun k hk => by
      rcases hat2 k (by rw [Nat.zero_add]; exact hk) with h | h
      · simp [Value.ownBlock] at h; omega
      · omega
    have hrc := HRow.out.form
    obtain ⟨_, _, ecv, hn2c, -, hc2m⟩ := hrc
    simp only [Value.slice.injEq, true_and] at ecv
    obtain ⟨rfl, rfl⟩ := ecv
    unfold maxLen at hc2m
    clear hrow2 hgrow2 hat2 hat0 hWw
    go_wp2_with fail
    have HQ := Lib.hid b2
    have HWc := Lib.hid (rwithout (HH.out.1.later HH.out.2 HBx.out.drew) (more_lt HH.out.2 HBx.out.drew) (by have := HLl.out; exact this) name)
    have HWd : Hid (∀ v3 us3 w3, RF (More (More T w w2.drew) w2.drew w3) w3 v3 (withoutL L name) us3 → Below w2.drew.heap.size w2.drew w3 → Calls Try.prog 112 #[v3, .agg #[.string dest, .slice a2 n2 c2]] w3 fun e w' => ROut w w' e T (insL (withoutL (withoutL L name) dest) (dest, x.2))) := fun v3 us3 w3 hR3 hB3 => (rwith hR3 (more_lt (more_lt HH.out.2 HBx.out.drew) hB3) HWlen.out (dest, x.2) _ ((bts_own HRow.out HN2.out rfl HAt0.out HBx2.out.byte : Bts (More T w w2) w2 (.slice a2 n2 c2) x.2).move (fun k hk => hB3.block k (more_lt HH.out.2 HBx.out k hk)) fun k hk => .inl hk)).mono fun _ _ ho => (ho.back hB3).back HBx.out.drew
    go_region_with (first
      | (go_at_call 113; refine (HWc.out).mono ?_; rintro e w3 ⟨v3, us3, rfl, hR3, hB3⟩; have p2 := (hB3.cell (p := ⟨w.heap.size, 2, none⟩) lbx).trans HQ.out)
      | (go_at_call 112; refine (HWd.out v3 us3 w3 hR3 hB3).mono ?_; rintro e w4 ⟨v4, us4, rfl, hR4, hB4⟩))
    all_goals
      have HO : Hid (ROut w w4 (.returned v4) T _) := ⟨v4, us4, rfl, hR4, hB4⟩
      clear hR4 hB4
      go_wp2_with fail
      go_ret
      exact HO.out
end Go.Proofs.Ytpkmnfpbcakflaa
