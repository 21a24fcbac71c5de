/- The walk of the reference's Crash. No condition. -/
import Derived.Test.YtpkmnfpbcakflaaRApp
import Derived.Deep.DeepCutAuto
namespace Go.Proofs.Ytpkmnfpbcakflaa
open Go.ChangeShapes Go.WideShapes Go.ChangeAt Go.RowKit

theorem More.to {T : Nat → Prop} {w w1 w2 : World} (hs : w1.heap.size ≤ w2.heap.size) : ∀ k, More T w w1 k → More T w w2 k := by
  rintro k (hk | hk)
  · exact .inl hk
  · exact .inr ⟨hk.1, by omega⟩
theorem done_at {T : Nat → Prop} {w wr : World} {v : Value} {L : Fl} {us : List Value} (h : RF (More T w wr) wr v L us) (hB : Below w.heap.size w wr) (hT : ∀ k, T k → k < w.heap.size) (x : Dd) (u : Value) (hu : Bts (More T w wr) wr u x.b) (ok : OkDeed (filesOf L) x) (ht : total (filesOf L) ≤ 1000000000000) :
    Calls Try.prog 89 #[v, .agg (ddAgg x u)] wr fun e w' => ∃ L', filesOf L' = doesM (filesOf L) x ∧ ROut w w' e T L' :=
  (done_any h (more_lt hT hB) (by have := ok.size; rw [size_filesOf] at this; exact this) x u hu ok ht).mono fun e w' ⟨L', hL, ho⟩ => ⟨L', hL, ho.back hB⟩

theorem crash_fin {T : Nat → Prop} {w wc : World} {q : Nat} {sv nv wv lv : Value} {fu : Bool} {fz : Int} {Ls Ln L' : Fl} {us un uw us' : List Value} {d : Dk} {k : Nat} {torn : Int} (h : RefAt T w q sv nv wv fu fz Ls Ln us un uw d) (hB : Below w.heap.size w wc)
    (hR : RF (More T w wc) wc lv L' us') (hL : filesOf L' = crashD d k torn) :
    RefOut T w (((((wc.setCell ⟨q, 1, none⟩ lv).setCell ⟨q, 2, none⟩ lv).setCell ⟨q, 3, none⟩ (.slice none 0 0)).setCell ⟨q, 4, none⟩ (.bool false)).setCell ⟨q, 6, none⟩ (.bool false)) q (crashed d k torn) := by
  have hql := h.qlt
  have s := hB.size
  have hM : Mod (fun k => k = q) wc (((((wc.setCell ⟨q, 1, none⟩ lv).setCell ⟨q, 2, none⟩ lv).setCell ⟨q, 3, none⟩ (.slice none 0 0)).setCell ⟨q, 4, none⟩ (.bool false)).setCell ⟨q, 6, none⟩ (.bool false)) := ((((mod_p 1 _).trans (mod_p 2 _)).trans (mod_p 3 _)).trans (mod_p 4 _)).trans (mod_p 6 _)
  have hlt : ∀ i, More T w wc i → i < wc.heap.size := more_lt h.lt hB
  have hnq : ¬ More T w wc q := by
    rintro (e | e)
    · exact h.out e
    · omega
  have hT : ∀ i, More T w wc i → (((((wc.setCell ⟨q, 1, none⟩ lv).setCell ⟨q, 2, none⟩ lv).setCell ⟨q, 3, none⟩ (.slice none 0 0)).setCell ⟨q, 4, none⟩ (.bool false)).setCell ⟨q, 6, none⟩ (.bool false)).heap[i]? = wc.heap[i]? := fun i hi => hM.block i (hlt i hi) fun e => hnq (e ▸ hi)
  have hq : wc.heap[q]? = some (.cells (rhead d.room sv nv wv fu fz d.down) 99 (0, 0)) := (hB.block q hql).trans h.head
  have h5 := heap_setCell_same _ q 6 _ _ (.bool false) (heap_setCell_same _ q 4 _ _ (.bool false) (heap_setCell_same _ q 3 _ _ (.slice none 0 0) (heap_setCell_same _ q 2 _ _ lv (heap_setCell_same _ q 1 _ _ lv hq))))
  have hF := hR.move (T' := More T w wc) hT fun _ h => h
  refine RefAt.outOf (T := More T w wc) (sv := lv) (nv := lv) (wv := .slice none 0 0) (fused := false) (fz := fz) (Ls := L') (Ln := L') (us := us') (un := us') (uw := []) ⟨h5, .inr ⟨rfl, rfl⟩, hF, hL, hF, hL, Row.nil _ _ _, rfl, fun i x u hx => by simp [crashed] at hx, fun k hk => by simp [Value.ownBlock] at hk, hnq, fun i hi => Nat.lt_of_lt_of_le (hlt i hi) hM.size⟩ (fun i hi => ?_) ((Mod.of_below hB).trans hM)
  rcases hi with e | e
  · exact .inl e
  · exact .inr e.1

set_option maxRecDepth 100000 in
set_option maxHeartbeats 4000000 in
theorem rcrash {T : Nat → Prop} {w : World} {q : Nat} {d : Dk} (h : RefOwn T w q d) (keep torn : Int) (hok : OkAll d.syn d.pend) (hpd : d.pend.length ≤ 1000000) (htot : ∀ j, total (replay d.syn (d.pend.take j)) ≤ 1000000000000)
    (k : Nat) (hk : pickV keep (d.pend.length + 1) = k) (hkl : k ≤ d.pend.length) :
    Calls Try.prog 68 #[.pointer (some ⟨q, 0, none⟩), .int .i64 keep, .int .i64 torn] w fun e w' => e = .returned (.int .i64 k) ∧ RefOut T w w' q (crashed d k torn) := by
  obtain ⟨sv, nv, wv, fu, fz, Ls, Ln, us, un, uw, hR⟩ := h
  obtain ⟨i0, hi0, hz0, hz1, hz2⟩ := info_parts infoO
  obtain ⟨n, hn⟩ : ∃ n, d.pend.length = n := ⟨_, rfl⟩
  have hwait := hR.wait
  rw [hn] at hwait hpd hk hkl
  obtain ⟨a, cap, rfl, hnc, -, hcm⟩ := hwait.form
  obtain ⟨-, c1, -, c3, -, -, -, -⟩ := rhead_cells hR.head
  obtain ⟨asy, ks, rfl, -⟩ := hR.syn.row.form
  have hw := rinto keep (n + 1) (by omega) (by omega) w
  rw [hk] at hw
  have HW := Lib.hid hw
  have hql := hR.qlt
  have HR := Lib.hid hR
  have HN := Lib.hid hn
  have HOk := Lib.hid (And.intro hok htot)
  have HWt := Lib.hid hwait
  unfold maxLen at hcm
  clear hw hk hn hok htot hwait hR
  go_enter Try.func68, Try.ntmps68
  go_wp2_with fail
  refine HW.out.mono ?_
  rintro e w1 ⟨rfl, hw1⟩
  obtain rfl : w = w1 := hw1.symm
  clear HW hw1
  go_wp2_with fail
  go_loopw [8, 9] (fun lv i wr => ∃ (j : Nat) (L' : Fl) (us' : List Value), i = .int .i64 j ∧ j ≤ k ∧ RF (More T w wr) wr lv L' us' ∧ Hid (filesOf L' = replay d.syn (d.pend.take j)) ∧ Below w.heap.size w wr) (fun _ i _ => k - (intOf i).toNat)
  case atStart => exact ⟨0, Ls, us, rfl, Nat.zero_le _, HR.out.syn.move (fun _ _ => rfl) (fun _ h => .inl h), HR.out.eqs, Below.refl _ _⟩
  case round =>
    obtain ⟨j, L', us', rfl, hj, hRF, hL, hB⟩ := hrel
    have q3 := (hB.cell (p := ⟨q, 3, none⟩) hql).trans c3
    obtain ⟨al, kl, rfl, hlc1, hlc2, -⟩ := hRF.row.form
    have HRF := Lib.hid (And.intro hRF hB)
    have hrow : Row wr 120 5 (.slice a n cap) n (dcells d.pend uw) := HWt.out.of_block fun i hi => hB.block i (HWt.out.lt hi)
    have HRow := Lib.hid hrow
    unfold maxLen at hlc2
    clear hRF hB hrow c3
    by_cases hjk : j < k
    · as_aux_lemma =>
      obtain ⟨x, hx⟩ : ∃ x, d.pend[j]? = some x := ⟨_, List.getElem?_eq_getElem (by have := HN.out; omega)⟩
      obtain ⟨u, hu⟩ : ∃ u, uw[j]? = some u := ⟨_, List.getElem?_eq_getElem (by rw [HR.out.len]; have := HN.out; omega)⟩
      have hux : Bts (More T w wr) wr u x.b := (HR.out.bts j x u hx hu).move (fun i hi => HRF.out.2.block i (HR.out.lt i hi)) fun _ h => .inl h
      obtain ⟨au, cu, rfl, hcu1, hcu2⟩ := hux.ex
      obtain ⟨g, rfl, hgl, hc, -⟩ := HRow.out.view (by omega)
      obtain ⟨d0, d1, d2, d3, d4⟩ := dcells_at d.pend uw j x _ hx hu
      have e0 := (hc (j * 5) (by omega)).trans d0
      have e1 := (hc (j * 5 + 1) (by omega)).trans d1
      have e2 := (hc (j * 5 + 2) (by omega)).trans d2
      have e3 := (hc (j * 5 + 3) (by omega)).trans d3
      have e4 := (hc (j * 5 + 4) (by omega)).trans d4
      have HRep := Lib.hid (replay_take d.syn d.pend j x hx)
      have HCall := Lib.hid (done_at HRF.out.1 HRF.out.2 HR.out.lt x _ hux (by rw [hL.out]; exact HOk.out.1.at j x hx) (by rw [hL.out]; exact HOk.out.2 j))
      unfold ddAgg at HCall
      clear d0 d1 d2 d3 d4 hc hx hu hux
      go_wp2_with fail
      refine HCall.out.mono ?_
      rintro e w4 ⟨L2, hL2, v4, us4, rfl, hR4, hB4⟩
      have HR4 := Lib.hid (And.intro hR4 hB4)
      have HL2 : Hid (filesOf L2 = replay d.syn (d.pend.take (j + 1))) := by show _ = _; rw [hL2, hL.out, HRep.out]
      clear hR4 hB4 hL2 HCall e0 e1 e2 e3 e4 q3
      go_wp2_with fail
      go_roundw
      case rel => exact ⟨j + 1, L2, us4, by go_num, by omega, HR4.out.1, HL2, HR4.out.2⟩
      case measure => simp [intOf]; omega
    · obtain rfl : j = k := by omega
      clear hjk hj
      go_upto_region 7 with (fail)
      go_cut [67] (fun t wx => wr = wx ∧ ∃ b : Bool, t = .bool b ∧ Hid (b = true ↔ ∃ x, d.pend[j]? = some x ∧ x.kind = 0 ∧ 0 < x.b.length))
      case first =>
        by_cases hjl : j < n
        · obtain ⟨x, hx⟩ : ∃ x, d.pend[j]? = some x := ⟨_, List.getElem?_eq_getElem (by have := HN.out; omega)⟩
          obtain ⟨u, hu⟩ : ∃ u, uw[j]? = some u := ⟨_, List.getElem?_eq_getElem (by rw [HR.out.len]; have := HN.out; omega)⟩
          have hux : Bts (More T w wr) wr u x.b := (HR.out.bts j x u hx hu).move (fun i hi => HRF.out.2.block i (HR.out.lt i hi)) fun _ h => .inl h
          obtain ⟨au, cu, rfl, hcu1, hcu2⟩ := hux.ex
          obtain ⟨g, rfl, hgl, hc, -⟩ := HRow.out.view (by omega)
          obtain ⟨d0, d1, d2, d3, d4⟩ := dcells_at d.pend uw j x _ hx hu
          have e0 := (hc (j * 5) (by omega)).trans d0
          have e1 := (hc (j * 5 + 1) (by omega)).trans d1
          have e2 := (hc (j * 5 + 2) (by omega)).trans d2
          have e3 := (hc (j * 5 + 3) (by omega)).trans d3
          have e4 := (hc (j * 5 + 4) (by omega)).trans d4
          have HX := Lib.hid hx
          clear d0 d1 d2 d3 d4 hc hx hu hux e1 e2 e4
          by_cases hk0 : x.kind = 0
          · have tk : (x.kind == 0) = true := by simp [hk0]
            have HK0 := Lib.hid hk0
            clear hk0
            by_cases hl0 : 0 < x.b.length
            · have hl0' : (0 : Int) < (x.b.length : Int) := by omega
              go_wp2_with fail
              go_meet
              exact ⟨rfl, true, rfl, fun _ => ⟨x, HX.out, HK0.out, hl0⟩, fun _ => rfl⟩
            · have hnl : ¬ (0 : Int) < (x.b.length : Int) := by omega
              have HNl := Lib.hid hl0
              clear hl0
              go_wp2_with fail
              go_meet
              exact ⟨rfl, false, congrArg Value.bool (decide_eq_false HNl.out), fun h => by (cases h), fun ⟨y, hy, h1, h2⟩ => by
                rw [HX.out] at hy; cases hy; exact absurd h2 HNl.out⟩
          · have tk : (x.kind == 0) = false := by simp [hk0]
            have HK0 := Lib.hid hk0
            clear hk0
            go_wp2_with fail
            go_meet
            exact ⟨rfl, false, rfl, fun h => by (cases h), fun ⟨y, hy, h1, h2⟩ => by
              rw [HX.out] at hy; cases hy; exact absurd h1 HK0.out⟩
        · go_wp2_with fail
          go_meet
          exact ⟨rfl, false, rfl, fun h => by (cases h), fun ⟨y, hy, h1, h2⟩ => by
            have := (List.getElem?_eq_some_iff.1 hy).1; have := HN.out; omega⟩
      case rest =>
       obtain ⟨hw, b, rfl, hb⟩ := hcut
       subst hw
       go_upto_if 67 with (fail)
       go_cut [8] (fun lv wx => ∃ (L' : Fl) (us' : List Value), RF (More T w wx) wx lv L' us' ∧ Hid (filesOf L' = crashD d j torn) ∧ Below w.heap.size w wx)
       case first =>
        cases b with
        | false =>
          have HFin : Hid (filesOf L' = crashD d j torn) := by
            show _ = _
            rw [hL.out]
            unfold crashD
            cases hx : d.pend[j]? with
            | none => rfl
            | some x =>
              simp only
              rw [if_neg fun h => by
                have := hb.out.2 ⟨x, hx, h.1, h.2.1⟩
                cases this]
          go_wp2_with fail
          go_meet
          exact ⟨L', us', HRF.out.1, HFin, HRF.out.2⟩
        | true =>
          obtain ⟨x, hx, hk0, hl0⟩ := hb.out.1 rfl
          have hjl : j < n := by have := (List.getElem?_eq_some_iff.1 hx).1; have := HN.out; omega
          obtain ⟨u, hu⟩ : ∃ u, uw[j]? = some u := ⟨_, List.getElem?_eq_getElem (by rw [HR.out.len]; have := HN.out; omega)⟩
          have hux : Bts (More T w wr) wr u x.b := (HR.out.bts j x u hx hu).move (fun i hi => HRF.out.2.block i (HR.out.lt i hi)) fun _ h => .inl h
          obtain ⟨au, cu, rfl, hcu1, hcu2⟩ := hux.ex
          obtain ⟨g, rfl, hgl, hc, -⟩ := HRow.out.view (by omega)
          obtain ⟨d0, d1, d2, d3, d4⟩ := dcells_at d.pend uw j x _ hx hu
          have e0 := (hc (j * 5) (by omega)).trans d0
          have e1 := (hc (j * 5 + 1) (by omega)).trans d1
          have e2 := (hc (j * 5 + 2) (by omega)).trans d2
          have e3 := (hc (j * 5 + 3) (by omega)).trans d3
          have e4 := (hc (j * 5 + 4) (by omega)).trans d4
          have HDk := Lib.hid (HOk.out.1.at j x hx)
          have hcr : crashD d j torn = if x.kind = 0 ∧ 0 < x.b.length ∧ 0 < pickV torn x.b.length then doesM (replay d.syn (d.pend.take j)) { x with b := x.b.take (pickV torn x.b.length).toNat } else replay d.syn (d.pend.take j) := by unfold crashD; rw [hx]
          have HCr := Lib.hid hcr
          have HUx := Lib.hid hux
          clear d0 d1 d2 d3 d4 hc hx hu hux hcr hb
          have hxl : x.b.length ≤ 1000000000000 := by
            rcases HDk.out.kind with ⟨_, h⟩ | ⟨h, _⟩ | h | h <;> omega
          obtain ⟨m, hm, hml⟩ := pickV_at torn x.b.length (by omega)
          have hwt := fun w => rinto torn x.b.length (by omega) (by omega) w
          rw [hm] at hwt
          have HWi := Lib.hid hwt
          have HM := Lib.hid hm
          have hslu := fun w => run_slice_to (P := Try.prog) w 25 5 (Classical.choose (info_parts infoB)) Try.underlying25 (Classical.choose_spec (info_parts infoB)).1 au x.b.length cu m (by omega) .i64
          have hl0' : (0 : Int) < (x.b.length : Int) := by omega
          rw [hk0] at e0
          have HK0 := Lib.hid hk0
          clear hwt hm hk0
          go_wp2_with fail
          refine (HWi.out _).mono ?_
          rintro e w9 ⟨rfl, hw9⟩
          subst hw9
          by_cases hm0 : m = 0
          · subst hm0
            go_wp2_with fail
            go_meet
            refine ⟨L', us', ?_, ?_, HRF.out.2.alloc HRF.out.2.size _⟩
            · exact HRF.out.1.move (fun i hi => Below.heap_alloc wr _ i (more_lt HR.out.lt HRF.out.2 i hi)) (More.to (by simp))
            · show _ = _
              rw [HCr.out, HM.out, if_neg (by omega)]; exact hL.out
          · have hm1 : (0 : Int) < (m : Int) := by omega
            have heq : ({ x with b := x.b.take m } : Dd) = ⟨0, x.name, x.«to», x.b.take m, x.size⟩ := by rw [← HK0.out]
            have HFin : Hid (crashD d j torn = doesM (replay d.syn (d.pend.take j)) ⟨0, x.name, x.«to», x.b.take m, x.size⟩) := by
              show _ = _
              rw [HCr.out, HM.out, if_pos ⟨HK0.out, by omega, by omega⟩, Int.toNat_natCast, heq]
            have hB2 : Below wr.heap.size wr (wr.alloc (.cells #[.int .i64 0, .string x.name, .string x.«to», .slice au m cu, .int .i64 x.size] 120)) := (Below.refl _ wr).alloc (Nat.le_refl _) _
            have hux2 : Bts (More T w (wr.alloc (.cells #[.int .i64 0, .string x.name, .string x.«to», .slice au m cu, .int .i64 x.size] 120))) (wr.alloc (.cells #[.int .i64 0, .string x.name, .string x.«to», .slice au m cu, .int .i64 x.size] 120)) (.slice au m cu) (x.b.take m) :=
              (HUx.out.take m (by omega) rfl).move (fun i hi => hB2.block i (more_lt HR.out.lt HRF.out.2 i hi)) (More.to hB2.size)
            have hok2 : OkDeed (filesOf L') ⟨0, x.name, x.«to», x.b.take m, x.size⟩ := by
              rw [hL.out]
              refine ⟨HDk.out.name, HDk.out.dest, HDk.out.size, .inl ⟨rfl, ?_⟩⟩
              have h1 : (x.b.take m).length ≤ x.b.length := by rw [List.length_take]; omega
              simp only
              rcases HDk.out.kind with ⟨_, h⟩ | ⟨h, _⟩ | h | h
              · omega
              · have := HK0.out; omega
              · have := HK0.out; omega
              · have := HK0.out; omega
            have hcall := done_at (HRF.out.1.move (fun i hi => hB2.block i (more_lt HR.out.lt HRF.out.2 i hi)) (More.to hB2.size)) (HRF.out.2.trans (hB2.mono HRF.out.2.size)) HR.out.lt ⟨0, x.name, x.«to», x.b.take m, x.size⟩ _ hux2 hok2 (by rw [hL.out]; exact HOk.out.2 j)
            have HCall := Lib.hid hcall
            unfold ddAgg at HCall
            clear hcall hux2 hok2 heq hB2
            go_wp2_with fail
            refine HCall.out.mono ?_
            rintro e w4 ⟨L2, hL2, v4, us4, rfl, hR4, hB4⟩
            have HR4 := Lib.hid (And.intro hR4 hB4)
            have HL2 : Hid (filesOf L2 = crashD d j torn) := by show _ = _; rw [hL2, hL.out, HFin.out]
            clear hR4 hB4 hL2 HCall
            go_wp2_with fail
            go_meet
            exact ⟨L2, us4, HR4.out.1, HL2, HR4.out.2⟩
       case rest =>
        obtain ⟨L2, us2, hR2, hL2, hB2⟩ := hcut
        obtain ⟨a2, k2, rfl, -⟩ := hR2.row.form
        have hqc : wc.heap[q]? = some (.cells (rhead d.room (.slice asy Ls.length ks) nv (.slice a n cap) fu fz d.down) 99 (0, 0)) := (hB2.block q hql).trans HR.out.head
        obtain ⟨-, r1, r2, r3, r4, -, r6, hfr⟩ := rhead_cells hqc
        have f1 := hfr 1
        have f2 := hfr 2
        have f3 := hfr 3
        have f4 := hfr 4
        have f6 := hfr 6
        have HR2 := Lib.hid (And.intro hR2 hB2)
        clear hR2 hB2 hqc hfr q3
        go_wp2_with fail
        go_ret
        exact ⟨rfl, crash_fin HR.out HR2.out.2 HR2.out.1 hL2.out⟩
end Go.Proofs.Ytpkmnfpbcakflaa
