/- The walk of chapter 2's step over a disk and the reference's, alike. No condition. -/
import Derived.Test.YtpkmnfpbcakflaaDoorRTrunc
import Derived.Test.YtpkmnfpbcakflaaDoorRooms
import Derived.Deep.RegionHeld3
namespace Go.Proofs.YtpkmnfpbcakflaaDoor
open Go.ChangeShapes Go.WideShapes Go.ChangeAt Go.RowKit

/-- the step's box -/
structure StBox (w : World) (b : Nat) (wh a bb : Int) (n1 n2 : ByteArray) (sl : Value) (nr : Bool) : Prop where
  head : w.heap[b]? = some (.cells #[.int .i64 wh, .int .i64 a, .int .i64 bb, .string n1, .string n2, sl, .bool nr] 34 (0, 0))
section
variable {w w' : World} {b : Nat} {wh a bb : Int} {n1 n2 : ByteArray} {sl : Value} {nr : Bool}
theorem StBox.cells (h : StBox w b wh a bb n1 n2 sl nr) : w.cell? ⟨b, 0, none⟩ = some (.int .i64 wh) ∧ w.cell? ⟨b, 1, none⟩ = some (.int .i64 a) ∧ w.cell? ⟨b, 2, none⟩ = some (.int .i64 bb) ∧ w.cell? ⟨b, 3, none⟩ = some (.string n1) ∧ w.cell? ⟨b, 4, none⟩ = some (.string n2) ∧ w.cell? ⟨b, 5, none⟩ = some sl ∧ w.cell? ⟨b, 6, none⟩ = some (.bool nr) ∧ ∀ j, w.frozen? ⟨b, j, none⟩ = false := by
  refine ⟨?_, ?_, ?_, ?_, ?_, ?_, ?_, fun j => frozen_of_row _ _ _ _ _ h.head⟩ <;> (rw [cell_of_row _ _ _ _ _ _ h.head]; rfl)
theorem StBox.move (h : StBox w b wh a bb n1 n2 sl nr) (hb : w'.heap[b]? = w.heap[b]?) : StBox w' b wh a bb n1 n2 sl nr := ⟨hb.trans h.head⟩
theorem StBox.lt (h : StBox w b wh a bb n1 n2 sl nr) : b < w.heap.size := heap_lt h.head
theorem StBox.name (h : StBox w b wh a bb n1 n2 sl nr) (n : ByteArray) : StBox (w.setCell ⟨b, 3, none⟩ (.string n)) b wh a bb n n2 sl nr := ⟨heap_setCell_same w b 3 _ _ (.string n) h.head⟩
theorem StBox.dest (h : StBox w b wh a bb n1 n2 sl nr) (n : ByteArray) : StBox (w.setCell ⟨b, 4, none⟩ (.string n)) b wh a bb n1 n sl nr := ⟨heap_setCell_same w b 4 _ _ (.string n) h.head⟩
/-- .. behind a call of either disk -/
theorem StBox.to {w0 : World} {p q : Nat} {dp dq : Dk} (h : StBox w b wh a bb n1 n2 sl nr) (hT : PairTo w0 w w' (fun k => k = b) p q dp dq) : StBox w' b wh a bb n1 n2 sl nr := h.move (hT.2 b (.inr rfl) h.lt)
end

set_option maxRecDepth 100000 in
set_option maxHeartbeats 8000000 in
theorem step_any {w0 w : World} {p q C : Nat} {d : Dk} (hN : ∀ w' i, Below w0.heap.size w0 w' → i < 4 → w'.cell? ⟨0, i, none⟩ = some (.string (nm i))) (h : PairAt w0 w (fun _ => False) p q d d) (hI : Inv C d) (hC : C ≤ 999999)
    (wh a bb : Int) (n1 n2 : ByteArray) (ab : Option Addr) (m cb : Nat) (bs : List Int) (nr : Bool) (hn1 : n1.size ≤ maxLen) (hn2 : n2.size ≤ maxLen) (hm : bs.length = m) (hm2 : m ≤ 140737488351232)
    (hsrc : Src w0 1 (.slice ab m cb) m (byteCells bs)) (hbs : ∀ n ∈ bs, 0 ≤ n ∧ n < 256) :
    Calls Tryd.prog 12 #[.pointer (some ⟨p, 0, none⟩), .pointer (some ⟨q, 0, none⟩), .agg #[.int .i64 wh, .int .i64 a, .int .i64 bb, .string n1, .string n2, .slice ab m cb, .bool nr]] w fun e w' =>
      e = .returned (.bool true) ∧ ∃ d', PairAt w0 w' (fun _ => False) p q d' d' ∧ Inv (C + 1) d' := by
  obtain ⟨b, hb⟩ : ∃ b, w.heap.size = b := ⟨_, rfl⟩
  obtain ⟨i0, hi0, hz0, hz1, hz2⟩ := info_parts infoB
  have hP := (h.fresh ((Below.refl w.heap.size w).alloc (Nat.le_refl _) (.cells #[.int .i64 wh, .int .i64 a, .int .i64 bb, .string n1, .string n2, .slice ab m cb, .bool nr] 34))).apart (E' := fun k => k = b) (fun k hk => .inr ⟨by omega, by simp; omega⟩)
  have hB : StBox (w.alloc (.cells #[.int .i64 wh, .int .i64 a, .int .i64 bb, .string n1, .string n2, .slice ab m cb, .bool nr] 34)) b wh a bb n1 n2 (.slice ab m cb) nr := ⟨by rw [← hb]; exact heap_alloc_new w _⟩
  have HN := Lib.hid hN
  have HI := Lib.hid hI
  have HSr := Lib.hid (And.intro hsrc (And.intro hbs hm))
  have HB := Lib.hid hB
  have HP := Lib.hid hP
  have HNs := Lib.hid (And.intro hn1 hn2)
  clear hN hI hsrc hbs hm hB hP h hn1 hn2
  go_enter Tryd.func12, Tryd.ntmps12
  go_upto_region 1 with (fail)
  clear hb
  generalize w.alloc (.cells #[.int .i64 wh, .int .i64 a, .int .i64 bb, .string n1, .string n2, .slice ab m cb, .bool nr] 34) = W at *
  obtain ⟨c0, c1, c2, c3, c4, c5, c6, cf⟩ := HB.out.cells
  have hbl := HB.out.lt
  go_upto_if 17 with (fail)
  go_cut [] (fun wx => ∃ m1 m2 : ByteArray, Hid (m1.size ≤ maxLen ∧ m2.size ≤ maxLen) ∧ Hid (StBox wx b wh a bb m1 m2 (.slice ab m cb) nr) ∧ Hid (PairAt w0 wx (fun k => k = b) p q d d))
  case first =>
    cases nr with
    | true =>
      obtain ⟨A, hA0, hA1⟩ := pickV_at a 4 (by omega)
      have hpa := fun w => pick_any a 4 (by omega) (by omega) w
      rw [hA0] at hpa
      obtain ⟨Bn, hB0, hB1⟩ := pickV_at bb 4 (by omega)
      have hpb := fun w => pick_any bb 4 (by omega) (by omega) w
      rw [hB0] at hpb
      have HPa := Lib.hid hpa
      have HPb := Lib.hid hpb
      have rn := HN.out W A HP.out.1 (by omega)
      have HB3 := Lib.hid (HB.out.name (nm A))
      have HP3 := Lib.hid (HP.out.cell rfl 3 (.string (nm A)))
      obtain ⟨-, -, d2, -, d4, -, -, df⟩ := HB3.out.cells
      have rn2 := HN.out _ Bn HP3.out.1 (by omega)
      clear hpa hpb hA0 hB0
      go_wp2_with fail
      refine (HPa.out _).mono ?_
      rintro e w4 ⟨rfl, rfl⟩
      go_wp2_with fail
      refine (HPb.out _).mono ?_
      rintro e w5 ⟨rfl, rfl⟩
      go_wp2_with fail
      go_meet
      exact ⟨_, _, ⟨(nm_ok (by omega)).1, (nm_ok (by omega)).1⟩, HB3.out.dest (nm Bn), HP3.out.cell rfl 4 (.string (nm Bn))⟩
    | false =>
      go_wp2_with fail
      go_meet
      exact ⟨n1, n2, HNs.out, HB.out, HP.out⟩
  case rest =>
    obtain ⟨m1, m2, HNm, HBx, HPx⟩ := hcut
    clear HB HP HNs c0 c1 c2 c3 c4 c5 c6 cf hbl
    obtain ⟨c0, c1, c2, c3, c4, c5, c6, cf⟩ := HBx.out.cells
    have hbl := HBx.out.lt
    obtain ⟨V, hV0, hV1⟩ := pickV_at wh 13 (by omega)
    have hpv := fun w => pick_any wh 13 (by omega) (by omega) w
    rw [hV0] at hpv
    have HPv := Lib.hid hpv
    clear hpv hV0
    go_wp2_with fail
    refine (HPv.out _).mono ?_
    rintro e w4 ⟨rfl, hw4⟩
    obtain rfl := hw4.symm
    clear HPv
    have HV : Hid (V < 13) := by show V < 13; omega
    clear hV1
    rcases (show V = 5 ∨ V = 6 ∨ V = 7 ∨ V = 8 ∨ V = 9 ∨ V = 10 ∨ V = 11 ∨ V = 12 ∨ V < 5 by have := HV.out; omega) with rfl | rfl | rfl | rfl | rfl | rfl | rfl | rfl | hV
    · as_aux_lemma =>
      go_upto_if 38 with (fail)
      go_cut [7] (fun t wx => wc = wx ∧ ∃ n : Int, t = .int .i64 n)
      case first =>
        cases nr with
        | true =>
          obtain ⟨T7, hrd⟩ := HPx.out.read2 m1
          obtain ⟨len, hlen⟩ : ∃ len, (getF d.now m1).length = len := ⟨_, rfl⟩
          have hl8 : len ≤ 8388608 := by have := HI.out.fine.get_le m1; omega
          obtain ⟨th, hth⟩ : ∃ th, (hasF d.now m1 && !d.down) = th := ⟨_, rfl⟩
          rw [hth] at hrd
          have HRd := Lib.hid hrd
          clear hrd hth
          go_wp2_with fail
          refine HRd.out.mono ?_
          rintro e w5 ⟨rfl, hrd⟩
          cases th with
          | true =>
            obtain ⟨a8, k8, rfl, -⟩ := hrd
            rw [hlen]
            have hpb := fun w => pick_any bb ((len : Int) + 2) (by omega) (by omega) w
            have HPb := Lib.hid hpb
            clear HRd hlen hpb
            go_wp2_with fail
            refine (HPb.out _).mono ?_
            rintro e w6 ⟨rfl, rfl⟩
            go_wp2_with fail
            go_meet
            exact ⟨rfl, _, rfl⟩
          | false =>
            obtain rfl := hrd
            have HPb := Lib.hid fun w => pick_any bb 2 (by omega) (by omega) w
            clear HRd hlen
            go_wp2_with fail
            refine (HPb.out _).mono ?_
            rintro e w6 ⟨rfl, rfl⟩
            go_wp2_with fail
            go_meet
            exact ⟨rfl, _, rfl⟩
        | false =>
          go_wp2_with fail
          go_meet
          exact ⟨rfl, bb, rfl⟩
      case rest =>
      obtain ⟨hw, n, rfl⟩ := hcut
      subst hw
      obtain ⟨X, d', hT⟩ : ∃ X d', truncM d m1 n = (X, d') := ⟨_, _, rfl⟩
      have h1 := fun w3 (hB : Below wc.heap.size wc w3) => (HPx.out.below hB).trunc HI.out (by omega) m1 n HNm.out.1
      have h2 := fun w3 dp (h : PairAt w0 w3 (fun k => k = b) p q dp d) => h.trunc2 HI.out (by omega) m1 n HNm.out.1
      have hI' : Inv (C + 1) (truncM d m1 n).2 := HI.out.truncated HNm.out.1
      simp only [hT] at h1 h2 hI'
      have H1 := Lib.hid h1
      have H2 := Lib.hid h2
      have HI' := Lib.hid hI'
      clear h1 h2 hI' hT
      go_wp2_with fail
      go_region_held3 (fun w' => w'.cell? ⟨b, 3, none⟩ = some (.string m1))
        (first | go_keep | exact p1)
        (first
          | (go_at_call 21; refine (H1.out _ (Below.refl _ _).drew).mono ?_; rintro e w3 ⟨rfl, T3⟩; have hbx3 := (HBx.out.move (w' := wc.drew) rfl).to T3; have pc := hbx3.cells; have p1 : w3.cell? ⟨b, 3, none⟩ = some (.string m1) := pc.2.2.2.1)
          | (go_at_call 22; refine (H2.out _ _ T3.1).mono ?_; rintro e w4 ⟨rfl, T4⟩; have hbx4 := hbx3.to T4; have pc := hbx4.cells; have p1 : w4.cell? ⟨b, 3, none⟩ = some (.string m1) := pc.2.2.2.1))
      all_goals
        as_aux_lemma =>
        have HD := Lib.hid (T4.1.apart (E' := fun _ => False) fun k hk => hk.elim)
        clear T3 T4 pc hbx3 hbx4
        go_wp2_with fail
        go_ret
        exact ⟨by simp, _, HD.out, HI'.out⟩
    · as_aux_lemma =>
      obtain ⟨X, d', hT⟩ : ∃ X d', renameM d m1 m2 = (X, d') := ⟨_, _, rfl⟩
      have h1 := fun w3 (hB : Below wc.heap.size wc w3) => (HPx.out.below hB).rename HI.out (by omega) m1 m2 HNm.out.1 HNm.out.2
      have h2 := fun w3 dp (h : PairAt w0 w3 (fun k => k = b) p q dp d) => h.rename2 HI.out (by omega) m1 m2 HNm.out.1 HNm.out.2
      have hI' : Inv (C + 1) (renameM d m1 m2).2 := HI.out.renamed HNm.out.1 HNm.out.2
      simp only [hT] at h1 h2 hI'
      have H1 := Lib.hid h1
      have H2 := Lib.hid h2
      have HI' := Lib.hid hI'
      clear h1 h2 hI' hT
      go_wp2_with fail
      go_region_held3 (fun w' => w'.cell? ⟨b, 3, none⟩ = some (.string m1) ∧ w'.cell? ⟨b, 4, none⟩ = some (.string m2))
        (first | go_keep | exact ⟨p1, p2⟩)
        (first
          | (go_at_call 23; refine (H1.out _ (Below.refl _ _).drew).mono ?_; rintro e w3 ⟨rfl, T3⟩; have hbx3 := (HBx.out.move (w' := wc.drew) rfl).to T3; have pc := hbx3.cells; have p1 : w3.cell? ⟨b, 3, none⟩ = some (.string m1) := pc.2.2.2.1; have p2 : w3.cell? ⟨b, 4, none⟩ = some (.string m2) := pc.2.2.2.2.1)
          | (go_at_call 24; refine (H2.out _ _ T3.1).mono ?_; rintro e w4 ⟨rfl, T4⟩; have hbx4 := hbx3.to T4; have pc := hbx4.cells; have p1 : w4.cell? ⟨b, 3, none⟩ = some (.string m1) := pc.2.2.2.1; have p2 : w4.cell? ⟨b, 4, none⟩ = some (.string m2) := pc.2.2.2.2.1))
      all_goals
        as_aux_lemma =>
        have HD := Lib.hid (T4.1.apart (E' := fun _ => False) fun k hk => hk.elim)
        clear T3 T4 pc hbx3 hbx4
        go_wp2_with fail
        go_ret
        exact ⟨by simp, _, HD.out, HI'.out⟩
    · as_aux_lemma =>
      obtain ⟨X, d', hT⟩ : ∃ X d', removeM d m1 = (X, d') := ⟨_, _, rfl⟩
      have h1 := fun w3 (hB : Below wc.heap.size wc w3) => (HPx.out.below hB).remove HI.out (by omega) m1 HNm.out.1
      have h2 := fun w3 dp (h : PairAt w0 w3 (fun k => k = b) p q dp d) => h.remove2 HI.out (by omega) m1 HNm.out.1
      have hI' : Inv (C + 1) (removeM d m1).2 := HI.out.removed HNm.out.1
      simp only [hT] at h1 h2 hI'
      have H1 := Lib.hid h1
      have H2 := Lib.hid h2
      have HI' := Lib.hid hI'
      clear h1 h2 hI' hT
      go_wp2_with fail
      go_region_held3 (fun w' => w'.cell? ⟨b, 3, none⟩ = some (.string m1))
        (first | go_keep | exact p1)
        (first
          | (go_at_call 11; refine (H1.out _ (Below.refl _ _).drew).mono ?_; rintro e w3 ⟨rfl, T3⟩; have hbx3 := (HBx.out.move (w' := wc.drew) rfl).to T3; have pc := hbx3.cells; have p1 : w3.cell? ⟨b, 3, none⟩ = some (.string m1) := pc.2.2.2.1)
          | (go_at_call 25; refine (H2.out _ _ T3.1).mono ?_; rintro e w4 ⟨rfl, T4⟩; have hbx4 := hbx3.to T4; have pc := hbx4.cells; have p1 : w4.cell? ⟨b, 3, none⟩ = some (.string m1) := pc.2.2.2.1))
      all_goals
        as_aux_lemma =>
        have HD := Lib.hid (T4.1.apart (E' := fun _ => False) fun k hk => hk.elim)
        clear T3 T4 pc hbx3 hbx4
        go_wp2_with fail
        go_ret
        exact ⟨by simp, _, HD.out, HI'.out⟩
    · as_aux_lemma =>
      obtain ⟨X, d', hT⟩ : ∃ X d', syncM d = (X, d') := ⟨_, _, rfl⟩
      have h1 := fun w3 (hB : Below wc.heap.size wc w3) => (HPx.out.below hB).sync HI.out
      have h2 := fun w3 dp (h : PairAt w0 w3 (fun k => k = b) p q dp d) => h.sync2 HI.out
      have hI' : Inv (C + 1) (syncM d).2 := HI.out.sync.more (Nat.le_succ _)
      simp only [hT] at h1 h2 hI'
      have H1 := Lib.hid h1
      have H2 := Lib.hid h2
      have HI' := Lib.hid hI'
      clear h1 h2 hI' hT
      go_wp2_with fail
      refine (H1.out _ (Below.refl _ _)).mono ?_
      rintro e w3 ⟨rfl, T3⟩
      go_wp2_with fail
      refine (H2.out _ _ T3.1).mono ?_
      rintro e w4 ⟨rfl, T4⟩
      have HD := Lib.hid (T4.1.apart (E' := fun _ => False) fun k hk => hk.elim)
      clear T3 T4
      go_wp2_with fail
      go_ret
      exact ⟨by simp, _, HD.out, HI'.out⟩
    · as_aux_lemma =>
      obtain ⟨X, d', hT⟩ : ∃ X d', syncM d = (X, d') := ⟨_, _, rfl⟩
      have h1 := fun w3 (hB : Below wc.heap.size wc w3) => (HPx.out.below hB).sync HI.out
      have h2 := fun w3 dp (h : PairAt w0 w3 (fun k => k = b) p q dp d) => h.sync2 HI.out
      have hI' : Inv (C + 1) (syncM d).2 := HI.out.sync.more (Nat.le_succ _)
      simp only [hT] at h1 h2 hI'
      have H1 := Lib.hid h1
      have H2 := Lib.hid h2
      have HI' := Lib.hid hI'
      clear h1 h2 hI' hT
      go_wp2_with fail
      refine (H1.out _ (Below.refl _ _)).mono ?_
      rintro e w3 ⟨rfl, T3⟩
      go_wp2_with fail
      refine (H2.out _ _ T3.1).mono ?_
      rintro e w4 ⟨rfl, T4⟩
      have HD := Lib.hid (T4.1.apart (E' := fun _ => False) fun k hk => hk.elim)
      clear T3 T4
      go_wp2_with fail
      go_ret
      exact ⟨by simp, _, HD.out, HI'.out⟩
    · as_aux_lemma =>
      obtain ⟨X, d', hT⟩ : ∃ X d', crashM d a bb = (X, d') := ⟨_, _, rfl⟩
      have h1 := fun w3 (hB : Below wc.heap.size wc w3) => (HPx.out.below hB).crash HI.out (by omega) a bb
      have h2 := fun w3 dp (h : PairAt w0 w3 (fun k => k = b) p q dp d) => h.crash2 HI.out (by omega) a bb
      have hI' : Inv (C + 1) (crashM d a bb).2 := (HI.out.crashM a bb).more (Nat.le_succ _)
      simp only [hT] at h1 h2 hI'
      have H1 := Lib.hid h1
      have H2 := Lib.hid h2
      have HI' := Lib.hid hI'
      clear h1 h2 hI' hT
      go_wp2_with fail
      go_region_held3 (fun w' => w'.cell? ⟨b, 1, none⟩ = some (.int .i64 a) ∧ w'.cell? ⟨b, 2, none⟩ = some (.int .i64 bb))
        (first | go_keep | exact ⟨p1, p2⟩)
        (first
          | (go_at_call 15; refine (H1.out _ (Below.refl _ _).drew).mono ?_; rintro e w3 ⟨rfl, T3⟩; have hbx3 := (HBx.out.move (w' := wc.drew) rfl).to T3; have pc := hbx3.cells; have p1 : w3.cell? ⟨b, 1, none⟩ = some (.int .i64 a) := pc.2.1; have p2 : w3.cell? ⟨b, 2, none⟩ = some (.int .i64 bb) := pc.2.2.1)
          | (go_at_call 27; refine (H2.out _ _ T3.1).mono ?_; rintro e w4 ⟨rfl, T4⟩; have hbx4 := hbx3.to T4; have pc := hbx4.cells; have p1 : w4.cell? ⟨b, 1, none⟩ = some (.int .i64 a) := pc.2.1; have p2 : w4.cell? ⟨b, 2, none⟩ = some (.int .i64 bb) := pc.2.2.1))
      all_goals
        as_aux_lemma =>
        have HD := Lib.hid (T4.1.apart (E' := fun _ => False) fun k hk => hk.elim)
        clear T3 T4 pc hbx3 hbx4
        go_wp2_with fail
        go_ret
        exact ⟨by simp, _, HD.out, HI'.out⟩
    · as_aux_lemma =>
      obtain ⟨A, hA0, hA1⟩ := pickV_at a 20 (by omega)
      have hpa := fun w => pick_any a 20 (by omega) (by omega) w
      rw [hA0] at hpa
      have HPa := Lib.hid hpa
      have H1 := Lib.hid (fun w3 (hB : Below wc.heap.size wc w3) => (HPx.out.below hB).fuse ((A : Int) - 3))
      have H2 := Lib.hid (fun w3 dp (h : PairAt w0 w3 (fun k => k = b) p q dp d) => h.fuse2 ((A : Int) - 3))
      have HI' := Lib.hid ((HI.out.fused (n := (A : Int) - 3) (by omega)).more (Nat.le_succ _))
      clear hpa hA0
      go_wp2_with fail
      refine (HPa.out _).mono ?_
      rintro e w5 ⟨rfl, rfl⟩
      go_wp2_with fail
      refine (H1.out _ (Below.refl _ _)).mono ?_
      rintro e w3 ⟨rfl, T3⟩
      go_wp2_with fail
      refine (H2.out _ _ T3.1).mono ?_
      rintro e w4 ⟨rfl, T4⟩
      have HD := Lib.hid (T4.1.apart (E' := fun _ => False) fun k hk => hk.elim)
      clear T3 T4
      go_wp2_with fail
      go_ret
      exact ⟨rfl, _, HD.out, HI'.out⟩
    · as_aux_lemma =>
      go_upto_if 129 with (fail)
      go_cut [11] (fun t wx => wc = wx ∧ ∃ n : Int, t = .int .i64 n)
      case first =>
        cases nr with
        | true =>
          have HPb := Lib.hid fun w => pick_any a 200 (by omega) (by omega) w
          go_wp2_with fail
          refine (HPb.out _).mono ?_
          rintro e w6 ⟨rfl, rfl⟩
          go_wp2_with fail
          go_meet
          exact ⟨rfl, _, rfl⟩
        | false =>
          go_wp2_with fail
          go_meet
          exact ⟨rfl, a, rfl⟩
      case rest =>
      obtain ⟨hw, n, rfl⟩ := hcut
      subst hw
      by_cases hn : 0 ≤ n ∧ n ≤ 8388608
      · obtain ⟨hn0, hn1⟩ := hn
        have k1 : decide (n < 0) = false := decide_eq_false (by omega)
        have k2 : decide (8388608 < n) = false := decide_eq_false (by omega)
        have H1 := Lib.hid (HPx.out.room n hn0 hn1)
        have HI' := Lib.hid ((HI.out.roomed hn0 hn1).more (Nat.le_succ _))
        go_wp2_with fail
        refine H1.out.mono ?_
        rintro e w3 ⟨rfl, T3⟩
        obtain ⟨-, -, ⟨s0, e0⟩, f0, lq⟩ := T3.1.cells2
        have HD := Lib.hid ((T3.1.space n).1.apart (E' := fun _ => False) fun k hk => hk.elim)
        clear T3
        go_wp2_with fail
        go_ret
        exact ⟨by simp, _, HD.out, HI'.out⟩
      · have H1 := Lib.hid (room_no p wc n (by omega))
        by_cases hn0 : n < 0
        · have k1 : decide (n < 0) = true := decide_eq_true hn0
          go_wp2_with fail
          refine H1.out.mono ?_
          rintro e w3 ⟨rfl, rfl⟩
          go_wp2_with fail
          go_ret
          exact ⟨by simp, d, HPx.out.apart (E' := fun _ => False) fun k hk => hk.elim, HI.out.more (Nat.le_succ _)⟩
        · have k1 : decide (n < 0) = false := decide_eq_false hn0
          have k2 : decide (8388608 < n) = true := decide_eq_true (by omega)
          go_wp2_with fail
          refine H1.out.mono ?_
          rintro e w3 ⟨rfl, rfl⟩
          go_wp2_with fail
          go_ret
          exact ⟨by simp, d, HPx.out.apart (E' := fun _ => False) fun k hk => hk.elim, HI.out.more (Nat.le_succ _)⟩
    · as_aux_lemma =>
      have hsrc3 : Src (wc.alloc (.cells #[] 5)) 1 (.slice ab m cb) m (byteCells bs) := HSr.out.1.below (HPx.out.1.alloc HPx.out.1.size _)
      have hdst := Row.lit_at wc 5 1 #[] 0 wc.heap.size rfl (Nat.zero_le _) rfl
      have h5 : ¬ (V : Int) = 5 := by omega
      have h6 : ¬ (V : Int) = 6 := by omega
      have h7 : ¬ (V : Int) = 7 := by omega
      have h8 : ¬ (V : Int) = 8 := by omega
      have h9 : ¬ (V : Int) = 9 := by omega
      have h10 : ¬ (V : Int) = 10 := by omega
      have h11 : ¬ (V : Int) = 11 := by omega
      have h12 : ¬ (V : Int) = 12 := by omega
      obtain ⟨X, d', hT⟩ : ∃ X d', appendM d m1 bs = (X, d') := ⟨_, _, rfl⟩
      have hI' : Inv (C + 1) (appendM d m1 bs).2 := HI.out.appended HNm.out.1
      rw [hT] at hI'
      have HT := Lib.hid hT
      have HI' := Lib.hid hI'
      clear hT hI' hV
      go_upto_region 35 with (at_builtin; refine wpList_append_row _ rfl _ _ 32 rfl 5 i0 _ 1 1 Tryd.underlying32 hi0 hz0 hz1 hz2 rfl (.slice (some ⟨wc.heap.size, 0, none⟩) 0 0) 0 [] rfl hdst _ _ _ rfl hsrc3 (by unfold maxLen; omega) (by omega) (wc.heap.size + 1) (by simp) ?_; intro a' cap' w5 hown2 hgrow hat)
      have hB5 : Below wc.heap.size wc w5 := ((Below.refl _ wc).alloc (Nat.le_refl _) (.cells #[] 5)).grown hgrow (by simp) (by intro k hk; simp [Value.ownBlock] at hk; omega)
      simp only [Nat.zero_add, List.nil_append] at hown2
      have hEo : ∀ k, (Value.slice a' m cap').ownBlock = some k → wc.heap.size ≤ k ∧ k < w5.heap.size := fun k hk => ⟨by
        rcases hat k (by simpa using hk) with e | e
        · simp [Value.ownBlock] at e; omega
        · omega, hown2.lt hk⟩
      have hP5 := HPx.out.fresh hB5
      obtain ⟨E, hE⟩ : ∃ E : Nat → Prop, (fun k => k = b ∨ (wc.heap.size ≤ k ∧ k < w5.heap.size)) = E := ⟨_, rfl⟩
      have hEb : E b := by rw [← hE]; exact .inl rfl
      have hEo : ∀ k, (Value.slice a' m cap').ownBlock = some k → E k := fun k hk => by rw [← hE]; exact .inr (hEo k hk)
      rw [hE] at hP5
      clear hE
      have hB' := HBx.out.move (hB5.block b hbl)
      obtain ⟨-, -, -, e3, -, e5, -⟩ := hB'.cells
      obtain ⟨hsr, hbs, hm⟩ := HSr.out
      have h1 := fun w3 (hB : Below w5.heap.size w5 w3) => (hP5.below hB).append HI.out (by omega) m1 a' m cap' bs HNm.out.1 hm (by omega) (Src.of_row (hown2.of_block fun k hk => hB.block k (hown2.lt hk)) (byteCells_one _)) (fun _ k hk => .inr (hEo k hk)) hbs
      have h2 := fun w3 dp (h : PairAt w0 w3 E p q dp d) => h.append2 HI.out (by omega) m1 ab m cb bs HNm.out.1 hm (by omega) (hsr.below h.1) (fun h0 k hk => .inl (hsr.lt h0 k hk)) hbs
      simp only [HT.out] at h1 h2
      have H1 := Lib.hid h1
      have H2 := Lib.hid h2
      have conv : ∀ (w : World) (a : Option Addr) (n c : Nat) (b : List Int), Src w 1 (.slice a n c) n (byteCells b) → (convert 32 9 (.slice a n c)).run Tryd.prog w = .ok (.string (strOfNums b)) w := fun w a n c b h => run_string_src (P := Tryd.prog) h 32 5 9 Tryd.underlying32 Tryd.underlying5 Tryd.underlying9
      have HCv := Lib.hid conv
      have HB' := Lib.hid hB'
      have HE := Lib.hid (And.intro hEb hEo)
      have HO := Lib.hid hown2
      have HP5 := Lib.hid hP5
      clear h1 h2 conv hB' hEb hEo hown2 hsr hbs hP5 hB5 hgrow hat hdst hsrc3 HT h5 h6 h7 h8 h9 h10 h11 h12 c0 c1 c2 c3 c4 c5 c6 cf
      go_wp2_with fail
      have cI := HCv.out w5.drew a' m cap' bs (Src.of_row (HO.out.of_block fun _ _ => rfl) (byteCells_one _))
      have cJ := HCv.out w5.drew ab m cb bs (HSr.out.1.below (HP5.out.1.trans (Below.refl _ _).drew))
      go_region_held3 (fun w' => w'.cell? ⟨b, 3, none⟩ = some (.string m1) ∧ w'.cell? ⟨b, 5, none⟩ = some (.slice ab m cb) ∧ (convert 32 9 (.slice a' m cap')).run Tryd.prog w' = .ok (.string (strOfNums bs)) w' ∧ (convert 32 9 (.slice ab m cb)).run Tryd.prog w' = .ok (.string (strOfNums bs)) w')
        (first | exact ⟨p1, p2, cA, cB⟩ | exact ⟨e3, e5, cI, cJ⟩)
        (first
          | (go_at_call 10; refine (H1.out _ (Below.refl _ _).drew).mono ?_; rintro e w3 ⟨rfl, T3⟩; have hbx3 := (HB'.out.move rfl).move (T3.2 b (.inr HE.out.1) HB'.out.lt); have pc := hbx3.cells; have p1 : w3.cell? ⟨b, 3, none⟩ = some (.string m1) := pc.2.2.2.1; have p2 : w3.cell? ⟨b, 5, none⟩ = some (.slice ab m cb) := pc.2.2.2.2.2.1; have hr3 := HO.out.of_block fun k hk => T3.2 k (.inr (HE.out.2 k hk)) (HO.out.lt hk); have cA := HCv.out w3 a' m cap' bs (Src.of_row hr3 (byteCells_one _)); have cB := HCv.out w3 ab m cb bs (HSr.out.1.below T3.1.1))
          | (go_at_call 31; refine (H2.out _ _ T3.1).mono ?_; rintro e w4 ⟨rfl, T4⟩; have hbx4 := hbx3.move (T4.2 b (.inr HE.out.1) hbx3.lt); have pc := hbx4.cells; have p1 : w4.cell? ⟨b, 3, none⟩ = some (.string m1) := pc.2.2.2.1; have p2 : w4.cell? ⟨b, 5, none⟩ = some (.slice ab m cb) := pc.2.2.2.2.2.1; have hr3 := HO.out.of_block fun k hk => T3.2 k (.inr (HE.out.2 k hk)) (HO.out.lt hk); have hr4 := hr3.of_block fun k hk => T4.2 k (.inr (HE.out.2 k hk)) (hr3.lt hk); have cA := HCv.out w4 a' m cap' bs (Src.of_row hr4 (byteCells_one _)); have cB := HCv.out w4 ab m cb bs (HSr.out.1.below T4.1.1)))
      all_goals
        as_aux_lemma =>
        have HD := Lib.hid (And.intro T4.1 hr4)
        clear T3 T4 hr3 hr4 cA cB p1 p2 pc hbx3 hbx4
        have HBs := Lib.hid HSr.out.2.2
        clear HSr HB' H1 H2 HCv HO
        go_wp2_with fail
        go_loopw [15] (fun i wx => ∃ (j : Nat) (zs : List Int), i = .int .i64 j ∧ j ≤ m ∧ zs.length = m ∧ Row wx 5 1 (.slice a' m cap') m (byteCells zs) ∧ PairAt w0 wx E p q d' d') (fun i _ => m - (intOf i).toNat)
        case atStart => exact ⟨0, bs, rfl, Nat.zero_le _, HBs.out, HD.out.2, HD.out.1⟩
        case round =>
          clear HD
          obtain ⟨j, zs, rfl, hjm, hzl, hR, hP⟩ := hrel
          have HR := Lib.hid hR
          have HP := Lib.hid hP
          clear hR hP
          by_cases hj : j < m
          · as_aux_lemma =>
            obtain ⟨g, rfl, hgl, hgc, hgf⟩ := HR.out.view (by omega)
            have c0 : ∃ u, wr.cell? ⟨g, j, none⟩ = some u := by
              rw [hgc j (by omega)]
              exact ⟨_, List.getElem?_eq_getElem (by rw [byteCells_len]; omega)⟩
            obtain ⟨u, c0⟩ := c0
            have f0 := hgf j
            have hset : byteCells (zs.set j 238) = (byteCells zs).set j (.int .u8 238) := by simp [byteCells, List.map_set]
            have HSet := Lib.hid hset
            clear hgc hgf hset
            go_wp2_with fail
            go_roundw
            case rel => exact ⟨j + 1, zs.set j 238, by go_num, by omega, by rw [List.length_set]; exact hzl, by rw [HSet.out]; exact HR.out.stored j _, HP.out.cell (HE.out.2 g rfl) j _⟩
            case measure => simp [intOf]; omega
          · as_aux_lemma =>
            have HP' := Lib.hid (HP.out.apart (E' := fun _ => False) fun k hk => hk.elim)
            clear HP HR
            go_wp2_with fail
            go_ret
            exact ⟨by simp, d', HP'.out, HI'.out⟩
end Go.Proofs.YtpkmnfpbcakflaaDoor
