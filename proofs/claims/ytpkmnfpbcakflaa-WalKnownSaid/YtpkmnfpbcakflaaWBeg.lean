/- The walks of the Log's Append of a wrong epoch, Size and Begin. No condition. -/
import Derived.Test.YtpkmnfpbcakflaaWApp
namespace Go.Proofs.Ytpkmnfpbcakflaa
open Go.ChangeShapes Go.WideShapes Go.ChangeAt Go.RowKit Go.Sort

set_option maxRecDepth 100000 in
set_option maxHeartbeats 4000000 in
theorem wappend_bad {w : World} {p l : Nat} {v : Value} (hL : LogAt w l p v 5) (a : Option Addr) (c : Nat) (hsrc : Src w 1 (.slice a 2 c) 2 (byteCells [97, 98])) :
    Calls Try.prog 40 #[.pointer (some ⟨l, 0, none⟩), .agg (bat 7 (.slice a 2 c))] w fun e w' => e = .returned (.int .i64 1) ∧ Below w.heap.size w w' := by
  have hB1 := (Below.refl w.heap.size w).alloc (Nat.le_refl _) (.cells (bat 7 (.slice a 2 c)) 76)
  have hb1 : (w.alloc (.cells (bat 7 (.slice a 2 c)) 76)).heap[w.heap.size]? = some (.cells (bat 7 (.slice a 2 c)) 76 (0, 0)) := heap_alloc_new w _
  have HLay := Lib.hid (wlay_any 7 (by decide) a c _ (hsrc.below hB1))
  have HB1 := Lib.hid hB1
  have HBt := Lib.hid (BatAt.mk hb1)
  have HL := Lib.hid hL
  clear hL hsrc hB1 hb1
  unfold bat at HLay HB1 ⊢
  go_enter Try.func40, Try.ntmps40
  go_wp2_with fail
  refine HLay.out.mono ?_
  rintro e w2 ⟨a2, c2, rfl, -, -, hB2⟩
  have h10 : (layL 7).length = 10 := rfl
  rw [h10]
  have hBw2 := HB1.out.trans (hB2.mono HB1.out.size)
  have hL2 := HL.out.below hBw2
  obtain ⟨l0, l1, l2, -⟩ := hL2.cells
  obtain ⟨q0, -⟩ := (BatAt.below HBt.out (heap_lt HBt.out.b) hB2).cells
  have HW2 := Lib.hid hBw2
  clear hB2 hBw2 hL2 HB1 HBt HLay
  go_wp2_with fail
  go_quiet (fail)
  go_wp2_with fail
  go_ret
  exact ⟨rfl, HW2.out.trans ⟨rfl, rfl, rfl, Nat.le_refl _, fun _ _ => rfl⟩⟩
set_option maxRecDepth 100000 in
set_option maxHeartbeats 4000000 in
theorem wsize_none {w : World} {p l : Nat} {a : Option Addr} {c : Nat} {last : Int} (hL : LogAt w l p (.slice a 0 c) last) :
    Calls Try.prog 42 #[.pointer (some ⟨l, 0, none⟩)] w fun e w' => e = .returned (.int .i64 0) ∧ w = w' := by
  obtain ⟨l0, l1, l2, -⟩ := hL.cells
  clear hL
  go_enter Try.func42, Try.ntmps42
  go_wp2_with fail
  go_loopw [3, 13] (fun n i W => n = .int .i64 0 ∧ i = .int .i64 0 ∧ w = W) (fun _ _ _ => 0)
  case atStart => exact ⟨rfl, rfl, rfl⟩
  case round =>
    obtain ⟨rfl, rfl, rfl⟩ := hrel
    go_wp2_with fail
    go_ret
    exact ⟨rfl, rfl⟩
theorem read_wd {X : Nat → Prop} {w : World} {p : Nat} (h : DiskOwn X w p (wd (some fr5))) :
    Calls Try.prog 20 #[.pointer (some ⟨p, 0, none⟩), .string nm5] w fun e w' => ReadYes w w' e fr5 := by
  have h1 := read_own X p (wd (some fr5)) nm5 w h (by rw [nm5_size]; decide) (by rw [wopen_one_get, fr5_len]; decide)
  rw [wopen_one_has, wopen_one_get] at h1
  exact h1
set_option maxRecDepth 100000 in
set_option maxHeartbeats 4000000 in
theorem wsize_one {w0 w : World} {p l : Nat} {last : Int} (h : JS w0 w p (wd (some fr5)) l [nm5] last) :
    Calls Try.prog 42 #[.pointer (some ⟨l, 0, none⟩)] w fun e w' => e = .returned (.int .i64 20) ∧ Below w.heap.size w w' := by
  obtain ⟨X, v, hX, hD, hB0, hXl, hlw, hL, hRv, hvX⟩ := h
  rw [show [nm5].length = 1 from rfl] at hRv
  obtain ⟨av, cv, rfl, -⟩ := hRv.form
  obtain ⟨gf, rfl, -, hgc, -⟩ := hRv.view (by omega)
  have s0 : w.cell? ⟨gf, 0, none⟩ = some (.string nm5) := by rw [hgc 0 (by omega)]; rfl
  obtain ⟨l0, l1, l2, -⟩ := hL.cells
  have HRd := Lib.hid (read_wd hD)
  clear hX hD hB0 hXl hlw hL hRv hvX hgc
  go_enter Try.func42, Try.ntmps42
  go_wp2_with fail
  go_loopw [3, 13] (fun n i W => ∃ k : Nat, i = .int .i64 k ∧ k ≤ 1 ∧ n = .int .i64 (20 * k : Nat) ∧ (k = 0 → w = W) ∧ (k = 1 → Below w.heap.size w W)) (fun _ i _ => 1 - (intOf i).toNat)
  case atStart => exact ⟨0, rfl, by omega, rfl, fun _ => rfl, fun h => by omega⟩
  case round =>
    obtain ⟨k, rfl, hk, rfl, hk0, hk1⟩ := hrel
    by_cases hz : k = 0
    · subst hz
      obtain rfl := hk0 rfl
      clear hk0 hk1
      go_wp2_with fail
      refine HRd.out.mono ?_
      rintro e w2 ⟨x2, rfl, hR2, -, -, hB2⟩
      rw [fr5_len] at hR2
      obtain ⟨a2, c2, rfl, -⟩ := hR2.form
      have HB2 := Lib.hid hB2
      clear hR2 hB2 l0 l1 l2 s0
      go_wp2_with fail
      go_roundw
      case rel => exact ⟨1, rfl, by omega, rfl, fun h => by omega, fun _ => HB2.out⟩
      case measure => simp [intOf]
    · obtain rfl : k = 1 := by omega
      have HB := Lib.hid (hk1 rfl)
      clear hk0 hk1 hz
      go_wp2_with fail
      go_ret
      exact ⟨rfl, HB.out⟩
set_option maxRecDepth 100000 in
set_option maxHeartbeats 4000000 in
theorem wbegin_bad {w : World} {p l : Nat} {v : Value} (hL : LogAt w l p v 5) :
    Calls Try.prog 43 #[.pointer (some ⟨l, 0, none⟩), .int .u64 7] w fun e w' => e = .returned (.int .i64 1) ∧ w = w' := by
  obtain ⟨l0, l1, l2, -⟩ := hL.cells
  clear hL
  go_enter Try.func43, Try.ntmps43
  go_wp2_with fail
  go_ret
  exact ⟨rfl, rfl⟩
/-- how many files the Log has -/
def lenAt (W : World) (l : Nat) : Nat := match W.cell? ⟨l, 1, none⟩ with | some (.slice _ n _) => n | _ => 0
/-- the disk behind the Remove -/
theorem rem_wd : removeM (wd (some fr5)) nm5 = (0, removed (wd (some fr5)) nm5) := by
  have hc : countsM (wd (some fr5)) = (true, wd (some fr5)) := counts_one nm5 8388608 (some fr5) [] (-1) (by omega)
  unfold removeM
  rw [hc, wopen_one_has]
  rfl
theorem sync_rem : syncM (removed (wd (some fr5)) nm5) = (0, wd none) := by
  have hn : (removed (wd (some fr5)) nm5).now = oneF nm5 none := one_del nm5 (some fr5)
  have hc : countsM (removed (wd (some fr5)) nm5) = (true, removed (wd (some fr5)) nm5) := rfl
  unfold syncM
  rw [hc, hn]
  show (0, ({ removed (wd (some fr5)) nm5 with syn := oneF nm5 none, pend := [] } : Dk)) = _
  rw [show removed (wd (some fr5)) nm5 = { wd (some fr5) with now := delF (wd (some fr5)).now nm5, pend := (wd (some fr5)).pend ++ [⟨3, nm5, ⟨#[]⟩, [], 0⟩] } from rfl]
  rw [wd_now, one_del]
  rfl
set_option maxRecDepth 100000 in
set_option maxHeartbeats 4000000 in
theorem wbegin_ok {w0 w : World} {p l : Nat} (h : JS w0 w p (wd (some fr5)) l [nm5] 5) :
    Calls Try.prog 43 #[.pointer (some ⟨l, 0, none⟩), .int .u64 6] w fun e w' => e = .returned (.int .i64 0) ∧ St w0 w' p (wd none) ∧ ∃ a c, LogAt w' l p (.slice a 0 c) 5 := by
  obtain ⟨i0, hi0, hz0, hz1, hz2⟩ := info_parts infoS
  obtain ⟨X, v, hX, hD, hB0, hXl, hlw, hL, hRv, hvX⟩ := h
  rw [show [nm5].length = 1 from rfl] at hRv
  obtain ⟨av, cv, rfl, hcv, -⟩ := hRv.form
  obtain ⟨gf, rfl, hgf, hgc, -⟩ := hRv.view (by omega)
  have s0 : w.cell? ⟨gf, 0, none⟩ = some (.string nm5) := by rw [hgc 0 (by omega)]; rfl
  obtain ⟨l0, l1, l2, -⟩ := hL.cells
  have hRm := fun (W : World) (hB : Below w.heap.size w W) => remove_own X p (wd (some fr5)) nm5 W (hD.below hB) (by rw [nm5_size]; decide) (by decide) (by decide) (by decide)
  rw [rem_wd] at hRm
  have HRm := Lib.hid hRm
  have HD := Lib.hid (And.intro hX (And.intro hB0 (And.intro hXl hlw)))
  have HL := Lib.hid hL
  clear hX hD hB0 hXl hlw hRv hvX hgc hL hRm
  go_enter Try.func43, Try.ntmps43
  go_wp2_with fail
  go_loopw [] (fun W => (w = W) ∨ (DiskOwn X W p (removed (wd (some fr5)) nm5) ∧ Below w0.heap.size w0 W ∧ ∃ a c, LogAt W l p (.slice a 0 c) 5)) (fun W => lenAt W l)
  case atStart => exact .inl rfl
  case round =>
    rcases hrel with rfl | hrel
    · have hml : lenAt w l = 1 := by unfold lenAt; rw [l1]
      have HMl := Lib.hid hml
      clear hml
      have hsl : ∀ w, (Instr.slice 43 (.slice (some ⟨gf, 0, none⟩) 1 cv) (some (.int .i64 1)) none none).run Try.prog w = .ok (.slice (fromAddr (some ⟨gf, 0, none⟩) cv 1 1) 0 (cv - 1)) w := fun w => run_slice_from w 43 9 i0 Try.underlying43 hi0 1 hz1 _ 1 cv 1 (by omega) .i64
      go_wp2_with fail
      go_region_with (go_at_call 25; refine (HRm.out _ (Below.refl _ _).drew).mono ?_; rintro e w2 ⟨rfl, hD2, hK2⟩)
      all_goals
        have hL2 : LogAt w2 l p (.slice (some ⟨gf, 0, none⟩) 1 cv) 5 := ⟨(hK2.block l HL.out.lt fun e => e HD.out.2.2.1).trans HL.out.b⟩
        have hB2 : Below w0.heap.size w0 w2 := HD.out.2.1.trans (Keep.below (X := X) ((Mod.drew (Mod.refl _ w)).trans hK2) HD.out.1 HD.out.2.1.size)
        obtain ⟨m0, m1, m2, mf⟩ := hL2.cells
        have mf1 := mf 1
        have H2 := Lib.hid (And.intro hL2 (And.intro hB2 hD2))
        clear hL2 hB2 hD2 hK2 mf l0 l1 l2 s0
        go_wp2_with fail
        go_roundw
        case rel => exact .inr ⟨H2.out.2.2.cell HD.out.2.2.1 1 _, H2.out.2.1.setCell (p := ⟨l, 1, none⟩) HD.out.2.2.2 _, _, _, H2.out.1.files _⟩
        case measure =>
          rw [HMl.out]
          unfold lenAt
          rw [(H2.out.1.files _).cells.2.1]
          exact Nat.zero_lt_one
    · obtain ⟨hD3, hB3, a3, c3, hL3⟩ := hrel
      clear l0 l1 l2 s0
      obtain ⟨l0, l1, l2, -⟩ := hL3.cells
      have hSy := sync_own X p (removed (wd (some fr5)) nm5) wr hD3 (by decide) (by decide) (by rw [show (removed (wd (some fr5)) nm5).now = oneF nm5 none from one_del nm5 (some fr5)]; have := one_size nm5 none; omega)
      rw [sync_rem] at hSy
      have HSy := Lib.hid hSy
      have H3 := Lib.hid (And.intro hB3 hL3)
      clear hSy hD3 hB3 hL3 HRm
      go_wp2_with fail
      refine HSy.out.mono ?_
      rintro e w4 ⟨rfl, hD4, hK4⟩
      have H4 := Lib.hid (And.intro hD4 hK4)
      clear hD4 hK4 HSy l0 l1 l2
      go_wp2_with fail
      go_ret
      exact ⟨rfl, ⟨H4.out.1.fewer HD.out.1, H3.out.1.trans (H4.out.2.below HD.out.1 H3.out.1.size)⟩, a3, c3, ⟨(H4.out.2.block l H3.out.2.lt fun e => e HD.out.2.2.1).trans H3.out.2.b⟩⟩
end Go.Proofs.Ytpkmnfpbcakflaa
