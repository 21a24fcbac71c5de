/- The walks of the Log's Append and Last. No condition. -/
import Derived.Test.YtpkmnfpbcakflaaWOpen1
import Derived.Deep.RegionHeld3
namespace Go.Proofs.Ytpkmnfpbcakflaa
open Go.ChangeShapes Go.WideShapes Go.ChangeAt Go.RowKit Go.Sort

theorem grown_fr : grown none [fr5] = some fr5 := by simp [grown]
theorem app_wd {X : Nat → Prop} {w : World} {p : Nat} (h : DiskOwn X w p (wd none)) (a : Option Addr) (c : Nat) (hR : Row w 5 1 (.slice a 20 c) 20 (byteCells fr5)) (ho : ∀ k, (Value.slice a 20 c).ownBlock = some k → X k) :
    Calls Try.prog 18 #[.pointer (some ⟨p, 0, none⟩), .string nm5, .slice a 20 c] w fun e w' => e = .returned (.int .i64 0) ∧ DiskOwn X w' p (oneDk nm5 8388608 none [fr5] (-1) false) ∧ Keep X w w' :=
  app_one X p nm5 8388608 none [] (-1) w a 20 c fr5 h (by unfold namedB; rw [nm5_size]; rfl) (by rw [nm5_size]; decide) (.inl rfl) (by decide) (by decide) (by rw [show fr5.length = 20 by show (frameL (layL 5)).length = 20; rw [frameL_len]; rfl]; decide) (by decide) (by show (frameL (layL 5)).length = 20; rw [frameL_len]; rfl) (Src.of_row hR (byteCells_one _)) (fun _ => ho) (frameL_range _ (layL_range 5 (by decide)))
theorem sync_app {X : Nat → Prop} {w : World} {p : Nat} (h : DiskOwn X w p (oneDk nm5 8388608 none [fr5] (-1) false)) :
    Calls Try.prog 21 #[.pointer (some ⟨p, 0, none⟩)] w fun e w' => e = .returned (.int .i64 0) ∧ DiskOwn X w' p (wd (some fr5)) ∧ Keep X w w' := by
  have := sync_one X p nm5 8388608 none [fr5] (-1) w h (.inl rfl) (by decide)
  rw [grown_fr] at this
  exact this
set_option maxRecDepth 100000 in
set_option maxHeartbeats 4000000 in
theorem wlast_any {w : World} {l p : Nat} {v : Value} {last : Int} (h : LogAt w l p v last) : Calls Try.prog 44 #[.pointer (some ⟨l, 0, none⟩)] w fun e w' => e = .returned (.int .u64 last) ∧ w = w' := by
  obtain ⟨l0, l1, l2, -⟩ := h.cells
  clear h
  go_enter Try.func44, Try.ntmps44
  go_wp2_with fail
  go_ret
  exact ⟨rfl, rfl⟩
theorem fr5_len : fr5.length = 20 := by show (frameL (layL 5)).length = 20; rw [frameL_len]; rfl
theorem app_more {X : Nat → Prop} {w W : World} {p : Nat} (hD : DiskOwn X w p (wd none)) (hB : Below w.heap.size w W) (a6 : Option Addr) (c6 : Nat) (hR : Row W 5 1 (.slice a6 fr5.length c6) fr5.length (byteCells fr5)) (ho : ∀ k, (Value.slice a6 fr5.length c6).ownBlock = some k → w.heap.size ≤ k) :
    Calls Try.prog 18 #[.pointer (some ⟨p, 0, none⟩), .string nm5, .slice a6 fr5.length c6] W fun e w' => e = .returned (.int .i64 0) ∧ DiskOwn (More X w W) w' p (oneDk nm5 8388608 none [fr5] (-1) false) ∧ Keep (More X w W) W w' := by
  rw [fr5_len] at hR ho ⊢
  exact app_wd (hD.more hB) a6 c6 hR fun k hk => .inr ⟨ho k hk, hR.lt hk⟩
set_option maxRecDepth 100000 in
set_option maxHeartbeats 8000000 in
theorem wappend_ok {w0 w : World} {p l : Nat} (h : JS w0 w p (wd none) l [] 4) (a : Option Addr) (c : Nat) (hsrc : Src w 1 (.slice a 2 c) 2 (byteCells [97, 98])) :
    Calls Try.prog 40 #[.pointer (some ⟨l, 0, none⟩), .agg (bat 5 (.slice a 2 c))] w fun e w' => e = .returned (.int .i64 0) ∧ JS w0 w' p (wd (some fr5)) l [nm5] 5 := by
  obtain ⟨X, v, hX, hD, hB0, hXl, hlw, hL, hRv, hvX⟩ := h
  obtain ⟨av, cv, rfl, -⟩ := hRv.form
  have hB1 := (Below.refl w.heap.size w).alloc (Nat.le_refl _) (.cells (bat 5 (.slice a 2 c)) 76)
  have hb1 : (w.alloc (.cells (bat 5 (.slice a 2 c)) 76)).heap[w.heap.size]? = some (.cells (bat 5 (.slice a 2 c)) 76 (0, 0)) := heap_alloc_new w _
  have HLay := Lib.hid (wlay_any 5 (by decide) a c _ (hsrc.below hB1))
  have HB1 := Lib.hid hB1
  have HBt := Lib.hid (BatAt.mk hb1)
  have HD := Lib.hid (And.intro hD (And.intro hX (And.intro hB0 (And.intro hXl hlw))))
  have HL := Lib.hid hL
  clear hX hD hB0 hXl hlw hL hRv hvX hsrc hB1 hb1
  unfold bat at HLay HB1 ⊢
  go_enter Try.func40, Try.ntmps40
  go_wp2_with fail
  refine HLay.out.mono ?_
  rintro e w2 ⟨a2, c2, rfl, hR2, -, hB2⟩
  have h10 : (layL 5).length = 10 := rfl
  rw [h10] at hR2 ⊢
  have hBw2 := HB1.out.trans (hB2.mono HB1.out.size)
  have hL2 := HL.out.below hBw2
  obtain ⟨l0, l1, l2, -⟩ := hL2.cells
  obtain ⟨q0, -⟩ := (BatAt.below HBt.out (heap_lt HBt.out.b) hB2).cells
  have HW2 := Lib.hid hBw2
  have HBt2 := Lib.hid (BatAt.below HBt.out (heap_lt HBt.out.b) hB2)
  have HL2 := Lib.hid hL2
  have HR2 := Lib.hid hR2
  have hll := hL2.lt
  have hgl := heap_lt HBt2.out.b
  clear hB2 hBw2 hL2 hR2 HB1 HBt HLay
  go_wp2_with fail
  go_quiet (fail)
  go_wp2_with fail
  refine (wal_name 5 _).mono ?_
  rintro e w4 ⟨rfl, hB4⟩
  have hB4' : Below w2.heap.size w2 w4 := (show Below w2.heap.size w2 (w2.drewN nq) from ⟨rfl, rfl, rfl, Nat.le_refl _, fun _ _ => rfl⟩).trans hB4
  have HL4 := Lib.hid (HL2.out.below hB4')
  have HBt4 := Lib.hid (BatAt.below HBt2.out hgl hB4')
  have HR4 := Lib.hid (Src.of_row (HR2.out.of_block fun k hk => hB4'.block k (HR2.out.lt hk)) (byteCells_one _))
  have HW4 := Lib.hid (HW2.out.trans (hB4'.mono HW2.out.size))
  clear hB4 hB4' l0 l1 l2 q0 HL2 HR2 HBt2 HW2 hll hgl
  obtain ⟨l0, l1, l2, -⟩ := HL4.out.cells
  have hll := HL4.out.lt
  go_wp2_with fail
  have HFrm := Lib.hid (fun (W : World) (hB : Below w4.heap.size w4 W) => frame_any a2 10 c2 (layL 5) W (HR4.out.below hB) (layL_range 5 (by decide)) (by decide))
  have HApp := Lib.hid (fun (W : World) (hB : Below w4.heap.size w4 W) (a6 : Option Addr) (c6 : Nat) (hR : Row W 5 1 (.slice a6 fr5.length c6) fr5.length (byteCells fr5)) (ho : ∀ k, (Value.slice a6 fr5.length c6).ownBlock = some k → w4.heap.size ≤ k) => app_more HD.out.1 (HW4.out.trans (hB.mono HW4.out.size)) a6 c6 hR fun k hk => Nat.le_trans HW4.out.size (ho k hk))
  have hXl := HD.out.2.2.2.1
  have HXl := Lib.hid hXl
  clear hXl
  go_region_held3 (fun w' => w'.cell? ⟨l, 0, none⟩ = some (.pointer (some ⟨p, 0, none⟩)))
    (first | go_keep | exact p0)
    (first
      | (go_at_call 56; refine (HFrm.out _ (Below.refl _ _).drew).mono ?_; rintro e w6 ⟨a6, c6, rfl, hR6, ho6, hB6⟩; have hB7 : Below w4.heap.size w4 w6 := (Below.refl _ _).drew.trans hB6; have p0 : w6.cell? ⟨l, 0, none⟩ = some (.pointer (some ⟨p, 0, none⟩)) := (hB7.cell (p := ⟨l, 0, none⟩) hll).trans l0)
      | (go_at_call 18; refine (HApp.out _ hB7 _ _ hR6 ho6).mono ?_; rintro e w7 ⟨rfl, hD7, hK7⟩; have p0 : w7.cell? ⟨l, 0, none⟩ = some (.pointer (some ⟨p, 0, none⟩)) := (World.cell?_of_block (a := ⟨l, 0, none⟩) (hK7.block l (Nat.lt_of_lt_of_le hll hB7.size) (fun e => e (.inl HXl.out)))).trans ((hB7.cell (p := ⟨l, 0, none⟩) hll).trans l0)))
  clear p0
  have hl6 := Nat.lt_of_lt_of_le hll hB7.size
  have hYl : More X w w6 l := .inl HXl.out
  have hw6 : w.heap.size ≤ w6.heap.size := Nat.le_trans HW4.out.size hB7.size
  have hg6 : w.heap.size < w6.heap.size := Nat.lt_of_lt_of_le (heap_lt HBt4.out.b) hB7.size
  have hYg : More X w w6 w.heap.size := .inr ⟨Nat.le_refl _, hg6⟩
  have hL7 : LogAt w7 l p (.slice av 0 cv) 4 := ⟨(hK7.block l hl6 fun e => e hYl).trans (HL4.out.below hB7).b⟩
  have hBt7 : BatAt w7 w.heap.size 5 (.slice a 2 c) := ⟨(hK7.block _ hg6 fun e => e hYg).trans (HBt4.out.below (heap_lt HBt4.out.b) hB7).b⟩
  have hB07 : Below w0.heap.size w0 w7 := (HD.out.2.2.1.trans ((HW4.out.trans (hB7.mono HW4.out.size)).mono HD.out.2.2.1.size)).trans (hK7.below (fun k hk => .inl (HD.out.2.1 k hk)) (Nat.le_trans HD.out.2.2.1.size hw6))
  have HK7 := Lib.hid (And.intro hD7 (And.intro hYl (And.intro hB07 hL7)))
  have hlg : l < w.heap.size := HL.out.lt
  have hne : ¬ w.heap.size = l := by omega
  have hl7 := hL7.lt
  have hg7 := heap_lt hBt7.b
  clear l0 l1 l2 hll hR6 ho6 hB6 hB7 hK7 hD7 hYg hYl hg6 hl6 hw6 hB07
  obtain ⟨l0, l1, l2, lf⟩ := hL7.cells
  obtain ⟨q0, -⟩ := hBt7.cells
  have lf1 := lf 1
  have lf2 := lf 2
  clear lf hL7 hBt7
  obtain ⟨W8, hW8⟩ : ∃ W8, (w7.setCell ⟨l, 1, none⟩ (.slice (some ⟨w7.heap.size, 0, none⟩) 1 1)).setCell ⟨l, 2, none⟩ (.int .u64 5) = W8 := ⟨_, rfl⟩
  have HSy := Lib.hid (fun (W : World) (hB : Below W8.heap.size W8 W) => by
    have hD8 : DiskOwn (More X w w6) W8 p (oneDk nm5 8388608 none [fr5] (-1) false) := by rw [← hW8]; exact (HK7.out.1.cell HK7.out.2.1 1 _).cell HK7.out.2.1 2 _
    exact sync_app (hD8.more hB))
  have hs8 : W8.heap.size = w7.heap.size := by rw [← hW8]; simp [World.setCell]
  have hL8 : LogAt W8 l p (.slice (some ⟨w7.heap.size, 0, none⟩) 1 1) 5 := by rw [← hW8]; exact (HK7.out.2.2.2.files _).last 5
  have hB8 : Below w0.heap.size w0 W8 := by rw [← hW8]; exact (HK7.out.2.2.1.setCell (p := ⟨l, 1, none⟩) HD.out.2.2.2.2 _).setCell (p := ⟨l, 2, none⟩) HD.out.2.2.2.2 _
  have H8 := Lib.hid (And.intro hs8 (And.intro hL8 hB8))
  have HW8 := Lib.hid hW8
  clear hs8 hL8 hB8 hW8
  go_wp2_with fail
  rw [HW8.out]
  have hB9 : Below W8.heap.size W8 (W8.alloc (.cells #[.string nm5] 9)) := (Below.refl _ W8).alloc (Nat.le_refl _) _
  refine (HSy.out _ hB9).mono ?_
  rintro e w10 ⟨rfl, hD10, hK10⟩
  have H10 := Lib.hid (And.intro hB9 (And.intro hD10 hK10))
  clear hB9 hD10 hK10 HSy l0 l1 l2 q0 lf1 lf2 hl7 hg7 hne hlg
  go_wp2_with fail
  go_ret
  have hs8 := H8.out.1
  have hL9 := H8.out.2.1.below H10.out.1
  have hYl : More (More X w w6) W8 (W8.alloc (.cells #[.string nm5] 9)) l := .inl HK7.out.2.1
  have hYs : More (More X w w6) W8 (W8.alloc (.cells #[.string nm5] 9)) w7.heap.size := .inr ⟨by omega, by simp; omega⟩
  have hR9 := Row.lit_at W8 9 1 #[.string nm5] 1 w7.heap.size hs8 (by decide) rfl
  refine ⟨rfl, _, _, fun k hk => .inl (.inl (HD.out.2.1 k hk)), H10.out.2.1, ?_, hYl, HD.out.2.2.2.2, ⟨(H10.out.2.2.block l hL9.lt fun e => e hYl).trans hL9.b⟩, ?_, ?_⟩
  · exact (H8.out.2.2.trans (H10.out.1.mono H8.out.2.2.size)).trans (H10.out.2.2.below (fun k hk => .inl (.inl (HD.out.2.1 k hk))) (Nat.le_trans H8.out.2.2.size H10.out.1.size))
  · exact hR9.of_block fun k hk => H10.out.2.2.block k (hR9.lt hk) fun e => by
      simp [Value.ownBlock] at hk
      subst hk
      exact e hYs
  · intro k hk
    simp [Value.ownBlock] at hk
    subst hk
    exact hYs
end Go.Proofs.Ytpkmnfpbcakflaa
