/- The walk of the Log's read over one file of one frame. No condition. -/
import Derived.Test.YtpkmnfpbcakflaaWReadB
import Derived.Test.YtpkmnfpbcakflaaList
import Derived.Test.YtpkmnfpbcakflaaRemove
namespace Go.Proofs.Ytpkmnfpbcakflaa
open Go.ChangeShapes Go.WideShapes Go.ChangeAt Go.RowKit

/-- a Log's block -/
structure LogAt (w : World) (l p : Nat) (v : Value) (last : Int) : Prop where
  b : w.heap[l]? = some (.cells #[.pointer (some ⟨p, 0, none⟩), v, .int .u64 last] 104 (0, 0))
theorem LogAt.cells {w : World} {l p : Nat} {v : Value} {last : Int} (h : LogAt w l p v last) : w.cell? ⟨l, 0, none⟩ = some (.pointer (some ⟨p, 0, none⟩)) ∧ w.cell? ⟨l, 1, none⟩ = some v ∧ w.cell? ⟨l, 2, none⟩ = some (.int .u64 last) ∧ ∀ j, w.frozen? ⟨l, j, none⟩ = false := by
  refine ⟨?_, ?_, ?_, fun j => frozen_of_row _ _ _ _ _ h.b⟩ <;> (rw [cell_of_row _ _ _ _ _ _ h.b]; rfl)
theorem LogAt.below {w w' : World} {l p : Nat} {v : Value} {last : Int} (h : LogAt w l p v last) (hB : Below w.heap.size w w') : LogAt w' l p v last := ⟨(hB.block l (heap_lt h.b)).trans h.b⟩
theorem LogAt.lt {w : World} {l p : Nat} {v : Value} {last : Int} (h : LogAt w l p v last) : l < w.heap.size := heap_lt h.b
/-- a row of one batch -/
def OneBat (B : Nat) (w : World) (v : Value) (e0 : Int) : Prop :=
  ∃ g c a cb, v = .slice (some ⟨g, 0, none⟩) 1 c ∧ Row w 76 7 v 1 (bat e0 (.slice a 2 cb)).toList ∧ Src w 1 (.slice a 2 cb) 2 (byteCells [97, 98]) ∧ B ≤ g ∧ ∀ k, (Value.slice a 2 cb).ownBlock = some k → B ≤ k
theorem OneBat.below {B : Nat} {w w' : World} {v : Value} {e0 : Int} (h : OneBat B w v e0) (hB : Below w.heap.size w w') : OneBat B w' v e0 := by
  obtain ⟨g, c, a, cb, hv, hR, hS, hg, ho⟩ := h
  exact ⟨g, c, a, cb, hv, hR.of_block fun k hk => hB.block k (hR.lt hk), hS.below hB, hg, ho⟩
theorem infoBat : (Try.prog.info? 76).map (fun i => (i.zero, i.size, i.bytes)) = some (some (.agg batZ), 7, 88) := by kernel_rfl
theorem layL_range (e0 : Nat) (he : e0 < 128) : ∀ x ∈ layL e0, 0 ≤ x ∧ x < 256 := by
  intro x hx
  simp [layL] at hx
  omega
def WRI (w : World) (l : Nat) (e0 : Int) (n : Nat) (A : Act) (W : World) : Prop :=
  ∃ u6 u7 u8 u9 u10 u11 u12 u13 u14 u15 u16 u17 u18 u19 u20 u21 u22 u23 u24 u25 u26 u27 u28 u29 u30 u31 u32 u33 u34 u35 u36 u37 u38 u39 u40 u41 u42 u43 u44 u45 u46 u47 u48 u49 u50 u51 u52 u53 u54 u55 u56 u57 u58 u59 u60 u61 u62 u63 u64 u65 u66 u67 u68 u69 u70 u71 u72 u73 u74 u75 u76 u77 u78 u79 u80 u81 u82 u83 u84 u85 u86 u87 u88 u89 u90 u91 u92 u93 u94 u95 u96 u97 u98 u99 u100 u101 u102 u103 u104 u105 u106 u107 u108 u109 u110 u111 u112 : Value, ∃ (o : Value) (i : Nat), ((n = 1 ∧ i = 0 ∧ o = .slice none 0 0 ∧ w = W) ∨ (n = 0 ∧ i = 1 ∧ OneBat w.heap.size W o e0 ∧ Below w.heap.size w W)) ∧
    A = ⟨#[.pointer (some ⟨l, 0, none⟩), undef, .slice none 0 0, .int .i64 0, o, .int .i64 i, u6, u7, u8, u9, u10, u11, u12, u13, u14, u15, u16, u17, u18, u19, u20, u21, u22, u23, u24, u25, u26, u27, u28, u29, u30, u31, u32, u33, u34, u35, u36, u37, u38, u39, u40, u41, u42, u43, u44, u45, u46, u47, u48, u49, u50, u51, u52, u53, u54, u55, u56, u57, u58, u59, u60, u61, u62, u63, u64, u65, u66, u67, u68, u69, u70, u71, u72, u73, u74, u75, u76, u77, u78, u79, u80, u81, u82, u83, u84, u85, u86, u87, u88, u89, u90, u91, u92, u93, u94, u95, u96, u97, u98, u99, u100, u101, u102, u103, u104, u105, u106, u107, u108, u109, u110, u111, u112], []⟩
/-- by a goto to the first label alone -/
def OnlyGo (G : Act → World → Prop) (e : Exit) (a : Act) (w : World) : Prop := match e with | .goto l => l = 0 ∧ G a w | _ => False
set_option maxRecDepth 100000 in
set_option maxHeartbeats 8000000 in
theorem wrlog_one {X : Nat → Prop} {w : World} {p : Nat} {d : Dk} (h : DiskOwn X w p d) (hdn : d.down = false) (s : ByteArray) (hs : s.size ≤ maxLen) (e0 : Nat) (he : 1 ≤ e0 ∧ e0 < 128) (hhas : hasF d.now s = true) (hget : getF d.now s = frameL (layL e0))
    (l : Nat) (v : Value) (last : Int) (hl : LogAt w l p v last) (hfr : Row w 9 1 v 1 [.string s]) :
    Calls Try.prog 73 #[.pointer (some ⟨l, 0, none⟩)] w fun e w' => ∃ o, e = .returned (.tuple #[o, .int .i64 0]) ∧ OneBat w.heap.size w' o e0 ∧ Below w.heap.size w w' := by
  obtain ⟨i1, hj0, hy0, hy1, hy2⟩ := info_parts infoBat
  obtain ⟨af, cf, rfl, -⟩ := hfr.form
  obtain ⟨gf, rfl, hgf, hgc, -⟩ := hfr.view (by omega)
  have s0 : w.cell? ⟨gf, 0, none⟩ = some (.string s) := by rw [hgc 0 (by omega)]; rfl
  have hlt := hl.lt
  have HRd := Lib.hid (fun (w1 : World) (hB : Below w.heap.size w w1) => by
    have h1 := read_own X p d s w1 (h.below hB) hs (by rw [hget, frameL_len]; simp [layL])
    rw [hhas, hdn, hget] at h1
    exact (show Calls _ _ _ w1 fun e w' => ReadYes w1 w' e (frameL (layL e0)) from h1))
  obtain ⟨l0, l1, -, -⟩ := hl.cells
  clear h hdn hs hhas hget hfr hgc hl
  have HFl := Lib.hid (show (frameL (layL e0)).length = 20 by rw [frameL_len]; simp [layL])
  have HFr := Lib.hid (show framesL [layL e0] = frameL (layL e0) by simp [framesL])
  have HE := Lib.hid he
  clear he
  go_enter Try.func73, Try.ntmps73
  go_wp2_with fail
  apply wp_scope_one (WRI w l e0) ?h0 ?first ?pass0
  case h0 => repeat (first | exact fl_head | refine fl_right (by kernel_rfl) ?_)
  case first =>
    intro S R hR hret hp0
    rw [← hR]
    clear hR
    go_wp2_with fail
    go_step3
    go_wp2_with fail
    refine hp0.out 1 _ _ ?_
    unfold WRI
    repeat apply Exists.intro
    refine ⟨?_, rfl⟩
    exact .inl ⟨rfl, rfl, rfl, rfl⟩
  case pass0 =>
    intro r A wr hinv S hret hg
    unfold WRI at hinv
    obtain ⟨u6, hinv⟩ := hinv; obtain ⟨u7, hinv⟩ := hinv; obtain ⟨u8, hinv⟩ := hinv; obtain ⟨u9, hinv⟩ := hinv; obtain ⟨u10, hinv⟩ := hinv; obtain ⟨u11, hinv⟩ := hinv; obtain ⟨u12, hinv⟩ := hinv; obtain ⟨u13, hinv⟩ := hinv; obtain ⟨u14, hinv⟩ := hinv; obtain ⟨u15, hinv⟩ := hinv; obtain ⟨u16, hinv⟩ := hinv; obtain ⟨u17, hinv⟩ := hinv; obtain ⟨u18, hinv⟩ := hinv; obtain ⟨u19, hinv⟩ := hinv; obtain ⟨u20, hinv⟩ := hinv; obtain ⟨u21, hinv⟩ := hinv; obtain ⟨u22, hinv⟩ := hinv; obtain ⟨u23, hinv⟩ := hinv; obtain ⟨u24, hinv⟩ := hinv; obtain ⟨u25, hinv⟩ := hinv; obtain ⟨u26, hinv⟩ := hinv; obtain ⟨u27, hinv⟩ := hinv; obtain ⟨u28, hinv⟩ := hinv; obtain ⟨u29, hinv⟩ := hinv; obtain ⟨u30, hinv⟩ := hinv; obtain ⟨u31, hinv⟩ := hinv; obtain ⟨u32, hinv⟩ := hinv; obtain ⟨u33, hinv⟩ := hinv; obtain ⟨u34, hinv⟩ := hinv; obtain ⟨u35, hinv⟩ := hinv; obtain ⟨u36, hinv⟩ := hinv; obtain ⟨u37, hinv⟩ := hinv; obtain ⟨u38, hinv⟩ := hinv; obtain ⟨u39, hinv⟩ := hinv; obtain ⟨u40, hinv⟩ := hinv; obtain ⟨u41, hinv⟩ := hinv; obtain ⟨u42, hinv⟩ := hinv; obtain ⟨u43, hinv⟩ := hinv; obtain ⟨u44, hinv⟩ := hinv; obtain ⟨u45, hinv⟩ := hinv; obtain ⟨u46, hinv⟩ := hinv; obtain ⟨u47, hinv⟩ := hinv; obtain ⟨u48, hinv⟩ := hinv; obtain ⟨u49, hinv⟩ := hinv; obtain ⟨u50, hinv⟩ := hinv; obtain ⟨u51, hinv⟩ := hinv; obtain ⟨u52, hinv⟩ := hinv; obtain ⟨u53, hinv⟩ := hinv; obtain ⟨u54, hinv⟩ := hinv; obtain ⟨u55, hinv⟩ := hinv; obtain ⟨u56, hinv⟩ := hinv; obtain ⟨u57, hinv⟩ := hinv; obtain ⟨u58, hinv⟩ := hinv; obtain ⟨u59, hinv⟩ := hinv; obtain ⟨u60, hinv⟩ := hinv; obtain ⟨u61, hinv⟩ := hinv; obtain ⟨u62, hinv⟩ := hinv; obtain ⟨u63, hinv⟩ := hinv; obtain ⟨u64, hinv⟩ := hinv; obtain ⟨u65, hinv⟩ := hinv; obtain ⟨u66, hinv⟩ := hinv; obtain ⟨u67, hinv⟩ := hinv; obtain ⟨u68, hinv⟩ := hinv; obtain ⟨u69, hinv⟩ := hinv; obtain ⟨u70, hinv⟩ := hinv; obtain ⟨u71, hinv⟩ := hinv; obtain ⟨u72, hinv⟩ := hinv; obtain ⟨u73, hinv⟩ := hinv; obtain ⟨u74, hinv⟩ := hinv; obtain ⟨u75, hinv⟩ := hinv; obtain ⟨u76, hinv⟩ := hinv; obtain ⟨u77, hinv⟩ := hinv; obtain ⟨u78, hinv⟩ := hinv; obtain ⟨u79, hinv⟩ := hinv; obtain ⟨u80, hinv⟩ := hinv; obtain ⟨u81, hinv⟩ := hinv; obtain ⟨u82, hinv⟩ := hinv; obtain ⟨u83, hinv⟩ := hinv; obtain ⟨u84, hinv⟩ := hinv; obtain ⟨u85, hinv⟩ := hinv; obtain ⟨u86, hinv⟩ := hinv; obtain ⟨u87, hinv⟩ := hinv; obtain ⟨u88, hinv⟩ := hinv; obtain ⟨u89, hinv⟩ := hinv; obtain ⟨u90, hinv⟩ := hinv; obtain ⟨u91, hinv⟩ := hinv; obtain ⟨u92, hinv⟩ := hinv; obtain ⟨u93, hinv⟩ := hinv; obtain ⟨u94, hinv⟩ := hinv; obtain ⟨u95, hinv⟩ := hinv; obtain ⟨u96, hinv⟩ := hinv; obtain ⟨u97, hinv⟩ := hinv; obtain ⟨u98, hinv⟩ := hinv; obtain ⟨u99, hinv⟩ := hinv; obtain ⟨u100, hinv⟩ := hinv; obtain ⟨u101, hinv⟩ := hinv; obtain ⟨u102, hinv⟩ := hinv; obtain ⟨u103, hinv⟩ := hinv; obtain ⟨u104, hinv⟩ := hinv; obtain ⟨u105, hinv⟩ := hinv; obtain ⟨u106, hinv⟩ := hinv; obtain ⟨u107, hinv⟩ := hinv; obtain ⟨u108, hinv⟩ := hinv; obtain ⟨u109, hinv⟩ := hinv; obtain ⟨u110, hinv⟩ := hinv; obtain ⟨u111, hinv⟩ := hinv; obtain ⟨u112, hinv⟩ := hinv
    obtain ⟨o, i, hii, hA⟩ := hinv
    subst hA
    rcases hii with ⟨rfl, rfl, rfl, rfl⟩ | ⟨rfl, rfl, hO, hB⟩
    · refine wp_mono (Q := OnlyGo (WRI w l e0 0)) ?_ fun e a w he => by
        cases e <;> first | exact he.elim | skip
        obtain ⟨rfl, hi⟩ := he
        exact hg.out 0 a w (by omega) hi
      clear hg hret
      go_wp2_with fail
      go_region_with (go_at_call 20; refine (HRd.out _ (Below.refl _ _).drew).mono ?_; rintro e w2 ⟨x2, rfl, hR2, ho2, -, hB2⟩)
      all_goals
        rw [HFl.out] at hR2
        obtain ⟨a2, c2, rfl, hnc2, -⟩ := hR2.form
        have HL := list_any a2 20 c2 [layL e0] [] w2 (by rw [List.append_nil, HFr.out]; exact Src.of_row hR2 (byteCells_one _)) hnc2 (by decide) (by intro z hz; simp at hz; subst hz; exact ⟨by simp [layL], layL_range e0 HE.out.2⟩) (by omega) (by simp)
        rw [HFr.out, HFl.out] at HL
        have HB2 := Lib.hid ((Below.refl _ _).drew.trans (hB2.mono (Nat.le_refl w.heap.size)))
        have HL2 := Lib.hid HL
        clear HL hR2 ho2 hB2 hnc2
        go_wp2_with fail
        refine HL2.out.mono ?_
        rintro e w3 ⟨o3, us3, rfl, hus, hT, hfr3, hB3⟩
        obtain ⟨a3, c3, rfl, -⟩ := hT.row.form
        obtain ⟨g3, rfl, hg3, hgc3, -⟩ := hT.row.view (by rw [hus]; simp)
        obtain ⟨u3, hu3⟩ : ∃ u, us3[0]? = some u := ⟨_, List.getElem?_eq_getElem (by rw [hus]; simp)⟩
        have hbts := hT.each 0 u3 (layL e0) hu3 rfl
        obtain ⟨au, cu, rfl, -⟩ := hbts.ex
        have c0 : w3.cell? ⟨g3, 0, none⟩ = some (.slice au 10 cu) := by rw [hgc3 0 (by rw [hus]; simp)]; exact hu3
        have HSr := Lib.hid hbts.src
        have HB3 := Lib.hid (HB2.out.trans (hB3.mono HB2.out.size))
        have hul : us3.length = 1 := hus
        rw [hul]
        clear hT hB3 hus hul hgc3 hu3 hbts hfr3 HL2
        go_wp2_with fail
        go_loopw [4, 9, 10, 46] (fun o en at_ i W => ∃ k : Nat, i = .int .i64 k ∧ k ≤ 1 ∧ en = .int .i64 20 ∧ at_ = .int .i64 (20 * k : Nat) ∧ (k = 0 → (∃ co : Nat, o = .slice none 0 co ∧ Hid (co = 0)) ∧ w3 = W) ∧ (k = 1 → OneBat w.heap.size W o e0 ∧ Below w3.heap.size w3 W)) (fun _ _ _ i _ => 1 - (intOf i).toNat)
        case atStart => exact ⟨0, rfl, by omega, rfl, rfl, fun _ => ⟨⟨0, rfl, Lib.hid rfl⟩, rfl⟩, fun h => by omega⟩
        case round =>
          obtain ⟨k, rfl, hk, rfl, rfl, hk0, hk1⟩ := hrel
          by_cases hz : k = 0
          · subst hz
            obtain ⟨⟨co, rfl, HCo⟩, rfl⟩ := hk0 rfl
            have HRow0 := Lib.hid (fun W => (show Row W 76 7 (.slice none 0 co) 0 [] by rw [HCo.out]; exact Row.nil _ _ _))
            have HRB := Lib.hid (wread_any e0 HE.out au cu _ HSr.out)
            clear hk0 hk1
            go_wp2_with fail
            refine HRB.out.mono ?_
            rintro e w4 ⟨a4, c4, rfl, hS4, ho4, hB4⟩
            have HO4 := Lib.hid (And.intro hS4 (And.intro ho4 hB4))
            clear hS4 ho4 hB4 HRB
            unfold bat
            go_wp2_with fail
            go_quiet (fail)
            have hB5 : Below w4.heap.size w4 ((w4.alloc (.cells (bat e0 (.slice a4 2 c4)) 76)).drewN nq) := ((Below.refl _ w4).alloc (Nat.le_refl _) _).trans ⟨rfl, rfl, rfl, Nat.le_refl _, fun _ _ => rfl⟩
            have hz5 : ((w4.alloc (.cells (bat e0 (.slice a4 2 c4)) 76)).drewN nq).heap.size = w4.heap.size + 1 := by show (w4.alloc _).heap.size = _; simp
            have hb5 : ((w4.alloc (.cells (bat e0 (.slice a4 2 c4)) 76)).drewN nq).heap[w4.heap.size]? = some (.cells (bat e0 (.slice a4 2 c4)) 76 (0, 0)) := heap_alloc_new w4 _
            unfold bat at hB5 hz5
            have hb5' := hb5
            unfold bat at hb5'
            change ((w4.alloc (.cells #[.int .u64 (e0 : Int), .int .u64 3, .complex .f64 4607182418800017408 0, .complex .f64 4607182418800017408 4611686018427387904, .bool false, .slice a4 2 c4, .bool false] 76)).drewN nq).heap[w4.heap.size]? = some (.cells (bat e0 (.slice a4 2 c4)) 76 (0, 0)) at hb5
            clear hb5'
            generalize (w4.alloc (.cells #[.int .u64 (e0 : Int), .int .u64 3, .complex .f64 4607182418800017408 0, .complex .f64 4607182418800017408 4611686018427387904, .bool false, .slice a4 2 c4, .bool false] 76)).drewN nq = W5 at *
            obtain ⟨q0, q1, q2, q3, q4, q5, q6⟩ := (BatAt.mk hb5).cells
            have HFm := Lib.hid (fun (W : World) (hB : Below _ _ W) => frame_any au 10 cu (layL e0) W (HSr.out.below hB) (layL_range e0 HE.out.2) (by omega))
            have HB5 := Lib.hid (And.intro hB5 hz5)
            clear hB5 hb5 hz5
            go_wp2_with (at_builtin; refine wpList_append_row _ rfl _ _ 70 rfl 76 i1 _ 7 88 Try.underlying70 hj0 hy0 hy1 hy2 rfl (.slice none 0 co) 0 [] rfl (HRow0.out _) (.slice (some ⟨W5.heap.size, 0, none⟩) 1 1) 1 (bat e0 (.slice a4 2 c4)).toList rfl (Src.of_block (cs := bat e0 (.slice a4 2 c4)) (t := 76) (fr := (0, 0)) (heap_alloc_new W5 _) 1 1 rfl (by simp [bat, Value.oneCell'])) (by unfold maxLen; omega) (by omega) (W5.heap.size + 1) (by simp) ?_; intro a6 cap6 w6 hown6 hgrow6 hat6)
            have hB5 := HO4.out.2.2.trans (HB5.out.1.mono HO4.out.2.2.size)
            have hB6 : Below w3.heap.size w3 w6 := (hB5.alloc hB5.size _).grown hgrow6 (by have := hB5.size; simp; omega) (by simp [Value.ownBlock])
            simp only [Nat.zero_add, List.nil_append] at hown6 hat6
            obtain ⟨g6, rfl, hg6, -, -⟩ := hown6.view (by omega)
            have hg6b : g6 = W5.heap.size + 1 := by
              rcases hat6 g6 rfl with h | h
              · simp [Value.ownBlock] at h
              · exact h
            have hz3 := HB3.out.size
            have hz4 := HO4.out.2.2.size
            have hz5 := HB5.out.2
            have hON : OneBat w.heap.size w6 (.slice (some ⟨g6, 0, none⟩) 1 cap6) e0 := by
              refine ⟨g6, cap6, a4, c4, rfl, hown6, ?_, by omega, fun k hk => ?_⟩
              · refine ((HO4.out.1.below HB5.out.1).below ((Below.refl _ W5).alloc (Nat.le_refl _) _)).mod (S := fun k => False) ⟨hgrow6.os, hgrow6.tape, hgrow6.output, hgrow6.size, fun k hk _ => hgrow6.block k hk (by simp [Value.ownBlock])⟩ fun _ _ _ => id
              · have := HO4.out.2.1 k hk; omega
            have HON := Lib.hid (And.intro hON hB6)
            have HFm6 := Lib.hid (HFm.out w6 hB6)
            clear hB5 hB6 hown6 hgrow6 hat6 hON hz3 hz4 hz5 hg6b HFm
            go_wp2_with fail
            refine HFm6.out.mono ?_
            rintro e w7 ⟨a7, c7, rfl, -, -, hB7⟩
            have h10 : (layL e0).length = 10 := rfl
            rw [frameL_len, h10]
            have HZ := Lib.hid (And.intro (HON.out.1.below hB7) (HON.out.2.trans (hB7.mono HON.out.2.size)))
            clear hB7 HFm6 HON
            go_wp2_with fail
            go_roundw
            case rel => exact ⟨1, rfl, by omega, rfl, rfl, fun h => by omega, fun _ => HZ.out⟩
            case measure => simp [intOf]
          · obtain rfl : k = 1 := by omega
            have HK := Lib.hid (hk1 rfl)
            clear hk0 hk1 hz
            go_wp2_with fail
            go_step3
            refine ⟨rfl, ?_⟩
            unfold WRI
            repeat apply Exists.intro
            refine ⟨?_, rfl⟩
            exact .inr ⟨rfl, rfl, HK.out.1, HB3.out.trans (HK.out.2.mono HB3.out.size)⟩
    · have HO := Lib.hid (And.intro hO hB)
      have l1' := (hB.cell (p := ⟨l, 1, none⟩) hlt).trans l1
      clear hO hB
      go_wp2_with fail
      refine hret.out _ _ ?_
      try rw [Exit.noGoto_ret]
      go_ret2
      exact ⟨o, rfl, HO.out⟩
def WRN (w : World) (l n : Nat) (A : Act) (W : World) : Prop :=
  ∃ u6 u7 u8 u9 u10 u11 u12 u13 u14 u15 u16 u17 u18 u19 u20 u21 u22 u23 u24 u25 u26 u27 u28 u29 u30 u31 u32 u33 u34 u35 u36 u37 u38 u39 u40 u41 u42 u43 u44 u45 u46 u47 u48 u49 u50 u51 u52 u53 u54 u55 u56 u57 u58 u59 u60 u61 u62 u63 u64 u65 u66 u67 u68 u69 u70 u71 u72 u73 u74 u75 u76 u77 u78 u79 u80 u81 u82 u83 u84 u85 u86 u87 u88 u89 u90 u91 u92 u93 u94 u95 u96 u97 u98 u99 u100 u101 u102 u103 u104 u105 u106 u107 u108 u109 u110 u111 u112 : Value, (n = 0 ∧ w = W) ∧ A = ⟨#[.pointer (some ⟨l, 0, none⟩), undef, .slice none 0 0, .int .i64 0, .slice none 0 0, .int .i64 0, u6, u7, u8, u9, u10, u11, u12, u13, u14, u15, u16, u17, u18, u19, u20, u21, u22, u23, u24, u25, u26, u27, u28, u29, u30, u31, u32, u33, u34, u35, u36, u37, u38, u39, u40, u41, u42, u43, u44, u45, u46, u47, u48, u49, u50, u51, u52, u53, u54, u55, u56, u57, u58, u59, u60, u61, u62, u63, u64, u65, u66, u67, u68, u69, u70, u71, u72, u73, u74, u75, u76, u77, u78, u79, u80, u81, u82, u83, u84, u85, u86, u87, u88, u89, u90, u91, u92, u93, u94, u95, u96, u97, u98, u99, u100, u101, u102, u103, u104, u105, u106, u107, u108, u109, u110, u111, u112], []⟩
set_option maxRecDepth 100000 in
set_option maxHeartbeats 2000000 in
theorem wrlog_none {w : World} {p : Nat} (l : Nat) (a : Option Addr) (c : Nat) (last : Int) (hl : LogAt w l p (.slice a 0 c) last) :
    Calls Try.prog 73 #[.pointer (some ⟨l, 0, none⟩)] w fun e w' => e = .returned (.tuple #[.slice none 0 0, .int .i64 0]) ∧ w = w' := by
  obtain ⟨l0, l1, -, -⟩ := hl.cells
  clear hl
  go_enter Try.func73, Try.ntmps73
  go_wp2_with fail
  apply wp_scope_one (WRN w l) ?h0 ?first ?pass0
  case h0 => repeat (first | exact fl_head | refine fl_right (by kernel_rfl) ?_)
  case first =>
    intro S R hR hret hp0
    rw [← hR]
    clear hR
    go_wp2_with fail
    go_step3
    go_wp2_with fail
    refine hp0.out 0 _ _ ?_
    unfold WRN
    repeat apply Exists.intro
    refine ⟨?_, rfl⟩
    exact ⟨rfl, rfl⟩
  case pass0 =>
    intro r A wr hinv S hret hg
    unfold WRN at hinv
    obtain ⟨u6, hinv⟩ := hinv; obtain ⟨u7, hinv⟩ := hinv; obtain ⟨u8, hinv⟩ := hinv; obtain ⟨u9, hinv⟩ := hinv; obtain ⟨u10, hinv⟩ := hinv; obtain ⟨u11, hinv⟩ := hinv; obtain ⟨u12, hinv⟩ := hinv; obtain ⟨u13, hinv⟩ := hinv; obtain ⟨u14, hinv⟩ := hinv; obtain ⟨u15, hinv⟩ := hinv; obtain ⟨u16, hinv⟩ := hinv; obtain ⟨u17, hinv⟩ := hinv; obtain ⟨u18, hinv⟩ := hinv; obtain ⟨u19, hinv⟩ := hinv; obtain ⟨u20, hinv⟩ := hinv; obtain ⟨u21, hinv⟩ := hinv; obtain ⟨u22, hinv⟩ := hinv; obtain ⟨u23, hinv⟩ := hinv; obtain ⟨u24, hinv⟩ := hinv; obtain ⟨u25, hinv⟩ := hinv; obtain ⟨u26, hinv⟩ := hinv; obtain ⟨u27, hinv⟩ := hinv; obtain ⟨u28, hinv⟩ := hinv; obtain ⟨u29, hinv⟩ := hinv; obtain ⟨u30, hinv⟩ := hinv; obtain ⟨u31, hinv⟩ := hinv; obtain ⟨u32, hinv⟩ := hinv; obtain ⟨u33, hinv⟩ := hinv; obtain ⟨u34, hinv⟩ := hinv; obtain ⟨u35, hinv⟩ := hinv; obtain ⟨u36, hinv⟩ := hinv; obtain ⟨u37, hinv⟩ := hinv; obtain ⟨u38, hinv⟩ := hinv; obtain ⟨u39, hinv⟩ := hinv; obtain ⟨u40, hinv⟩ := hinv; obtain ⟨u41, hinv⟩ := hinv; obtain ⟨u42, hinv⟩ := hinv; obtain ⟨u43, hinv⟩ := hinv; obtain ⟨u44, hinv⟩ := hinv; obtain ⟨u45, hinv⟩ := hinv; obtain ⟨u46, hinv⟩ := hinv; obtain ⟨u47, hinv⟩ := hinv; obtain ⟨u48, hinv⟩ := hinv; obtain ⟨u49, hinv⟩ := hinv; obtain ⟨u50, hinv⟩ := hinv; obtain ⟨u51, hinv⟩ := hinv; obtain ⟨u52, hinv⟩ := hinv; obtain ⟨u53, hinv⟩ := hinv; obtain ⟨u54, hinv⟩ := hinv; obtain ⟨u55, hinv⟩ := hinv; obtain ⟨u56, hinv⟩ := hinv; obtain ⟨u57, hinv⟩ := hinv; obtain ⟨u58, hinv⟩ := hinv; obtain ⟨u59, hinv⟩ := hinv; obtain ⟨u60, hinv⟩ := hinv; obtain ⟨u61, hinv⟩ := hinv; obtain ⟨u62, hinv⟩ := hinv; obtain ⟨u63, hinv⟩ := hinv; obtain ⟨u64, hinv⟩ := hinv; obtain ⟨u65, hinv⟩ := hinv; obtain ⟨u66, hinv⟩ := hinv; obtain ⟨u67, hinv⟩ := hinv; obtain ⟨u68, hinv⟩ := hinv; obtain ⟨u69, hinv⟩ := hinv; obtain ⟨u70, hinv⟩ := hinv; obtain ⟨u71, hinv⟩ := hinv; obtain ⟨u72, hinv⟩ := hinv; obtain ⟨u73, hinv⟩ := hinv; obtain ⟨u74, hinv⟩ := hinv; obtain ⟨u75, hinv⟩ := hinv; obtain ⟨u76, hinv⟩ := hinv; obtain ⟨u77, hinv⟩ := hinv; obtain ⟨u78, hinv⟩ := hinv; obtain ⟨u79, hinv⟩ := hinv; obtain ⟨u80, hinv⟩ := hinv; obtain ⟨u81, hinv⟩ := hinv; obtain ⟨u82, hinv⟩ := hinv; obtain ⟨u83, hinv⟩ := hinv; obtain ⟨u84, hinv⟩ := hinv; obtain ⟨u85, hinv⟩ := hinv; obtain ⟨u86, hinv⟩ := hinv; obtain ⟨u87, hinv⟩ := hinv; obtain ⟨u88, hinv⟩ := hinv; obtain ⟨u89, hinv⟩ := hinv; obtain ⟨u90, hinv⟩ := hinv; obtain ⟨u91, hinv⟩ := hinv; obtain ⟨u92, hinv⟩ := hinv; obtain ⟨u93, hinv⟩ := hinv; obtain ⟨u94, hinv⟩ := hinv; obtain ⟨u95, hinv⟩ := hinv; obtain ⟨u96, hinv⟩ := hinv; obtain ⟨u97, hinv⟩ := hinv; obtain ⟨u98, hinv⟩ := hinv; obtain ⟨u99, hinv⟩ := hinv; obtain ⟨u100, hinv⟩ := hinv; obtain ⟨u101, hinv⟩ := hinv; obtain ⟨u102, hinv⟩ := hinv; obtain ⟨u103, hinv⟩ := hinv; obtain ⟨u104, hinv⟩ := hinv; obtain ⟨u105, hinv⟩ := hinv; obtain ⟨u106, hinv⟩ := hinv; obtain ⟨u107, hinv⟩ := hinv; obtain ⟨u108, hinv⟩ := hinv; obtain ⟨u109, hinv⟩ := hinv; obtain ⟨u110, hinv⟩ := hinv; obtain ⟨u111, hinv⟩ := hinv; obtain ⟨u112, hinv⟩ := hinv
    obtain ⟨⟨rfl, rfl⟩, hA⟩ := hinv
    subst hA
    go_wp2_with fail
    refine hret.out _ _ ?_
    try rw [Exit.noGoto_ret]
    go_ret2
    exact ⟨rfl, rfl⟩
end Go.Proofs.Ytpkmnfpbcakflaa
