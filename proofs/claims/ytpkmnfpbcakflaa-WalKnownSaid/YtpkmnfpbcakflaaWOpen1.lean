/- The walk of wal's Open on a disk of one journal's file of one batch. No condition. -/
import Derived.Test.YtpkmnfpbcakflaaWOpen
namespace Go.Proofs.Ytpkmnfpbcakflaa
open Go.ChangeShapes Go.WideShapes Go.ChangeAt Go.RowKit Go.Sort

abbrev fr5 : List Int := frameL (layL 5)
theorem OneBat.less {B C : Nat} {w : World} {v : Value} {e0 : Int} (h : OneBat C w v e0) (hBC : B ≤ C) : OneBat B w v e0 := by
  obtain ⟨g, c, a, cb, hv, hR, hS, hg, ho⟩ := h
  exact ⟨g, c, a, cb, hv, hR, hS, Nat.le_trans hBC hg, fun k hk => Nat.le_trans hBC (ho k hk)⟩
theorem OneBat.keep {B : Nat} {Y : Nat → Prop} {w w' : World} {v : Value} {e0 : Int} (h : OneBat B w v e0) (hK : Keep Y w w') (hY : ∀ k, B ≤ k → k < w.heap.size → Y k) : OneBat B w' v e0 := by
  obtain ⟨g, c, a, cb, hv, hR, hS, hg, ho⟩ := h
  refine ⟨g, c, a, cb, hv, hR.of_block fun k hk => hK.block k (hR.lt hk) fun e => e (hY k ?_ (hR.lt hk)), hS.mod hK fun h0 k hk e => e (hY k (ho k hk) (hS.lt h0 k hk)), hg, ho⟩
  subst hv
  simp [Value.ownBlock] at hk
  omega
/-- the files' row beside the Log -/
structure LF (w W : World) (l p : Nat) (a : Option Addr) (c : Nat) (last : Int) : Prop where
  log : LogAt W l p (.slice a 1 c) last
  row : Row W 9 1 (.slice a 1 c) 1 [.string nm5]
  ge : w.heap.size ≤ l ∧ ∀ k, (Value.slice a 1 c).ownBlock = some k → w.heap.size ≤ k
  base : Below w.heap.size w W
theorem LF.below {w W W' : World} {l p : Nat} {a : Option Addr} {c : Nat} {last : Int} (h : LF w W l p a c last) (hB : Below W.heap.size W W') : LF w W' l p a c last :=
  ⟨h.log.below hB, h.row.of_block fun k hk => hB.block k (h.row.lt hk), h.ge, h.base.trans (hB.mono h.base.size)⟩
theorem LF.set {w W : World} {l p : Nat} {a : Option Addr} {c : Nat} {last : Int} (h : LF w W l p a c last) (n : Int) : LF w (W.setCell ⟨l, 2, none⟩ (.int .u64 n)) l p a c n :=
  ⟨h.log.last n, h.row.of_block fun k hk => heap_setCell_other _ _ _ _ (show k ≠ (⟨l, 2, none⟩ : Addr).block from fun e => h.row.notLog h.log (by decide) (hk.trans (congrArg some e))), h.ge, h.base.setCell (p := ⟨l, 2, none⟩) h.ge.1 _⟩
theorem wopen_one_has : hasF (wd (some fr5)).now nm5 = true := by rw [wd_now, one_has]; rfl
theorem wopen_one_get : getF (wd (some fr5)).now nm5 = fr5 := by rw [wd_now, one_get]; rfl
set_option maxRecDepth 100000 in
set_option maxHeartbeats 8000000 in
theorem wopen_one {w0 w : World} {p : Nat} (h : St w0 w p (wd (some fr5))) :
    Calls Try.prog 39 #[.pointer (some ⟨p, 0, none⟩), .int .u64 4] w fun e w' => ∃ l v, e = .returned (.tuple #[.pointer (some ⟨l, 0, none⟩), v, .int .i64 0]) ∧ OneBat w.heap.size w' v 5 ∧ JS w0 w' p (wd (some fr5)) l [nm5] 5 := by
  obtain ⟨i0, hi0, hz0, hz1, hz2⟩ := info_parts infoS
  obtain ⟨i1, hj0, hy0, hy1, hy2⟩ := info_parts infoBat
  have hB1 := (Below.refl w.heap.size w).alloc (Nat.le_refl _) (.cells #[.pointer (some ⟨p, 0, none⟩), .slice none 0 0, .int .u64 0] 104)
  have hL1 : LogAt (w.alloc (.cells #[.pointer (some ⟨p, 0, none⟩), .slice none 0 0, .int .u64 0] 104)) w.heap.size p (.slice none 0 0) 0 := ⟨heap_alloc_new w _⟩
  have HN := Lib.hid (names_wd (some fr5) (h.1.below hB1))
  have HB1 := Lib.hid hB1
  have HL1 := Lib.hid hL1
  have HH := Lib.hid h
  obtain ⟨l, hl⟩ : ∃ l, w.heap.size = l := ⟨_, rfl⟩
  have HLl := Lib.hid hl
  clear h hB1 hL1 hl
  go_enter Try.func39, Try.ntmps39
  go_wp2_with fail
  refine HN.out.mono ?_
  rintro e w2 ⟨v, rfl, hRv, -, hB2⟩
  have hss : (strKeys (oneF nm5 (some fr5))).map encStr = [.string nm5] := by
    show [encStr nm5.data.toList] = _
    rw [encStr_key]
  have hsl : (strKeys (oneF nm5 (some fr5))).length = 1 := rfl
  rw [hss, hsl] at hRv
  obtain ⟨av, cv, rfl, -⟩ := hRv.form
  obtain ⟨gv, rfl, -, hgc, -⟩ := hRv.view (by omega)
  have n0 : w2.cell? ⟨gv, 0, none⟩ = some (.string nm5) := by rw [hgc 0 (by omega)]; rfl
  rw [HLl.out] at HL1 ⊢
  have HB2 := Lib.hid (HB1.out.trans (hB2.mono HB1.out.size))
  obtain ⟨co, HCo⟩ : ∃ co : Nat, Hid (co = 0) := ⟨0, Lib.hid rfl⟩
  have HL2 := Lib.hid (show LogAt w2 l p (.slice none 0 co) 0 by rw [HCo.out]; exact HL1.out.below hB2)
  have HRow0 := Lib.hid (fun W => (show Row W 9 1 (.slice none 0 co) 0 [] by rw [HCo.out]; exact Row.nil _ _ _))
  clear hRv hB2 hss hsl HN HL1 hgc
  go_wp2_with fail
  go_loopw [29] (fun i W => ∃ k : Nat, i = .int .i64 k ∧ k ≤ 1 ∧ (k = 0 → w2 = W) ∧ (k = 1 → ∃ a c, LF w W l p a c 0)) (fun i _ => 1 - (intOf i).toNat)
  case atStart => exact ⟨0, rfl, by omega, fun _ => rfl, fun h => by omega⟩
  case round =>
    obtain ⟨k, rfl, hk, hk0, hk1⟩ := hrel
    by_cases hz : k = 0
    · subst hz
      obtain rfl := hk0 rfl
      have HNm := Lib.hid (wnamed_any 5 (by omega) w2)
      clear hk0 hk1
      go_wp2_with fail
      refine HNm.out.mono ?_
      rintro e w3 ⟨rfl, hB3⟩
      have hL3 := HL2.out.below hB3
      obtain ⟨l0, l1, l2, lf⟩ := hL3.cells
      have HB3 := Lib.hid (HB2.out.trans (hB3.mono HB2.out.size))
      have hlb := hL3.b
      have hlt := hL3.lt
      have HL3 := Lib.hid hL3
      clear hB3 HNm l0 l2 lf hL3
      go_wp2_with (at_builtin; refine wpList_append_row _ rfl _ _ 43 rfl 9 i0 _ 1 16 Try.underlying43 hi0 hz0 hz1 hz2 rfl (.slice none 0 co) 0 [] rfl (HRow0.out _) (.slice (some ⟨w3.heap.size, 0, none⟩) 1 1) 1 [.string nm5] rfl (Src.of_block (cs := #[.string nm5]) (t := 9) (fr := (0, 0)) (heap_alloc_new w3 _) 1 1 rfl (by simp [Value.oneCell'])) (by unfold maxLen; omega) (by omega) (w3.heap.size + 1) (by simp) ?_; intro a6 cap6 w6 hown6 hgrow6 hat6; have hl6 := ((hgrow6.block l (by simp; omega) (by simp [Value.ownBlock])).trans (Below.heap_alloc w3 _ l hlt)).trans hlb; have q6 : w6.cell? ⟨l, 1, none⟩ = some (.slice none 0 co) := (by rw [cell_of_row _ _ _ _ _ _ hl6]; rfl); have f6 : w6.frozen? ⟨l, 1, none⟩ = false := frozen_of_row _ _ _ _ _ hl6)
      have hLF6 : LF w (w6.setCell ⟨l, 1, none⟩ (.slice a6 1 cap6)) l p a6 cap6 0 := by
        simp only [Nat.zero_add, List.nil_append] at hown6 hat6
        have hlw := HLl.out
        have hz3 := HB3.out.size
        refine ⟨⟨heap_setCell_same _ l 1 _ _ _ hl6⟩, hown6.of_block fun k hk => heap_setCell_other _ _ _ _ (show k ≠ (⟨l, 1, none⟩ : Addr).block from fun e => row_not hown6 hl6 (by decide) (hk.trans (congrArg some e))), ⟨by omega, fun k hk => ?_⟩, ((HB3.out.alloc hz3 _).grown hgrow6 (by simp; omega) (by simp [Value.ownBlock])).setCell (p := ⟨l, 1, none⟩) (by show w.heap.size ≤ l; omega) _⟩
        rcases hat6 k hk with h | h
        · simp [Value.ownBlock] at h
        · omega
      have HLF6 := Lib.hid hLF6
      clear hLF6 hown6 hgrow6 hat6 hl6 q6 f6 hlb hlt
      go_roundw
      case rel => exact ⟨1, rfl, by omega, fun h => by omega, fun _ => ⟨a6, cap6, HLF6.out⟩⟩
      case measure => simp [intOf]
    · obtain rfl : k = 1 := by omega
      obtain ⟨a, c, hLF⟩ := hk1 rfl
      have HLF := Lib.hid hLF
      have HRd := Lib.hid (wrlog_one (HH.out.1.below hLF.base) rfl nm5 (by rw [nm5_size]; decide) 5 (by omega) wopen_one_has wopen_one_get l _ 0 hLF.log hLF.row)
      clear hk0 hk1 hz hLF
      rename World => w3
      go_wp2_with fail
      refine HRd.out.mono ?_
      rintro e w4 ⟨o, rfl, hO4, hB4⟩
      have hLF4 := HLF.out.below hB4
      have hl3 := HLF.out.log.lt
      obtain ⟨g4, c4, a4, cb4, rfl, hR4, hS4, hg4, ho4⟩ := hO4
      obtain ⟨l0, l1, l2, lf⟩ := hLF4.log.cells
      have lf2 := lf 2
      have hK5 : Keep (fun k => k ≠ l) w4 (w4.setCell ⟨l, 2, none⟩ (.int .u64 4)) := Mod.setCell (S := fun k => ¬ k ≠ l) (p := ⟨l, 2, none⟩) (Mod.refl _ _) (.inr (by simp)) _
      have hO5 : OneBat w3.heap.size (w4.setCell ⟨l, 2, none⟩ (.int .u64 4)) (.slice (some ⟨g4, 0, none⟩) 1 c4) 5 := OneBat.keep (⟨g4, c4, a4, cb4, rfl, hR4, hS4, hg4, ho4⟩ : OneBat w3.heap.size w4 _ 5) hK5 fun k hk _ => by omega
      have hLF5 := hLF4.set 4
      have HW3 := Lib.hid HLF.out.base.size
      have HL3x := Lib.hid hl3
      clear hB4 hLF4 hR4 hS4 hg4 ho4 lf HRd HLF hl3 hK5
      go_wp2_with fail
      clear l0 l1 l2 lf2
      generalize w4.setCell ⟨l, 2, none⟩ (.int .u64 4) = W5 at *
      obtain ⟨g5, c5, a5, cb5, he5, hR5, hS5, hg5, ho5⟩ := hO5
      simp only [Value.slice.injEq, Option.some.injEq, Addr.mk.injEq, and_true, true_and] at he5
      obtain ⟨rfl, rfl⟩ := he5
      obtain ⟨gg, hgg, hgl, hgc, -⟩ := hR5.view (by omega)
      simp only [Option.some.injEq, Addr.mk.injEq, and_true] at hgg
      subst hgg
      have r0 : W5.cell? ⟨g4, 0, none⟩ = some (.int .u64 5) := hgc 0 (by omega)
      have r1 : W5.cell? ⟨g4, 1, none⟩ = some (.int .u64 3) := hgc 1 (by omega)
      have r2 : W5.cell? ⟨g4, 2, none⟩ = some (.complex .f64 4607182418800017408 0) := hgc 2 (by omega)
      have r3 : W5.cell? ⟨g4, 3, none⟩ = some (.complex .f64 4607182418800017408 4611686018427387904) := hgc 3 (by omega)
      have r4 : W5.cell? ⟨g4, 4, none⟩ = some (.bool false) := hgc 4 (by omega)
      have r5 : W5.cell? ⟨g4, 5, none⟩ = some (.slice a5 2 cb5) := hgc 5 (by omega)
      have r6 : W5.cell? ⟨g4, 6, none⟩ = some (.bool false) := hgc 6 (by omega)
      have HO5 := Lib.hid (And.intro hS5 ho5)
      have HLF5 := Lib.hid hLF5
      clear hgc hR5 hS5 hg5 ho5 hLF5
      go_loopw [12, 60] (fun t i W => ∃ k : Nat, i = .int .i64 k ∧ k ≤ 1 ∧ (k = 0 → (∃ co : Nat, t = .slice none 0 co ∧ Hid (co = 0)) ∧ W5 = W) ∧ (k = 1 → OneBat w.heap.size W t 5 ∧ LF w W l p a c 5)) (fun _ i _ => 1 - (intOf i).toNat)
      case atStart => exact ⟨0, rfl, by omega, fun _ => ⟨⟨0, rfl, Lib.hid rfl⟩, rfl⟩, fun h => by omega⟩
      case round =>
        obtain ⟨k, rfl, hk, hk0, hk1⟩ := hrel
        by_cases hz : k = 0
        · subst hz
          obtain ⟨⟨cq, rfl, HCq⟩, rfl⟩ := hk0 rfl
          have HRq := Lib.hid (fun W => (show Row W 76 7 (.slice none 0 cq) 0 [] by rw [HCq.out]; exact Row.nil _ _ _))
          obtain ⟨l0, l1, l2, lf⟩ := HLF5.out.log.cells
          have lf2 := lf 2
          have hll := HLF5.out.log.lt
          clear hk0 hk1 lf
          have hsz : W5.heap.size = (W5.setCell ⟨l, 2, none⟩ (.int .u64 5)).heap.size := by simp [World.setCell]
          have hblk : (((W5.setCell ⟨l, 2, none⟩ (.int .u64 5)).alloc (.cells #[.int .u64 5, .int .u64 3, .complex .f64 4607182418800017408 0, .complex .f64 4607182418800017408 4611686018427387904, .bool false, .slice a5 2 cb5, .bool false] 76)).alloc (.cells #[.int .u64 5, .int .u64 3, .complex .f64 4607182418800017408 0, .complex .f64 4607182418800017408 4611686018427387904, .bool false, .slice a5 2 cb5, .bool false] 76)).heap[W5.heap.size + 1]? = some (.cells #[.int .u64 5, .int .u64 3, .complex .f64 4607182418800017408 0, .complex .f64 4607182418800017408 4611686018427387904, .bool false, .slice a5 2 cb5, .bool false] 76 (0, 0)) := by rw [hsz]; exact heap_alloc2_new _ _ _
          have HBk := Lib.hid hblk
          have hBw : Below (W5.setCell ⟨l, 2, none⟩ (.int .u64 5)).heap.size (W5.setCell ⟨l, 2, none⟩ (.int .u64 5)) (((W5.setCell ⟨l, 2, none⟩ (.int .u64 5)).alloc (.cells #[.int .u64 5, .int .u64 3, .complex .f64 4607182418800017408 0, .complex .f64 4607182418800017408 4611686018427387904, .bool false, .slice a5 2 cb5, .bool false] 76)).alloc (.cells #[.int .u64 5, .int .u64 3, .complex .f64 4607182418800017408 0, .complex .f64 4607182418800017408 4611686018427387904, .bool false, .slice a5 2 cb5, .bool false] 76)) := ((Below.refl _ _).alloc (Nat.le_refl _) _).alloc (by simp) _
          have HBw := Lib.hid hBw
          clear hsz hblk hBw
          go_wp2_with (at_builtin; refine wpList_append_row _ rfl _ _ 70 rfl 76 i1 _ 7 88 Try.underlying70 hj0 hy0 hy1 hy2 rfl (.slice none 0 cq) 0 [] rfl (HRq.out _) (.slice (some ⟨W5.heap.size + 1, 0, none⟩) 1 1) 1 (bat 5 (.slice a5 2 cb5)).toList rfl (Src.of_block (cs := bat 5 (.slice a5 2 cb5)) (t := 76) (fr := (0, 0)) HBk.out 1 1 rfl (by simp [bat, Value.oneCell'])) (by unfold maxLen; omega) (by omega) (W5.heap.size + 2) (by simp) ?_; intro a6 cap6 w6 hown6 hgrow6 hat6)
          simp only [Nat.zero_add, List.nil_append] at hown6 hat6
          obtain ⟨g6, rfl, hg6, -, -⟩ := hown6.view (by omega)
          have hg6b : g6 = W5.heap.size + 2 := by
            rcases hat6 g6 rfl with h | h
            · simp [Value.ownBlock] at h
            · exact h
          have hLs := HLF5.out.set 5
          have hLw := hLs.below HBw.out
          have hgB : Below (((W5.setCell ⟨l, 2, none⟩ (.int .u64 5)).alloc (.cells #[.int .u64 5, .int .u64 3, .complex .f64 4607182418800017408 0, .complex .f64 4607182418800017408 4611686018427387904, .bool false, .slice a5 2 cb5, .bool false] 76)).alloc (.cells #[.int .u64 5, .int .u64 3, .complex .f64 4607182418800017408 0, .complex .f64 4607182418800017408 4611686018427387904, .bool false, .slice a5 2 cb5, .bool false] 76)).heap.size (((W5.setCell ⟨l, 2, none⟩ (.int .u64 5)).alloc (.cells #[.int .u64 5, .int .u64 3, .complex .f64 4607182418800017408 0, .complex .f64 4607182418800017408 4611686018427387904, .bool false, .slice a5 2 cb5, .bool false] 76)).alloc (.cells #[.int .u64 5, .int .u64 3, .complex .f64 4607182418800017408 0, .complex .f64 4607182418800017408 4611686018427387904, .bool false, .slice a5 2 cb5, .bool false] 76)) w6 := ⟨hgrow6.os, hgrow6.tape, hgrow6.output, hgrow6.size, fun k hk => hgrow6.block k hk (by simp [Value.ownBlock])⟩
          have hS6 : Src w6 1 (.slice a5 2 cb5) 2 (byteCells [97, 98]) := by
            refine ((HO5.out.1.mod (S := fun k => k = l) (Mod.setCell (S := fun k => k = l) (p := ⟨l, 2, none⟩) (Mod.refl _ _) (.inr rfl) (.int .u64 5)) fun _ k hk e => ?_).below HBw.out).below hgB
            have h1 := HO5.out.2 k hk
            have h2 := HW3.out
            have h3 := HL3x.out
            omega
          have hON : OneBat w.heap.size w6 (.slice (some ⟨g6, 0, none⟩) 1 cap6) 5 := ⟨g6, cap6, a5, cb5, rfl, hown6, hS6, by have := HLF5.out.base.size; omega, fun k hk => by have := HO5.out.2 k hk; have := HW3.out; omega⟩
          have HON := Lib.hid (And.intro hON (hLw.below hgB))
          clear hown6 hgrow6 hat6 hON hLs hLw hgB hS6 hg6b hg6
          go_roundw
          case rel => exact ⟨1, rfl, by omega, fun h => by omega, fun _ => HON.out⟩
          case measure => simp [intOf]
        · obtain rfl : k = 1 := by omega
          obtain ⟨hOZ, hLZ⟩ := hk1 rfl
          clear hk0 hk1 hz r0 r1 r2 r3 r4 r5 r6
          obtain ⟨gt, ct, at5, cbt, rfl, hRt, hSt, hgt, hot⟩ := hOZ
          obtain ⟨gg, hgg, hgtl, hgct, -⟩ := hRt.view (by omega)
          simp only [Option.some.injEq, Addr.mk.injEq, and_true] at hgg
          subst hgg
          have t0 : wr.cell? ⟨gt, 0, none⟩ = some (.int .u64 5) := hgct 0 (by omega)
          obtain ⟨l0, l1, l2, -⟩ := hLZ.log.cells
          have HOZ := Lib.hid (show OneBat w.heap.size wr (.slice (some ⟨gt, 0, none⟩) 1 ct) 5 from ⟨gt, ct, at5, cbt, rfl, hRt, hSt, hgt, hot⟩)
          have HLZ := Lib.hid hLZ
          have hD := HH.out.1.more hLZ.base
          have HSy := Lib.hid (sync_wd (some fr5) hD)
          clear hgct hRt hSt hgt hot hLZ hD
          go_wp2_with fail
          refine HSy.out.mono ?_
          rintro e w9 ⟨rfl, hD9, hK9⟩
          have H9 := Lib.hid (And.intro hD9 hK9)
          clear hD9 hK9 HSy l0 l1 l2 t0
          go_wp2_with fail
          go_ret3
          have hlw := HLl.out
          have hL := HLZ.out.log
          have hX : ∀ k, w.heap.size ≤ k → k < wr.heap.size → More (fun k => k < w0.heap.size) w wr k := fun k h1 h2 => .inr ⟨h1, h2⟩
          refine ⟨l, _, rfl, HOZ.out.keep H9.out.2 hX, _, .slice a 1 c, fun k hk => .inl hk, H9.out.1, (HH.out.2.trans (HLZ.out.base.mono HH.out.2.size)).trans (H9.out.2.below (fun k hk => .inl hk) (Nat.le_trans HH.out.2.size HLZ.out.base.size)), hX l (by omega) hL.lt, by have := HH.out.2.size; omega, ⟨(H9.out.2.block _ hL.lt (fun e => e (hX l (by omega) hL.lt))).trans hL.b⟩, ?_, ?_⟩
          · exact HLZ.out.row.of_block fun k hk => H9.out.2.block k (HLZ.out.row.lt hk) fun e => e (hX k (HLZ.out.ge.2 k hk) (HLZ.out.row.lt hk))
          · exact fun k hk => hX k (HLZ.out.ge.2 k hk) (HLZ.out.row.lt hk)
end Go.Proofs.Ytpkmnfpbcakflaa
