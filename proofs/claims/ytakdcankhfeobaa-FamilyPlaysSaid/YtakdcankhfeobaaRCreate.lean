/- The walk of tailraceref23.Family's Create. No condition. -/
import Derived.Test.YtakdcankhfeobaaRList
import Derived.Deep.RegionLaw
namespace Go.Proofs.Ytakdcankhfeobaa
open Go.ChangeShapes Go.WideShapes Go.ChangeAt Go.RowKit

theorem info69 : (Try.prog.info? 69).map (fun i => (i.zero, i.size, i.bytes)) = some (some (.agg #[.int .u64 0, .int .i64 0, .slice none 0 0]), 3, 40) := by kernel_rfl

theorem create_fin_r {p : Nat} {v v' : Value} {gs : List Gn} {vs : List Value} {latest : Int} {w W w2 : World} (hF : FamAt 37 69 w p v gs vs latest) (hW : W = w.setCell ⟨p, 1, none⟩ (.int .u64 (latest + 1)))
    (hB : Below W.heap.size W w2) (hown2 : Row w2 69 3 v' (gs.length + 1) (gcells gs vs ++ [.int .u64 (latest + 1), .int .i64 0, .slice none 0 0])) (hat : ∀ k, v'.ownBlock = some k → w.heap.size ≤ k) :
    FamOut 37 69 w (w2.setCell ⟨p, 0, none⟩ v') p v vs (gs ++ [⟨latest + 1, 0, []⟩]) (latest + 1) := by
  have lp : p < w.heap.size := heap_lt hF.head
  have hs : W.heap.size = w.heap.size := by rw [hW]; simp [World.setCell]
  have hp1 : W.heap[p]? = some (.cells #[v, .int .u64 (latest + 1)] 37 (0, 0)) := by
    rw [hW, heap_setCell_same w p 1 _ _ _ hF.head]; rfl
  have hh2 : w2.heap[p]? = some (.cells #[v, .int .u64 (latest + 1)] 37 (0, 0)) := by rw [hB.block p (by omega), hp1]
  have hF2 := hF.push (w' := w2.setCell ⟨p, 0, none⟩ v') (v' := v') (l' := latest + 1) (i := latest + 1)
    (by rw [heap_setCell_same w2 p 0 _ _ _ hh2]; rfl)
    (hown2.of_block (fun k hk => heap_setCell_other _ _ _ _ (by
      show k ≠ p
      rintro rfl
      have := hat k hk; omega)))
    (fun k hk hkp hkv => by rw [heap_setCell_other _ _ _ _ hkp, hB.block k (by omega), hW, heap_setCell_other _ _ _ _ hkp])
    (fun k hk => .inr (hat k hk))
  refine ⟨_, _, hF2, ?_, ?_⟩
  · have hM : Mod (foot p v vs) w W := by rw [hW]; exact (Mod.refl _ _).setCell (.inr (.inl rfl)) _
    exact (hM.trans (Mod.of_below hB)).setCell (.inr (.inl rfl)) _
  · rintro k (rfl | hk | ⟨u, hu, hk⟩)
    · exact .inl (.inl rfl)
    · exact .inr (hat k hk)
    · rw [List.mem_append] at hu
      rcases hu with hu | hu
      · exact .inl (.inr (.inr ⟨u, hu, hk⟩))
      · simp at hu; subst hu; simp [Value.ownBlock] at hk

set_option maxRecDepth 100000 in
set_option maxHeartbeats 1600000 in
theorem create_ok_r (p : Nat) (v : Value) (gs : List Gn) (vs : List Value) (latest : Int) (w : World) (hF : FamAt 37 69 w p v gs vs latest) (hs : ¬ 0 ≤ findSuf gs 0) (hl : gs.length < 12)
    (h0 : 0 ≤ latest) (h1 : latest < 9223372036854775807) :
    Calls Try.prog 30 #[.pointer (some ⟨p, 0, none⟩)] w fun e w' => e = .returned (.int .i64 0) ∧ FamOut 37 69 w w' p v vs (gs ++ [⟨latest + 1, 0, []⟩]) (latest + 1) := by
  obtain ⟨a, cap, rfl, -⟩ := hF.row.form
  obtain ⟨i0, hi0, hz0, hz1, hz2⟩ := info_parts info69
  have hfd := find_r p _ gs vs latest 0 w hF
  have HFd := Lib.hid hfd
  clear hfd
  go_enter Try.func30, Try.ntmps30
  go_wp2_with fail
  refine HFd.out.mono ?_
  rintro e w1 ⟨rfl, rfl⟩
  obtain ⟨c0, c1, f0, f1⟩ := hF.cells
  go_wp2_with fail
  have hp1 := heap_setCell_same w p 1 _ _ (.int .u64 (latest + 1)) hF.head
  have hsz : (w.setCell ⟨p, 1, none⟩ (.int .u64 (latest + 1))).heap.size = w.heap.size := by simp [World.setCell]
  have hoth := fun k (h : k ≠ p) => heap_setCell_other w ⟨p, 1, none⟩ k (.int .u64 (latest + 1)) h
  obtain ⟨W, hW⟩ : ∃ W, W = w.setCell ⟨p, 1, none⟩ (.int .u64 (latest + 1)) := ⟨_, rfl⟩
  rw [← hW] at hp1 hsz hoth ⊢
  have hrow : Row W 69 3 (.slice a gs.length cap) gs.length (gcells gs vs) := hF.row.of_block (fun k hk => hoth k (by rintro rfl; exact hF.notp.1 hk))
  have hsrc : Src W 3 (.slice a gs.length cap) gs.length (gcells gs vs) := Src.of_row hrow (gcells_one hF.vals)
  have q0 : W.cell? ⟨p, 0, none⟩ = some (.slice a gs.length cap) := by rw [cell_of_row _ _ _ _ _ _ hp1]; rfl
  have q1 : W.cell? ⟨p, 1, none⟩ = some (.int .u64 (latest + 1)) := by rw [cell_of_row _ _ _ _ _ _ hp1]; rfl
  have q2 : W.frozen? ⟨p, 0, none⟩ = false := frozen_of_row _ _ _ _ _ hp1
  have lp : p < W.heap.size := heap_lt hp1
  have HW := Lib.hid hW
  have HS := Lib.hid hsrc
  have HSz := Lib.hid hsz
  have HQ := Lib.hid (And.intro q0 (And.intro q1 q2))
  have hB0 : Below W.heap.size W W := Below.refl _ W
  have HI : Hid (∀ X : World, (∀ k, k < W.heap.size → X.heap[k]? = W.heap[k]?) → Src X 3 (.slice a gs.length cap) gs.length (gcells gs vs)) := fun X hX => Src.of_row (hrow.of_block (fun k hk => hX k (hrow.lt hk))) (gcells_one hF.vals)
  have HE : Hid (∀ X w1 : World, ∀ r : Option Nat, X.grownBy w1 r → W.heap.size ≤ X.heap.size → (∀ k, k < W.heap.size → X.heap[k]? = W.heap[k]?) → X.os = W.os → X.tape = W.tape → X.output = W.output → (∀ k, r = some k → W.heap.size ≤ k) → Below W.heap.size W w1) := fun X w1 r h6 h1 h2 h3 h4 h5 h7 =>
    (show Below W.heap.size W X from ⟨h3, h4, h5, h1, h2⟩).grown h6 h1 h7
  have two : ∀ (o1 o2 : Obj) (k : Nat), k < W.heap.size → ((W.alloc o1).alloc o2).heap[k]? = W.heap[k]? := fun o1 o2 k hk => (Below.heap_alloc (W.alloc o1) o2 k (by simp; omega)).trans (Below.heap_alloc W o1 k hk)
  have HTwo := Lib.hid two
  have HD2 : Hid (Row ((W.alloc (.cells #[] 69)).alloc (.cells #[.int .u64 (latest + 1), .int .i64 0, .slice none 0 0] 69)).drew 69 3 (.slice (some ⟨W.heap.size, 0, none⟩) 0 0) 0 []) := (Row.lit_at W 69 3 #[] 0 W.heap.size rfl (by simp [maxLen]) rfl).of_block (fun b hb => by
    simp [Value.ownBlock] at hb
    subst hb
    exact Below.heap_alloc (W.alloc (.cells #[] 69)) (.cells #[.int .u64 (latest + 1), .int .i64 0, .slice none 0 0] 69) W.heap.size (by simp))
  have HZ2 : Hid (((W.alloc (.cells #[] 69)).alloc (.cells #[.int .u64 (latest + 1), .int .i64 0, .slice none 0 0] 69)).drew.heap.size = W.heap.size + 2) := (show ((W.alloc (.cells #[] 69)).alloc (.cells #[.int .u64 (latest + 1), .int .i64 0, .slice none 0 0] 69)).heap.size = W.heap.size + 2 by simp)
  have HO2 : Hid (((W.alloc (.cells #[] 69)).alloc (.cells #[.int .u64 (latest + 1), .int .i64 0, .slice none 0 0] 69)).drew.heap[W.heap.size + 1]? = some (.cells #[.int .u64 (latest + 1), .int .i64 0, .slice none 0 0] 69 (0, 0))) := by
    have e := heap_alloc_new (W.alloc (.cells #[] 69)) (.cells #[.int .u64 (latest + 1), .int .i64 0, .slice none 0 0] 69)
    rw [show (W.alloc (.cells #[] 69)).heap.size = W.heap.size + 1 from by simp] at e
    exact e
  have HD3 : Hid (Row ((W.alloc (.cells #[.int .u64 (latest + 1), .int .i64 0, .slice none 0 0] 69)).alloc (.cells #[] 69)).drew 69 3 (.slice (some ⟨W.heap.size + 1, 0, none⟩) 0 0) 0 []) := (Row.lit_at (W.alloc (.cells #[.int .u64 (latest + 1), .int .i64 0, .slice none 0 0] 69)) 69 3 #[] 0 (W.heap.size + 1) (by simp) (by simp [maxLen]) rfl).of_block (fun _ _ => rfl)
  have HZ3 : Hid (((W.alloc (.cells #[.int .u64 (latest + 1), .int .i64 0, .slice none 0 0] 69)).alloc (.cells #[] 69)).drew.heap.size = W.heap.size + 2) := (show ((W.alloc (.cells #[.int .u64 (latest + 1), .int .i64 0, .slice none 0 0] 69)).alloc (.cells #[] 69)).heap.size = W.heap.size + 2 by simp)
  have HO3 : Hid (((W.alloc (.cells #[.int .u64 (latest + 1), .int .i64 0, .slice none 0 0] 69)).alloc (.cells #[] 69)).drew.heap[W.heap.size]? = some (.cells #[.int .u64 (latest + 1), .int .i64 0, .slice none 0 0] 69 (0, 0))) := (Below.heap_alloc (W.alloc (.cells #[.int .u64 (latest + 1), .int .i64 0, .slice none 0 0] 69)) (.cells #[] 69) W.heap.size (by simp)).trans (heap_alloc_new W _)
  clear c0 c1 f0 f1 hoth hp1 hsz hrow hsrc hW HFd two
  go_region_law
    (first
      | (refine step_append_row _ (by rfl) _ _ _ (by rfl) 69 i0 _ 3 40 Try.underlying35 hi0 hz0 hz1 hz2 rfl (.slice (some ⟨W.heap.size, 0, none⟩) 0 0) 0 [] (by rfl) ((Row.lit_at W 69 3 #[] 0 W.heap.size rfl (by simp [maxLen]) rfl).of_block (fun _ _ => rfl))
          (.slice a gs.length cap) gs.length (gcells gs vs) (by rfl) (HI.out _ (fun k hk => Below.heap_alloc W _ k hk)) (by unfold maxLen; omega) (by omega) (W.heap.size + 1) (by simp) ?_; intro a1 c1 w1 hrow1 hgrow1 hat1
         have hB1 := HE.out _ w1 _ hgrow1 (by simp) (fun k hk => Below.heap_alloc W _ k hk) rfl rfl rfl (by intro k hk; simp [Value.ownBlock] at hk; omega)
         have hrow1' : Row w1 69 3 (.slice a1 gs.length c1) gs.length (gcells gs vs) := by rw [Nat.zero_add] at hrow1; simpa using hrow1
         have hat1' : ∀ k, (Value.slice a1 gs.length c1).ownBlock = some k → W.heap.size ≤ k := fun k hk => by
           rcases hat1 k (by rw [Nat.zero_add]; exact hk) with h | h
           · simp [Value.ownBlock] at h; omega
           · omega
         have p1 := (hB1.cell (p := ⟨p, 0, none⟩) lp).trans HQ.out.1
         have p2 := (hB1.cell (p := ⟨p, 1, none⟩) lp).trans HQ.out.2.1
         clear hat1 hgrow1 hrow1)
      | (refine step_append_row _ (by rfl) _ _ _ (by rfl) 69 i0 _ 3 40 Try.underlying35 hi0 hz0 hz1 hz2 rfl (.slice (some ⟨W.heap.size, 0, none⟩) 0 0) 0 [] (by rfl) HD2.out
          (.slice a gs.length cap) gs.length (gcells gs vs) (by rfl) (HI.out _ (fun k hk => HTwo.out _ _ k hk)) (by unfold maxLen; omega) (by omega) (W.heap.size + 2) HZ2.out ?_; intro a1 c1 w1 hrow1 hgrow1 hat1
         have hB1 := HE.out _ w1 _ hgrow1 (by rw [HZ2.out]; omega) (fun k hk => HTwo.out _ _ k hk) rfl rfl rfl (by intro k hk; simp [Value.ownBlock] at hk; omega)
         have hrow1' : Row w1 69 3 (.slice a1 gs.length c1) gs.length (gcells gs vs) := by rw [Nat.zero_add] at hrow1; simpa using hrow1
         have hat1' : ∀ k, (Value.slice a1 gs.length c1).ownBlock = some k → W.heap.size ≤ k := fun k hk => by
           rcases hat1 k (by rw [Nat.zero_add]; exact hk) with h | h
           · simp [Value.ownBlock] at h; omega
           · omega
         have hone : w1.heap[W.heap.size + 1]? = some (.cells #[.int .u64 (latest + 1), .int .i64 0, .slice none 0 0] 69 (0, 0)) := (hgrow1.block (W.heap.size + 1) (by rw [HZ2.out]; omega) (by simp [Value.ownBlock])).trans HO2.out
         have p1 := (hB1.cell (p := ⟨p, 0, none⟩) lp).trans HQ.out.1
         have p2 := (hB1.cell (p := ⟨p, 1, none⟩) lp).trans HQ.out.2.1
         clear hat1 hgrow1 hrow1)
      | (refine step_append_row _ (by rfl) _ _ _ (by rfl) 69 i0 _ 3 40 Try.underlying35 hi0 hz0 hz1 hz2 rfl (.slice (some ⟨W.heap.size + 1, 0, none⟩) 0 0) 0 [] (by rfl) HD3.out
          (.slice a gs.length cap) gs.length (gcells gs vs) (by rfl) (HI.out _ (fun k hk => HTwo.out _ _ k hk)) (by unfold maxLen; omega) (by omega) (W.heap.size + 2) HZ3.out ?_; intro a1 c1 w1 hrow1 hgrow1 hat1
         have hB1 := HE.out _ w1 _ hgrow1 (by rw [HZ3.out]; omega) (fun k hk => HTwo.out _ _ k hk) rfl rfl rfl (by intro k hk; simp [Value.ownBlock] at hk; omega)
         have hrow1' : Row w1 69 3 (.slice a1 gs.length c1) gs.length (gcells gs vs) := by rw [Nat.zero_add] at hrow1; simpa using hrow1
         have hat1' : ∀ k, (Value.slice a1 gs.length c1).ownBlock = some k → W.heap.size ≤ k := fun k hk => by
           rcases hat1 k (by rw [Nat.zero_add]; exact hk) with h | h
           · simp [Value.ownBlock] at h; omega
           · omega
         have hone : w1.heap[W.heap.size]? = some (.cells #[.int .u64 (latest + 1), .int .i64 0, .slice none 0 0] 69 (0, 0)) := (hgrow1.block W.heap.size (by rw [HZ3.out]; omega) (by simp [Value.ownBlock])).trans HO3.out
         have p1 := (hB1.cell (p := ⟨p, 0, none⟩) lp).trans HQ.out.1
         have p2 := (hB1.cell (p := ⟨p, 1, none⟩) lp).trans HQ.out.2.1
         clear hat1 hgrow1 hrow1)
      | (refine step_append_row _ (by rfl) _ _ _ (by rfl) 69 i0 _ 3 40 Try.underlying35 hi0 hz0 hz1 hz2 rfl (.slice a1 gs.length c1) gs.length _ (by rfl) hrow1'
          (.slice (some ⟨W.heap.size, 0, none⟩) 1 1) 1 [.int .u64 (latest + 1), .int .i64 0, .slice none 0 0] (by rfl) (Src.of_block (cs := #[.int .u64 (latest + 1), .int .i64 0, .slice none 0 0]) (t := 69) (fr := (0, 0)) hone 1 1 rfl (by simp [Value.oneCell']))
          (by unfold maxLen; omega) (by omega) w1.heap.size rfl ?_; intro a2 c2 w2 hrow2 hgrow2 hat2
         have hB2 := hB1.grown hgrow2 hB1.size hat1'
         have hat2' : ∀ k, (Value.slice a2 (gs.length + 1) c2).ownBlock = some k → W.heap.size ≤ k := fun k hk => by
           rcases hat2 k hk with h | h
           · exact hat1' k h
           · have := hB1.size; omega
         have p4 := (hB2.cell (p := ⟨p, 0, none⟩) lp).trans HQ.out.1
         have p5 := (hB2.cell (p := ⟨p, 1, none⟩) lp).trans HQ.out.2.1
         have p6 := (World.frozen?_of_block (a := ⟨p, 0, none⟩) (hB2.block p lp)).trans HQ.out.2.2
         clear hat2 hgrow2)
      | (refine step_append_row _ (by rfl) _ _ _ (by rfl) 69 i0 _ 3 40 Try.underlying35 hi0 hz0 hz1 hz2 rfl (.slice a1 gs.length c1) gs.length _ (by rfl) hrow1'
          (.slice (some ⟨W.heap.size + 1, 0, none⟩) 1 1) 1 [.int .u64 (latest + 1), .int .i64 0, .slice none 0 0] (by rfl) (Src.of_block (cs := #[.int .u64 (latest + 1), .int .i64 0, .slice none 0 0]) (t := 69) (fr := (0, 0)) hone 1 1 rfl (by simp [Value.oneCell']))
          (by unfold maxLen; omega) (by omega) w1.heap.size rfl ?_; intro a2 c2 w2 hrow2 hgrow2 hat2
         have hB2 := hB1.grown hgrow2 hB1.size hat1'
         have hat2' : ∀ k, (Value.slice a2 (gs.length + 1) c2).ownBlock = some k → W.heap.size ≤ k := fun k hk => by
           rcases hat2 k hk with h | h
           · exact hat1' k h
           · have := hB1.size; omega
         have p4 := (hB2.cell (p := ⟨p, 0, none⟩) lp).trans HQ.out.1
         have p5 := (hB2.cell (p := ⟨p, 1, none⟩) lp).trans HQ.out.2.1
         have p6 := (World.frozen?_of_block (a := ⟨p, 0, none⟩) (hB2.block p lp)).trans HQ.out.2.2
         clear hat2 hgrow2)
      | (refine step_append_row _ (by rfl) _ _ _ (by rfl) 69 i0 _ 3 40 Try.underlying35 hi0 hz0 hz1 hz2 rfl (.slice a1 gs.length c1) gs.length _ (by rfl) (hrow1'.of_block (fun b hb => Below.heap_alloc w1 _ b (hrow1'.lt hb)))
          (.slice (some ⟨w1.heap.size, 0, none⟩) 1 1) 1 [.int .u64 (latest + 1), .int .i64 0, .slice none 0 0] (by rfl) (Src.of_block (cs := #[.int .u64 (latest + 1), .int .i64 0, .slice none 0 0]) (t := 69) (fr := (0, 0)) (heap_alloc_new w1 _) 1 1 rfl (by simp [Value.oneCell']))
          (by unfold maxLen; omega) (by omega) (w1.heap.size + 1) (by simp) ?_; intro a2 c2 w2 hrow2 hgrow2 hat2
         have hB2 := (hB1.alloc hB1.size (.cells #[.int .u64 (latest + 1), .int .i64 0, .slice none 0 0] 69)).grown hgrow2 (by have := hB1.size; simp; omega) hat1'
         have hat2' : ∀ k, (Value.slice a2 (gs.length + 1) c2).ownBlock = some k → W.heap.size ≤ k := fun k hk => by
           rcases hat2 k hk with h | h
           · exact hat1' k h
           · have := hB1.size; omega
         have p4 := (hB2.cell (p := ⟨p, 0, none⟩) lp).trans HQ.out.1
         have p5 := (hB2.cell (p := ⟨p, 1, none⟩) lp).trans HQ.out.2.1
         have p6 := (World.frozen?_of_block (a := ⟨p, 0, none⟩) (hB2.block p lp)).trans HQ.out.2.2
         clear hat2 hgrow2))
  all_goals
    go_wp2_with fail
    go_ret
    refine ⟨rfl, create_fin_r hF HW.out hB2 ?_ (fun k hk => ?_)⟩
    · exact hrow2
    · have h1 := HSz.out
      have h2 := hat2' k hk
      omega
end Go.Proofs.Ytakdcankhfeobaa
