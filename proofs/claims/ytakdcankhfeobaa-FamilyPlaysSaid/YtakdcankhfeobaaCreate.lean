/- The walk of (*family.Family).Create: by case. No condition. -/
import Derived.Test.YtakdcankhfeobaaPlace
import Derived.Deep.RegionLaw
namespace Go.Proofs.Ytakdcankhfeobaa
open Go.ChangeShapes Go.WideShapes Go.ChangeAt Go.RowKit

theorem info67 : (Try.prog.info? 67).map (fun i => (i.zero, i.size, i.bytes)) = some (some (.agg #[.int .u64 0, .int .i64 0, .slice none 0 0]), 3, 40) := by kernel_rfl

theorem create_state (p : Nat) (v : Value) (gs : List Gn) (vs : List Value) (latest : Int) (w : World) (hF : FamAt 64 67 w p v gs vs latest) (hs : 0 ≤ findSuf gs 0) :
    Calls Try.prog 12 #[.pointer (some ⟨p, 0, none⟩)] w fun e w' => e = .returned (.int .i64 5) ∧ Below w.heap.size w w' := by
  go_enter Try.func12, Try.ntmps12
  go_wp2_with fail
  refine (place_any _ _ _ _ _ _ _ hF).mono ?_
  rintro e w1 ⟨rfl, hB⟩
  go_wp2_with fail
  go_ret
  exact ⟨rfl, hB⟩

theorem create_full (p : Nat) (v : Value) (gs : List Gn) (vs : List Value) (latest : Int) (w : World) (hF : FamAt 64 67 w p v gs vs latest) (hs : ¬ 0 ≤ findSuf gs 0) (hl : 12 ≤ gs.length) :
    Calls Try.prog 12 #[.pointer (some ⟨p, 0, none⟩)] w fun e w' => e = .returned (.int .i64 2) ∧ Below w.heap.size w w' := by
  obtain ⟨a, cap, rfl, -⟩ := hF.row.form
  go_enter Try.func12, Try.ntmps12
  go_wp2_with fail
  refine (place_any _ _ _ _ _ _ _ hF).mono ?_
  rintro e w1 ⟨rfl, hB⟩
  obtain ⟨c0, c1, f0, f1⟩ := (hF.below hB).cells
  go_wp2_with fail
  go_ret
  exact ⟨rfl, hB⟩


theorem create_fin {p : Nat} {v v' : Value} {gs : List Gn} {vs : List Value} {latest : Int} {w w1 W w2 : World} {o : Obj} (hB : w.heap.size ≤ w1.heap.size) (hF1 : FamAt 64 67 w1 p v gs vs latest)
    (hM1 : Mod (foot p v vs) w W) (hoth : ∀ (k : Nat), k ≠ p → W.heap[k]? = w1.heap[k]?) (hp1 : W.heap[p]? = some (.cells (#[v, Value.int .u64 latest].setIfInBounds 1 (Value.int .u64 (latest + 1))) 64))
    (hsz : w1.heap.size ≤ W.heap.size)
    (hown2 : Row w2 67 3 v' (gs.length + 1) (gcells gs vs ++ [.int .u64 (latest + 1), .int .i64 0, .slice none 0 0]))
    (hgrow : (W.alloc o).drew.grownBy w2 v.ownBlock) (hat : ∀ k, v'.ownBlock = some k → v.ownBlock = some k ∨ k = W.heap.size + 1) :
    FamOut 64 67 w (w2.setCell ⟨p, 0, none⟩ v') p v vs (gs ++ [⟨latest + 1, 0, []⟩]) (latest + 1) := by
  have lp : p < w1.heap.size := heap_lt hF1.head
  have hb2 : ∀ k, k < w1.heap.size → v.ownBlock ≠ some k → w2.heap[k]? = W.heap[k]? := by
    intro k hk hv
    rw [hgrow.block k (by show k < (W.heap.push o).size; simp; omega) (fun e => hv e.symm)]
    exact Below.heap_alloc _ _ _ (by omega)
  have hh2 : w2.heap[p]? = some (.cells #[v, .int .u64 (latest + 1)] 64 (0, 0)) := by rw [hb2 p lp hF1.notp.1, hp1]; rfl
  have hF2 := hF1.push (w' := w2.setCell ⟨p, 0, none⟩ v') (v' := v') (l' := latest + 1) (i := latest + 1)
    (by rw [heap_setCell_same w2 p 0 _ _ _ hh2]; rfl)
    (hown2.of_block (fun k hk => heap_setCell_other _ _ _ _ (by
      show k ≠ p
      rintro rfl
      rcases hat k hk with h | h
      · exact hF1.notp.1 h
      · omega)))
    (fun k hk hkp hkv => by rw [heap_setCell_other _ _ _ _ hkp, hb2 k hk hkv, hoth k hkp])
    (fun k hk => by
      rcases hat k hk with h | h
      · exact .inl h
      · exact .inr (by omega))
  refine ⟨_, _, hF2, ?_, ?_⟩
  · refine Mod.setCell (((hM1.alloc o).drew).grown hgrow (fun k hk => .inr (.inr (.inl hk)))) (.inr (.inl rfl)) _
  · rintro k (rfl | hk | ⟨u, hu, hk⟩)
    · exact .inl (.inl rfl)
    · rcases hat k hk with h | h
      · exact .inl (.inr (.inl h))
      · exact .inr (by omega)
    · rw [List.mem_append] at hu
      rcases hu with hu | hu
      · exact .inl (.inr (.inr ⟨u, hu, hk⟩))
      · simp at hu; subst hu; simp [Value.ownBlock] at hk

theorem create_ok (p : Nat) (v : Value) (gs : List Gn) (vs : List Value) (latest : Int) (w : World) (hF : FamAt 64 67 w p v gs vs latest) (hs : ¬ 0 ≤ findSuf gs 0) (hl : gs.length < 12)
    (h0 : 0 ≤ latest) (h1 : latest < 9223372036854775807) :
    Calls Try.prog 12 #[.pointer (some ⟨p, 0, none⟩)] w fun e w' => e = .returned (.int .i64 0) ∧ FamOut 64 67 w w' p v vs (gs ++ [⟨latest + 1, 0, []⟩]) (latest + 1) := by
  obtain ⟨a, cap, rfl, -⟩ := hF.row.form
  obtain ⟨i0, hi0, hz0, hz1, hz2⟩ := info_parts info67
  go_enter Try.func12, Try.ntmps12
  go_wp2_with fail
  refine (place_any _ _ _ _ _ _ _ hF).mono ?_
  rintro e w1 ⟨rfl, hB⟩
  have hF1 := hF.below hB
  obtain ⟨c0, c1, f0, f1⟩ := hF1.cells
  go_wp2_with fail
  have hp1 := heap_setCell_same w1 p 1 _ _ (.int .u64 (latest + 1)) hF1.head
  have hoth := fun k (h : k ≠ p) => heap_setCell_other w1 ⟨p, 1, none⟩ k (.int .u64 (latest + 1)) h
  have hsz : w1.heap.size ≤ (w1.setCell ⟨p, 1, none⟩ (.int .u64 (latest + 1))).heap.size := by simp [World.setCell]
  have hM1 : Mod (foot p (.slice a gs.length cap) vs) w (w1.setCell ⟨p, 1, none⟩ (.int .u64 (latest + 1))) := (Mod.of_below hB).setCell (.inr (.inl rfl)) _
  generalize w1.setCell ⟨p, 1, none⟩ (.int .u64 (latest + 1)) = W at *
  have hown : Row W 67 3 (.slice a gs.length cap) gs.length (gcells gs vs) := hF1.row.of_block (fun k hk => hoth k (by rintro rfl; exact hF1.notp.1 hk))
  have q0 : W.cell? ⟨p, 0, none⟩ = some (.slice a gs.length cap) := by rw [cell_of_row _ _ _ _ _ _ hp1]; rfl
  have q1 : W.cell? ⟨p, 1, none⟩ = some (.int .u64 (latest + 1)) := by rw [cell_of_row _ _ _ _ _ _ hp1]; rfl
  have q2 : W.frozen? ⟨p, 0, none⟩ = false := frozen_of_row _ _ _ _ _ hp1
  have ag := hF1.notp.1
  have lp : p < W.heap.size := heap_lt hp1
  have Hoth := Lib.hid hoth
  have Hsz := Lib.hid hsz
  have Hp1 := Lib.hid hp1
  clear c0 c1 f0 f1 hoth hp1 hsz
  go_region_law
    (refine step_append_row _ (by rfl) _ _ _ (by rfl) 67 i0 _ 3 40 Try.underlying62 hi0 hz0 hz1 hz2 rfl (.slice a gs.length cap) gs.length (gcells gs vs) (by rfl) (hown.of_block (fun k hk => Below.heap_alloc W _ k (hown.lt hk)))
        (.slice (some ⟨W.heap.size, 0, none⟩) 1 1) 1 [.int .u64 (latest + 1), .int .i64 0, .slice none 0 0] (by rfl) (Src.of_block (cs := #[.int .u64 (latest + 1), .int .i64 0, .slice none 0 0]) (t := 67) (fr := (0, 0)) (heap_alloc_new W _) 1 1 rfl (by simp [Value.oneCell']))
        (by unfold maxLen; omega) (by omega) (W.heap.size + 1) (by simp) ?_; intro ag' cap' w2 hown2 hgrow hat; have hpb : w2.heap[p]? = W.heap[p]? := (hgrow.block p (by simp; omega) (fun e => ag e.symm)).trans (Below.heap_alloc _ _ _ lp); have q0' := (World.cell?_of_block (a := ⟨p, 0, none⟩) hpb).trans q0; have q2' := (World.frozen?_of_block (a := ⟨p, 0, none⟩) hpb).trans q2; clear hpb)
  all_goals
    go_wp2
    go_ret
    exact ⟨rfl, create_fin hB.size hF1 hM1 Hoth.out Hp1.out Hsz.out hown2 hgrow hat⟩
end Go.Proofs.Ytakdcankhfeobaa
