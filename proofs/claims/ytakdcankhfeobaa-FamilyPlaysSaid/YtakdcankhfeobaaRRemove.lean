/- The walk of tailraceref23.Family's Remove. No condition. -/
import Derived.Test.YtakdcankhfeobaaRCreate
import Derived.IntWalk
namespace Go.Proofs.Ytakdcankhfeobaa
open Go.ChangeShapes Go.WideShapes Go.ChangeAt Go.RowKit

theorem remove_fin_r {p : Nat} {v v' : Value} {gs : List Gn} {vs : List Value} {latest : Int} {W w2 : World} {k n' : Nat} (hF1 : FamAt 37 69 W p v gs vs latest) (hk : k < gs.length) (hn : n' = gs.length - 1)
    (hown2 : Row w2 69 3 v' n' (gcells (gs.eraseIdx k) (vs.eraseIdx k))) (hB : Below W.heap.size W w2) (hat : ∀ k, v'.ownBlock = some k → W.heap.size ≤ k) :
    FamOut 37 69 W (w2.setCell ⟨p, 0, none⟩ v') p v vs (gs.eraseIdx k) latest := by
  subst hn
  have lp : p < W.heap.size := heap_lt hF1.head
  have hh2 : w2.heap[p]? = some (.cells #[v, .int .u64 latest] 37 (0, 0)) := by rw [hB.block p lp]; exact hF1.head
  have hF2 := hF1.erase (w' := w2.setCell ⟨p, 0, none⟩ v') (v' := v') k hk
    (by rw [heap_setCell_same w2 p 0 _ _ _ hh2]; rfl)
    (hown2.of_block (fun k hk => heap_setCell_other _ _ _ _ (by
      show k ≠ p
      rintro rfl
      have := hat k hk; omega)))
    (fun k hk hkp _ => by rw [heap_setCell_other _ _ _ _ hkp, hB.block k hk])
    (fun k hk => .inr (hat k hk))
  refine ⟨_, _, hF2, ?_, ?_⟩
  · exact (Mod.of_below hB).setCell (.inr (.inl rfl)) _
  · rintro k (rfl | hk | ⟨u, hu, hk⟩)
    · exact .inl (.inl rfl)
    · exact .inr (hat k hk)
    · exact .inl (.inr (.inr ⟨u, List.mem_of_mem_eraseIdx hu, hk⟩))

set_option maxRecDepth 100000 in
set_option maxHeartbeats 1600000 in
theorem remove_ok_r (p : Nat) (v : Value) (gs : List Gn) (vs : List Value) (latest s : Int) (W : World) (hF : FamAt 37 69 W p v gs vs latest) (hs : ¬ s ≤ 0) (k : Nat) (hf : findSuf gs s = k) (hk : k < gs.length) (hl : gs.length ≤ 1000000) :
    Calls Try.prog 31 #[.pointer (some ⟨p, 0, none⟩), .int .i64 s] W fun e w' => e = .returned (.int .i64 0) ∧ FamOut 37 69 W w' p v vs (gs.eraseIdx k) latest := by
  obtain ⟨a, cap, rfl, hnc, -, -⟩ := hF.row.form
  obtain ⟨i0, hi0, hz0, hz1, hz2⟩ := info_parts info69
  have hfd := find_r p _ gs vs latest s W hF
  rw [hf] at hfd
  have HFd := Lib.hid hfd
  clear hf hfd
  obtain ⟨q0, -, q2, -⟩ := hF.cells
  have lp : p < W.heap.size := heap_lt hF.head
  have hs1 := fun w => run_slice_to (P := Try.prog) w 35 69 i0 Try.underlying35 hi0 a gs.length cap k (by omega) .i64
  have hs2 := fun w => run_slice_from (P := Try.prog) w 35 69 i0 Try.underlying35 hi0 3 hz1 a gs.length cap (k + 1) (by omega) .i64
  have ha : a.isSome = true := by
    obtain ⟨g, rfl, -⟩ := hF.row.view (by omega); rfl
  have hsh := hF.row.short k (by omega) ha cap (by omega) (Nat.le_refl _)
  have hsrc := (Src.of_row hF.row (gcells_one hF.vals)).part (k + 1) (gs.length - (k + 1)) (by omega) hnc
  have hnews : ((gcells gs vs).drop ((k + 1) * 3)).take ((gs.length - (k + 1)) * 3) = (gcells gs vs).drop ((k + 1) * 3) := by
    rw [List.take_of_length_le]
    rw [List.length_drop, length_gcells _ _ hF.len]; omega
  rw [hnews] at hsrc
  have HE := Lib.hid (gcells_erase gs vs k hF.len hk)
  have HSh := Lib.hid (Src.of_row hsh (fun u hu => gcells_one hF.vals u (List.mem_of_mem_take hu)))
  have HSrc := Lib.hid hsrc
  have hn : k + (gs.length - (k + 1)) = gs.length - 1 := by omega
  have HN := Lib.hid hn
  have hkc : ((k + 1 : Nat) : Int) = (k : Int) + 1 := by omega
  rw [hkc] at hs2
  have HQ := Lib.hid (And.intro q0 q2)
  have hB0 : Below W.heap.size W W := Below.refl _ W
  have HE1 : Hid (∀ X w1 : World, ∀ r : Option Nat, X.grownBy w1 r → W.heap.size ≤ X.heap.size → (∀ k, k < W.heap.size → X.heap[k]? = W.heap[k]?) → X.os = W.os → X.tape = W.tape → X.output = W.output → (∀ k, r = some k → W.heap.size ≤ k) → Below W.heap.size W w1) := fun X w1 r h6 h1 h2 h3 h4 h5 h7 =>
    (show Below W.heap.size W X from ⟨h3, h4, h5, h1, h2⟩).grown h6 h1 h7
  clear hnews hn hkc hsh hsrc
  go_enter Try.func31, Try.ntmps31
  go_wp2_with fail
  refine HFd.out.mono ?_
  rintro e w1 ⟨rfl, rfl⟩
  clear HFd
  go_wp2_with fail
  have hwr : IntKind.i64.wrap ((k : Int) + 1) = (k : Int) + 1 := IntWalk.i64_in _ (by omega)
  go_region_law
    (first
      | (refine step_append_row _ (by rfl) _ _ _ (by rfl) 69 i0 _ 3 40 Try.underlying35 hi0 hz0 hz1 hz2 rfl (.slice (some ⟨W.heap.size, 0, none⟩) 0 0) 0 [] (by rfl) ((Row.lit_at W 69 3 #[] 0 W.heap.size rfl (by simp [maxLen]) rfl).of_block (fun _ _ => rfl))
          (.slice a k cap) k _ (by rfl) (HSh.out.below (below_drew (hB0.alloc (Nat.le_refl _) _))) (by unfold maxLen; omega) (by omega) (W.heap.size + 1) (by simp) ?_; intro a1 c1 w1 hrow1 hgrow1 hat1
         have hB1 := HE1.out _ w1 _ hgrow1 (by simp) (fun k hk => Below.heap_alloc W _ k hk) rfl rfl rfl (by intro k hk; simp [Value.ownBlock] at hk; omega)
         have hrow1' : Row w1 69 3 (.slice a1 k c1) k ((gcells gs vs).take (k * 3)) := by rw [Nat.zero_add] at hrow1; simpa using hrow1
         have hat1' : ∀ j, (Value.slice a1 k c1).ownBlock = some j → W.heap.size ≤ j := fun j hj => by
           rcases hat1 j (by rw [Nat.zero_add]; exact hj) with h | h
           · simp [Value.ownBlock] at h; omega
           · omega
         have p1 := (hB1.cell (p := ⟨p, 0, none⟩) lp).trans HQ.out.1
         clear hat1 hgrow1 hrow1)
      | (refine step_append_row _ (by rfl) _ _ _ (by rfl) 69 i0 _ 3 40 Try.underlying35 hi0 hz0 hz1 hz2 rfl (.slice a1 k c1) k _ (by rfl) hrow1'
          (.slice (fromAddr a cap (k + 1) 3) (gs.length - (k + 1)) (cap - (k + 1))) (gs.length - (k + 1)) _ (by rfl) (HSrc.out.below hB1)
          (by unfold maxLen; omega) (by omega) w1.heap.size rfl ?_; intro a2 c2 w2 hrow2 hgrow2 hat2
         have hB2 := hB1.grown hgrow2 hB1.size hat1'
         have hat2' : ∀ j, (Value.slice a2 (k + (gs.length - (k + 1))) c2).ownBlock = some j → W.heap.size ≤ j := fun j hj => by
           rcases hat2 j hj with h | h
           · exact hat1' j h
           · have := hB1.size; omega
         have p4 := (hB2.cell (p := ⟨p, 0, none⟩) lp).trans HQ.out.1
         have p6 := (World.frozen?_of_block (a := ⟨p, 0, none⟩) (hB2.block p lp)).trans HQ.out.2
         clear hat2 hgrow2))
  all_goals
    go_wp2_with fail
    go_ret
    rw [← HE.out] at hrow2
    exact ⟨rfl, remove_fin_r hF hk HN.out hrow2 hB2 hat2'⟩
end Go.Proofs.Ytakdcankhfeobaa
