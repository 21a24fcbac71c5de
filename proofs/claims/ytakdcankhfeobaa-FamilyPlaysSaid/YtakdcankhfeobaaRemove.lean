/- The walk of (*family.Family).Remove: by case. No condition. -/
import Derived.Test.YtakdcankhfeobaaCreate
import Derived.IntWalk
namespace Go.Proofs.Ytakdcankhfeobaa
open Go.ChangeShapes Go.WideShapes Go.ChangeAt Go.RowKit

theorem remove_arg (p : Nat) (v : Value) (gs : List Gn) (vs : List Value) (latest s : Int) (w : World) (hF : FamAt 64 67 w p v gs vs latest) (hs : s ≤ 0) :
    Calls Try.prog 14 #[.pointer (some ⟨p, 0, none⟩), .int .i64 s] w fun e w' => e = .returned (.int .i64 1) ∧ Below w.heap.size w w' := by
  go_enter Try.func14, Try.ntmps14
  go_wp2_with fail
  refine (place_any _ _ _ _ _ _ _ hF).mono ?_
  rintro e w1 ⟨rfl, hB⟩
  go_wp2_with fail
  go_ret
  exact ⟨rfl, hB⟩

theorem remove_none (p : Nat) (v : Value) (gs : List Gn) (vs : List Value) (latest s : Int) (w : World) (hF : FamAt 64 67 w p v gs vs latest) (hs : ¬ s ≤ 0) (hf : ¬ 0 ≤ findSuf gs s) :
    Calls Try.prog 14 #[.pointer (some ⟨p, 0, none⟩), .int .i64 s] w fun e w' => e = .returned (.int .i64 4) ∧ Below w.heap.size w w' := by
  go_enter Try.func14, Try.ntmps14
  go_wp2_with fail
  refine (place_any _ _ _ _ _ _ _ hF).mono ?_
  rintro e w1 ⟨rfl, hB⟩
  go_wp2_with fail
  go_ret
  exact ⟨rfl, hB⟩

theorem remove_fin {p : Nat} {v v' : Value} {gs : List Gn} {vs : List Value} {latest : Int} {W w2 : World} {k H n' : Nat} (hF1 : FamAt 64 67 W p v gs vs latest) (hk : k < gs.length) (hn : n' = gs.length - 1)
    (hown2 : Row w2 67 3 v' n' (gcells (gs.eraseIdx k) (vs.eraseIdx k)))
    (hgrow : W.drew.grownBy w2 v.ownBlock) (hat : ∀ k, v'.ownBlock = some k → v.ownBlock = some k ∨ k = H) (hH : H = W.heap.size) :
    FamOut 64 67 W (w2.setCell ⟨p, 0, none⟩ v') p v vs (gs.eraseIdx k) latest := by
  subst hH
  subst hn
  have lp : p < W.heap.size := heap_lt hF1.head
  have hb2 : ∀ k, k < W.heap.size → v.ownBlock ≠ some k → w2.heap[k]? = W.heap[k]? := fun k hk hv => hgrow.block k hk (fun e => hv e.symm)
  have hh2 : w2.heap[p]? = some (.cells #[v, .int .u64 latest] 64 (0, 0)) := by rw [hb2 p lp hF1.notp.1]; exact hF1.head
  have hF2 := hF1.erase (w' := w2.setCell ⟨p, 0, none⟩ v') (v' := v') k hk
    (by rw [heap_setCell_same w2 p 0 _ _ _ hh2]; rfl)
    (hown2.of_block (fun k hk => heap_setCell_other _ _ _ _ (by
      show k ≠ p
      rintro rfl
      rcases hat k hk with h | h
      · exact hF1.notp.1 h
      · omega)))
    (fun k hk hkp hkv => by rw [heap_setCell_other _ _ _ _ hkp, hb2 k hk hkv])
    (fun k hk => by
      rcases hat k hk with h | h
      · exact .inl h
      · exact .inr (by omega))
  refine ⟨_, _, hF2, ?_, ?_⟩
  · exact Mod.setCell (((Mod.refl _ W).drew).grown hgrow (fun k hk => .inr (.inr (.inl hk)))) (.inr (.inl rfl)) _
  · rintro k (rfl | hk | ⟨u, hu, hk⟩)
    · exact .inl (.inl rfl)
    · rcases hat k hk with h | h
      · exact .inl (.inr (.inl h))
      · exact .inr (by omega)
    · exact .inl (.inr (.inr ⟨u, List.mem_of_mem_eraseIdx hu, hk⟩))

theorem remove_ok (p : Nat) (v : Value) (gs : List Gn) (vs : List Value) (latest s : Int) (w : World) (hF : FamAt 64 67 w p v gs vs latest) (hs : ¬ s ≤ 0) (k : Nat) (hf : findSuf gs s = k) (hk : k < gs.length) (hl : gs.length ≤ 1000000) :
    Calls Try.prog 14 #[.pointer (some ⟨p, 0, none⟩), .int .i64 s] w fun e w' => e = .returned (.int .i64 0) ∧ FamOut 64 67 w w' p v vs (gs.eraseIdx k) latest := by
  obtain ⟨a, cap, rfl, hnc, -, -⟩ := hF.row.form
  obtain ⟨i0, hi0, hz0, hz1, hz2⟩ := info_parts info67
  go_enter Try.func14, Try.ntmps14
  go_wp2_with fail
  refine (place_any _ _ _ _ _ _ _ hF).mono ?_
  rintro e W ⟨rfl, hB⟩
  rw [hf]
  clear hf
  have hF1 := hF.below hB
  obtain ⟨q0, -, q2, -⟩ := hF1.cells
  have lp : p < W.heap.size := heap_lt hF1.head
  have hs1 := fun w => run_slice_cap (P := Try.prog) w 62 67 i0 Try.underlying62 hi0 a gs.length cap k (by omega) .i64
  have hs2 := fun w => run_slice_from (P := Try.prog) w 62 67 i0 Try.underlying62 hi0 3 hz1 a gs.length cap (k + 1) (by omega) .i64
  have ha : a.isSome = true := by
    obtain ⟨g, rfl, -⟩ := hF1.row.view (by omega); rfl
  have hdst := hF1.row.short k (by omega) ha k (Nat.le_refl _) (by omega)
  have hsrc := (Src.of_row hF1.row (gcells_one hF1.vals)).part (k + 1) (gs.length - (k + 1)) (by omega) hnc
  have hnews : ((gcells gs vs).drop ((k + 1) * 3)).take ((gs.length - (k + 1)) * 3) = (gcells gs vs).drop ((k + 1) * 3) := by
    rw [List.take_of_length_le]
    rw [List.length_drop, length_gcells _ _ hF1.len]; omega
  rw [hnews] at hsrc
  have HE := Lib.hid (gcells_erase gs vs k hF1.len hk)
  have ag := hF1.notp.1
  have hn : k + (gs.length - (k + 1)) = gs.length - 1 := by omega
  have HN := Lib.hid hn
  have hkc : ((k + 1 : Nat) : Int) = (k : Int) + 1 := by omega
  rw [hkc] at hs2
  clear hnews hn hkc
  go_wp2_with fail
  have hwr : IntKind.i64.wrap ((k : Int) + 1) = (k : Int) + 1 := IntWalk.i64_in _ (by omega)
  go_region_law
    (refine step_append_row _ (by rfl) _ _ _ (by rfl) 67 i0 _ 3 40 Try.underlying62 hi0 hz0 hz1 hz2 rfl (.slice a k k) k _ (by rfl) (hdst.of_block (fun _ _ => rfl))
        (.slice (fromAddr a cap (k + 1) 3) (gs.length - (k + 1)) (cap - (k + 1))) (gs.length - (k + 1)) _ (by rfl) (hsrc.below (Below.refl _ _).drew)
        (by unfold maxLen; omega) (by omega) W.heap.size (by simp) ?_; intro ag' cap' w2 hown2 hgrow hat; have eo := own_slice a k k gs.length cap; rw [eo] at hgrow; simp only [eo] at hat; clear eo; have hpb : w2.heap[p]? = W.heap[p]? := (hgrow.block p (by simp; omega) (fun e => ag e.symm)); have q0' := (World.cell?_of_block (a := ⟨p, 0, none⟩) hpb).trans q0; have q2' := (World.frozen?_of_block (a := ⟨p, 0, none⟩) hpb).trans q2; clear hpb)
  all_goals
    go_wp2
    go_ret
    rw [← HE.out] at hown2
    exact ⟨by rfl, (remove_fin hF1 hk HN.out hown2 hgrow hat rfl).of_below hB⟩
end Go.Proofs.Ytakdcankhfeobaa
