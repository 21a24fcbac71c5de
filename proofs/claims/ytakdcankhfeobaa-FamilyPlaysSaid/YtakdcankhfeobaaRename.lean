/- The walk of (*family.Family).Rename: by case. No condition. -/
import Derived.Test.YtakdcankhfeobaaPlace
namespace Go.Proofs.Ytakdcankhfeobaa
open Go.ChangeShapes Go.WideShapes Go.ChangeAt Go.RowKit

theorem rename_none (p : Nat) (v : Value) (gs : List Gn) (vs : List Value) (latest : Int) (w : World) (hF : FamAt 64 67 w p v gs vs latest) (hs : ¬ 0 ≤ findSuf gs 0) :
    Calls Try.prog 11 #[.pointer (some ⟨p, 0, none⟩)] w fun e w' => e = .returned (.int .i64 4) ∧ Below w.heap.size w w' := by
  go_enter Try.func11, Try.ntmps11
  go_wp2_with fail
  refine (place_any _ _ _ _ _ _ _ hF).mono ?_
  rintro e w1 ⟨rfl, hB⟩
  go_wp2_with fail
  go_ret
  exact ⟨rfl, hB⟩

set_option maxHeartbeats 400000 in
theorem rename_ok (p : Nat) (v : Value) (gs : List Gn) (vs : List Value) (latest : Int) (w : World) (hF : FamAt 64 67 w p v gs vs latest) (hs : 0 ≤ findSuf gs 0)
    (hsuf : ∀ g ∈ gs, 0 ≤ g.suf ∧ g.suf < 4611686018427387904) :
    Calls Try.prog 11 #[.pointer (some ⟨p, 0, none⟩)] w fun e w' => e = .returned (.int .i64 0) ∧ FamOut 64 67 w w' p v vs (gs.map (fun g => { g with suf := g.suf + 1 })) latest := by
  obtain ⟨a, cap, rfl, hnc, hml, _⟩ := hF.row.form
  unfold maxLen at hml
  go_enter Try.func11, Try.ntmps11
  go_wp2_with fail
  refine (place_any _ _ _ _ _ _ _ hF).mono ?_
  rintro e w1 ⟨rfl, hB⟩
  have hF1 := hF.below hB
  obtain ⟨c0, -, -, -⟩ := hF1.cells
  go_wp2_with fail
  go_loopw [3, 12] (fun _ i wr => ∃ k : Nat, k ≤ gs.length ∧ i = .int .i64 k ∧ FamAt 64 67 wr p (.slice a gs.length cap) (bump k gs) vs latest ∧ Mod (foot p (.slice a gs.length cap) vs) w wr) (fun _ i _ => gs.length - (intOf i).toNat)
  case atStart => exact ⟨0, Nat.zero_le _, rfl, hF1, Mod.of_below hB⟩
  case round =>
    obtain ⟨k, hk, rfl, hFk, hM⟩ := hrel
    clear c0
    by_cases hlt : k < gs.length
    · obtain ⟨x, hx⟩ : ∃ x, gs[k]? = some x := ⟨_, List.getElem?_eq_getElem hlt⟩
      obtain ⟨u, hu⟩ : ∃ u, vs[k]? = some u := ⟨_, List.getElem?_eq_getElem (by rw [hF.len]; exact hlt)⟩
      have hxb := hsuf x (List.mem_of_getElem? hx)
      have hxk := bump_at gs k x hx
      have hrow := hFk.row
      rw [bump_len] at hrow
      obtain ⟨g, rfl, -, hcell, hfr⟩ := hrow.view (by omega)
      obtain ⟨c0, -, -, -⟩ := hFk.cells
      obtain ⟨-, d1, -⟩ := gcells_at _ _ k x u hxk hu
      have e1 := (hcell (k * 3 + 1) (by omega)).trans d1
      have f1 := hfr (k * 3 + 1)
      have hnew := hFk.setSuf hxk (x.suf + 1)
      rw [bump_succ gs k x hx] at hnew
      have hM2 := hM.setCell (p := ⟨g, k * 3 + 1, none⟩) (.inr (.inr (.inl rfl))) (.int .i64 (x.suf + 1))
      clear hx hu hxk hcell d1 hfr hrow
      go_wp2
      go_roundw
      case rel => exact ⟨k + 1, by omega, by go_num, hnew, hM2⟩
      case measure => simp [intOf]; omega
    · obtain rfl : k = gs.length := by omega
      rw [bump_all] at hFk
      go_wp2
      go_ret
      exact ⟨rfl, _, _, hFk, hM, fun _ h => .inl h⟩
end Go.Proofs.Ytakdcankhfeobaa
