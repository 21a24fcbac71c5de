/- The walk of (*family.Family).place. No condition. -/
import Derived.Test.YtakdcankhfeobaaRows
import Derived.Test.YtakdcankhfeobaaFam
import Derived.WalkKit
import Derived.ProofKit
import Derived.OpenShut
import Derived.WalkLawsBesides
import Derived.WalkSpells
import Derived.Deep.LoopGhost
namespace Go.Proofs.Ytakdcankhfeobaa
open Go.ChangeShapes Go.WideShapes Go.ChangeAt Go.RowKit

def findSuf (gs : List Gn) (s : Int) : Int := match gs.findIdx? (fun g => g.suf == s) with | some i => (i : Int) | none => -1

theorem findSuf_at (gs : List Gn) (s : Int) (k : Nat) (g : Gn) (hk : gs[k]? = some g) (hs : g.suf = s) (hb : ∀ j, j < k → ∀ g, gs[j]? = some g → g.suf ≠ s) : findSuf gs s = k := by
  have : gs.findIdx? (fun g => g.suf == s) = some k := by
    rw [List.findIdx?_eq_some_iff_getElem]
    have hlt : k < gs.length := (List.getElem?_eq_some_iff.1 hk).1
    refine ⟨hlt, ?_, ?_⟩
    · have := (List.getElem?_eq_some_iff.1 hk).2
      simp [this, hs]
    · intro j hj
      have := hb j hj gs[j] (List.getElem?_eq_getElem (by omega))
      simp [this]
  unfold findSuf; rw [this]

theorem findSuf_none (gs : List Gn) (s : Int) (hb : ∀ j, j < gs.length → ∀ g, gs[j]? = some g → g.suf ≠ s) : findSuf gs s = -1 := by
  have : gs.findIdx? (fun g => g.suf == s) = none := by
    rw [List.findIdx?_eq_none_iff]
    intro x hx
    obtain ⟨i, hi, rfl⟩ := List.getElem_of_mem hx
    have := hb i hi gs[i] (List.getElem?_eq_getElem hi)
    simp [this]
  unfold findSuf; rw [this]

set_option maxHeartbeats 400000 in
theorem place_any (p : Nat) (v : Value) (gs : List Gn) (vs : List Value) (latest s : Int) (w : World) (hF : FamAt 64 67 w p v gs vs latest) :
    Calls Try.prog 28 #[.pointer (some ⟨p, 0, none⟩), .int .i64 s] w fun e w' => e = .returned (.int .i64 (findSuf gs s)) ∧ Below w.heap.size w w' := by
  have hp0 : w.cell? ⟨p, 0, none⟩ = some v := by rw [cell_of_row _ _ _ _ _ _ hF.head]; rfl
  obtain ⟨a, cap, rfl, hnc, hml, _⟩ := hF.row.form
  unfold maxLen at hml
  go_enter Try.func28, Try.ntmps28
  go_wp2
  go_loopw [5, 6, 12] (fun _ _ i wr => ∃ k : Nat, k ≤ gs.length ∧ i = .int .i64 k ∧ Below w.heap.size w wr ∧ ∀ j, j < k → ∀ g, gs[j]? = some g → g.suf ≠ s) (fun _ _ i _ => gs.length - (intOf i).toNat)
  case atStart => exact ⟨0, Nat.zero_le _, rfl, Below.refl _ _, fun j hj => by omega⟩
  case round =>
    obtain ⟨k, hk, rfl, hB, hbef⟩ := hrel
    by_cases hlt : k < gs.length
    · obtain ⟨g, rfl, -, hcell, -⟩ := hF.row.view (by omega)
      obtain ⟨gk, hgk⟩ : ∃ x, gs[k]? = some x := ⟨_, List.getElem?_eq_getElem hlt⟩
      obtain ⟨vk, hvk⟩ : ∃ x, vs[k]? = some x := ⟨_, List.getElem?_eq_getElem (by rw [hF.len]; exact hlt)⟩
      obtain ⟨ak, ck, rfl, -⟩ := (hF.inner k gk vk hgk hvk).form
      obtain ⟨c0, c1, c2⟩ := gcells_at gs vs k gk _ hgk hvk
      have d0 := (hcell (k * 3) (by omega)).trans c0
      have d1 := (hcell (k * 3 + 1) (by omega)).trans c1
      have d2 := (hcell (k * 3 + 2) (by omega)).trans c2
      have e0 := (hB.cell (p := ⟨g, k * 3, none⟩) (block_lt_of_cell d0)).trans d0
      have e1 := (hB.cell (p := ⟨g, k * 3 + 1, none⟩) (block_lt_of_cell d1)).trans d1
      have e2 := (hB.cell (p := ⟨g, k * 3 + 2, none⟩) (block_lt_of_cell d2)).trans d2
      clear d0 d1 d2 c0 c1 c2 hvk
      have hB' := hB
      by_cases hs : gk.suf = s
      · have hfin := findSuf_at gs s k gk hgk hs hbef
        have HF := Lib.hid hfin
        have hb : (gk.suf == s) = true := by simpa using hs
        clear hgk hs hfin hbef hB'
        go_wp2
        go_ret
        exact ⟨by rw [HF.out]; rfl, (hB.alloc (by have := hB.size; omega) _)⟩
      · have hb : (gk.suf == s) = false := by simpa using hs
        have HB : Hid (∀ j, j < k + 1 → ∀ g, gs[j]? = some g → g.suf ≠ s) := by
          intro j hj g' hg'
          by_cases e : j = k
          · subst e; rw [hgk] at hg'; cases hg'; exact hs
          · exact hbef j (by omega) g' hg'
        clear hgk hs hbef
        go_wp2
        go_roundw
        case rel => exact ⟨k + 1, by omega, by go_num, (hB.alloc (by have := hB.size; omega) _), HB.out⟩
        case measure => simp [intOf]; omega
    · have hk' : k = gs.length := by omega
      have HF : Hid (findSuf gs s = -1) := findSuf_none gs s (fun j hj => hbef j (by omega))
      clear hbef hk'
      go_wp2
      go_ret
      exact ⟨by rw [HF.out]; rfl, hB⟩

end Go.Proofs.Ytakdcankhfeobaa
