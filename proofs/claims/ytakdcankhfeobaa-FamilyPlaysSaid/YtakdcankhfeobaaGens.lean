/- The walk of chapter 23's gens: two lists alike. No condition. -/
import Derived.Test.YtakdcankhfeobaaROwn
import Derived.Deep.QuietTactic
import Derived.BigQuiet
namespace Go.Proofs.Ytakdcankhfeobaa
open Go.ChangeShapes Go.WideShapes Go.ChangeAt Go.RowKit

theorem lcells_at (gs : List Gn) (i : Nat) (x : Gn) (h : gs[i]? = some x) : (lcells gs)[i * 3]? = some (.int .u64 x.id) ∧ (lcells gs)[i * 3 + 1]? = some (.int .i64 x.suf) ∧ (lcells gs)[i * 3 + 2]? = some (.int .i64 x.b.length) := by
  induction gs generalizing i with
  | nil => simp at h
  | cons a gs ih =>
    have e : lcells (a :: gs) = [.int .u64 a.id, .int .i64 a.suf, .int .i64 a.b.length] ++ lcells gs := by simp [lcells]
    rw [e]
    cases i with
    | zero =>
      simp at h; subst h
      exact ⟨rfl, rfl, rfl⟩
    | succ i =>
      have := ih i (by simpa using h)
      refine ⟨?_, ?_, ?_⟩
      · rw [show (i + 1) * 3 = i * 3 + 1 + 1 + 1 from by omega]; simpa using this.1
      · rw [show (i + 1) * 3 + 1 = (i * 3 + 1) + 1 + 1 + 1 from by omega]; simpa using this.2.1
      · rw [show (i + 1) * 3 + 2 = (i * 3 + 2) + 1 + 1 + 1 from by omega]; simpa using this.2.2
set_option maxRecDepth 100000 in
set_option maxHeartbeats 800000 in
theorem gens_same (gs : List Gn) (v1 v2 : Value) (w : World) (h1 : Row w 45 3 v1 gs.length (lcells gs)) (h2 : Row w 45 3 v2 gs.length (lcells gs)) (hl : gs.length ≤ 1000000) :
    Calls Try.prog 17 #[v1, v2] w fun e w' => e = .returned (.bool true) ∧ Below w.heap.size w w' := by
  obtain ⟨a1, c1, rfl, -⟩ := h1.form
  obtain ⟨a2, c2, rfl, -⟩ := h2.form
  go_enter Try.func17, Try.ntmps17
  go_wp2_with fail
  go_loopw [5] (fun i wr => ∃ k : Nat, k ≤ gs.length ∧ i = .int .i64 k ∧ Below w.heap.size w wr) (fun i _ => gs.length - (intOf i).toNat)
  case atStart => exact ⟨0, Nat.zero_le _, rfl, Below.refl _ _⟩
  case round =>
    obtain ⟨k, hk, rfl, hB⟩ := hrel
    by_cases hlt : k < gs.length
    · as_aux_lemma =>
      obtain ⟨x, hx⟩ : ∃ x, gs[k]? = some x := ⟨_, List.getElem?_eq_getElem hlt⟩
      obtain ⟨g1, rfl, hg1, hcell1, -⟩ := h1.view (by omega)
      obtain ⟨g2, rfl, hg2, hcell2, -⟩ := h2.view (by omega)
      obtain ⟨d0, d1, d2⟩ := lcells_at gs k x hx
      have e0 := ((hB.cell (p := ⟨g1, k * 3, none⟩) hg1).trans (hcell1 (k * 3) (by omega))).trans d0
      have e1 := ((hB.cell (p := ⟨g1, k * 3 + 1, none⟩) hg1).trans (hcell1 (k * 3 + 1) (by omega))).trans d1
      have e2 := ((hB.cell (p := ⟨g1, k * 3 + 2, none⟩) hg1).trans (hcell1 (k * 3 + 2) (by omega))).trans d2
      have f0 := ((hB.cell (p := ⟨g2, k * 3, none⟩) hg2).trans (hcell2 (k * 3) (by omega))).trans d0
      have f1 := ((hB.cell (p := ⟨g2, k * 3 + 1, none⟩) hg2).trans (hcell2 (k * 3 + 1) (by omega))).trans d1
      have f2 := ((hB.cell (p := ⟨g2, k * 3 + 2, none⟩) hg2).trans (hcell2 (k * 3 + 2) (by omega))).trans d2
      have HB := Lib.hid hB
      clear d0 d1 d2 hcell1 hcell2 hx hB
      go_wp2_with fail
      go_quiet (fail)
      go_wp2_with fail
      go_roundw
      case rel => exact ⟨k + 1, by omega, by go_num, ⟨HB.out.os, HB.out.tape, HB.out.output, HB.out.size, HB.out.block⟩⟩
      case measure => simp [intOf]; omega
    · as_aux_lemma =>
      go_wp2_with fail
      go_ret
      exact ⟨rfl, hB⟩
end Go.Proofs.Ytakdcankhfeobaa
