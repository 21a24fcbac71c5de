/- The walk of tailraceref23.Family's List. No condition. -/
import Derived.Test.YtakdcankhfeobaaRFind
import Derived.Deep.RegionHeld3
namespace Go.Proofs.Ytakdcankhfeobaa
open Go.ChangeShapes Go.WideShapes Go.ChangeAt Go.RowKit

theorem below_drew {B : Nat} {a w : World} (h : Below B a w) : Below B a w.drew := ⟨h.os, h.tape, h.output, h.size, h.block⟩
set_option maxRecDepth 100000 in
set_option maxHeartbeats 800000 in
theorem list_r (p : Nat) (v : Value) (gs : List Gn) (vs : List Value) (latest : Int) (w : World) (hF : FamAt 37 69 w p v gs vs latest) (hl : gs.length ≤ 1000000) :
    Calls Try.prog 19 #[.pointer (some ⟨p, 0, none⟩)] w fun e w' => NewRow w w' e 45 3 gs.length (lcells gs) := by
  obtain ⟨z0, -, -, -⟩ := hF.cells
  obtain ⟨a, cap, rfl, hnc, hml, _⟩ := hF.row.form
  obtain ⟨i0, hi0, hz0, hz1, hz2⟩ := info_parts info45
  have hpl : p < w.heap.size := heap_lt hF.head
  unfold maxLen at hml
  go_enter Try.func19, Try.ntmps19
  go_wp2
  go_loopw [3, 4] (fun o i wr => ∃ k : Nat, k ≤ gs.length ∧ i = .int .i64 k ∧ Below w.heap.size w wr ∧ Row wr 45 3 o k (lcells (gs.take k)) ∧ ∀ b, o.ownBlock = some b → w.heap.size ≤ b) (fun _ i _ => gs.length - (intOf i).toNat)
  case atStart => exact ⟨0, Nat.zero_le _, rfl, Below.refl _ _, Row.nil _ _ _, by intro b hb; simp [Value.ownBlock] at hb⟩
  case round =>
    obtain ⟨k, hk, rfl, hB, ho, hfresh⟩ := hrel
    have c0 := (hB.cell (p := ⟨p, 0, none⟩) hpl).trans z0
    by_cases hlt : k < gs.length
    · as_aux_lemma =>
      obtain ⟨x, hx⟩ : ∃ x, gs[k]? = some x := ⟨_, List.getElem?_eq_getElem hlt⟩
      obtain ⟨u, hu⟩ : ∃ u, vs[k]? = some u := ⟨_, List.getElem?_eq_getElem (by rw [hF.len]; exact hlt)⟩
      obtain ⟨g, rfl, hgl, hcell, -⟩ := hF.row.view (by omega)
      obtain ⟨ak, ck, rfl, -, hbl, -⟩ := (hF.inner k x u hx hu).form
      obtain ⟨d0, d1, d2⟩ := gcells_at gs vs k x _ hx hu
      have e0 := ((hB.cell (p := ⟨g, k * 3, none⟩) hgl).trans (hcell (k * 3) (by omega))).trans d0
      have e1 := ((hB.cell (p := ⟨g, k * 3 + 1, none⟩) hgl).trans (hcell (k * 3 + 1) (by omega))).trans d1
      have e2 := ((hB.cell (p := ⟨g, k * 3 + 2, none⟩) hgl).trans (hcell (k * 3 + 2) (by omega))).trans d2
      have HS := Lib.hid (lcells_succ gs k x hx)
      unfold maxLen at hbl
      clear d0 d1 d2 hu hx hcell z0
      have HO := Lib.hid ho
      have HB := Lib.hid hB
      have HF := Lib.hid hfresh
      have lp : p < wr.heap.size := by have := hB.size; omega
      have lg : g < wr.heap.size := by have := hB.size; omega
      have hpk : ∀ b, u3.ownBlock = some b → b ≠ p ∧ b ≠ g := fun b hb => by have := hfresh b hb; omega
      clear ho hB hfresh hpk
      go_wp2_with fail
      go_region_held3 (fun w' => w'.cell? ⟨p, 0, none⟩ = some (.slice (some ⟨g, 0, none⟩) gs.length cap) ∧ w'.cell? ⟨g, k * 3, none⟩ = some (.int .u64 x.id) ∧ w'.cell? ⟨g, k * 3 + 1, none⟩ = some (.int .i64 x.suf) ∧ w'.cell? ⟨g, k * 3 + 2, none⟩ = some (.slice ak x.b.length ck))
        (first | go_keep | exact ⟨p1, p2, p3, p4⟩)
        (first
          | (refine step_append_row _ (by rfl) _ _ _ (by rfl) 45 i0 _ 3 24 Try.underlying42 hi0 hz0 hz1 hz2 rfl u3 k _ (by rfl) (HO.out.of_block (fun b hb => Below.heap_alloc wr _ b (HO.out.lt hb))) (.slice (some ⟨wr.heap.size, 0, none⟩) 1 1) 1 [.int .u64 x.id, .int .i64 x.suf, .int .i64 x.b.length] (by rfl) (Src.of_block (cs := #[.int .u64 x.id, .int .i64 x.suf, .int .i64 x.b.length]) (t := 45) (fr := (0, 0)) (heap_alloc_new wr _) 1 1 rfl (by simp [Value.oneCell'])) (by unfold maxLen; omega) (by omega) (wr.heap.size + 1) (by simp) ?_; intro a' cap' w2 hown2 hgrow hat
             have bp : w2.heap[p]? = wr.heap[p]? := (hgrow.block p (by simp; omega) (fun e => by have := HF.out p e.symm; omega)).trans (Below.heap_alloc wr _ p lp)
             have bg : w2.heap[g]? = wr.heap[g]? := (hgrow.block g (by simp; omega) (fun e => by have := HF.out g e.symm; omega)).trans (Below.heap_alloc wr _ g lg)
             have p1 := (World.cell?_of_block (a := ⟨p, 0, none⟩) bp).trans c0
             have p2 := (World.cell?_of_block (a := ⟨g, k * 3, none⟩) bg).trans e0
             have p3 := (World.cell?_of_block (a := ⟨g, k * 3 + 1, none⟩) bg).trans e1
             have p4 := (World.cell?_of_block (a := ⟨g, k * 3 + 2, none⟩) bg).trans e2))
      all_goals
        go_wp2_with fail
        rw [← HS.out] at hown2
        go_roundw
        case rel => exact ⟨k + 1, by omega, by go_num, ((HB.out.alloc HB.out.size _).drew).grown hgrow (by have := HB.out.size; simp; omega) HF.out, hown2, by
          intro b hb
          rcases hat b hb with h | h
          · exact HF.out b h
          · have := HB.out.size; omega⟩
        case measure => simp [intOf]; omega
    · as_aux_lemma =>
      obtain rfl : k = gs.length := by omega
      rw [List.take_length] at ho
      go_wp2
      go_ret
      exact ⟨_, rfl, ho, hfresh, hB⟩
end Go.Proofs.Ytakdcankhfeobaa
