/- The walk of (*family.Family).List. No condition. -/
import Derived.Test.YtakdcankhfeobaaPlace
import Derived.Outline
namespace Go.Proofs.Ytakdcankhfeobaa
open Go.ChangeShapes Go.WideShapes Go.ChangeAt Go.RowKit

theorem info45 : (Try.prog.info? 45).map (fun i => (i.zero, i.size, i.bytes)) = some (some (.agg #[.int .u64 0, .int .i64 0, .int .i64 0]), 3, 24) := by kernel_rfl

def lcells (gs : List Gn) : List Value := gs.flatMap fun g => [.int .u64 g.id, .int .i64 g.suf, .int .i64 g.b.length]
theorem lcells_succ (gs : List Gn) (k : Nat) (x : Gn) (h : gs[k]? = some x) : lcells (gs.take (k + 1)) = lcells (gs.take k) ++ [.int .u64 x.id, .int .i64 x.suf, .int .i64 x.b.length] := by
  have hlt : k < gs.length := (List.getElem?_eq_some_iff.1 h).1
  have hx : gs[k] = x := (List.getElem?_eq_some_iff.1 h).2
  rw [List.take_succ_eq_append_getElem hlt, hx]
  simp [lcells]

def NewRow (w w' : World) (e : Ending) (E : TypeId) (size n : Nat) (xs : List Value) : Prop :=
  ∃ v, e = .returned v ∧ Row w' E size v n xs ∧ (∀ b, v.ownBlock = some b → w.heap.size ≤ b) ∧ Below w.heap.size w w'

set_option maxHeartbeats 400000 in
theorem list_any (p : Nat) (v : Value) (gs : List Gn) (vs : List Value) (latest : Int) (w : World) (hF : FamAt 64 67 w p v gs vs latest) (hl : gs.length ≤ 1000000) :
    Calls Try.prog 18 #[.pointer (some ⟨p, 0, none⟩)] w fun e w' => NewRow w w' e 45 3 gs.length (lcells gs) := by
  obtain ⟨c0, -, -, -⟩ := hF.cells
  obtain ⟨a, cap, rfl, hnc, hml, _⟩ := hF.row.form
  obtain ⟨i0, hi0, hz0, hz1, hz2⟩ := info_parts info45
  unfold maxLen at hml
  go_enter Try.func18, Try.ntmps18
  go_wp2
  go_loopw [3, 5, 11] (fun o _ i wr => ∃ k : Nat, k ≤ gs.length ∧ i = .int .i64 k ∧ Below w.heap.size w wr ∧ Row wr 45 3 o k (lcells (gs.take k)) ∧ ∀ b, o.ownBlock = some b → w.heap.size ≤ b) (fun _ _ i _ => gs.length - (intOf i).toNat)
  case atStart => exact ⟨0, Nat.zero_le _, rfl, Below.refl _ _, Row.nil _ _ _, by intro b hb; simp [Value.ownBlock] at hb⟩
  case round =>
    obtain ⟨k, hk, rfl, hB, ho, hfresh⟩ := hrel
    by_cases hlt : k < gs.length
    · obtain ⟨x, hx⟩ : ∃ x, gs[k]? = some x := ⟨_, List.getElem?_eq_getElem hlt⟩
      obtain ⟨u, hu⟩ : ∃ u, vs[k]? = some u := ⟨_, List.getElem?_eq_getElem (by rw [hF.len]; exact hlt)⟩
      obtain ⟨g, rfl, hgl, hcell, -⟩ := hF.row.view (by omega)
      obtain ⟨ak, ck, rfl, -, hbl, -⟩ := (hF.inner k x u hx hu).form
      obtain ⟨d0, d1, d2⟩ := gcells_at gs vs k x _ hx hu
      have e0 := ((hB.cell (p := ⟨g, k * 3, none⟩) hgl).trans (hcell (k * 3) (by omega))).trans d0
      have e1 := ((hB.cell (p := ⟨g, k * 3 + 1, none⟩) hgl).trans (hcell (k * 3 + 1) (by omega))).trans d1
      have e2 := ((hB.cell (p := ⟨g, k * 3 + 2, none⟩) hgl).trans (hcell (k * 3 + 2) (by omega))).trans d2
      have HS := Lib.hid (lcells_succ gs k x hx)
      unfold maxLen at hbl
      clear d0 d1 d2 hu hx hcell
      go_wp2_with (at_builtin; refine wpList_append_row _ rfl _ _ 42 rfl 45 i0 _ 3 24 Try.underlying42 hi0 hz0 hz1 hz2 rfl u3 k _ rfl ((ho.of_block (fun b hb => Below.heap_alloc wr _ b (ho.lt hb))).of_block (fun b hb => Below.heap_alloc _ _ b (by have := ho.lt hb; simp; omega))) (.slice (some ⟨wr.heap.size + 1, 0, none⟩) 1 1) 1 [.int .u64 x.id, .int .i64 x.suf, .int .i64 x.b.length] rfl (Src.of_block (cs := #[.int .u64 x.id, .int .i64 x.suf, .int .i64 x.b.length]) (t := 45) (fr := (0, 0)) (heap_alloc2_new wr _ _) 1 1 rfl (by simp [Value.oneCell'])) (by unfold maxLen; omega) (by omega) (wr.heap.size + 2) (by simp) ?_; intro a' cap' w2 hown2 hgrow hat)
      rw [← HS.out] at hown2
      go_roundw
      case rel => exact ⟨k + 1, by omega, by go_num, ((hB.alloc hB.size _).alloc (by have := hB.size; simp; omega) _).grown hgrow (by have := hB.size; simp; omega) hfresh, hown2, by
        intro b hb
        rcases hat b hb with h | h
        · exact hfresh b h
        · have := hB.size; omega⟩
      case measure => simp [intOf]; omega
    · obtain rfl : k = gs.length := by omega
      rw [List.take_length] at ho
      go_wp2
      go_ret
      exact ⟨_, rfl, ho, hfresh, hB⟩
end Go.Proofs.Ytakdcankhfeobaa
