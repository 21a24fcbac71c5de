/- The walk of (*family.Family).Read. No condition. -/
import Derived.Test.YtakdcankhfeobaaList
namespace Go.Proofs.Ytakdcankhfeobaa
open Go.ChangeShapes Go.WideShapes Go.ChangeAt Go.RowKit

theorem info5 : (Try.prog.info? 5).map (fun i => (i.zero, i.size, i.bytes)) = some (some (.int .u8 0), 1, 1) := by kernel_rfl

def maxI (a b : Int) : Int := if b > a then b else a
def minI (a b : Int) : Int := if b < a then b else a
theorem run_maxI (ts : Array TypeId) (t : TypeId) (x y : Int) (w : World) : (Builtin.max_ ts t #[.int .i64 x, .int .i64 y]).run Try.prog w = .ok (.int .i64 (maxI x y)) w := run_max_int2 w ts t .i64 .i64 x y
theorem run_minI (ts : Array TypeId) (t : TypeId) (x y : Int) (w : World) : (Builtin.min_ ts t #[.int .i64 x, .int .i64 y]).run Try.prog w = .ok (.int .i64 (minI x y)) w := run_min_int2 w ts t .i64 .i64 x y


theorem maxI_nat (x : Int) : maxI x 0 = ((max x 0).toNat : Int) := by unfold maxI; split <;> omega
theorem minI_nat (a b : Nat) : minI (a : Int) (b : Int) = ((min a b : Nat) : Int) := by unfold minI; split <;> omega

/-- what Read gives of a generation -/
def cutB (b : List Int) (f m : Nat) : List Int := (b.drop f).take m
theorem cutB_len (b : List Int) (f m : Nat) : (cutB b f m).length = min m (b.length - min f b.length) := by simp [cutB]; omega
theorem cutB_cells (b : List Int) (f m : Nat) : byteCells (cutB b f m) = ((byteCells b).drop (min f b.length * 1)).take (min m (b.length - min f b.length) * 1) := by
  simp only [byteCells, cutB, Nat.mul_one, List.map_take, List.map_drop]
  by_cases h : f ≤ b.length
  · rw [Nat.min_eq_left h]
    by_cases h2 : m ≤ b.length - f
    · rw [Nat.min_eq_left h2]
    · rw [Nat.min_eq_right (by omega), List.take_of_length_le (by simp; omega), List.take_of_length_le (by simp)]
  · rw [Nat.min_eq_right (show b.length ≤ f by omega), List.drop_of_length_le (by simp; omega), List.drop_of_length_le (by simp)]
    simp
/-- Read's answer: bytes of its own, and true -/
def ReadYes (w w' : World) (e : Ending) (b : List Int) : Prop :=
  ∃ v, e = .returned (.tuple #[v, .bool true]) ∧ Row w' 5 1 v b.length (byteCells b) ∧ (∀ k, v.ownBlock = some k → w.heap.size ≤ k) ∧ Below w.heap.size w w'

set_option maxHeartbeats 400000 in
theorem read_yes (p : Nat) (v : Value) (gs : List Gn) (vs : List Value) (latest id from_ n : Int) (w : World) (hF : FamAt 64 67 w p v gs vs latest) (hl : gs.length ≤ 1000000) (hbig : ∀ g ∈ gs, g.b.length ≤ 70368744177664)
    (k0 : Nat) (x0 : Gn) (hk0 : gs[k0]? = some x0) (hid : x0.id = id) (hbef : ∀ j, j < k0 → ∀ g, gs[j]? = some g → g.id ≠ id) :
    Calls Try.prog 13 #[.pointer (some ⟨p, 0, none⟩), .int .u64 id, .int .i64 from_, .int .i64 n] w fun e w' => ReadYes w w' e (cutB x0.b (max from_ 0).toNat (max n 0).toNat) := by
  obtain ⟨f, hf⟩ : ∃ f : Nat, (max from_ 0).toNat = f := ⟨_, rfl⟩
  obtain ⟨m, hm⟩ : ∃ f : Nat, (max n 0).toNat = f := ⟨_, rfl⟩
  have hf' := maxI_nat from_
  have hm' := maxI_nat n
  rw [hf] at hf' ⊢
  rw [hm] at hm' ⊢
  obtain ⟨c0, -, -, -⟩ := hF.cells
  obtain ⟨a, cap, rfl, hnc, hml, _⟩ := hF.row.form
  obtain ⟨i0, hi0, hz0, hz1, hz2⟩ := info_parts info5
  unfold maxLen at hml
  have hmx := run_maxI
  have hmn := run_minI
  have hlt0 : k0 < gs.length := (List.getElem?_eq_some_iff.1 hk0).1
  have HX := Lib.hid hk0
  have HI := Lib.hid hid
  have HBef := Lib.hid hbef
  have HBig := Lib.hid (hbig x0 (List.mem_of_getElem? hk0))
  clear hk0 hid hbef hf hm hbig
  go_enter Try.func13, Try.ntmps13
  go_wp2
  go_loopw [11, 22] (fun _ i wr => ∃ k : Nat, k ≤ k0 ∧ i = .int .i64 k ∧ Below w.heap.size w wr) (fun _ i _ => gs.length - (intOf i).toNat)
  case atStart => exact ⟨0, Nat.zero_le _, rfl, Below.refl _ _⟩
  case round =>
    obtain ⟨k, hk, rfl, hB⟩ := hrel
    clear hmx
    obtain ⟨x, hx⟩ : ∃ x, gs[k]? = some x := ⟨_, List.getElem?_eq_getElem (by omega)⟩
    obtain ⟨u, hu⟩ : ∃ u, vs[k]? = some u := ⟨_, List.getElem?_eq_getElem (by rw [hF.len]; omega)⟩
    obtain ⟨g, rfl, hgl, hcell, -⟩ := hF.row.view (by omega)
    have hin := hF.inner k x u hx hu
    obtain ⟨ak, ck, rfl, hck, hbl, -⟩ := hin.form
    obtain ⟨d0, d1, d2⟩ := gcells_at gs vs k x _ hx hu
    have e0 := ((hB.cell (p := ⟨g, k * 3, none⟩) hgl).trans (hcell (k * 3) (by omega))).trans d0
    have e1 := ((hB.cell (p := ⟨g, k * 3 + 1, none⟩) hgl).trans (hcell (k * 3 + 1) (by omega))).trans d1
    have e2 := ((hB.cell (p := ⟨g, k * 3 + 2, none⟩) hgl).trans (hcell (k * 3 + 2) (by omega))).trans d2
    unfold maxLen at hbl
    clear d0 d1 d2 hu hcell
    by_cases hkk : k = k0
    · subst hkk
      obtain rfl : x = x0 := by have := HX.out; rw [hx] at this; exact Option.some.inj this
      have ht : (x.id == id) = true := by simpa using HI.out
      have hd := minI_nat f x.b.length
      have hd2 := minI_nat m (x.b.length - min f x.b.length)
      have hsl := fun w => run_slice_from (P := Try.prog) w 27 5 i0 Try.underlying27 hi0 1 hz1 ak x.b.length ck (min f x.b.length) (Nat.min_le_right _ _) .i64
      have hst := fun w => run_slice_to (P := Try.prog) w 27 5 i0 Try.underlying27 hi0 (fromAddr ak ck (min f x.b.length) 1) (x.b.length - min f x.b.length) (ck - min f x.b.length) (min m (x.b.length - min f x.b.length)) (by omega) .i64
      have hsrc := ((Src.of_row hin (byteCells_one _)).part (min f x.b.length) (min m (x.b.length - min f x.b.length)) (by omega) hck)
      rw [← cutB_cells, ← cutB_len] at hsrc
      have HL := Lib.hid (cutB_len x.b f m)
      have HB := HBig.out
      have hsrc' := hsrc.below ((hB.alloc hB.size (.cells #[.int .u64 x.id, .int .i64 x.suf, .slice ak x.b.length ck] 67)).alloc (by have := hB.size; simp; omega) (.cells #[] 5))
      rw [HL.out] at hsrc'
      have hdst := Row.lit_at (wr.alloc (.cells #[.int .u64 x.id, .int .i64 x.suf, .slice ak x.b.length ck] 67)) 5 1 #[] 0 (wr.heap.size + 1) (by simp) (by simp [maxLen]) rfl
      have hrl : min m (x.b.length - min f x.b.length) ≤ 70368744177664 := by omega
      clear hx hsrc
      generalize min f x.b.length = d at *
      generalize min m (x.b.length - d) = r at *
      go_wp2_with (at_builtin; refine wpList_append_row _ rfl _ _ 27 rfl 5 i0 _ 1 1 Try.underlying27 hi0 hz0 hz1 hz2 rfl (.slice (some ⟨wr.heap.size + 1, 0, none⟩) 0 0) 0 [] rfl hdst _ _ _ rfl hsrc' (by unfold maxLen; omega) (by omega) (wr.heap.size + 2) (by simp) ?_; intro a' cap' w2 hown2 hgrow hat)
      go_ret2
      refine ⟨_, rfl, ?_, ?_, ?_⟩
      · rw [HL.out]; simpa using hown2
      · intro b hb
        have hs := hB.size
        rcases hat b (by simpa using hb) with h | h
        · simp [Value.ownBlock] at h; omega
        · omega
      · exact ((hB.alloc hB.size _).alloc (by have := hB.size; simp; omega) _).grown hgrow (by have := hB.size; simp; omega) (by intro b hb; have := hB.size; simp [Value.ownBlock] at hb; omega)
    · have ht : (x.id == id) = false := by
        have := HBef.out k (by omega) x hx; simpa using this
      clear hx hmn
      go_wp2
      go_roundw
      case rel => exact ⟨k + 1, by omega, by go_num, hB.alloc hB.size _⟩
      case measure => simp [intOf]; omega

set_option maxHeartbeats 400000 in
theorem read_no (p : Nat) (v : Value) (gs : List Gn) (vs : List Value) (latest id from_ n : Int) (w : World) (hF : FamAt 64 67 w p v gs vs latest) (hl : gs.length ≤ 1000000)
    (hbef : ∀ j, j < gs.length → ∀ g, gs[j]? = some g → g.id ≠ id) :
    Calls Try.prog 13 #[.pointer (some ⟨p, 0, none⟩), .int .u64 id, .int .i64 from_, .int .i64 n] w fun e w' => e = .returned (.tuple #[.slice none 0 0, .bool false]) ∧ Below w.heap.size w w' := by
  obtain ⟨c0, -, -, -⟩ := hF.cells
  obtain ⟨a, cap, rfl, hnc, hml, _⟩ := hF.row.form
  unfold maxLen at hml
  have hmx := run_maxI
  have HBef := Lib.hid hbef
  clear hbef
  go_enter Try.func13, Try.ntmps13
  go_wp2
  go_loopw [11, 22] (fun _ i wr => ∃ k : Nat, k ≤ gs.length ∧ i = .int .i64 k ∧ Below w.heap.size w wr) (fun _ i _ => gs.length - (intOf i).toNat)
  case atStart => exact ⟨0, Nat.zero_le _, rfl, Below.refl _ _⟩
  case round =>
    obtain ⟨k, hk, rfl, hB⟩ := hrel
    clear hmx
    by_cases hlt : k < gs.length
    · obtain ⟨x, hx⟩ : ∃ x, gs[k]? = some x := ⟨_, List.getElem?_eq_getElem hlt⟩
      obtain ⟨u, hu⟩ : ∃ u, vs[k]? = some u := ⟨_, List.getElem?_eq_getElem (by rw [hF.len]; exact hlt)⟩
      obtain ⟨g, rfl, hgl, hcell, -⟩ := hF.row.view (by omega)
      obtain ⟨ak, ck, rfl, -, hbl, -⟩ := (hF.inner k x u hx hu).form
      obtain ⟨d0, d1, d2⟩ := gcells_at gs vs k x _ hx hu
      have e0 := ((hB.cell (p := ⟨g, k * 3, none⟩) hgl).trans (hcell (k * 3) (by omega))).trans d0
      have e1 := ((hB.cell (p := ⟨g, k * 3 + 1, none⟩) hgl).trans (hcell (k * 3 + 1) (by omega))).trans d1
      have e2 := ((hB.cell (p := ⟨g, k * 3 + 2, none⟩) hgl).trans (hcell (k * 3 + 2) (by omega))).trans d2
      unfold maxLen at hbl
      have ht : (x.id == id) = false := by
        have := HBef.out k hlt x hx; simpa using this
      clear d0 d1 d2 hu hcell hx
      go_wp2
      go_roundw
      case rel => exact ⟨k + 1, by omega, by go_num, hB.alloc hB.size _⟩
      case measure => simp [intOf]; omega
    · go_wp2
      go_ret2
      exact ⟨rfl, hB⟩
end Go.Proofs.Ytakdcankhfeobaa
