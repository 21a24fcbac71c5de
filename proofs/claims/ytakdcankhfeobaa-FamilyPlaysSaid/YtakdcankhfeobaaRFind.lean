/- The walks of tailraceref23.Family's find, Rename, List, Read. No condition. -/
import Derived.Test.YtakdcankhfeobaaOwn
import Derived.Deep.RegionHeld3
namespace Go.Proofs.Ytakdcankhfeobaa
open Go.ChangeShapes Go.WideShapes Go.ChangeAt Go.RowKit

theorem find_r (p : Nat) (v : Value) (gs : List Gn) (vs : List Value) (latest s : Int) (w : World) (hF : FamAt 37 69 w p v gs vs latest) :
    Calls Try.prog 35 #[.pointer (some ⟨p, 0, none⟩), .int .i64 s] w fun e w' => e = .returned (.int .i64 (findSuf gs s)) ∧ w = w' := by
  have hp0 : w.cell? ⟨p, 0, none⟩ = some v := by rw [cell_of_row _ _ _ _ _ _ hF.head]; rfl
  obtain ⟨a, cap, rfl, hnc, hml, _⟩ := hF.row.form
  unfold maxLen at hml
  go_enter Try.func35, Try.ntmps35
  go_wp2
  go_loopw [5] (fun i wr => ∃ k : Nat, k ≤ gs.length ∧ i = .int .i64 k ∧ w = wr ∧ ∀ j, j < k → ∀ g, gs[j]? = some g → g.suf ≠ s) (fun i _ => gs.length - (intOf i).toNat)
  case atStart => exact ⟨0, Nat.zero_le _, rfl, rfl, fun j hj => by omega⟩
  case round =>
    obtain ⟨k, hk, rfl, rfl, hbef⟩ := hrel
    by_cases hlt : k < gs.length
    · obtain ⟨g, rfl, -, hcell, -⟩ := hF.row.view (by omega)
      obtain ⟨gk, hgk⟩ : ∃ x, gs[k]? = some x := ⟨_, List.getElem?_eq_getElem hlt⟩
      obtain ⟨vk, hvk⟩ : ∃ x, vs[k]? = some x := ⟨_, List.getElem?_eq_getElem (by rw [hF.len]; exact hlt)⟩
      obtain ⟨-, c1, -⟩ := gcells_at gs vs k gk _ hgk hvk
      have d1 := (hcell (k * 3 + 1) (by omega)).trans c1
      clear c1 hvk
      by_cases hs : gk.suf = s
      · have hfin := findSuf_at gs s k gk hgk hs hbef
        have HF := Lib.hid hfin
        have hb : (gk.suf == s) = true := by simpa using hs
        clear hgk hs hfin hbef
        go_wp2
        go_ret
        exact ⟨by rw [HF.out]; rfl, rfl⟩
      · have hb : (gk.suf == s) = false := by simpa using hs
        have HB : Hid (∀ j, j < k + 1 → ∀ g, gs[j]? = some g → g.suf ≠ s) := by
          intro j hj g' hg'
          by_cases e : j = k
          · subst e; rw [hgk] at hg'; cases hg'; exact hs
          · exact hbef j (by omega) g' hg'
        clear hgk hs hbef
        go_wp2
        go_roundw
        case rel => exact ⟨k + 1, by omega, by go_num, trivial, HB.out⟩
        case measure => simp [intOf]; omega
    · have hk' : k = gs.length := by omega
      have HF : Hid (findSuf gs s = -1) := findSuf_none gs s (fun j hj => hbef j (by omega))
      clear hbef hk'
      go_wp2
      go_ret
      exact ⟨by rw [HF.out]; rfl, rfl⟩

set_option maxHeartbeats 400000 in
theorem rename_r (p : Nat) (v : Value) (gs : List Gn) (vs : List Value) (latest : Int) (w : World) (hF : FamAt 37 69 w p v gs vs latest) (hs : 0 ≤ findSuf gs 0)
    (hsuf : ∀ g ∈ gs, 0 ≤ g.suf ∧ g.suf < 4611686018427387904) :
    Calls Try.prog 29 #[.pointer (some ⟨p, 0, none⟩)] w fun e w' => e = .returned (.int .i64 0) ∧ FamOut 37 69 w w' p v vs (gs.map (fun g => { g with suf := g.suf + 1 })) latest := by
  obtain ⟨a, cap, rfl, hnc, hml, _⟩ := hF.row.form
  unfold maxLen at hml
  go_enter Try.func29, Try.ntmps29
  go_wp2_with fail
  refine (find_r _ _ _ _ _ _ _ hF).mono ?_
  rintro e w1 ⟨rfl, rfl⟩
  obtain ⟨c0, -, -, -⟩ := hF.cells
  go_wp2_with fail
  go_loopw [3] (fun i wr => ∃ k : Nat, k ≤ gs.length ∧ i = .int .i64 k ∧ FamAt 37 69 wr p (.slice a gs.length cap) (bump k gs) vs latest ∧ Mod (foot p (.slice a gs.length cap) vs) w wr) (fun i _ => gs.length - (intOf i).toNat)
  case atStart => exact ⟨0, Nat.zero_le _, rfl, hF, Mod.refl _ _⟩
  case round =>
    obtain ⟨k, hk, rfl, hFk, hM⟩ := hrel
    clear c0
    by_cases hlt : k < gs.length
    · obtain ⟨x, hx⟩ : ∃ x, gs[k]? = some x := ⟨_, List.getElem?_eq_getElem hlt⟩
      obtain ⟨u, hu⟩ : ∃ u, vs[k]? = some u := ⟨_, List.getElem?_eq_getElem (by rw [hF.len]; exact hlt)⟩
      have hxb := hsuf x (List.mem_of_getElem? hx)
      have hxk := bump_at gs k x hx
      have hrow := hFk.row
      rw [bump_len] at hrow
      obtain ⟨g, rfl, -, hcell, hfr⟩ := hrow.view (by omega)
      obtain ⟨c0, -, -, -⟩ := hFk.cells
      obtain ⟨-, d1, -⟩ := gcells_at _ _ k x u hxk hu
      have e1 := (hcell (k * 3 + 1) (by omega)).trans d1
      have f1 := hfr (k * 3 + 1)
      have hnew := hFk.setSuf hxk (x.suf + 1)
      rw [bump_succ gs k x hx] at hnew
      have hM2 := hM.setCell (p := ⟨g, k * 3 + 1, none⟩) (.inr (.inr (.inl rfl))) (.int .i64 (x.suf + 1))
      clear hx hu hxk hcell d1 hfr hrow
      go_wp2
      go_roundw
      case rel => exact ⟨k + 1, by omega, by go_num, hnew, hM2⟩
      case measure => simp [intOf]; omega
    · obtain rfl : k = gs.length := by omega
      rw [bump_all] at hFk
      obtain ⟨c0, -, -, -⟩ := hFk.cells
      go_wp2
      go_ret
      exact ⟨rfl, _, _, hFk, hM, fun _ h => .inl h⟩
theorem rename_own_r (X : Nat → Prop) (p : Nat) (gs : List Gn) (l C : Int) (w : World) (hF : FamOwn 37 69 X w p gs l) (hG : Good C gs l) (hC : C ≤ 1000000) :
    Calls Try.prog 29 #[.pointer (some ⟨p, 0, none⟩)] w fun e w' => e = .returned (.int .i64 (renameM gs).1) ∧ FamOwn 37 69 X w' p (renameM gs).2 l ∧ Keep X w w' := by
  obtain ⟨hX, v, vs, hA, hf⟩ := hF
  unfold renameM
  by_cases h1 : 0 ≤ findSuf gs 0
  · rw [if_pos h1]
    exact (rename_r p v gs vs l w hA h1 (fun g hg => by have := hG.each g hg; omega)).mono fun e w' ⟨he, ho⟩ => ⟨he, FamOwn.out hX hf ho⟩
  · rw [if_neg h1]
    have hfd := find_r p v gs vs l 0 w hA
    go_enter Try.func29, Try.ntmps29
    go_wp2_with fail
    refine hfd.mono ?_
    rintro e w1 ⟨rfl, rfl⟩
    go_wp2_with fail
    go_ret
    exact ⟨rfl, ⟨hX, v, vs, hA, hf⟩, Mod.refl _ _⟩

/-- a part of a slice, both ends told -/
theorem run_slice_both {P : Program} (w : World) (t e : TypeId) (i : TypeInfo) (ht : P.underlying t = some (.slice e)) (hi : P.info? e = some i) (size : Nat) (hs : i.size = size) (a : Option Addr) (len cap lo hh : Nat) (h1 : lo ≤ hh) (h2 : hh ≤ cap) (k : IntKind) :
    (Instr.slice t (.slice a len cap) (some (.int k (lo : Int))) (some (.int k (hh : Int))) none).run P w = .ok (.slice (fromAddr a cap lo size) (hh - lo) (cap - lo)) w := by
  subst hs
  simp [Instr.slice, run_underlying ht, Instr.sliceBounds, Instr.sliceBound, asIntOf, h1, h2, sizeOf, typeInfo, hi, fromAddr]

theorem find_id_at (gs : List Gn) (id : Int) (k : Nat) (g : Gn) (hk : gs[k]? = some g) (hs : g.id = id) (hb : ∀ j, j < k → ∀ g, gs[j]? = some g → g.id ≠ id) : gs.find? (fun g => g.id == id) = some g := by
  rw [List.find?_eq_some_iff_getElem]
  have hlt : k < gs.length := (List.getElem?_eq_some_iff.1 hk).1
  refine ⟨by simpa using hs, k, hlt, (List.getElem?_eq_some_iff.1 hk).2, fun j hj => ?_⟩
  have := hb j hj gs[j] (List.getElem?_eq_getElem (by omega))
  simp [this]
theorem find_id_none (gs : List Gn) (id : Int) (hb : ∀ j, j < gs.length → ∀ g, gs[j]? = some g → g.id ≠ id) : gs.find? (fun g => g.id == id) = none := by
  rw [List.find?_eq_none]
  intro x hx
  obtain ⟨i, hi, rfl⟩ := List.getElem_of_mem hx
  have := hb i hi gs[i] (List.getElem?_eq_getElem hi)
  simp [this]
/-- Read tells a part of what lies there -/
def ReadR (w w' : World) (e : Ending) (gs : List Gn) (id : Int) (f m : Nat) : Prop :=
  w = w' ∧ match gs.find? (fun g => g.id == id) with
  | some x => ∃ a c, e = .returned (.tuple #[.slice a (cutB x.b f m).length c, .bool true]) ∧ Src w 1 (.slice a (cutB x.b f m).length c) (cutB x.b f m).length (byteCells (cutB x.b f m))
  | none => e = .returned (.tuple #[.slice none 0 0, .bool false])
theorem maxI_nat2 (x : Int) : maxI 0 x = ((max x 0).toNat : Int) := by unfold maxI; split <;> omega

set_option maxHeartbeats 800000 in
theorem read_r (p : Nat) (v : Value) (gs : List Gn) (vs : List Value) (latest id from_ n : Int) (w : World) (hF : FamAt 37 69 w p v gs vs latest) (hl : gs.length ≤ 1000000) (hbig : ∀ g ∈ gs, g.b.length ≤ 70368744177664) :
    Calls Try.prog 20 #[.pointer (some ⟨p, 0, none⟩), .int .u64 id, .int .i64 from_, .int .i64 n] w fun e w' => ReadR w w' e gs id (max from_ 0).toNat (max n 0).toNat := by
  obtain ⟨f, hf⟩ : ∃ f : Nat, (max from_ 0).toNat = f := ⟨_, rfl⟩
  obtain ⟨m, hm⟩ : ∃ f : Nat, (max n 0).toNat = f := ⟨_, rfl⟩
  have hf' := maxI_nat2 from_
  have hm' := maxI_nat2 n
  rw [hf] at hf' ⊢
  rw [hm] at hm' ⊢
  obtain ⟨c0, -, -, -⟩ := hF.cells
  obtain ⟨a, cap, rfl, hnc, hml, _⟩ := hF.row.form
  obtain ⟨i0, hi0, hz0, hz1, hz2⟩ := info_parts info5
  unfold maxLen at hml
  have hmx := run_maxI
  have hmn := run_minI
  clear hf hm
  have HBig := Lib.hid hbig
  clear hbig
  go_enter Try.func20, Try.ntmps20
  go_wp2
  go_loopw [2, 10] (fun fr i wr => ∃ k : Nat, k ≤ gs.length ∧ fr = .int .i64 from_ ∧ i = .int .i64 k ∧ w = wr ∧ ∀ j, j < k → ∀ g, gs[j]? = some g → g.id ≠ id) (fun _ i _ => gs.length - (intOf i).toNat)
  case atStart => exact ⟨0, Nat.zero_le _, rfl, rfl, rfl, fun j hj => by omega⟩
  case round =>
    obtain ⟨k, hk, rfl, rfl, rfl, hbef⟩ := hrel
    by_cases hlt : k < gs.length
    · obtain ⟨x, hx⟩ : ∃ x, gs[k]? = some x := ⟨_, List.getElem?_eq_getElem (by omega)⟩
      obtain ⟨u, hu⟩ : ∃ u, vs[k]? = some u := ⟨_, List.getElem?_eq_getElem (by rw [hF.len]; omega)⟩
      obtain ⟨g, rfl, hgl, hcell, -⟩ := hF.row.view (by omega)
      have hin := hF.inner k x u hx hu
      obtain ⟨ak, ck, rfl, hck, hbl, -⟩ := hin.form
      obtain ⟨d0, -, d2⟩ := gcells_at gs vs k x _ hx hu
      have e0 := (hcell (k * 3) (by omega)).trans d0
      have e2 := (hcell (k * 3 + 2) (by omega)).trans d2
      unfold maxLen at hbl
      clear d0 d2 hu hcell
      by_cases hid : x.id = id
      · as_aux_lemma =>
        have HFd := Lib.hid (find_id_at gs id k x hx hid hbef)
        have ht : (x.id == id) = true := by simpa using hid
        have hbb := HBig.out x (List.mem_of_getElem? hx)
        have hd := minI_nat f x.b.length
        have hd2 := minI_nat m (x.b.length - min f x.b.length)
        have hle : min f x.b.length ≤ x.b.length := Nat.min_le_right _ _
        have hle2 : min m (x.b.length - min f x.b.length) ≤ x.b.length - min f x.b.length := Nat.min_le_right _ _
        have hsl := fun w => run_slice_both (P := Try.prog) w 27 5 i0 Try.underlying27 hi0 1 hz1 ak x.b.length ck (min f x.b.length) (min f x.b.length + min m (x.b.length - min f x.b.length)) (by omega) (by omega) .i64
        rw [Nat.add_sub_cancel_left] at hsl
        have hsrc := ((Src.of_row hin (byteCells_one _)).part (min f x.b.length) (min m (x.b.length - min f x.b.length)) (by omega) hck)
        rw [← cutB_cells, ← cutB_len] at hsrc
        rw [← cutB_len] at hsl
        have HS := Lib.hid hsrc
        have HL := Lib.hid (cutB_len x.b f m)
        have hsub : ((x.b.length - min f x.b.length : Nat) : Int) = (x.b.length : Int) - ((min f x.b.length : Nat) : Int) := by omega
        rw [← cutB_len] at hd2 hle2
        rw [hsub] at hd2
        clear hx hid hbef hsrc hin HBig hsub
        generalize hq : cutB x.b f m = q at *
        have HQ := Lib.hid hq
        clear hq
        generalize min f x.b.length = d at *
        generalize hql : q.length = r at *
        push_cast at hsl
        go_wp2_with fail
        go_ret2
        refine ⟨rfl, ?_⟩
        rw [HFd.out]
        simp only [HQ.out, hql]
        exact ⟨_, _, rfl, HS.out⟩
      · as_aux_lemma =>
        have ht : (x.id == id) = false := by simpa using hid
        have HB : Hid (∀ j, j < k + 1 → ∀ g, gs[j]? = some g → g.id ≠ id) := by
          intro j hj g' hg'
          by_cases e : j = k
          · subst e; rw [hx] at hg'; cases hg'; exact hid
          · exact hbef j (by omega) g' hg'
        clear hx hid hbef hmn hmx hin
        go_wp2
        go_roundw
        case rel => exact ⟨k + 1, by omega, rfl, by go_num, trivial, HB.out⟩
        case measure => simp [intOf]; omega
    · as_aux_lemma =>
      have HF : Hid (gs.find? (fun g => g.id == id) = none) := find_id_none gs id (fun j hj => hbef j (by omega))
      clear hbef hmx hmn
      go_wp2
      go_ret2
      refine ⟨rfl, ?_⟩
      rw [HF.out]
      rfl
end Go.Proofs.Ytakdcankhfeobaa
