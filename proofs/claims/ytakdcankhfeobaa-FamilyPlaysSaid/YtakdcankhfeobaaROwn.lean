/- The contracts of tailraceref23's Family, whole: over a set X of blocks that stay as they are. No condition. -/
import Derived.Test.YtakdcankhfeobaaRAppend
namespace Go.Proofs.Ytakdcankhfeobaa
open Go.ChangeShapes Go.WideShapes Go.ChangeAt Go.RowKit

theorem create_own_r (X : Nat → Prop) (p : Nat) (gs : List Gn) (l C : Int) (w : World) (hF : FamOwn 37 69 X w p gs l) (hG : Good C gs l) (hC : C ≤ 1000000) :
    Calls Try.prog 30 #[.pointer (some ⟨p, 0, none⟩)] w fun e w' => e = .returned (.int .i64 (createM gs l).1) ∧ FamOwn 37 69 X w' p (createM gs l).2.1 (createM gs l).2.2 ∧ Keep X w w' := by
  obtain ⟨hX, v, vs, hA, hf⟩ := hF
  unfold createM
  by_cases h1 : 0 ≤ findSuf gs 0
  · rw [if_pos h1]
    have HFd := Lib.hid (find_r p v gs vs l 0 w hA)
    go_enter Try.func30, Try.ntmps30
    go_wp2_with fail
    refine HFd.out.mono ?_
    rintro e w1 ⟨rfl, rfl⟩
    go_wp2_with fail
    go_ret
    exact ⟨rfl, ⟨hX, v, vs, hA, hf⟩, Mod.refl _ _⟩
  · rw [if_neg h1]
    by_cases h2 : 12 ≤ gs.length
    · rw [if_pos h2]
      have HFd := Lib.hid (find_r p v gs vs l 0 w hA)
      have HA := Lib.hid hA
      obtain ⟨a, cap, rfl, -⟩ := hA.row.form
      obtain ⟨c0, -, -, -⟩ := hA.cells
      go_enter Try.func30, Try.ntmps30
      go_wp2_with fail
      refine HFd.out.mono ?_
      rintro e w1 ⟨rfl, rfl⟩
      go_wp2_with fail
      go_ret
      exact ⟨rfl, ⟨hX, _, vs, HA.out, hf⟩, Mod.refl _ _⟩
    · rw [if_neg h2]
      have := hG.latest
      exact (create_ok_r p v gs vs l w hA h1 (by omega) (by omega) (by omega)).mono fun e w' ⟨he, ho⟩ => ⟨he, FamOwn.out hX hf ho⟩

theorem remove_own_r (X : Nat → Prop) (p : Nat) (gs : List Gn) (l C s : Int) (w : World) (hF : FamOwn 37 69 X w p gs l) (hG : Good C gs l) :
    Calls Try.prog 31 #[.pointer (some ⟨p, 0, none⟩), .int .i64 s] w fun e w' => e = .returned (.int .i64 (removeM gs s).1) ∧ FamOwn 37 69 X w' p (removeM gs s).2 l ∧ Keep X w w' := by
  obtain ⟨hX, v, vs, hA, hf⟩ := hF
  unfold removeM
  by_cases h0 : s ≤ 0
  · rw [if_pos h0]
    go_enter Try.func31, Try.ntmps31
    go_wp2_with fail
    go_ret
    exact ⟨rfl, ⟨hX, v, vs, hA, hf⟩, Mod.refl _ _⟩
  · rw [if_neg h0]
    by_cases h1 : 0 ≤ findSuf gs s
    · rw [if_pos h1]
      obtain ⟨k, x, hk, hlt, hx, _⟩ := findSuf_some gs s h1
      have e : (findSuf gs s).toNat = k := by omega
      rw [e]
      exact (remove_ok_r p v gs vs l s w hA h0 k hk hlt (by have := hG.len; omega)).mono fun e w' ⟨he, ho⟩ => ⟨he, FamOwn.out hX hf ho⟩
    · rw [if_neg h1]
      have HFd := Lib.hid (find_r p v gs vs l s w hA)
      go_enter Try.func31, Try.ntmps31
      go_wp2_with fail
      refine HFd.out.mono ?_
      rintro e w1 ⟨rfl, rfl⟩
      go_wp2_with fail
      go_ret
      exact ⟨rfl, ⟨hX, v, vs, hA, hf⟩, Mod.refl _ _⟩

theorem append_own_r (X : Nat → Prop) (p : Nat) (gs : List Gn) (l C : Int) (w : World) (hF : FamOwn 37 69 X w p gs l) (hG : Good C gs l) (hC : C ≤ 1000000)
    (ay : Option Addr) (m cy : Nat) (bs : List Int) (hsrc : Src w 1 (.slice ay m cy) m (byteCells bs)) (hy : 0 < m → ∀ k, (Value.slice ay m cy).ownBlock = some k → X k) (hbs : ∀ n ∈ bs, 0 ≤ n ∧ n < 256) (hm : m ≤ 140737488355328) :
    Calls Try.prog 32 #[.pointer (some ⟨p, 0, none⟩), .slice ay m cy] w fun e w' => e = .returned (.int .i64 (appendM gs l bs).1) ∧ FamOwn 37 69 X w' p (appendM gs l bs).2.1 (appendM gs l bs).2.2 ∧ Keep X w w' := by
  obtain ⟨hX, v, vs, hA, hf⟩ := hF
  have hml : bs.length = m := by
    have := hsrc.1; rw [byteCells_len] at this; omega
  have hy' : 0 < m → ∀ k, (Value.slice ay m cy).ownBlock = some k → ¬ foot p v vs k := fun hm k hk hk2 => hf k hk2 (hy hm k hk)
  have hlt := hG.latest
  have hln := hG.len
  by_cases h1 : 0 ≤ findSuf gs 0
  · obtain ⟨k, x, hk, hlt, hx, _⟩ := findSuf_some gs 0 h1
    have e : (findSuf gs 0).toNat = k := by omega
    have hxg := hG.each x (List.mem_of_getElem? hx)
    by_cases h2 : 65536 < bs.length + x.b.length
    · have hM : appendM gs l bs = (2, gs, l) := by
        unfold appendM
        rw [if_pos h1, e, hx]
        simp only
        rw [if_pos h2]
      rw [hM]
      exact (append_big2_r p v gs vs l w hA k x hk hx (by omega) ay m cy hxg.1 (by omega) (by omega)).mono fun e w' ⟨he, hB⟩ => ⟨he, hB ▸ ⟨hX, v, vs, hA, hf⟩, hB ▸ Mod.refl _ _⟩
    · have hM : (appendM gs l bs).1 = 0 := by
        unfold appendM
        rw [if_pos h1, e, hx]
        simp only
        rw [if_neg h2]
      rw [hM]
      exact (append_yes_r p v gs vs l w hA hln ay m cy bs hsrc hy' hbs (by omega) (by omega) (by omega) (.inl ⟨k, x, hk, hx, by omega⟩)).mono fun e w' ⟨he, ho⟩ => ⟨he, FamOwn.out hX hf ho⟩
  · by_cases h2 : 12 ≤ gs.length
    · have hM : appendM gs l bs = (2, gs, l) := by unfold appendM; rw [if_neg h1, if_pos h2]
      rw [hM]
      exact (append_full_r p v gs vs l w hA h1 h2 ay m cy).mono fun e w' ⟨he, hB⟩ => ⟨he, hB ▸ ⟨hX, v, vs, hA, hf⟩, hB ▸ Mod.refl _ _⟩
    · by_cases h3 : 65536 < bs.length
      · have hM : appendM gs l bs = (2, gs, l) := by unfold appendM; rw [if_neg h1, if_neg h2, if_pos h3]
        rw [hM]
        exact (append_big_r p v gs vs l w hA h1 (by omega) ay m cy (by omega) hm).mono fun e w' ⟨he, hB⟩ => ⟨he, hB ▸ ⟨hX, v, vs, hA, hf⟩, hB ▸ Mod.refl _ _⟩
      · have hM : (appendM gs l bs).1 = 0 := by unfold appendM; rw [if_neg h1, if_neg h2, if_neg h3]
        rw [hM]
        exact (append_yes_r p v gs vs l w hA hln ay m cy bs hsrc hy' hbs (by omega) (by omega) (by omega) (.inr ⟨h1, by omega⟩)).mono fun e w' ⟨he, ho⟩ => ⟨he, FamOwn.out hX hf ho⟩

theorem list_own_r (X : Nat → Prop) (p : Nat) (gs : List Gn) (l C : Int) (w : World) (hF : FamOwn 37 69 X w p gs l) (hG : Good C gs l) :
    Calls Try.prog 19 #[.pointer (some ⟨p, 0, none⟩)] w fun e w' => NewRow w w' e 45 3 gs.length (lcells gs) := by
  obtain ⟨hX, v, vs, hA, hf⟩ := hF
  exact list_r p v gs vs l w hA (by have := hG.len; omega)
theorem read_own_r (X : Nat → Prop) (p : Nat) (gs : List Gn) (l C id from_ n : Int) (w : World) (hF : FamOwn 37 69 X w p gs l) (hG : Good C gs l) :
    Calls Try.prog 20 #[.pointer (some ⟨p, 0, none⟩), .int .u64 id, .int .i64 from_, .int .i64 n] w fun e w' => ReadR w w' e gs id (max from_ 0).toNat (max n 0).toNat := by
  obtain ⟨hX, v, vs, hA, hf⟩ := hF
  exact read_r p v gs vs l id from_ n w hA (by have := hG.len; omega) (fun g hg => by have := hG.each g hg; omega)
end Go.Proofs.Ytakdcankhfeobaa
