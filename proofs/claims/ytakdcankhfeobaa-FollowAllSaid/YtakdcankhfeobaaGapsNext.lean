/- What follow.Next tells a reader, in the words of the two theorems of chapter 24. No condition. -/
import Derived.Test.YtakdcankhfeobaaNext
import Derived.Test.YtakdcankhfeobaaFollowInv
namespace Go.Proofs.Ytakdcankhfeobaa
open Go.ChangeShapes Go.WideShapes Go.ChangeAt Go.RowKit

def GapOut (w w' : World) (e : Ending) (C : Int) (gs : List Gn) (l lst : Int) (hv : Int → List Int) (told : Nat → List Int) (id : Nat) : Prop :=
  ∃ (a : Option Addr) (n c : Nat) (x : List Int) (id2 p2 : Nat) (gap : Bool), e = .returned (.tuple #[.slice a n c, .complex .f64 (fl id2) (fl p2), .bool gap]) ∧ x.length = n ∧ Src w' 1 (.slice a n c) n (byteCells x) ∧ Below w.heap.size w w' ∧
    id ≤ id2 ∧ (id2 : Int) ≤ l ∧ gap = (decide (0 < id) && !gs.any (fun g => decide (g.id = id)) && decide (id < id2)) ∧ (0 < n → (told id2 ++ x).length = p2) ∧ (told id2).length + n ≤ 65536 ∧
    GInv C gs l lst hv (fun k => if k = id2 then told k ++ x else told k) id2 p2

theorem next_gaps (X : Nat → Prop) (p : Nat) (gs : List Gn) (l lst C : Int) (w : World) (hF : FamOwn 64 67 X w p gs l) (hC : C ≤ 1000000) (hv : Int → List Int) (told : Nat → List Int) (id pl : Nat) (h : GInv C gs l lst hv told id pl) (m : Nat) :
    Calls Try.prog 24 #[.pointer (some ⟨p, 0, none⟩), .complex .f64 (fl id) (fl pl), .int .i64 m] w fun e w' => GapOut w w' e C gs l lst hv told id := by
  have hl := h.fam.good.latest
  have hid := h.idl
  have hsm := h.small
  refine (next_own X p gs l C w hF h.fam.good h.fam.ids (fun g hg => by have := h.fam.idl g hg; omega) id pl (by omega) (by omega) m).mono fun e w' hn => ?_
  unfold NextOut at hn
  rcases h.poll with ⟨hs, hlt⟩ | ⟨z, q, gap, hs, hm, hq, hz1, hz2, hidz, hgap, hall⟩
  · rw [hs] at hn
    obtain ⟨rfl, hB⟩ := hn
    have ht : (fun k => if k = id then told k ++ [] else told k) = told := by
      funext k; split <;> simp
    refine ⟨none, 0, 0, [], id, pl, false, rfl, rfl, ⟨rfl, by simp [byteCells], .inl ⟨rfl, rfl⟩⟩, hB, Nat.le_refl _, hid, ?_, by omega, ?_, by rw [ht]; exact h⟩
    · simp
    · rw [h.here.1, List.length_take]; omega
  · rw [hs] at hn
    simp only at hn
    obtain ⟨v, rfl, R, -, hB⟩ := hn
    obtain ⟨a, c, rfl, -⟩ := R.form
    rw [show (max (m : Int) 0).toNat = m by omega] at *
    obtain ⟨h1, h2⟩ := hall m
    have hzn : ((z.id.toNat : Nat) : Int) = z.id := by omega
    refine ⟨a, _, c, cutB z.b q m, z.id.toNat, q + (cutB z.b q m).length, gap, rfl, rfl, Src.of_row R (byteCells_one _), hB, by omega, by omega, ?_, fun _ => h1, ?_, h2⟩
    · rw [hgap]
      congr 1
      rw [decide_eq_decide]; omega
    · have := h2.small
      rw [List.length_append] at h1; omega

def AllOut (w w' : World) (e : Ending) (C : Int) (gs : List Gn) (l : Int) (all got : List Int) (id pl m : Nat) : Prop :=
  ∃ (a : Option Addr) (n c : Nat) (x : List Int) (id2 p2 : Nat), e = .returned (.tuple #[.slice a n c, .complex .f64 (fl id2) (fl p2), .bool false]) ∧ x.length = n ∧ n ≤ m ∧ Src w' 1 (.slice a n c) n (byteCells x) ∧ Below w.heap.size w w' ∧
    id2 ≤ 1099511627776 ∧ p2 ≤ 1099511627776 ∧ (id < id2 ∨ id = id2 ∧ pl ≤ p2) ∧ AInv C gs l all (got ++ x) id2 p2 ∧ (m = 11 → got.length < all.length → polls id2 p2 gs < polls id pl gs)

theorem AInv.small {C : Int} {gs : List Gn} {l : Int} {all got : List Int} {id p : Nat} (h : AInv C gs l all got id p) : (id : Int) ≤ C ∧ p ≤ 65536 := by
  have h1 := h.idl
  have h2 := h.good.latest
  refine ⟨by omega, ?_⟩
  rcases h.mark with ⟨_, rfl⟩ | ⟨g, hg, _, hp⟩
  · omega
  · have := (h.good.each g hg).1; omega

theorem next_all (X : Nat → Prop) (p : Nat) (gs : List Gn) (l C : Int) (w : World) (hF : FamOwn 64 67 X w p gs l) (hC : C ≤ 1000000) (all got : List Int) (id pl : Nat) (h : AInv C gs l all got id pl) (m : Nat) :
    Calls Try.prog 24 #[.pointer (some ⟨p, 0, none⟩), .complex .f64 (fl id) (fl pl), .int .i64 m] w fun e w' => AllOut w w' e C gs l all got id pl m := by
  obtain ⟨hv, hk⟩ := h.fam
  have hl := hk.good.latest
  have hsm := h.small
  refine (next_own X p gs l C w hF hk.good hk.ids (fun g hg => by have := hk.idl g hg; omega) id pl (by omega) (by omega) m).mono fun e w' hn => ?_
  unfold NextOut at hn
  rcases h.poll with ⟨hs, rfl⟩ | ⟨z, q, hs, hm, hq, hz1, hz2, hor, hall⟩
  · rw [hs] at hn
    obtain ⟨rfl, hB⟩ := hn
    refine ⟨none, 0, 0, [], id, pl, rfl, rfl, Nat.zero_le _, ⟨rfl, by simp [byteCells], .inl ⟨rfl, rfl⟩⟩, hB, by omega, by omega, .inr ⟨rfl, Nat.le_refl _⟩, by rw [List.append_nil]; exact h, fun _ hlt => ?_⟩
    have := h.sum
    simp only [rest, List.append_nil] at this
    rw [this] at hlt; omega
  · rw [hs] at hn
    simp only at hn
    obtain ⟨v, rfl, R, -, hB⟩ := hn
    obtain ⟨a, c, rfl, -⟩ := R.form
    rw [show (max (m : Int) 0).toNat = m by omega] at *
    obtain ⟨h1, h2⟩ := hall m
    have h3 := h1.small
    have hcl := cutB_len z.b q m
    refine ⟨a, _, c, cutB z.b q m, z.id.toNat, q + (cutB z.b q m).length, rfl, rfl, by omega, Src.of_row R (byteCells_one _), hB, by omega, by omega, ?_, h1, h2⟩
    rcases hor with ⟨e1, e2⟩ | e1
    · right; omega
    · left; omega
end Go.Proofs.Ytakdcankhfeobaa
