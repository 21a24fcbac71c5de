/- The plain laws behind FollowAll and FollowGaps: what follow.Next tells of a family's generations. No condition; no program in sight. -/
import Derived.Test.YtakdcankhfeobaaKeepsPlain
namespace Go.Proofs.Ytakdcankhfeobaa

/-- from a generation's end to the next one -/
def hops (p : Nat) : Gn → List Gn → Gn × Nat
  | y, [] => (y, p)
  | y, z :: l => if y.b.length ≤ p then hops 0 z l else (y, p)
/-- where the reading goes on, and is there a gap -/
def seek (id p : Nat) : List Gn → Option ((Gn × Nat) × Bool)
  | [] => none
  | y :: l => if y.id < id then seek id p l else if (id : Int) < y.id then some (hops 0 y l, decide (0 < id)) else some (hops p y l, false)

theorem hops_stop (p : Nat) (y : Gn) (l : List Gn) (h : l = [] ∨ p < y.b.length) : hops p y l = (y, p) := by
  cases l with
  | nil => rfl
  | cons z l =>
    rcases h with h | h
    · cases h
    · simp only [hops]; rw [if_neg (by omega)]

/-- all bytes of some generations -/
def flat (l : List Gn) : List Int := (l.map (·.b)).flatten
/-- what a mark has not read yet -/
def rest (id p : Nat) : List Gn → List Int
  | [] => []
  | y :: l => if y.id < id then rest id p l else if (id : Int) < y.id then flat (y :: l) else y.b.drop p ++ flat l

/-- a generation is read to an end in so many polls -/
def cl (n : Nat) : Nat := (n + 10) / 11
def clAll (l : List Gn) : Nat := (l.map (fun g => cl g.b.length)).sum
def polls (id p : Nat) : List Gn → Nat
  | [] => 0
  | y :: l => if y.id < id then polls id p l else if (id : Int) < y.id then clAll (y :: l) else cl (y.b.length - p) + clAll l

theorem flat_cons (y : Gn) (l : List Gn) : flat (y :: l) = y.b ++ flat l := rfl
theorem clAll_cons (y : Gn) (l : List Gn) : clAll (y :: l) = cl y.b.length + clAll l := rfl

/-- what hops finds: what is left behind it is what was left ahead of it -/
theorem hops_law : ∀ (l : List Gn) (y : Gn) (p : Nat), p ≤ y.b.length → (y :: l).Pairwise (fun a b => a.id < b.id) →
    ∃ z q, hops p y l = (z, q) ∧ z ∈ y :: l ∧ q ≤ z.b.length ∧ (z = y ∧ q = p ∨ y.id < z.id ∧ q = 0 ∧ p = y.b.length) ∧
      ∃ l', y.b.drop p ++ flat l = z.b.drop q ++ flat l' ∧ cl (y.b.length - p) + clAll l = cl (z.b.length - q) + clAll l' ∧ (∀ g ∈ l', z.id < g.id) ∧ (y.b.drop p ++ flat l ≠ [] → q < z.b.length) ∧
        (∃ pre, y :: l = pre ++ z :: l' ∧ ∀ g ∈ pre, g.id < z.id)
  | [], y, p, hp, hpw => ⟨y, p, rfl, by simp, hp, .inl ⟨rfl, rfl⟩, [], rfl, rfl, by simp, by
      intro h; simp [flat] at h; exact h, [], rfl, by simp⟩
  | z :: l, y, p, hp, hpw => by
    obtain ⟨h1, h2⟩ := List.pairwise_cons.1 hpw
    simp only [hops]
    by_cases hle : y.b.length ≤ p
    · rw [if_pos hle]
      obtain ⟨u, q, e, hm, hq, hor, l', hl, hc, hlt, hne, pre, hpre, hpl⟩ := hops_law l z 0 (Nat.zero_le _) h2
      have hyz := h1 z (by simp)
      have hyu := h1 u hm
      refine ⟨u, q, e, List.mem_cons_of_mem _ hm, hq, .inr ⟨hyu, ?_, by omega⟩, l', ?_, ?_, hlt, ?_, y :: pre, by rw [List.cons_append, ← hpre], ?_⟩
      · rcases hor with h | h
        · exact h.2
        · exact h.2.1
      · rw [List.drop_of_length_le hle, List.nil_append, flat_cons]
        rw [List.drop_zero] at hl; exact hl
      · rw [clAll_cons]
        rw [show y.b.length - p = 0 by omega, show cl 0 = 0 from rfl, Nat.zero_add]
        rw [Nat.sub_zero] at hc; exact hc
      · intro h
        apply hne
        rw [List.drop_of_length_le hle, List.nil_append, flat_cons] at h
        rw [List.drop_zero]; exact h
      · intro g hg
        rcases List.mem_cons.1 hg with rfl | hg
        · exact hyu
        · exact hpl g hg
    · rw [if_neg hle]
      exact ⟨y, p, rfl, by simp, hp, .inl ⟨rfl, rfl⟩, z :: l, rfl, rfl, h1, fun _ => by omega, [], rfl, by simp⟩

theorem rest_after (id p : Nat) (z : Gn) (l : List Gn) (hz : z.id = id) : rest id p (z :: l) = z.b.drop p ++ flat l := by
  simp only [rest]; rw [if_neg (by omega), if_neg (by omega)]
theorem polls_after (id p : Nat) (z : Gn) (l : List Gn) (hz : z.id = id) : polls id p (z :: l) = cl (z.b.length - p) + clAll l := by
  simp only [polls]; rw [if_neg (by omega), if_neg (by omega)]
theorem rest_skip (id p : Nat) : ∀ (pre l : List Gn), (∀ g ∈ pre, g.id < id) → rest id p (pre ++ l) = rest id p l
  | [], _, _ => rfl
  | y :: pre, l, h => by
    simp only [List.cons_append, rest]
    rw [if_pos (h y (by simp))]
    exact rest_skip id p pre l (fun g hg => h g (List.mem_cons_of_mem _ hg))
theorem polls_skip (id p : Nat) : ∀ (pre l : List Gn), (∀ g ∈ pre, g.id < id) → polls id p (pre ++ l) = polls id p l
  | [], _, _ => rfl
  | y :: pre, l, h => by
    simp only [List.cons_append, polls]
    rw [if_pos (h y (by simp))]
    exact polls_skip id p pre l (fun g hg => h g (List.mem_cons_of_mem _ hg))
theorem seek_skip (id p : Nat) : ∀ (pre l : List Gn), (∀ g ∈ pre, g.id < id) → seek id p (pre ++ l) = seek id p l
  | [], _, _ => rfl
  | y :: pre, l, h => by
    simp only [List.cons_append, seek]
    rw [if_pos (h y (by simp))]
    exact seek_skip id p pre l (fun g hg => h g (List.mem_cons_of_mem _ hg))

/-- the generations ahead of a mark, and the others -/
theorem split_at (id : Nat) : ∀ (gs : List Gn), gs.Pairwise (fun a b => a.id < b.id) → ∃ pre l, gs = pre ++ l ∧ (∀ g ∈ pre, g.id < id) ∧ ∀ g ∈ l, (id : Int) ≤ g.id
  | [], _ => ⟨[], [], rfl, by simp, by simp⟩
  | y :: gs, h => by
    obtain ⟨h1, h2⟩ := List.pairwise_cons.1 h
    by_cases hy : y.id < id
    · obtain ⟨pre, l, rfl, hp, hl⟩ := split_at id gs h2
      exact ⟨y :: pre, l, rfl, fun g hg => by
        rcases List.mem_cons.1 hg with rfl | hg
        · exact hy
        · exact hp g hg, hl⟩
    · refine ⟨[], y :: gs, rfl, by simp, fun g hg => ?_⟩
      rcases List.mem_cons.1 hg with rfl | hg
      · omega
      · have := h1 g hg; omega

theorem cut_drop (b : List Int) (q m : Nat) : b.drop q = cutB b q m ++ b.drop (q + (cutB b q m).length) := by
  have h := (List.take_append_drop m (b.drop q)).symm
  unfold cutB
  rw [List.drop_drop] at h
  rw [List.length_take, List.length_drop]
  by_cases hm : m ≤ b.length - q
  · rw [Nat.min_eq_left hm]; exact h
  · rw [Nat.min_eq_right (by omega)]
    rw [List.take_of_length_le (by rw [List.length_drop]; omega), List.drop_eq_nil_of_le (show b.length ≤ q + (b.length - q) by omega), List.append_nil]

/-- what Next finds, whatever was removed -/
theorem seek_gap (id p : Nat) (gs : List Gn) (h : gs.Pairwise (fun a b => a.id < b.id)) (hp : ∀ g ∈ gs, g.id = id → p ≤ g.b.length) :
    (seek id p gs = none ∧ ∀ g ∈ gs, g.id < id) ∨
    ∃ z q gap, seek id p gs = some ((z, q), gap) ∧ z ∈ gs ∧ q ≤ z.b.length ∧ (z.id = id ∧ q = p ∨ (id : Int) < z.id ∧ q = 0) ∧ gap = (decide (0 < id) && !gs.any (fun g => decide (g.id = id)) && decide ((id : Int) < z.id)) := by
  obtain ⟨pre, l, rfl, hpre, hl⟩ := split_at id gs h
  rw [seek_skip id p pre l hpre]
  have hany : pre.any (fun g => decide (g.id = id)) = false := by
    rw [List.any_eq_false]; intro g hg; have := hpre g hg; simp; omega
  cases l with
  | nil => exact .inl ⟨rfl, by simpa using hpre⟩
  | cons y l =>
    right
    have hpw := (List.pairwise_append.1 h).2.1
    have hyl := (List.pairwise_cons.1 hpw).1
    have hy := hl y (by simp)
    simp only [seek]
    rw [if_neg (by omega)]
    rw [List.any_append, hany, Bool.false_or, List.any_cons]
    by_cases hlt : (id : Int) < y.id
    · rw [if_pos hlt]
      obtain ⟨z, q, e, hm, hq, hor, -⟩ := hops_law l y 0 (Nat.zero_le _) hpw
      have hz : (id : Int) < z.id := by rcases hor with ⟨rfl, _⟩ | ⟨h1, _⟩ <;> omega
      have hq0 : q = 0 := by rcases hor with ⟨_, h1⟩ | ⟨_, h1, _⟩ <;> exact h1
      refine ⟨z, q, _, by rw [e], List.mem_append_right _ hm, hq, .inr ⟨hz, hq0⟩, ?_⟩
      have hl2 : l.any (fun g => decide (g.id = id)) = false := by
        rw [List.any_eq_false]; intro g hg; have := hyl g hg; simp; omega
      rw [hl2, decide_eq_false (show ¬ y.id = id by omega), decide_eq_true hz]; simp
    · rw [if_neg hlt]
      have hyi : y.id = id := by omega
      obtain ⟨z, q, e, hm, hq, hor, -⟩ := hops_law l y p (hp y (by simp) hyi) hpw
      refine ⟨z, q, _, by rw [e], List.mem_append_right _ hm, hq, ?_, ?_⟩
      · rcases hor with ⟨rfl, h1⟩ | ⟨h1, h2, _⟩
        · exact .inl ⟨hyi, h1⟩
        · exact .inr ⟨by omega, h2⟩
      · rw [decide_eq_true hyi]; simp

theorem cl_cut (b : List Int) (q m : Nat) : cl (b.length - (q + (cutB b q m).length)) ≤ cl (b.length - q) ∧ (m = 11 → q < b.length → cl (b.length - (q + (cutB b q m).length)) < cl (b.length - q)) := by
  rw [cutB_len]; unfold cl; omega

/-- what Next finds where only generations behind the mark are removed -/
theorem seek_all (id p : Nat) (gs : List Gn) (h : gs.Pairwise (fun a b => a.id < b.id)) (h1 : ∀ g ∈ gs, 1 ≤ g.id) (hid : (id = 0 ∧ p = 0) ∨ ∃ g ∈ gs, g.id = id ∧ p ≤ g.b.length) :
    (seek id p gs = none ∧ gs = []) ∨
    ∃ z q, seek id p gs = some ((z, q), false) ∧ z ∈ gs ∧ q ≤ z.b.length ∧ (z.id = id ∧ q = p ∨ (id : Int) < z.id) ∧
      ∀ m, rest id p gs = cutB z.b q m ++ rest z.id.toNat (q + (cutB z.b q m).length) gs ∧
        polls z.id.toNat (q + (cutB z.b q m).length) gs ≤ polls id p gs ∧ (m = 11 → rest id p gs ≠ [] → polls z.id.toNat (q + (cutB z.b q m).length) gs < polls id p gs) := by
  obtain ⟨pre, l, rfl, hpre, hl⟩ := split_at id gs h
  rw [seek_skip id p pre l hpre, rest_skip id p pre l hpre, polls_skip id p pre l hpre]
  cases l with
  | nil =>
    left
    refine ⟨rfl, ?_⟩
    rcases hid with ⟨rfl, _⟩ | ⟨g, hg, hgi, _⟩
    · cases pre with
      | nil => rfl
      | cons y pre => have h2 := hpre y (by simp); have := h1 y (by simp); omega
    · have := hpre g (by simpa using hg); omega
  | cons y l =>
    right
    have hpw := (List.pairwise_append.1 h).2.1
    have hap := (List.pairwise_append.1 h).2.2
    have hyl := (List.pairwise_cons.1 hpw).1
    have hy := hl y (by simp)
    have hy1 := h1 y (by simp)
    -- the reading goes on at place p' of y
    have key : ∀ p', p' ≤ y.b.length → rest id p (y :: l) = y.b.drop p' ++ flat l → polls id p (y :: l) = cl (y.b.length - p') + clAll l →
        ∃ z q, hops p' y l = (z, q) ∧ z ∈ pre ++ y :: l ∧ q ≤ z.b.length ∧ (z = y ∧ q = p' ∨ y.id < z.id) ∧
          ∀ m, rest id p (y :: l) = cutB z.b q m ++ rest z.id.toNat (q + (cutB z.b q m).length) (pre ++ y :: l) ∧
            polls z.id.toNat (q + (cutB z.b q m).length) (pre ++ y :: l) ≤ polls id p (y :: l) ∧ (m = 11 → rest id p (y :: l) ≠ [] → polls z.id.toNat (q + (cutB z.b q m).length) (pre ++ y :: l) < polls id p (y :: l)) := by
      intro p' hp' hr hc
      obtain ⟨z, q, e, hm, hq, hor, l', hfl, hcl, hlt, hne, pre2, hpre2, hpl⟩ := hops_law l y p' hp' hpw
      have hz1 := h1 z (List.mem_append_right _ hm)
      have hzn : ((z.id.toNat : Nat) : Int) = z.id := by omega
      have hall : ∀ g ∈ pre ++ pre2, g.id < (z.id.toNat : Nat) := by
        intro g hg
        rw [hzn]
        rcases List.mem_append.1 hg with hg | hg
        · exact hap g hg z hm
        · exact hpl g hg
      refine ⟨z, q, e, List.mem_append_right _ hm, hq, ?_, fun m => ?_⟩
      · rcases hor with h | ⟨h, _⟩
        · exact .inl h
        · exact .inr h
      · rw [hpre2, ← List.append_assoc, rest_skip _ _ _ _ hall, polls_skip _ _ _ _ hall, rest_after _ _ _ _ hzn.symm, polls_after _ _ _ _ hzn.symm, ← hpre2, hr, hc, hfl, hcl]
        have hcc := cl_cut z.b q m
        refine ⟨?_, by omega, fun h11 hnn => ?_⟩
        · rw [← List.append_assoc, ← cut_drop]
        · have := hcc.2 h11 (hne (by rw [hfl]; exact hnn)); omega
    simp only [seek]
    rw [if_neg (by omega)]
    by_cases hlt : (id : Int) < y.id
    · rw [if_pos hlt]
      have hid0 : id = 0 := by
        rcases hid with ⟨h0, _⟩ | ⟨g, hg, hgi, _⟩
        · exact h0
        · exfalso
          rcases List.mem_append.1 hg with hg | hg
          · have := hpre g hg; omega
          · rcases List.mem_cons.1 hg with rfl | hg
            · omega
            · have := hyl g hg; omega
      obtain ⟨z, q, e, hm, hq, hor, hk⟩ := key 0 (Nat.zero_le _) (by simp only [rest]; rw [if_neg (by omega), if_pos hlt]; rfl) (by simp only [polls]; rw [if_neg (by omega), if_pos hlt]; rfl)
      refine ⟨z, q, by rw [e, hid0]; rfl, hm, hq, .inr ?_, hk⟩
      rcases hor with ⟨rfl, _⟩ | h <;> omega
    · rw [if_neg hlt]
      have hyi : y.id = id := by omega
      have hpy : p ≤ y.b.length := by
        rcases hid with ⟨h0, hp0⟩ | ⟨g, hg, hgi, hgp⟩
        · omega
        · rcases List.mem_append.1 hg with hg | hg
          · have := hpre g hg; omega
          · rcases List.mem_cons.1 hg with rfl | hg
            · exact hgp
            · have := hyl g hg; omega
      obtain ⟨z, q, e, hm, hq, hor, hk⟩ := key p hpy (rest_after _ _ _ _ hyi) (polls_after _ _ _ _ hyi)
      refine ⟨z, q, by rw [e], hm, hq, ?_, hk⟩
      rcases hor with ⟨rfl, h2⟩ | h2
      · exact .inl ⟨hyi, h2⟩
      · exact .inr (by omega)
end Go.Proofs.Ytakdcankhfeobaa
