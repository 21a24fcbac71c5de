/- A plain law of the walk: a scope in which the run jumps back to several labels. After the kit's law for one label. No condition; no program in sight. -/
import Derived.ScopeJumps
import Derived.Deep.LoopGhost
import Derived.Tactics
import Derived.Lib.Hide
namespace Go.Proofs.Ytakdcankhfeobaa
open Go

/-- As Q; by a goto to a label l of L: J l; by any other goto: no way out. -/
def jumps (L : Nat → Prop) (J : Nat → Act → World → Prop) (Q : Exit → Act → World → Prop) : Exit → Act → World → Prop
  | .goto l', a, w => L l' ∧ J l' a w
  | e, a, w => Q e a w

section
variable {P : Program} {a : Act} {w : World} {Q : Exit → Act → World → Prop}

theorem wp_scope_labels {c : Code} (L : Nat → Prop) (rest : Nat → Code) (J : Nat → Act → World → Prop) (μ : Nat → Act → World → Nat) (hf : ∀ l, L l → findLabel c l = some (rest l))
    (first : c.wp P (jumps L J Q) a w)
    (pass : ∀ l, L l → ∀ a w, J l a w → (rest l).wp P (jumps L (fun l' a' w' => J l' a' w' ∧ μ l' a' w' < μ l a w) Q) a w) : (Code.scope c).wp P Q a w := by
  intro b k cs
  have hg : ∀ l, L l → gotoIn l (.inScope c :: k) = some (.code (rest l) :: .inScope c :: k) := fun l hl => by simp [gotoIn, hf l hl]
  have key : ∀ n l a w, L l → μ l a w = n → J l a w → ∃ e a' w', Q e a' w' ∧ Arrives P (lone (b.at a (.code (rest l) :: .inScope c :: k)) cs w) b k cs e a' w' := by
    intro n
    induction n using Nat.strongRecOn with
    | _ n ih =>
      intro l a w hl hn hJ
      obtain ⟨e, a₁, w₁, hq, harr⟩ := pass l hl a w hJ b (.inScope c :: k) cs
      cases e with
      | normal => exact ⟨.normal, a₁, w₁, hq, Steps.trans harr (.one step_inScope)⟩
      | exit id => exact ⟨.exit id, a₁, w₁, hq, fun k' hk => harr k' (by simp [exitTo, hk])⟩
      | goto l' =>
        obtain ⟨hl', hJ', hlt⟩ := hq
        obtain ⟨e₂, a₂, w₂, hq₂, harr₂⟩ := ih _ (by omega) l' a₁ w₁ hl' rfl hJ'
        exact ⟨e₂, a₂, w₂, hq₂, .of_steps (harr _ (hg l' hl')) harr₂⟩
      | ret => exact ⟨_, a₁, w₁, hq, harr⟩
      | panic ch => exact ⟨_, a₁, w₁, hq, harr⟩
      | outgrown => exact ⟨_, a₁, w₁, hq, harr⟩
  obtain ⟨e, a₁, w₁, hq, harr⟩ := first b (.inScope c :: k) cs
  cases e with
  | normal => exact ⟨.normal, a₁, w₁, hq, .head step_scope (Steps.trans harr (.one step_inScope))⟩
  | exit id => exact ⟨.exit id, a₁, w₁, hq, fun k' hk => .head step_scope (harr k' (by simp [exitTo, hk]))⟩
  | goto l' =>
    obtain ⟨hl', hJ'⟩ := hq
    obtain ⟨e₂, a₂, w₂, hq₂, harr₂⟩ := key _ l' a₁ w₁ hl' rfl hJ'
    exact ⟨e₂, a₂, w₂, hq₂, .of_steps (.head step_scope (harr _ (hg l' hl'))) harr₂⟩
  | ret => exact ⟨_, a₁, w₁, hq, .of_steps (.one step_scope) harr⟩
  | panic ch => exact ⟨_, a₁, w₁, hq, .of_steps (.one step_scope) harr⟩
  | outgrown => exact ⟨_, a₁, w₁, hq, .of_steps (.one step_scope) harr⟩

theorem wp_scope_two {c R0 R1 : Code} (I0 I1 : Nat → Act → World → Prop) (h0 : findLabel c 0 = some (.seq .skip R0)) (h1 : findLabel c 1 = some (.seq .skip R1))
    (first : ∀ S : Exit → Act → World → Prop, ∀ R : Code, R = R0 → RowKit.Hid (∀ a w, Q .ret a w → S .ret a w) → RowKit.Hid (∀ n a w, I0 n a w → R.wp P S a w) → c.wp P S a w)
    (p1 : ∀ n a w, I1 n a w → ∀ S : Exit → Act → World → Prop, RowKit.Hid (∀ a w, Q .ret a w → S .ret a w) → RowKit.Hid (∀ n' a' w', n' < n → I1 n' a' w' → S (.goto 1) a' w') → R1.wp P S a w)
    (p0 : ∀ n a w, I0 n a w → ∀ S : Exit → Act → World → Prop, ∀ R : Code, R = R1 → RowKit.Hid (∀ a w, Q .ret a w → S .ret a w) → RowKit.Hid (∀ n' a' w', n' < n → I0 n' a' w' → S (.goto 0) a' w') → RowKit.Hid (∀ a w, I1 n a w → R.wp P S a w) → R0.wp P S a w) : (Code.scope c).wp P Q a w := by
  let S : Nat → Exit → Act → World → Prop := fun n => jumps (fun l => l = 0 ∨ l = 1) (fun l a' w' => ∃ n', n' < n ∧ if l = 0 then I0 n' a' w' else I1 n' a' w') Q
  have q1 : ∀ n a w, I1 n a w → R1.wp P (S n) a w := fun n a w h => p1 n a w h (S n) (Lib.hid fun _ _ h => h) (Lib.hid fun n' a' w' hl hi => ⟨.inr rfl, n', hl, hi⟩)
  have q0 : ∀ n a w, I0 n a w → R0.wp P (S n) a w := fun n a w h => p0 n a w h (S n) _ rfl (Lib.hid fun _ _ h => h) (Lib.hid fun n' a' w' hl hi => ⟨.inl rfl, n', hl, hi⟩) (Lib.hid fun a w h => q1 n a w h)
  refine wp_scope_labels (fun l => l = 0 ∨ l = 1) (fun l => if l = 0 then .seq .skip R0 else .seq .skip R1) (fun l a w => ∃ n, if l = 0 then I0 n a w else I1 n a w) (fun l a w => leastOf (fun n => if l = 0 then I0 n a w else I1 n a w)) ?_ (first _ _ rfl (Lib.hid fun _ _ h => h) (Lib.hid fun n a w h => ?_)) ?_
  · rintro l (rfl | rfl)
    · simpa using h0
    · simpa using h1
  · refine wp_mono (q0 n a w h) fun e a' w' he => ?_
    cases e <;> try exact he
    obtain ⟨hl, n', -, hi⟩ := he
    exact ⟨hl, n', hi⟩
  · intro l hl a w hJ
    have hm := leastOf_spec hJ
    refine wp_mono (Q := S (leastOf (fun n => if l = 0 then I0 n a w else I1 n a w))) ?_ fun e a' w' he => ?_
    · rcases hl with rfl | rfl
      · exact wp_seq (wp_skip (q0 _ _ _ hm.1))
      · exact wp_seq (wp_skip (q1 _ _ _ hm.1))
    · cases e <;> try exact he
      obtain ⟨hl', n', hlt, hi⟩ := he
      exact ⟨hl', ⟨n', hi⟩, Nat.lt_of_le_of_lt ((leastOf_spec ⟨n', hi⟩).2 n' hi) hlt⟩
end

theorem fl_head {l : Nat} {b : Code} : findLabel (.seq (.label l) b) l = some (.seq .skip b) := by simp [findLabel]
theorem fl_right {l : Nat} {a b r : Code} (hn : findLabel a l = none) (h : findLabel b l = some r) : findLabel (.seq a b) l = some r := by simp [findLabel, hn, h]
end Go.Proofs.Ytakdcankhfeobaa
