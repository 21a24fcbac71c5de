/- How a family (the program's, the reference's) lies in memory, and what an added generation makes of it. No condition; no program in sight. -/
import Derived.Test.YtakdcankhfeobaaMem
namespace Go.Proofs.Ytakdcankhfeobaa
open Go.RowKit

/-! A FAMILY's GENERATIONS -/
structure Gn where
  id : Int
  suf : Int
  b : List Int

def gcells : List Gn → List Value → List Value
  | g :: gs, v :: vs => .int .u64 g.id :: .int .i64 g.suf :: v :: gcells gs vs
  | _, _ => []


theorem length_gcells : ∀ (gs : List Gn) (vs : List Value), vs.length = gs.length → (gcells gs vs).length = gs.length * 3
  | [], [], _ => rfl
  | [], _ :: _, h => by simp at h
  | _ :: _, [], h => by simp at h
  | g :: gs, v :: vs, h => by
    have := length_gcells gs vs (by simpa using h)
    simp [gcells, this]; omega

theorem gcells_at : ∀ (gs : List Gn) (vs : List Value) (i : Nat) (g : Gn) (v : Value), gs[i]? = some g → vs[i]? = some v →
    (gcells gs vs)[i * 3]? = some (.int .u64 g.id) ∧ (gcells gs vs)[i * 3 + 1]? = some (.int .i64 g.suf) ∧ (gcells gs vs)[i * 3 + 2]? = some v
  | [], _, _, _, _, h, _ => by simp at h
  | _ :: _, [], _, _, _, _, h => by simp at h
  | a :: gs, b :: vs, 0, g, v, h1, h2 => by
    simp at h1 h2; subst h1 h2; exact ⟨rfl, rfl, rfl⟩
  | a :: gs, b :: vs, i + 1, g, v, h1, h2 => by
    have := gcells_at gs vs i g v (by simpa using h1) (by simpa using h2)
    refine ⟨?_, ?_, ?_⟩
    · rw [show (i + 1) * 3 = i * 3 + 1 + 1 + 1 from by omega]; simpa [gcells] using this.1
    · rw [show (i + 1) * 3 + 1 = (i * 3 + 1) + 1 + 1 + 1 from by omega]; simpa [gcells] using this.2.1
    · rw [show (i + 1) * 3 + 2 = (i * 3 + 2) + 1 + 1 + 1 from by omega]; simpa [gcells] using this.2.2

/-- two slices over two blocks -/
def Apart (a b : Value) : Prop := ∀ k, a.ownBlock = some k → b.ownBlock = some k → False

/-- IN w THE FAMILY AT BLOCK p HAS THESE GENERATIONS. Tf, Tg: the types' numbers of the struct and of a generation -/
structure FamAt (Tf Tg : TypeId) (w : World) (p : Nat) (v : Value) (gs : List Gn) (vs : List Value) (latest : Int) : Prop where
  head : w.heap[p]? = some (.cells #[v, .int .u64 latest] Tf (0, 0))
  row : Row w Tg 3 v gs.length (gcells gs vs)
  len : vs.length = gs.length
  inner : ∀ (i : Nat) (g : Gn) (u : Value), gs[i]? = some g → vs[i]? = some u → Row w 5 1 u g.b.length (byteCells g.b)
  apart : vs.Pairwise Apart
  out : ∀ u ∈ vs, Apart u v
  notp : v.ownBlock ≠ some p ∧ ∀ u ∈ vs, u.ownBlock ≠ some p
  bytes : ∀ g ∈ gs, ∀ n ∈ g.b, 0 ≤ n ∧ n < 256

/-- the blocks of a family -/
def foot (p : Nat) (v : Value) (vs : List Value) (k : Nat) : Prop := k = p ∨ v.ownBlock = some k ∨ ∃ u ∈ vs, u.ownBlock = some k


section
variable {Tf Tg : TypeId} {w w' : World} {p : Nat} {v : Value} {gs : List Gn} {vs : List Value} {latest : Int}

theorem FamAt.inner' (h : FamAt Tf Tg w p v gs vs latest) {u : Value} (hu : u ∈ vs) : ∃ g ∈ gs, Row w 5 1 u g.b.length (byteCells g.b) := by
  obtain ⟨i, hi, rfl⟩ := List.getElem_of_mem hu
  have hi' : i < gs.length := by rw [← h.len]; exact hi
  exact ⟨gs[i], List.getElem_mem hi', h.inner i gs[i] vs[i] (List.getElem?_eq_getElem hi') (List.getElem?_eq_getElem hi)⟩

theorem FamAt.lt (h : FamAt Tf Tg w p v gs vs latest) {k : Nat} (hk : foot p v vs k) : k < w.heap.size := by
  rcases hk with rfl | hk | ⟨u, hu, hk⟩
  · exact heap_lt h.head
  · exact h.row.lt hk
  · obtain ⟨g, _, hg⟩ := h.inner' hu
    exact hg.lt hk

theorem FamAt.of_blocks (h : FamAt Tf Tg w p v gs vs latest) (hb : ∀ k, foot p v vs k → w'.heap[k]? = w.heap[k]?) : FamAt Tf Tg w' p v gs vs latest where
  head := by rw [hb p (.inl rfl)]; exact h.head
  row := h.row.of_block (fun k hk => hb k (.inr (.inl hk)))
  len := h.len
  inner := fun i g u hg hu => (h.inner i g u hg hu).of_block (fun k hk => hb k (.inr (.inr ⟨u, List.mem_of_getElem? hu, hk⟩)))
  apart := h.apart
  out := h.out
  notp := h.notp
  bytes := h.bytes

theorem FamAt.below (h : FamAt Tf Tg w p v gs vs latest) (hB : Below w.heap.size w w') : FamAt Tf Tg w' p v gs vs latest :=
  h.of_blocks (fun k hk => hB.block k (h.lt hk))

theorem FamAt.cells (h : FamAt Tf Tg w p v gs vs latest) : w.cell? ⟨p, 0, none⟩ = some v ∧ w.cell? ⟨p, 1, none⟩ = some (.int .u64 latest) ∧ w.frozen? ⟨p, 0, none⟩ = false ∧ w.frozen? ⟨p, 1, none⟩ = false :=
  ⟨by rw [cell_of_row _ _ _ _ _ _ h.head]; rfl, by rw [cell_of_row _ _ _ _ _ _ h.head]; rfl, frozen_of_row _ _ _ _ _ h.head, frozen_of_row _ _ _ _ _ h.head⟩

theorem gcells_snoc : ∀ (gs : List Gn) (vs : List Value) (g : Gn) (u : Value), vs.length = gs.length → gcells (gs ++ [g]) (vs ++ [u]) = gcells gs vs ++ [.int .u64 g.id, .int .i64 g.suf, u]
  | [], [], _, _, _ => rfl
  | [], _ :: _, _, _, h => by simp at h
  | _ :: _, [], _, _, h => by simp at h
  | a :: gs, b :: vs, g, u, h => by
    have := gcells_snoc gs vs g u (by simpa using h)
    simp [gcells, this]

/-- A NEW GENERATION, without bytes -/
theorem FamAt.push (h : FamAt Tf Tg w p v gs vs latest) {v' : Value} {l' i : Int} (hh : w'.heap[p]? = some (.cells #[v', .int .u64 l'] Tf (0, 0)))
    (hr : Row w' Tg 3 v' (gs.length + 1) (gcells gs vs ++ [.int .u64 i, .int .i64 0, .slice none 0 0])) (hb : ∀ k, k < w.heap.size → k ≠ p → v.ownBlock ≠ some k → w'.heap[k]? = w.heap[k]?)
    (hv : ∀ k, v'.ownBlock = some k → v.ownBlock = some k ∨ w.heap.size ≤ k) : FamAt Tf Tg w' p v' (gs ++ [⟨i, 0, []⟩]) (vs ++ [.slice none 0 0]) l' where
  head := hh
  row := by rw [gcells_snoc _ _ _ _ h.len]; simpa using hr
  len := by simp [h.len]
  inner := by
    intro j g u hg hu
    by_cases hj : j < gs.length
    · rw [List.getElem?_append_left hj] at hg
      rw [List.getElem?_append_left (by rw [h.len]; exact hj)] at hu
      refine (h.inner j g u hg hu).of_block (fun k hk => hb k ((h.inner j g u hg hu).lt hk) ?_ ?_)
      · rintro rfl; exact h.notp.2 u (List.mem_of_getElem? hu) hk
      · exact fun e => h.out u (List.mem_of_getElem? hu) k hk e
    · have e : j = gs.length := by
        have := (List.getElem?_eq_some_iff.1 hg).1
        simp at this; omega
      subst e
      rw [List.getElem?_append_right (Nat.le_refl _)] at hg
      rw [List.getElem?_append_right (by rw [h.len]; exact Nat.le_refl _)] at hu
      simp at hg; subst hg
      simp [h.len] at hu; subst hu
      exact Row.nil w' 5 1
  apart := by
    rw [List.pairwise_append]
    refine ⟨h.apart, by simp, ?_⟩
    intro a _ b hb' k _ hk
    simp at hb'; subst hb'; simp [Value.ownBlock] at hk
  out := by
    intro u hu k hk hk'
    rw [List.mem_append] at hu
    rcases hu with hu | hu
    · obtain ⟨g, _, hg⟩ := h.inner' hu
      rcases hv k hk' with e | e
      · exact h.out u hu k hk e
      · have := hg.lt hk; omega
    · simp at hu; subst hu; simp [Value.ownBlock] at hk
  notp := by
    refine ⟨fun e => ?_, fun u hu => ?_⟩
    · rcases hv p e with e | e
      · exact h.notp.1 e
      · have := heap_lt h.head; omega
    · rw [List.mem_append] at hu
      rcases hu with hu | hu
      · exact h.notp.2 u hu
      · simp at hu; subst hu; simp [Value.ownBlock]
  bytes := by
    intro g hg
    rw [List.mem_append] at hg
    rcases hg with hg | hg
    · exact h.bytes g hg
    · simp at hg; subst hg; simp

/-- what a call on a family leaves -/
def FamOut (Tf Tg : TypeId) (w w' : World) (p : Nat) (v : Value) (vs : List Value) (gs' : List Gn) (latest' : Int) : Prop :=
  ∃ v' vs', FamAt Tf Tg w' p v' gs' vs' latest' ∧ Mod (foot p v vs) w w' ∧ ∀ k, foot p v' vs' k → foot p v vs k ∨ w.heap.size ≤ k
theorem FamOut.same (h : FamAt Tf Tg w p v gs vs latest) (hB : Below w.heap.size w w') : FamOut Tf Tg w w' p v vs gs latest :=
  ⟨v, vs, h.below hB, Mod.of_below hB, fun _ hk => .inl hk⟩
end

theorem gcells_set_suf : ∀ (gs : List Gn) (vs : List Value) (k : Nat) (x : Gn) (s : Int), vs.length = gs.length → gs[k]? = some x →
    gcells (gs.set k { x with suf := s }) vs = (gcells gs vs).set (k * 3 + 1) (.int .i64 s)
  | [], _, _, _, _, _, h => by simp at h
  | _ :: _, [], _, _, _, h, _ => by simp at h
  | a :: gs, b :: vs, 0, x, s, _, hx => by simp at hx; subst hx; rfl
  | a :: gs, b :: vs, k + 1, x, s, hl, hx => by
    have := gcells_set_suf gs vs k x s (by simpa using hl) (by simpa using hx)
    rw [show (k + 1) * 3 + 1 = (k * 3 + 1) + 1 + 1 + 1 from by omega]
    simp [gcells, this]

theorem gcells_set_val : ∀ (gs : List Gn) (vs : List Value) (k : Nat) (x : Gn) (b' : List Int) (u : Value), vs.length = gs.length → gs[k]? = some x →
    gcells (gs.set k { x with b := b' }) (vs.set k u) = (gcells gs vs).set (k * 3 + 2) u
  | [], _, _, _, _, _, _, h => by simp at h
  | _ :: _, [], _, _, _, _, h, _ => by simp at h
  | a :: gs, c :: vs, 0, x, b', u, _, hx => by simp at hx; subst hx; rfl
  | a :: gs, c :: vs, k + 1, x, b', u, hl, hx => by
    have := gcells_set_val gs vs k x b' u (by simpa using hl) (by simpa using hx)
    rw [show (k + 1) * 3 + 2 = (k * 3 + 2) + 1 + 1 + 1 from by omega]
    simp [gcells, this]

section
variable {Tf Tg : TypeId} {w : World} {p g n cap : Nat} {gs : List Gn} {vs : List Value} {latest : Int}

/-- a suffix is written -/
theorem FamAt.setSuf (h : FamAt Tf Tg w p (.slice (some ⟨g, 0, none⟩) n cap) gs vs latest) {k : Nat} {x : Gn} (hk : gs[k]? = some x) (s : Int) :
    FamAt Tf Tg (w.setCell ⟨g, k * 3 + 1, none⟩ (.int .i64 s)) p (.slice (some ⟨g, 0, none⟩) n cap) (gs.set k { x with suf := s }) vs latest := by
  have hn : n = gs.length := by
    obtain ⟨a, c, e, _⟩ := h.row.form; simpa using congrArg (fun v => match v with | .slice _ n _ => n | _ => 0) e
  have hpg : p ≠ g := fun e => h.notp.1 (by simp [Value.ownBlock, e])
  have hlt : k < gs.length := (List.getElem?_eq_some_iff.1 hk).1
  refine ⟨?_, ?_, by simpa using h.len, ?_, h.apart, h.out, h.notp, ?_⟩
  · rw [heap_setCell_other _ _ _ _ hpg]; exact h.head
  · rw [gcells_set_suf gs vs k x s h.len hk, List.length_set]
    subst hn
    exact h.row.stored _ _
  · intro i y u hy hu
    obtain ⟨z, hz, hb⟩ : ∃ z : Gn, gs[i]? = some z ∧ y.b = z.b := by
      rw [List.getElem?_set] at hy
      split at hy
      · rename_i e
        subst e
        exact ⟨x, hk, by simp at hy; subst hy; rfl⟩
      · exact ⟨y, hy, rfl⟩
    rw [hb]
    refine (h.inner i z u hz hu).of_block (fun j hj => heap_setCell_other _ _ _ _ ?_)
    show j ≠ g
    rintro rfl
    exact h.out u (List.mem_of_getElem? hu) j hj rfl
  · intro y hy m hm
    rcases List.mem_or_eq_of_mem_set hy with hy | rfl
    · exact h.bytes y hy m hm
    · exact h.bytes x (List.mem_of_getElem? hk) m hm

/-- a generation's bytes are written anew -/
theorem FamAt.setVal {w0 : World} (h : FamAt Tf Tg w0 p (.slice (some ⟨g, 0, none⟩) n cap) gs vs latest) {k : Nat} {x : Gn} {u0 u' : Value} {b' : List Int} (hk : gs[k]? = some x) (hv : vs[k]? = some u0)
    (hb : ∀ j, j < w0.heap.size → u0.ownBlock ≠ some j → w.heap[j]? = w0.heap[j]?) (hu : ∀ j, u'.ownBlock = some j → u0.ownBlock = some j ∨ w0.heap.size ≤ j)
    (hr : Row w 5 1 u' b'.length (byteCells b')) (hby : ∀ m ∈ b', 0 ≤ m ∧ m < 256) :
    FamAt Tf Tg (w.setCell ⟨g, k * 3 + 2, none⟩ u') p (.slice (some ⟨g, 0, none⟩) n cap) (gs.set k { x with b := b' }) (vs.set k u') latest := by
  have hn : n = gs.length := by
    obtain ⟨a, c, e, _⟩ := h.row.form; simpa using congrArg (fun v => match v with | .slice _ n _ => n | _ => 0) e
  have hpg : p ≠ g := fun e => h.notp.1 (by simp [Value.ownBlock, e])
  have hlt : k < gs.length := (List.getElem?_eq_some_iff.1 hk).1
  have hgl : g < w0.heap.size := h.row.lt rfl
  have hpl : p < w0.heap.size := heap_lt h.head
  have hu0 : u0 ∈ vs := List.mem_of_getElem? hv
  have hug : u'.ownBlock ≠ some g := fun e => by
    rcases hu g e with e | e
    · exact h.out u0 hu0 g e rfl
    · omega
  have mem : ∀ u ∈ vs.set k u', u = u' ∨ u ∈ vs := fun u hm => by
    rcases List.mem_or_eq_of_mem_set hm with hm | hm
    · exact .inr hm
    · exact .inl hm
  have ulk : ∀ u ∈ vs, ∀ j, u.ownBlock = some j → j < w0.heap.size := fun u hm j hj => by
    obtain ⟨_, _, hg⟩ := h.inner' hm; exact hg.lt hj
  refine ⟨?_, ?_, by simpa using h.len, ?_, ?_, ?_, ⟨h.notp.1, ?_⟩, ?_⟩
  · rw [heap_setCell_other _ _ _ _ hpg, hb p hpl (h.notp.2 u0 hu0)]; exact h.head
  · rw [gcells_set_val gs vs k x b' u' h.len hk, List.length_set]
    subst hn
    refine Row.stored (h.row.of_block (fun j hj => ?_)) _ _
    simp [Value.ownBlock] at hj; subst hj
    exact hb g hgl (fun e => h.out u0 hu0 g e rfl)
  · intro i y u hy hu1
    rw [List.getElem?_set] at hy hu1
    by_cases e : k = i
    · subst e
      rw [if_pos rfl, if_pos hlt] at hy
      rw [if_pos rfl, if_pos (by rw [h.len]; exact hlt)] at hu1
      simp at hy hu1; subst hy hu1
      refine hr.of_block (fun j hj => heap_setCell_other _ _ _ _ ?_)
      show j ≠ g
      rintro rfl; exact hug hj
    · rw [if_neg e] at hy hu1
      have hin := h.inner i y u hy hu1
      refine hin.of_block (fun j hj => ?_)
      have hjg : j ≠ g := by
        rintro rfl; exact h.out u (List.mem_of_getElem? hu1) j hj rfl
      rw [heap_setCell_other _ _ _ _ (show j ≠ (⟨g, k * 3 + 2, none⟩ : Addr).block from hjg)]
      refine hb j (hin.lt hj) (fun e0 => ?_)
      have hp := List.pairwise_iff_getElem.1 h.apart
      have li : i < vs.length := (List.getElem?_eq_some_iff.1 hu1).1
      have lk : k < vs.length := (List.getElem?_eq_some_iff.1 hv).1
      have ei : vs[i] = u := (List.getElem?_eq_some_iff.1 hu1).2
      have ek : vs[k] = u0 := (List.getElem?_eq_some_iff.1 hv).2
      rcases Nat.lt_or_gt_of_ne e with hlt' | hlt'
      · exact hp k i lk li hlt' j (by rw [ek]; exact e0) (by rw [ei]; exact hj)
      · exact hp i k li lk hlt' j (by rw [ei]; exact hj) (by rw [ek]; exact e0)
  · have hp := List.pairwise_iff_getElem.1 h.apart
    have lk : k < vs.length := (List.getElem?_eq_some_iff.1 hv).1
    have ek : vs[k] = u0 := (List.getElem?_eq_some_iff.1 hv).2
    refine List.pairwise_iff_getElem.2 (fun i j hi hj hij => ?_)
    simp only [List.length_set] at hi hj
    intro b h1 h2
    rw [List.getElem_set] at h1 h2
    split at h1
    · rename_i e1; subst e1
      rw [if_neg (by omega)] at h2
      rcases hu b h1 with e | e
      · exact hp k j lk hj hij b (by rw [ek]; exact e) h2
      · have := ulk _ (List.getElem_mem hj) b h2; omega
    · split at h2
      · rename_i e2; subst e2
        rcases hu b h2 with e | e
        · exact hp i k hi lk hij b h1 (by rw [ek]; exact e)
        · have := ulk _ (List.getElem_mem hi) b h1; omega
      · exact hp i j hi hj hij b h1 h2
  · intro u hm j hj hj2
    rcases mem u hm with rfl | hm
    · simp [Value.ownBlock] at hj2; subst hj2; exact hug hj
    · exact h.out u hm j hj hj2
  · intro u hm
    rcases mem u hm with rfl | hm
    · intro e
      rcases hu p e with e | e
      · exact h.notp.2 u0 hu0 e
      · omega
    · exact h.notp.2 u hm
  · intro y hy m hm
    rcases List.mem_or_eq_of_mem_set hy with hy | rfl
    · exact h.bytes y hy m hm
    · exact hby m hm
end

/-- the first k suffixes raised -/
def bump (k : Nat) (gs : List Gn) : List Gn := (gs.take k).map (fun g => { g with suf := g.suf + 1 }) ++ gs.drop k
theorem bump_zero (gs : List Gn) : bump 0 gs = gs := rfl
theorem bump_len (k : Nat) (gs : List Gn) : (bump k gs).length = gs.length := by simp [bump]; omega
theorem bump_all (gs : List Gn) : bump gs.length gs = gs.map (fun g => { g with suf := g.suf + 1 }) := by simp [bump]
theorem bump_at (gs : List Gn) (k : Nat) (x : Gn) (h : gs[k]? = some x) : (bump k gs)[k]? = some x := by
  have hlt : k < gs.length := (List.getElem?_eq_some_iff.1 h).1
  unfold bump
  rw [List.getElem?_append_right (by simp; omega)]
  simp [List.length_take, Nat.min_eq_left (Nat.le_of_lt hlt), h]
theorem bump_succ (gs : List Gn) (k : Nat) (x : Gn) (h : gs[k]? = some x) : (bump k gs).set k { x with suf := x.suf + 1 } = bump (k + 1) gs := by
  have hlt : k < gs.length := (List.getElem?_eq_some_iff.1 h).1
  have hx : gs[k] = x := (List.getElem?_eq_some_iff.1 h).2
  unfold bump
  rw [List.set_append_right _ _ (by simp; omega)]
  simp only [List.length_map, List.length_take, Nat.min_eq_left (Nat.le_of_lt hlt), Nat.sub_self]
  rw [List.drop_eq_getElem_cons hlt, hx, List.take_succ_eq_append_getElem hlt, hx]
  simp

theorem gcells_append : ∀ (gs : List Gn) (vs : List Value) (gs2 : List Gn) (vs2 : List Value), vs.length = gs.length → gcells (gs ++ gs2) (vs ++ vs2) = gcells gs vs ++ gcells gs2 vs2
  | [], [], _, _, _ => rfl
  | [], _ :: _, _, _, h => by simp at h
  | _ :: _, [], _, _, h => by simp at h
  | a :: gs, b :: vs, gs2, vs2, h => by
    have := gcells_append gs vs gs2 vs2 (by simpa using h)
    simp [gcells, this]
theorem gcells_take (gs : List Gn) (vs : List Value) (k : Nat) (h : vs.length = gs.length) (hk : k ≤ gs.length) : gcells (gs.take k) (vs.take k) = (gcells gs vs).take (k * 3) := by
  have e := gcells_append (gs.take k) (vs.take k) (gs.drop k) (vs.drop k) (by simp; omega)
  rw [List.take_append_drop, List.take_append_drop] at e
  have hl : (gcells (gs.take k) (vs.take k)).length = k * 3 := by
    rw [length_gcells _ _ (by simp; omega), List.length_take, Nat.min_eq_left hk]
  rw [e, ← hl, List.take_left]
theorem gcells_drop (gs : List Gn) (vs : List Value) (k : Nat) (h : vs.length = gs.length) (hk : k ≤ gs.length) : gcells (gs.drop k) (vs.drop k) = (gcells gs vs).drop (k * 3) := by
  have e := gcells_append (gs.take k) (vs.take k) (gs.drop k) (vs.drop k) (by simp; omega)
  rw [List.take_append_drop, List.take_append_drop] at e
  have hl : (gcells (gs.take k) (vs.take k)).length = k * 3 := by
    rw [length_gcells _ _ (by simp; omega), List.length_take, Nat.min_eq_left hk]
  rw [e, ← hl, List.drop_left]
theorem gcells_erase (gs : List Gn) (vs : List Value) (k : Nat) (h : vs.length = gs.length) (hk : k < gs.length) :
    gcells (gs.eraseIdx k) (vs.eraseIdx k) = (gcells gs vs).take (k * 3) ++ (gcells gs vs).drop ((k + 1) * 3) := by
  rw [List.eraseIdx_eq_take_drop_succ, List.eraseIdx_eq_take_drop_succ, gcells_append _ _ _ _ (by simp; omega), gcells_take gs vs k h (by omega), gcells_drop gs vs (k + 1) h hk]

theorem gcells_one {gs : List Gn} {vs : List Value} (h : ∀ u ∈ vs, u.oneCell' = true) : ∀ u ∈ gcells gs vs, u.oneCell' = true := by
  induction gs generalizing vs with
  | nil => intro u hu; cases vs <;> simp [gcells] at hu
  | cons a gs ih =>
    cases vs with
    | nil => intro u hu; simp [gcells] at hu
    | cons b vs =>
      intro u hu
      simp only [gcells, List.mem_cons] at hu
      rcases hu with rfl | rfl | rfl | hu
      · rfl
      · rfl
      · exact h _ (List.mem_cons_self ..)
      · exact ih (fun u hu => h u (List.mem_cons_of_mem _ hu)) u hu

theorem FamAt.vals {Tf Tg : TypeId} {w : World} {p : Nat} {v : Value} {gs : List Gn} {vs : List Value} {latest : Int} (h : FamAt Tf Tg w p v gs vs latest) : ∀ u ∈ vs, u.oneCell' = true := by
  intro u hu
  obtain ⟨g, _, hg⟩ := h.inner' hu
  obtain ⟨a, c, rfl, _⟩ := hg.form
  rfl

/-- A GENERATION IS GONE -/
theorem FamAt.erase {Tf Tg : TypeId} {w w' : World} {p : Nat} {v v' : Value} {gs : List Gn} {vs : List Value} {latest : Int} (h : FamAt Tf Tg w p v gs vs latest) (k : Nat) (hk : k < gs.length)
    (hh : w'.heap[p]? = some (.cells #[v', .int .u64 latest] Tf (0, 0)))
    (hr : Row w' Tg 3 v' (gs.length - 1) (gcells (gs.eraseIdx k) (vs.eraseIdx k))) (hb : ∀ k, k < w.heap.size → k ≠ p → v.ownBlock ≠ some k → w'.heap[k]? = w.heap[k]?)
    (hv : ∀ k, v'.ownBlock = some k → v.ownBlock = some k ∨ w.heap.size ≤ k) : FamAt Tf Tg w' p v' (gs.eraseIdx k) (vs.eraseIdx k) latest where
  head := hh
  row := by rw [List.length_eraseIdx, if_pos hk]; exact hr
  len := by rw [List.length_eraseIdx, List.length_eraseIdx, h.len]
  inner := by
    intro j g u hg hu
    obtain ⟨i, hg, hu⟩ : ∃ i : Nat, gs[i]? = some g ∧ vs[i]? = some u := by
      rw [List.getElem?_eraseIdx] at hg hu
      by_cases hj : j < k
      · rw [if_pos hj] at hg hu; exact ⟨j, hg, hu⟩
      · rw [if_neg hj] at hg hu; exact ⟨j + 1, hg, hu⟩
    refine (h.inner i g u hg hu).of_block (fun k hk => hb k ((h.inner i g u hg hu).lt hk) ?_ ?_)
    · rintro rfl; exact h.notp.2 u (List.mem_of_getElem? hu) hk
    · exact fun e => h.out u (List.mem_of_getElem? hu) k hk e
  apart := h.apart.sublist (List.eraseIdx_sublist _ _)
  out := by
    intro u hu k hk hk'
    have hu := List.mem_of_mem_eraseIdx hu
    obtain ⟨g, _, hg⟩ := h.inner' hu
    rcases hv k hk' with e | e
    · exact h.out u hu k hk e
    · have := hg.lt hk; omega
  notp := by
    refine ⟨fun e => ?_, fun u hu => h.notp.2 u (List.mem_of_mem_eraseIdx hu)⟩
    rcases hv p e with e | e
    · exact h.notp.1 e
    · have := heap_lt h.head; omega
  bytes := fun g hg => h.bytes g (List.mem_of_mem_eraseIdx hg)

/-- from two steps one: what a call on a family leaves, behind a world that has only grown -/
theorem FamOut.of_below {Tf Tg : TypeId} {w w1 w' : World} {p : Nat} {v : Value} {vs : List Value} {gs' : List Gn} {l : Int} (h : FamOut Tf Tg w1 w' p v vs gs' l) (hB : Below w.heap.size w w1) : FamOut Tf Tg w w' p v vs gs' l := by
  obtain ⟨v', vs', hF, hM, hf⟩ := h
  refine ⟨v', vs', hF, Mod.trans (Mod.of_below hB) hM, fun k hk => ?_⟩
  rcases hf k hk with h | h
  · exact .inl h
  · exact .inr (Nat.le_trans hB.size h)
/-- two calls, one behind the other -/
theorem FamOut.trans {Tf Tg : TypeId} {w w1 w' : World} {p : Nat} {v v1 : Value} {vs vs1 : List Value} {gs' : List Gn} {l : Int} (hM : Mod (foot p v vs) w w1) (hf : ∀ k, foot p v1 vs1 k → foot p v vs k ∨ w.heap.size ≤ k)
    (h : FamOut Tf Tg w1 w' p v1 vs1 gs' l) : FamOut Tf Tg w w' p v vs gs' l := by
  obtain ⟨v', vs', hF, hM2, hf2⟩ := h
  refine ⟨v', vs', hF, hM.trans' hM2 (fun i hi h => ?_), fun k hk => ?_⟩
  · rcases hf i h with h | h
    · exact h
    · omega
  · rcases hf2 k hk with h | h
    · exact hf k h
    · exact .inr (Nat.le_trans hM.size h)
end Go.Proofs.Ytakdcankhfeobaa
