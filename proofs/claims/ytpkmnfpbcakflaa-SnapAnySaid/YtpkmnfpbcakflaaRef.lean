/- The reference's disk in memory, and the walks of its small functions. No condition. -/
import Derived.Test.YtpkmnfpbcakflaaRDone
import Derived.Test.YtpkmnfpbcakflaaNm
namespace Go.Proofs.Ytpkmnfpbcakflaa
open Go.ChangeShapes Go.WideShapes Go.ChangeAt Go.RowKit

def rhead (room : Int) (sv nv wv : Value) (fused : Bool) (fz : Int) (down : Bool) : Array Value := #[.int .i64 room, sv, nv, wv, .bool fused, .int .i64 fz, .bool down]
abbrev RHeadAt (w : World) (q : Nat) (room : Int) (sv nv wv : Value) (fused : Bool) (fz : Int) (down : Bool) : Prop := w.heap[q]? = some (.cells (rhead room sv nv wv fused fz down) 99 (0, 0))
/-- a fuse as the reference keeps it -/
def Fz (fused : Bool) (fz fuse : Int) : Prop := (fused = true ∧ fz = fuse ∧ 0 ≤ fuse) ∨ (fused = false ∧ fuse = -1)

/-- the reference's disk lies so; T: blocks that are never written into -/
structure RefAt (T : Nat → Prop) (w : World) (q : Nat) (sv nv wv : Value) (fused : Bool) (fz : Int) (Ls Ln : Fl) (us un uw : List Value) (d : Dk) : Prop where
  head : RHeadAt w q d.room sv nv wv fused fz d.down
  fz : Fz fused fz d.fuse
  syn : RF T w sv Ls us
  eqs : filesOf Ls = d.syn
  now : RF T w nv Ln un
  eqn : filesOf Ln = d.now
  wait : Row w 120 5 wv d.pend.length (dcells d.pend uw)
  len : uw.length = d.pend.length
  bts : ∀ (i : Nat) x u, d.pend[i]? = some x → uw[i]? = some u → Bts T w u x.b
  own : ∀ k, wv.ownBlock = some k → T k
  out : ¬ T q
  lt : ∀ k, T k → k < w.heap.size
def RefOwn (T : Nat → Prop) (w : World) (q : Nat) (d : Dk) : Prop := ∃ sv nv wv fused fz Ls Ln us un uw, RefAt T w q sv nv wv fused fz Ls Ln us un uw d
/-- what a call on it leaves -/
def RefOut (T : Nat → Prop) (w w' : World) (q : Nat) (d' : Dk) : Prop := ∃ T', RefOwn T' w' q d' ∧ (∀ k, T' k → T k ∨ w.heap.size ≤ k) ∧ Mod (fun k => k = q) w w'

section
variable {T T' : Nat → Prop} {w w' : World} {q : Nat} {sv nv wv : Value} {fused : Bool} {fz : Int} {Ls Ln : Fl} {us un uw : List Value} {d : Dk}
theorem RefAt.qlt (h : RefAt T w q sv nv wv fused fz Ls Ln us un uw d) : q < w.heap.size := heap_lt h.head
theorem RefAt.move (h : RefAt T w q sv nv wv fused fz Ls Ln us un uw d) (hs : w.heap.size ≤ w'.heap.size) (hq : w'.heap[q]? = w.heap[q]?) (hT : ∀ k, T k → w'.heap[k]? = w.heap[k]?) : RefAt T w' q sv nv wv fused fz Ls Ln us un uw d where
  head := hq.trans h.head
  fz := h.fz
  syn := h.syn.move hT fun _ h => h
  eqs := h.eqs
  now := h.now.move hT fun _ h => h
  eqn := h.eqn
  wait := h.wait.of_block fun k hk => hT k (h.own k hk)
  len := h.len
  bts := fun i x u hx hu => (h.bts i x u hx hu).move hT fun _ h => h
  own := h.own
  out := h.out
  lt := fun k hk => Nat.lt_of_lt_of_le (h.lt k hk) hs
theorem RefAt.below (h : RefAt T w q sv nv wv fused fz Ls Ln us un uw d) (hB : Below w.heap.size w w') : RefAt T w' q sv nv wv fused fz Ls Ln us un uw d := h.move hB.size (hB.block q h.qlt) fun k hk => hB.block k (h.lt k hk)
/-- the same over more blocks -/
theorem RefAt.widen (h : RefAt T w q sv nv wv fused fz Ls Ln us un uw d) (hT : ∀ k, T k → T' k) (hq : ¬ T' q) (hlt : ∀ k, T' k → k < w.heap.size) : RefAt T' w q sv nv wv fused fz Ls Ln us un uw d where
  head := h.head
  fz := h.fz
  syn := h.syn.move (fun _ _ => rfl) hT
  eqs := h.eqs
  now := h.now.move (fun _ _ => rfl) hT
  eqn := h.eqn
  wait := h.wait
  len := h.len
  bts := fun i x u hx hu => (h.bts i x u hx hu).move (fun _ _ => rfl) hT
  own := fun k hk => hT k (h.own k hk)
  out := hq
  lt := hlt
theorem RefAt.later (h : RefAt T w q sv nv wv fused fz Ls Ln us un uw d) (hB : Below w.heap.size w w') : RefAt (More T w w') w' q sv nv wv fused fz Ls Ln us un uw d :=
  (h.below hB).widen (fun _ hk => .inl hk) (fun hk => by
    rcases hk with hk | hk
    · exact h.out hk
    · have := h.qlt; omega) (more_lt h.lt hB)
/-- the head's cells have turned, and nothing else that it reads -/
theorem RefAt.rehead {d' : Dk} {fused' : Bool} {fz' : Int} (h : RefAt T w q sv nv wv fused fz Ls Ln us un uw d) (hM : Mod (fun k => k = q) w w') (hh : RHeadAt w' q d'.room sv nv wv fused' fz' d'.down) (hf : Fz fused' fz' d'.fuse) (h1 : d'.syn = d.syn) (h2 : d'.now = d.now) (h3 : d'.pend = d.pend) :
    RefAt T w' q sv nv wv fused' fz' Ls Ln us un uw d' := by
  have hT : ∀ k, T k → w'.heap[k]? = w.heap[k]? := fun k hk => hM.block k (h.lt k hk) fun e => h.out (e ▸ hk)
  exact ⟨hh, hf, h.syn.move hT fun _ h => h, by rw [h1]; exact h.eqs, h.now.move hT fun _ h => h, by rw [h2]; exact h.eqn, by rw [h3]; exact h.wait.of_block fun k hk => hT k (h.own k hk), by rw [h3]; exact h.len,
    by rw [h3]; exact fun i x u hx hu => (h.bts i x u hx hu).move hT fun _ h => h, h.own, h.out, fun k hk => Nat.lt_of_lt_of_le (h.lt k hk) hM.size⟩
theorem RefAt.outOf {w0 : World} {T0 : Nat → Prop} (h : RefAt T w' q sv nv wv fused fz Ls Ln us un uw d) (hT : ∀ k, T k → T0 k ∨ w0.heap.size ≤ k) (hM : Mod (fun k => k = q) w0 w') : RefOut T0 w0 w' q d := ⟨T, ⟨_, _, _, _, _, _, _, _, _, _, h⟩, hT, hM⟩

theorem rhead_cells {room : Int} {down : Bool} (h : RHeadAt w q room sv nv wv fused fz down) : w.cell? ⟨q, 0, none⟩ = some (.int .i64 room) ∧ w.cell? ⟨q, 1, none⟩ = some sv ∧ w.cell? ⟨q, 2, none⟩ = some nv ∧ w.cell? ⟨q, 3, none⟩ = some wv ∧ w.cell? ⟨q, 4, none⟩ = some (.bool fused) ∧ w.cell? ⟨q, 5, none⟩ = some (.int .i64 fz) ∧ w.cell? ⟨q, 6, none⟩ = some (.bool down) ∧ ∀ j, w.frozen? ⟨q, j, none⟩ = false := by
  refine ⟨?_, ?_, ?_, ?_, ?_, ?_, ?_, fun j => frozen_of_row _ _ _ _ _ h⟩ <;> (rw [cell_of_row _ _ _ _ _ _ h]; rfl)
theorem rhead_set {room : Int} {down : Bool} (h : RHeadAt w q room sv nv wv fused fz down) (j : Nat) (u : Value) : (w.setCell ⟨q, j, none⟩ u).heap[q]? = some (.cells ((rhead room sv nv wv fused fz down).setIfInBounds j u) 99 (0, 0)) := heap_setCell_same w q j _ _ u h

theorem rname (s : ByteArray) (w : World) : Calls Try.prog 84 #[.string s] w fun e w' => e = .returned (.bool (namedB s)) ∧ w = w' := by
  unfold namedB
  by_cases h1 : 1 ≤ s.size
  · rw [decide_eq_true h1, Bool.true_and]
    go_enter Try.func84, Try.ntmps84
    go_wp2_with fail
    go_ret
    exact ⟨by simp; omega, rfl⟩
  · rw [decide_eq_false h1, Bool.false_and]
    have t : s.size = 0 := by omega
    go_enter Try.func84, Try.ntmps84
    go_wp2_with fail
    go_ret
    exact ⟨rfl, rfl⟩
theorem rinto (n k : Int) (hk0 : 1 ≤ k) (hk : k ≤ 1000000000000) (w : World) :
    Calls Try.prog 88 #[.int .i64 n, .int .i64 k] w fun e w' => e = .returned (.int .i64 (pickV n k)) ∧ w' = w := by
  have b1 : -k < n.tmod k := by
    have := Int.lt_tmod_of_pos n (show 0 < k by omega); omega
  have b2 : n.tmod k < k := Int.tmod_lt_of_pos n (by omega)
  have hd : (k == 0) = false := by simp; omega
  unfold pickV
  by_cases hlt : n.tmod k < 0
  · rw [if_pos hlt]
    go_enter Try.func88, Try.ntmps88
    go_wp2
    go_ret
    exact ⟨rfl, rfl⟩
  · rw [if_neg hlt]
    go_enter Try.func88, Try.ntmps88
    go_wp2
    go_ret
    exact ⟨rfl, rfl⟩

/-- counts tells, and leaves, as the program's -/
def errDown (ok : Bool) : Int := if ok then 0 else 3
theorem rcounts (h : RefAt T w q sv nv wv fused fz Ls Ln us un uw d) (hf1 : d.fuse ≤ 1000000000000) :
    Calls Try.prog 83 #[.pointer (some ⟨q, 0, none⟩)] w fun e w' => e = .returned (.int .i64 (errDown (countsM d).1)) ∧ (∃ fz', RefAt T w' q sv nv wv fused fz' Ls Ln us un uw (countsM d).2) ∧ Mod (fun k => k = q) w w' := by
  obtain ⟨-, -, -, -, c4, c5, c6, hfr⟩ := rhead_cells h.head
  have f5 := hfr 5
  have f6 := hfr 6
  clear hfr
  obtain ⟨room, syn, now, pend, fuse, down⟩ := d
  have hfz := h.fz
  simp only at hf1 c4 c5 c6 hfz
  have HX := Lib.hid h
  clear h
  cases down with
  | true =>
    rw [show countsM ⟨room, syn, now, pend, fuse, true⟩ = (false, ⟨room, syn, now, pend, fuse, true⟩) from rfl]
    clear hfz
    go_enter Try.func83, Try.ntmps83
    go_wp2_with fail
    go_ret
    exact ⟨rfl, ⟨_, HX.out⟩, Mod.refl _ _⟩
  | false =>
    rcases hfz with ⟨rfl, rfl, h0⟩ | ⟨rfl, rfl⟩
    · by_cases hz : fz = 0
      · rw [show countsM ⟨room, syn, now, pend, fz, false⟩ = (false, ⟨room, syn, now, pend, fz, true⟩) from by simp [countsM, hz]]
        have t : (fz == 0) = true := by simp [hz]
        have HZ := Lib.hid hz
        clear hz
        go_enter Try.func83, Try.ntmps83
        go_wp2_with fail
        go_ret
        exact ⟨rfl, ⟨fz, HX.out.rehead (mod_p _ _) (rhead_set HX.out.head 6 _) (.inl ⟨rfl, rfl, h0⟩) rfl rfl rfl⟩, mod_p _ _⟩
      · rw [show countsM ⟨room, syn, now, pend, fz, false⟩ = (true, ⟨room, syn, now, pend, fz - 1, false⟩) from by simp [countsM, hz, show 0 < fz by omega]]
        have t : (fz == 0) = false := by simp [hz]
        have HZ := Lib.hid hz
        have hp : 0 < fz := by omega
        clear hz
        go_enter Try.func83, Try.ntmps83
        go_wp2_with fail
        go_ret
        exact ⟨rfl, ⟨fz - 1, HX.out.rehead (mod_p _ _) (rhead_set HX.out.head 5 _) (.inl ⟨rfl, rfl, by show 0 ≤ fz - 1; omega⟩) rfl rfl rfl⟩, mod_p _ _⟩
    · rw [show countsM ⟨room, syn, now, pend, -1, false⟩ = (true, ⟨room, syn, now, pend, -1, false⟩) from rfl]
      go_enter Try.func83, Try.ntmps83
      go_wp2_with fail
      go_ret
      exact ⟨rfl, ⟨_, HX.out⟩, Mod.refl _ _⟩

theorem lens_take (L : Fl) (k : Nat) (x : ByteArray × List Int) (h : L[k]? = some x) : lens (L.take (k + 1)) = lens (L.take k) + x.2.length := by
  have hlt : k < L.length := (List.getElem?_eq_some_iff.1 h).1
  have hx : L[k] = x := (List.getElem?_eq_some_iff.1 h).2
  unfold lens
  rw [List.take_succ_eq_append_getElem hlt, hx]
  simp
theorem lens_take_le (L : Fl) (k : Nat) : lens (L.take k) ≤ lens L := by
  unfold lens
  conv => rhs; rw [← List.take_append_drop k L, List.map_append, List.sum_append]
  omega
theorem rused (h : RefAt T w q sv nv wv fused fz Ls Ln us un uw d) (ht : total d.now ≤ 1000000000000) (hl : Ln.length ≤ 1000000) :
    Calls Try.prog 66 #[.pointer (some ⟨q, 0, none⟩)] w fun e w' => e = .returned (.int .i64 (usedV d.now d.down)) ∧ w = w' := by
  obtain ⟨-, -, c2, -, -, -, c6, -⟩ := rhead_cells h.head
  obtain ⟨a, cap, rfl, hnc, hml, _⟩ := h.now.row.form
  have htl : lens Ln ≤ 1000000000000 := by rw [← total_filesOf, h.eqn]; exact ht
  have HU : Hid (usedV d.now d.down = nV d.down (lens Ln)) := by show usedV _ _ = _; unfold usedV; rw [← h.eqn, total_filesOf]
  have HN := Lib.hid h.now
  clear h ht
  obtain ⟨down, hdn⟩ : ∃ b, d.down = b := ⟨_, rfl⟩
  rw [hdn] at c6 HU
  have HDn := Lib.hid hdn
  unfold maxLen at hml
  rw [hdn, HU.out]
  clear hdn HU
  cases down with
  | true =>
    go_enter Try.func66, Try.ntmps66
    go_wp2_with fail
    go_loopw [3, 4] (fun n i wr => n = .int .i64 0 ∧ i = .int .i64 0 ∧ w = wr) (fun _ _ _ => 0)
    case atStart => exact ⟨rfl, rfl, rfl⟩
    case round =>
      obtain ⟨rfl, rfl, rfl⟩ := hrel
      by_cases hlt : 0 < Ln.length
      · go_wp2_with fail
        go_ret
        exact ⟨rfl, rfl⟩
      · have h0 : Ln.length = 0 := by omega
        go_wp2_with fail
        go_ret
        exact ⟨rfl, rfl⟩
  | false =>
    go_enter Try.func66, Try.ntmps66
    go_wp2_with fail
    go_loopw [3, 4] (fun n i wr => ∃ (k m : Nat), n = .int .i64 m ∧ i = .int .i64 k ∧ k ≤ Ln.length ∧ Hid (m = lens (Ln.take k)) ∧ m ≤ 1000000000000 ∧ w = wr) (fun _ i _ => Ln.length - (intOf i).toNat)
    case atStart => exact ⟨0, 0, rfl, rfl, Nat.zero_le _, rfl, by omega, rfl⟩
    case round =>
      obtain ⟨k, m, rfl, rfl, hk, hm, hmb, rfl⟩ := hrel
      by_cases hlt : k < Ln.length
      · obtain ⟨x, hx⟩ : ∃ x, Ln[k]? = some x := ⟨_, List.getElem?_eq_getElem hlt⟩
        obtain ⟨u, hu⟩ : ∃ u, un[k]? = some u := ⟨_, List.getElem?_eq_getElem (by rw [HN.out.len]; exact hlt)⟩
        obtain ⟨g, rfl, hgl, hcell, -⟩ := HN.out.row.view (by omega)
        obtain ⟨au, cu, rfl, hcu1, hcu2⟩ := (HN.out.bts k x u hx hu).ex
        obtain ⟨-, d1⟩ := fcells_at Ln un k x _ hx hu
        have e1 := (hcell (k * 2 + 1) (by omega)).trans d1
        have hstep := lens_take Ln k x hx
        have hle := lens_take_le Ln (k + 1)
        have hb : m + x.2.length ≤ 1000000000000 := by have := hm.out; omega
        have HS : Hid (m + x.2.length = lens (Ln.take (k + 1))) := by show _ = _; have := hm.out; omega
        clear hx hu hcell d1 hstep hle hcu1 hcu2 hm
        go_wp2_with fail
        go_roundw
        case rel => exact ⟨k + 1, m + x.2.length, by go_num, by go_num, by omega, HS, hb, trivial⟩
        case measure => simp [intOf]; omega
      · obtain rfl : k = Ln.length := by omega
        have HE : Hid (m = lens Ln) := by have := hm.out; rw [List.take_length] at this; exact this
        clear hm
        go_wp2_with fail
        go_ret
        refine ⟨?_, rfl⟩
        rw [HE.out]; rfl

/-- the reference's names are the list's -/
def rnames (L : Fl) : List Value := L.map fun x => .string x.1
set_option maxRecDepth 100000 in
set_option maxHeartbeats 1000000 in
theorem rnames_up (h : RefAt T w q sv nv wv fused fz Ls Ln us un uw d) (hl : Ln.length ≤ 1000000) :
    Calls Try.prog 65 #[.pointer (some ⟨q, 0, none⟩)] w fun e w' => ∃ v, e = .returned v ∧ Row w' 9 1 v (rnames (if d.down then [] else Ln)).length (rnames (if d.down then [] else Ln)) ∧ (∀ b, v.ownBlock = some b → w.heap.size ≤ b) ∧ Below w.heap.size w w' := by
  obtain ⟨-, -, c2, -, -, -, c6, -⟩ := rhead_cells h.head
  obtain ⟨a, cap, rfl, hnc, hml, _⟩ := h.now.row.form
  obtain ⟨i0, hi0, hz0, hz1, hz2⟩ := info_parts infoS
  have hql := h.qlt
  have HN := Lib.hid h.now
  clear h
  obtain ⟨down, hdn⟩ : ∃ b, d.down = b := ⟨_, rfl⟩
  rw [hdn] at c6 ⊢
  unfold maxLen at hml
  clear hdn
  cases down with
  | true =>
    go_enter Try.func65, Try.ntmps65
    go_wp2_with fail
    go_loopw [3, 4] (fun n i wr => n = .slice none 0 0 ∧ i = .int .i64 0 ∧ w = wr) (fun _ _ _ => 0)
    case atStart => exact ⟨rfl, rfl, rfl⟩
    case round =>
      obtain ⟨rfl, rfl, rfl⟩ := hrel
      by_cases hlt : 0 < Ln.length
      · go_wp2_with fail
        go_ret
        exact ⟨_, rfl, Row.nil _ _ _, by intro b hb; simp [Value.ownBlock] at hb, Below.refl _ _⟩
      · have h0 : Ln.length = 0 := by omega
        go_wp2_with fail
        go_ret
        exact ⟨_, rfl, Row.nil _ _ _, by intro b hb; simp [Value.ownBlock] at hb, Below.refl _ _⟩
  | false =>
    go_enter Try.func65, Try.ntmps65
    go_wp2_with fail
    go_loopw [3, 4] (fun o i wr => ∃ (k : Nat), i = .int .i64 k ∧ k ≤ Ln.length ∧ Row wr 9 1 o k (rnames (Ln.take k)) ∧ (∀ b, o.ownBlock = some b → w.heap.size ≤ b) ∧ Below w.heap.size w wr) (fun _ i _ => Ln.length - (intOf i).toNat)
    case atStart => exact ⟨0, rfl, Nat.zero_le _, Row.nil _ _ _, by intro b hb; simp [Value.ownBlock] at hb, Below.refl _ _⟩
    case round =>
      obtain ⟨k, rfl, hk, ho, hfr, hB⟩ := hrel
      have HO := Lib.hid ho
      have HFr := Lib.hid hfr
      have HB := Lib.hid hB
      have q2 := (hB.cell (p := ⟨q, 2, none⟩) hql).trans c2
      have q6 := (hB.cell (p := ⟨q, 6, none⟩) hql).trans c6
      obtain ⟨ao, co, rfl, -⟩ := ho.form
      clear ho hfr hB
      by_cases hlt : k < Ln.length
      · as_aux_lemma =>
        obtain ⟨x, hx⟩ : ∃ x, Ln[k]? = some x := ⟨_, List.getElem?_eq_getElem hlt⟩
        obtain ⟨u, hu⟩ : ∃ u, un[k]? = some u := ⟨_, List.getElem?_eq_getElem (by rw [HN.out.len]; exact hlt)⟩
        obtain ⟨g, rfl, hgl, hcell, -⟩ := HN.out.row.view (by omega)
        obtain ⟨d1, -⟩ := fcells_at Ln un k x _ hx hu
        have e1 := ((HB.out.cell (p := ⟨g, k * 2, none⟩) hgl).trans (hcell (k * 2) (by omega))).trans d1
        have HS : Hid (rnames (Ln.take (k + 1)) = rnames (Ln.take k) ++ [.string x.1]) := by
          show _ = _
          have hx2 : Ln[k] = x := (List.getElem?_eq_some_iff.1 hx).2
          rw [List.take_succ_eq_append_getElem hlt, hx2]; simp [rnames]
        clear hx hu hcell d1
        go_wp2_with (at_builtin; refine wpList_append_row _ rfl _ _ 43 rfl 9 i0 _ 1 16 Try.underlying43 hi0 hz0 hz1 hz2 rfl (.slice ao k co) k _ rfl (HO.out.of_block (fun b hb => Below.heap_alloc wr _ b (HO.out.lt hb))) (.slice (some ⟨wr.heap.size, 0, none⟩) 1 1) 1 [.string x.1] rfl (Src.of_block (cs := #[.string x.1]) (t := 9) (fr := (0, 0)) (heap_alloc_new wr _) 1 1 rfl (by simp [Value.oneCell'])) (by unfold maxLen; omega) (by omega) (wr.heap.size + 1) (by simp) ?_; intro a' cap' w2 hown2 hgrow hat)
        go_roundw
        case rel =>
          refine ⟨k + 1, by go_num, by omega, by rw [HS.out]; exact hown2, fun b hb => ?_, (HB.out.alloc HB.out.size _).grown hgrow (by have := HB.out.size; simp; omega) HFr.out⟩
          rcases hat b hb with h | h
          · exact HFr.out b h
          · have := HB.out.size; omega
        case measure => simp [intOf]; omega
      · as_aux_lemma =>
        obtain rfl : k = Ln.length := by omega
        have HO2 : Hid (Row wr 9 1 (.slice ao Ln.length co) Ln.length (rnames Ln)) := by have := HO.out; rw [List.take_length] at this; exact this
        clear HO
        go_wp2_with fail
        go_ret
        exact ⟨_, rfl, by simpa [rnames] using HO2.out, HFr.out, HB.out⟩

/-- Read tells what lies there -/
def RReadOut (T : Nat → Prop) (w w' : World) (e : Ending) (there : Bool) (b : List Int) : Prop :=
  w = w' ∧ match there with | true => ∃ a c, e = .returned (.tuple #[.slice a b.length c, .bool true]) ∧ Bts T w (.slice a b.length c) b | false => e = .returned (.tuple #[.slice none 0 0, .bool false])
theorem rread (h : RefAt T w q sv nv wv fused fz Ls Ln us un uw d) (name : ByteArray) :
    Calls Try.prog 63 #[.pointer (some ⟨q, 0, none⟩), .string name] w fun e w' => RReadOut T w w' e (hasF d.now name && !d.down) (getF d.now name) := by
  obtain ⟨-, -, c2, -, -, -, c6, -⟩ := rhead_cells h.head
  have HFd := Lib.hid (rfind h.now name)
  obtain ⟨a, cap, rfl, hnc, hml, _⟩ := h.now.row.form
  unfold maxLen at hml
  have HN := Lib.hid h.now
  have hcase := has_find Ln name
  rw [h.eqn] at hcase
  obtain ⟨down, hdn⟩ : ∃ b, d.down = b := ⟨_, rfl⟩
  rw [hdn] at c6 ⊢
  clear h hdn
  rcases hcase with ⟨hlt, hh, hg⟩ | ⟨i, x, hi, hx, hh, hg⟩
  · rw [hh, hg]
    obtain ⟨fi, hfi⟩ : ∃ fi, findL Ln name = fi := ⟨_, rfl⟩
    rw [hfi] at HFd hlt
    clear hfi hh hg
    cases down <;>
    · go_enter Try.func63, Try.ntmps63
      go_wp2_with fail
      refine HFd.out.mono ?_
      rintro e w1 ⟨rfl, rfl⟩
      go_wp2_with fail
      go_ret2
      exact ⟨rfl, rfl⟩
  · rw [hh, hg]
    have hil : i < Ln.length := (List.getElem?_eq_some_iff.1 hx).1
    obtain ⟨u, hu⟩ : ∃ u, un[i]? = some u := ⟨_, List.getElem?_eq_getElem (by rw [HN.out.len]; exact hil)⟩
    obtain ⟨g, rfl, hgl, hcell, -⟩ := HN.out.row.view (by omega)
    obtain ⟨-, d1⟩ := fcells_at Ln un i x _ hx hu
    have e1 := (hcell (i * 2 + 1) (by omega)).trans d1
    have HB := Lib.hid (HN.out.bts i x u hx hu)
    obtain ⟨au, cu, rfl, -⟩ := HB.out.ex
    rw [hi] at HFd
    clear hx hu hcell d1 hi hh hg
    cases down with
    | true =>
      go_enter Try.func63, Try.ntmps63
      go_wp2_with fail
      refine HFd.out.mono ?_
      rintro e w1 ⟨rfl, rfl⟩
      go_wp2_with fail
      go_ret2
      exact ⟨rfl, rfl⟩
    | false =>
      go_enter Try.func63, Try.ntmps63
      go_wp2_with fail
      refine HFd.out.mono ?_
      rintro e w1 ⟨rfl, rfl⟩
      go_wp2_with fail
      go_ret2
      exact ⟨rfl, au, cu, rfl, HB.out⟩
end
end Go.Proofs.Ytpkmnfpbcakflaa
