/- The walks of sink.behind and First: the first of each tag, by rising tags. No condition. -/
import Derived.Test.YtboogadchjojkaaSink
import Derived.Test.YtboogadchjojkaaCopy
import Derived.BigQuiet
import Derived.Deep.QuietTactic
namespace Go.Proofs.Ytboogadchjojkaa
open Go.ChangeShapes Go.WideShapes Go.ChangeAt Go.RowKit

/-- the place behind all whose tags are not above one -/
def bs (l : List Tg) (a b : Nat) : Nat → Nat → Nat → Nat
  | 0, lo, _ => lo
  | n + 1, lo, hi => if lo < hi then
      match l[(lo + hi) / 2]? with
      | some x => if lessB a b x.a x.b then bs l a b n lo ((lo + hi) / 2) else bs l a b n ((lo + hi) / 2 + 1) hi
      | none => lo
    else lo
def behindM (l : List Tg) (a b : Nat) : Nat := bs l a b l.length 0 l.length
def Low (l : List Tg) : Prop := ∀ x ∈ l, x.a ≤ 1099511627776 ∧ x.b ≤ 1099511627776
theorem bs_le (l : List Tg) (a b : Nat) : ∀ n lo hi, lo ≤ hi → bs l a b n lo hi ≤ hi
  | 0, lo, hi, h => h
  | n + 1, lo, hi, h => by
    unfold bs
    split
    · split
      · split
        · exact Nat.le_trans (bs_le l a b n lo _ (by omega)) (by omega)
        · exact bs_le l a b n _ hi (by omega)
      · exact h
    · exact h
theorem behindM_le (l : List Tg) (a b : Nat) : behindM l a b ≤ l.length := bs_le l a b _ _ _ (Nat.zero_le _)

set_option maxHeartbeats 1000000 in
theorem behind_any (v : Value) (l : List Tg) (a b : Nat) (w : World) (hR : Row w 32 3 v l.length (tcells l)) (hL : Low l) (ha : a ≤ 1099511627776) (hb : b ≤ 1099511627776) (hn : l.length ≤ 1000000) :
    Calls Try.prog 27 #[v, .complex .f64 (fl a) (fl b)] w fun e w' => e = .returned (.int .i64 (behindM l a b)) ∧ w = w' := by
  obtain ⟨ao, cap, rfl, -, -, -⟩ := hR.form
  have HR := Lib.hid hR
  have HL := Lib.hid hL
  clear hR hL
  go_enter Try.func27, Try.ntmps27
  go_wp2_with fail
  go_loop [5, 6] (fun lo hi => ∃ n l0 h0 : Nat, lo = .int .i64 l0 ∧ hi = .int .i64 h0 ∧ l0 ≤ h0 ∧ h0 ≤ l.length ∧ h0 - l0 ≤ n ∧ Hid (bs l a b n l0 h0 = behindM l a b)) (fun lo hi => (intOf hi).toNat - (intOf lo).toNat)
  case atStart => exact ⟨l.length, 0, l.length, rfl, rfl, Nat.zero_le _, Nat.le_refl _, by omega, rfl⟩
  case round =>
    obtain ⟨n, l0, h0, rfl, rfl, h1, h2, h3, hbs⟩ := hrel
    by_cases hlt : l0 < h0
    · obtain ⟨n, rfl⟩ : ∃ m, n = m + 1 := ⟨n - 1, by omega⟩
      obtain ⟨g, rfl, hgl, hgc, -⟩ := HR.out.view (by omega)
      obtain ⟨k, hk⟩ : ∃ k, (l0 + h0) / 2 = k := ⟨_, rfl⟩
      have hkl : k < l.length := by omega
      obtain ⟨x, hx⟩ : ∃ x, l[k]? = some x := ⟨_, List.getElem?_eq_getElem hkl⟩
      have hxl := HL.out x (List.mem_of_getElem? hx)
      have c0 : w.cell? ⟨g, (l0 + h0) / 2 * 3, none⟩ = some (.complex .f64 (fl x.a) (fl x.b)) := by
        rw [hk, hgc (k * 3) (by omega)]; exact (tcells_at l k x hx).1
      have hbs2 := hbs.out
      unfold bs at hbs2
      rw [if_pos hlt, hk, hx] at hbs2
      simp only at hbs2
      have HLs := Lib.hid (fun w => less_yes a b x.a x.b ha hb hxl.1 hxl.2 w)
      have HK := Lib.hid hk
      clear hgc hbs hk hx
      cases hls : lessB a b x.a x.b with
      | true =>
        rw [hls] at HLs hbs2
        have HB := Lib.hid (show bs l a b n l0 k = behindM l a b from hbs2)
        clear hbs2 hls
        go_wp2_with fail
        refine (HLs.out _).mono ?_
        rintro e w' ⟨rfl, rfl⟩
        go_wp2_with fail
        go_round
        case rel => exact ⟨n, l0, k, rfl, by rw [← HK.out]; go_num, by have := HK.out; omega, by omega, by have := HK.out; omega, HB⟩
        case measure => simp [intOf]; have := HK.out; omega
      | false =>
        rw [hls] at HLs hbs2
        have HB := Lib.hid (show bs l a b n (k + 1) h0 = behindM l a b from hbs2)
        clear hbs2 hls
        go_wp2_with fail
        refine (HLs.out _).mono ?_
        rintro e w' ⟨rfl, rfl⟩
        go_wp2_with fail
        go_round
        case rel => exact ⟨n, k + 1, h0, by rw [← HK.out]; go_num, rfl, by have := HK.out; omega, h2, by have := HK.out; omega, HB⟩
        case measure => simp [intOf]; have := HK.out; omega
    · have hbs2 := hbs.out
      have e : bs l a b n l0 h0 = l0 := by
        cases n with
        | zero => rfl
        | succ n => unfold bs; rw [if_neg hlt]
      rw [e] at hbs2
      have HB := Lib.hid hbs2
      clear hbs hbs2 e
      go_wp2_with fail
      go_ret
      exact ⟨congrArg (fun n : Nat => Ending.returned (.int .i64 (n : Int))) HB.out, rfl⟩

theorem tcells_take (l : List Tg) (k : Nat) : tcells (l.take k) = (tcells l).take (k * 3) := by
  by_cases hk : k ≤ l.length
  · have hl := tcells_len (l.take k)
    rw [List.length_take, Nat.min_eq_left hk] at hl
    have e : tcells l = tcells (l.take k) ++ tcells (l.drop k) := by rw [← tcells_append, List.take_append_drop]
    rw [e, ← hl, List.take_left]
  · rw [List.take_of_length_le (show l.length ≤ k by omega), List.take_of_length_le (by rw [tcells_len]; omega)]
theorem tcells_drop (l : List Tg) (k : Nat) (hk : k ≤ l.length) : tcells (l.drop k) = (tcells l).drop (k * 3) := by
  have hl := tcells_len (l.take k)
  rw [List.length_take, Nat.min_eq_left hk] at hl
  have e : tcells l = tcells (l.take k) ++ tcells (l.drop k) := by rw [← tcells_append, List.take_append_drop]
  rw [e, ← hl, List.drop_left]
theorem tcells_set : ∀ (l : List Tg) (k : Nat) (x : Tg), k < l.length →
    (((tcells l).set (k * 3) (.complex .f64 (fl x.a) (fl x.b))).set (k * 3 + 1) (.string x.s)).set (k * 3 + 2) (.int .i64 x.f) = tcells (l.set k x)
  | [], _, _, h => by simp at h
  | y :: l, 0, x, _ => rfl
  | y :: l, k + 1, x, h => by
    have ih := tcells_set l k x (by simpa using h)
    have e : ∀ (L : List Value) (j : Nat) (u : Value), (tgC y ++ L).set (j + 3) u = tgC y ++ L.set j u := fun L j u => by
      rw [List.set_append_right _ _ (by simp [tgC])]; simp [tgC]
    show (((tgC y ++ tcells l).set _ _).set _ _).set _ _ = tgC y ++ tcells (l.set k x)
    rw [show (k + 1) * 3 = k * 3 + 3 by omega, e, show k * 3 + 3 + 1 = k * 3 + 1 + 3 by omega, e, show k * 3 + 3 + 2 = k * 3 + 2 + 3 by omega, e, ih]

theorem below_drewN {B : Nat} {a w : World} (h : Below B a w) (n : Nat) : Below B a (w.drewN n) := ⟨h.os, h.tape, h.output, h.size, h.block⟩
/-- an item is put into its place -/
def insAt (out : List Tg) (t : Tg) (k : Nat) : List Tg := out.take k ++ (t :: out.drop k)
def dupB (out : List Tg) (t : Tg) (k : Nat) : Bool := match k with
  | 0 => false
  | k + 1 => match out[k]? with
    | some x => decide (x.a = t.a) && decide (x.b = t.b)
    | none => false
def insM (out : List Tg) (t : Tg) : List Tg := if dupB out t (behindM out t.a t.b) then out else insAt out t (behindM out t.a t.b)
def firstM (l : List Tg) : List Tg := l.foldl insM []
theorem dupB_pos (out : List Tg) (t : Tg) (k : Nat) (hk : 0 < k) (y : Tg) (hy : out[k - 1]? = some y) : dupB out t k = (decide (y.a = t.a) && decide (y.b = t.b)) := by
  cases k with
  | zero => omega
  | succ k => simp only [Nat.add_sub_cancel] at hy; simp [dupB, hy]
theorem firstM_snoc (l : List Tg) (k : Nat) (x : Tg) (h : l[k]? = some x) : firstM (l.take (k + 1)) = insM (firstM (l.take k)) x := by
  have hlt := (List.getElem?_eq_some_iff.1 h).1
  have hx := (List.getElem?_eq_some_iff.1 h).2
  unfold firstM
  rw [List.take_succ_eq_append_getElem hlt, hx, List.foldl_append]; rfl
theorem insM_len (out : List Tg) (t : Tg) : (insM out t).length ≤ out.length + 1 := by
  unfold insM insAt
  split
  · omega
  · simp; omega
theorem firstM_len (l : List Tg) : (firstM l).length ≤ l.length := by
  have key : ∀ (l out : List Tg), (l.foldl insM out).length ≤ out.length + l.length := by
    intro l
    induction l with
    | nil => intro out; simp
    | cons x l ih =>
      intro out
      have h1 := ih (insM out x)
      have h2 := insM_len out x
      simp only [List.foldl_cons, List.length_cons]; omega
  have := key l []
  simp only [List.length_nil, Nat.zero_add] at this
  exact this
theorem Low.ins {out : List Tg} {t : Tg} (h : Low out) (ht : t.a ≤ 1099511627776 ∧ t.b ≤ 1099511627776) : Low (insM out t) := by
  unfold insM insAt
  split
  · exact h
  · intro x hx
    rcases List.mem_append.1 hx with hx | hx
    · exact h x (List.mem_of_mem_take hx)
    · rcases List.mem_cons.1 hx with rfl | hx
      · exact ht
      · exact h x (List.mem_of_mem_drop hx)
theorem Low.first {l : List Tg} (h : Low l) (k : Nat) : Low (firstM (l.take k)) := by
  have key : ∀ (l out : List Tg), Low l → Low out → Low (l.foldl insM out) := by
    intro l
    induction l with
    | nil => intro out _ h; exact h
    | cons x l ih => intro out hl ho; exact ih _ (fun y hy => hl y (List.mem_cons_of_mem _ hy)) (ho.ins (hl x (List.mem_cons_self ..)))
  exact key _ [] (fun x hx => h x (List.mem_of_mem_take hx)) (by intro x hx; simp at hx)
theorem moved (out : List Tg) (t : Tg) (k : Nat) (hk : k ≤ out.length) :
    ((((splice (tcells (out ++ [t])) ((k + 1) * 3) (((tcells (out ++ [t])).drop (k * 3)).take ((out.length - k) * 3))).set (k * 3) (.complex .f64 (fl t.a) (fl t.b))).set (k * 3 + 1) (.string t.s)).set (k * 3 + 2) (.int .i64 t.f)) = tcells (insAt out t k) := by
  have e1 : ((tcells (out ++ [t])).drop (k * 3)).take ((out.length - k) * 3) = tcells (out.drop k) := by
    rw [← tcells_drop _ _ (by simp; omega), ← tcells_take, List.drop_append_of_le_length hk, List.take_append_of_le_length (by simp), List.take_of_length_le (by simp)]
  rw [e1]
  have e2 : splice (tcells (out ++ [t])) ((k + 1) * 3) (tcells (out.drop k)) = tcells ((out ++ [t]).take (k + 1) ++ out.drop k) := by
    unfold splice
    have e3 : (tcells (out ++ [t])).drop ((k + 1) * 3 + (tcells (out.drop k)).length) = [] := List.drop_of_length_le (by rw [tcells_len, tcells_len]; simp; omega)
    rw [tcells_append ((out ++ [t]).take (k + 1)), tcells_take, e3, List.append_nil]
  rw [e2, tcells_set _ k t (by simp; omega)]
  congr 1
  unfold insAt
  rw [List.set_append_left _ _ (by simp; omega), List.take_append]
  by_cases h : k < out.length
  · have e3 : out.take (k + 1) = out.take k ++ [out[k]] := List.take_succ_eq_append_getElem h
    rw [show k + 1 - out.length = 0 by omega, List.take_zero, List.append_nil, e3, List.set_append_right _ _ (by simp; omega)]
    simp [Nat.min_eq_left (Nat.le_of_lt h)]
  · obtain rfl : k = out.length := by omega
    rw [show out.length + 1 - out.length = 1 by omega, List.take_of_length_le (show out.length ≤ out.length + 1 by omega)]
    simp

set_option maxRecDepth 100000 in
set_option maxHeartbeats 1000000 in
theorem first_own (X : Nat → Prop) (p : Nat) (s : Sk) (w : World) (h : SinkOwn X w p s) (hL : Low s.all) (hl : s.all.length ≤ 1000) :
    Calls Try.prog 19 #[.pointer (some ⟨p, 0, none⟩)] w fun e w' => NewItems w w' e (firstM s.all) := by
  obtain ⟨i0, hi0, hz0, hz1, hz2⟩ := info_parts infoT
  obtain ⟨-, v, hA, -⟩ := h
  obtain ⟨c0, -, -, -, -⟩ := hA.cells
  obtain ⟨a, cap, rfl, -⟩ := hA.row.form
  have HRow := Lib.hid hA.row
  obtain ⟨L, hLd⟩ : ∃ L, s.all = L := ⟨_, rfl⟩
  rw [hLd] at HRow c0 hL hl ⊢
  have HL := Lib.hid hL
  clear hA hL hLd
  go_enter Try.func19, Try.ntmps19
  go_wp2_with fail
  go_loopw [3, 12] (fun out i wr => ∃ k : Nat, i = .int .i64 k ∧ k ≤ L.length ∧ Row wr 32 3 out (firstM (L.take k)).length (tcells (firstM (L.take k))) ∧ (∀ b, out.ownBlock = some b → w.heap.size ≤ b) ∧ Below w.heap.size w wr) (fun _ i _ => L.length - (intOf i).toNat)
  case atStart => exact ⟨0, rfl, Nat.zero_le _, Row.nil _ _ _, by intro b hb; simp [Value.ownBlock] at hb, Below.refl _ _⟩
  case round =>
    obtain ⟨k, rfl, hk, hR, hfr, hB⟩ := hrel
    obtain ⟨ao, co, rfl, hco, hmo, hmc⟩ := hR.form
    have HR := Lib.hid hR
    have HFr := Lib.hid hfr
    have HB := Lib.hid hB
    clear hR hfr hB
    by_cases hlt : k < L.length
    · obtain ⟨x, hx⟩ : ∃ x, L[k]? = some x := ⟨_, List.getElem?_eq_getElem hlt⟩
      have hxl := HL.out x (List.mem_of_getElem? hx)
      obtain ⟨g, rfl, hgl, hgc, -⟩ := HRow.out.view (by omega)
      have hxa := tcells_at L k x hx
      have q0 := (HB.out.cell (p := ⟨g, k * 3, none⟩) hgl).trans ((hgc (k * 3) (by omega)).trans hxa.1)
      have q1 := (HB.out.cell (p := ⟨g, k * 3 + 1, none⟩) hgl).trans ((hgc (k * 3 + 1) (by omega)).trans hxa.2.1)
      have q2 := (HB.out.cell (p := ⟨g, k * 3 + 2, none⟩) hgl).trans ((hgc (k * 3 + 2) (by omega)).trans hxa.2.2)
      have hsn := firstM_snoc L k x hx
      have hLo := HL.out.first k
      have hfl : (firstM (L.take k)).length ≤ 1000 := by have := firstM_len (L.take k); rw [List.length_take] at this; omega
      generalize firstM (L.take k) = out at *
      have HSn := Lib.hid hsn
      have HBe := Lib.hid (fun (w2 : World) (hw : Below wr.heap.size wr w2) => behind_any (.slice ao out.length co) out x.a x.b w2 (HR.out.of_block fun b hb => hw.block b (HR.out.lt hb)) hLo hxl.1 hxl.2 (by omega))
      have hbl := behindM_le out x.a x.b
      obtain ⟨t, ht⟩ : ∃ t, behindM out x.a x.b = t := ⟨_, rfl⟩
      rw [ht] at hbl
      have hins : insM out x = if dupB out x t then out else insAt out x t := by unfold insM; rw [ht]
      rw [ht] at HBe
      have HIns := Lib.hid hins
      clear hgc hxa hx hsn hins ht
      go_wp2_with fail
      refine (HBe.out _ ((Below.refl _ wr).alloc (Nat.le_refl _) _)).mono ?_
      rintro e w' ⟨rfl, rfl⟩
      have hBW := (Below.refl wr.heap.size wr).alloc (Nat.le_refl _) (.cells #[.complex .f64 (fl x.a) (fl x.b), .string x.s, .int .i64 x.f] 32)
      have hbx := heap_alloc_new wr (.cells #[.complex .f64 (fl x.a) (fl x.b), .string x.s, .int .i64 x.f] 32)
      have hsW : (wr.alloc (.cells #[.complex .f64 (fl x.a) (fl x.b), .string x.s, .int .i64 x.f] 32)).heap.size = wr.heap.size + 1 := by simp
      generalize wr.alloc (.cells #[.complex .f64 (fl x.a) (fl x.b), .string x.s, .int .i64 x.f] 32) = W at *
      have b0 : W.cell? ⟨wr.heap.size, 0, none⟩ = some (.complex .f64 (fl x.a) (fl x.b)) := by rw [cell_of_row _ _ _ _ _ _ hbx]; rfl
      have b1 : W.cell? ⟨wr.heap.size, 1, none⟩ = some (.string x.s) := by rw [cell_of_row _ _ _ _ _ _ hbx]; rfl
      have b2 : W.cell? ⟨wr.heap.size, 2, none⟩ = some (.int .i64 x.f) := by rw [cell_of_row _ _ _ _ _ _ hbx]; rfl
      have HBW := Lib.hid hBW
      have HBX := Lib.hid hbx
      have HSW := Lib.hid hsW
      have hRW := HR.out.of_block fun b hb => hBW.block b (HR.out.lt hb)
      have HRW := Lib.hid hRW
      clear hBW hbx hsW hRW q0 q1 q2 HBe
      cases hd : dupB out x t with
      | true =>
        obtain ⟨j, rfl⟩ : ∃ j, t = j + 1 := by
          cases t with
          | zero => simp [dupB] at hd
          | succ j => exact ⟨j, rfl⟩
        obtain ⟨y, hy⟩ : ∃ y, out[j]? = some y := ⟨_, List.getElem?_eq_getElem (by omega)⟩
        have hyl := hLo y (List.mem_of_getElem? hy)
        unfold dupB at hd
        simp only [hy, Bool.and_eq_true, decide_eq_true_eq] at hd
        have o1 := order_fl_eq y.a x.a (by omega) (by omega)
        have o2 := order_fl_eq y.b x.b (by omega) (by omega)
        rw [decide_eq_true hd.1] at o1
        rw [decide_eq_true hd.2] at o2
        obtain ⟨go, rfl, hgol, hgoc, -⟩ := HRW.out.view (by omega)
        have p0 : W.cell? ⟨go, j * 3, none⟩ = some (.complex .f64 (fl y.a) (fl y.b)) := by rw [hgoc (j * 3) (by omega)]; exact (tcells_at out j y hy).1
        have hins2 : insM out x = out := by rw [HIns.out]; simp [dupB, hy, hd]
        have HIns2 := Lib.hid hins2
        clear HIns hins2 hgoc hd hy
        go_wp2_with fail
        go_quiet (fail)
        go_wp2_with fail
        go_roundw
        case rel => exact ⟨k + 1, by go_num, by omega, by rw [HSn.out, HIns2.out]; exact HRW.out.of_block fun _ _ => rfl, HFr.out, below_drewN (HB.out.trans (HBW.out.mono HB.out.size)) _⟩
        case measure => simp [intOf]; omega
      | false =>
        have hins2 : insM out x = insAt out x t := by rw [HIns.out, hd]; rfl
        have HIns2 := Lib.hid hins2
        clear HIns hins2
        rcases Nat.eq_zero_or_pos t with ht0 | ht0
        case inl =>
          subst ht0
          clear hd
          go_wp2_with fail
          go_quiet (fail)
          obtain ⟨W5, hW5⟩ : ∃ W5, W.drewN nq = W5 := ⟨_, rfl⟩
          have HB5 := Lib.hid (show Below w.heap.size w W5 from hW5 ▸ below_drewN (HB.out.trans (HBW.out.mono HB.out.size)) nq)
          have HR5 := Lib.hid (show Row W5 32 3 (.slice ao out.length co) out.length (tcells out) from hW5 ▸ HRW.out.of_block fun _ _ => rfl)
          have HX5 := Lib.hid (show W5.heap[wr.heap.size]? = some (.cells #[.complex .f64 (fl x.a) (fl x.b), .string x.s, .int .i64 x.f] 32 (0, 0)) from hW5 ▸ HBX.out)
          have HS5 := Lib.hid (show W5.heap.size = wr.heap.size + 1 from hW5 ▸ HSW.out)
          have e0 : W5.cell? ⟨wr.heap.size, 0, none⟩ = some (.complex .f64 (fl x.a) (fl x.b)) := by rw [cell_of_row _ _ _ _ _ _ HX5.out]; rfl
          have e1 : W5.cell? ⟨wr.heap.size, 1, none⟩ = some (.string x.s) := by rw [cell_of_row _ _ _ _ _ _ HX5.out]; rfl
          have e2 : W5.cell? ⟨wr.heap.size, 2, none⟩ = some (.int .i64 x.f) := by rw [cell_of_row _ _ _ _ _ _ HX5.out]; rfl
          rw [hW5]
          have hdst : Row (W5.alloc (.cells #[.complex .f64 (fl x.a) (fl x.b), .string x.s, .int .i64 x.f] 32)) 32 3 (.slice ao out.length co) out.length (tcells out) := HR5.out.of_block fun b hb => Below.heap_alloc W5 _ b (HR5.out.lt hb)
          have hsrc : Src (W5.alloc (.cells #[.complex .f64 (fl x.a) (fl x.b), .string x.s, .int .i64 x.f] 32)) 3 (.slice (some ⟨W5.heap.size, 0, none⟩) 1 1) 1 (tgC x) := Src.of_block (heap_alloc_new W5 (.cells #[.complex .f64 (fl x.a) (fl x.b), .string x.s, .int .i64 x.f] 32)) 1 1 rfl (by simp [Value.oneCell'])
          have HD := Lib.hid hdst
          have HSr := Lib.hid hsrc
          clear hW5 hdst hsrc b0 b1 b2
          go_wp2_with (at_builtin; refine wpList_append_row _ rfl _ _ 36 rfl 32 i0 _ 3 40 Try.underlying36 hi0 hz0 hz1 hz2 rfl (.slice ao out.length co) out.length _ rfl HD.out (.slice (some ⟨W5.heap.size, 0, none⟩) 1 1) 1 (tgC x) rfl HSr.out (by unfold maxLen; omega) (by omega) (W5.heap.size + 1) (by simp) ?_; intro a' cap' w6 hown2 hgrow hat)
          have hx6 : w6.heap[wr.heap.size]? = _ := (hgrow.block wr.heap.size (by have := HS5.out; simp; omega) (fun e => by have := HRW.out; have := HR.out.lt e.symm; omega)).trans ((Below.heap_alloc W5 _ _ (by have := HS5.out; omega)).trans HX5.out)
          have hB6 : Below w.heap.size w w6 := (HB5.out.alloc HB5.out.size _).grown hgrow (by have := HB5.out.size; simp; omega) HFr.out
          have hf6 : ∀ b, (Value.slice a' (out.length + 1) cap').ownBlock = some b → w.heap.size ≤ b ∧ b ≠ wr.heap.size := fun b hb => by
            rcases hat b hb with h | h
            · exact ⟨HFr.out b h, fun e => by have := HR.out.lt h; omega⟩
            · have := HB5.out.size; have := HS5.out; exact ⟨by omega, by omega⟩
          have hap : tcells out ++ tgC x = tcells (out ++ [x]) := by rw [tcells_append]; simp [tcells]
          rw [hap] at hown2
          obtain ⟨g2, rfl, hgl2, -, -⟩ := hown2.view (by omega)
          obtain ⟨-, -, -, hcc, -, -⟩ := hown2.form
          obtain ⟨t1, ht1⟩ : ∃ t1 : Nat, t1 = 0 + 1 := ⟨_, rfl⟩
          obtain ⟨t0, ht0⟩ : ∃ t0 : Nat, t0 = 0 := ⟨_, rfl⟩
          obtain ⟨dl, hdl⟩ : ∃ dl : Nat, dl = out.length + 1 - t1 := ⟨_, rfl⟩
          obtain ⟨dc, hdc⟩ : ∃ dc : Nat, dc = cap' - t1 := ⟨_, rfl⟩
          obtain ⟨sl, hsl⟩ : ∃ sl : Nat, sl = out.length + 1 - t0 := ⟨_, rfl⟩
          obtain ⟨sc, hsc⟩ : ∃ sc : Nat, sc = cap' - t0 := ⟨_, rfl⟩
          have hs1 : ∀ w, (Instr.slice 36 (.slice (some ⟨g2, 0, none⟩) (out.length + 1) cap') (some (.int .i64 (1))) none none).run Try.prog w = .ok (.slice (fromAddr (some ⟨g2, 0, none⟩) cap' t1 3) dl dc) w := fun w => by
            have := run_slice_from w 36 32 i0 Try.underlying36 hi0 3 hz1 (some ⟨g2, 0, none⟩) (out.length + 1) cap' t1 (by omega) .i64
            rw [← hdl, ← hdc, show ((t1 : Nat) : Int) = 1 by omega] at this; exact this
          have hs0 : ∀ w, (Instr.slice 36 (.slice (some ⟨g2, 0, none⟩) (out.length + 1) cap') (some (.int .i64 (0))) none none).run Try.prog w = .ok (.slice (fromAddr (some ⟨g2, 0, none⟩) cap' t0 3) sl sc) w := fun w => by
            have := run_slice_from w 36 32 i0 Try.underlying36 hi0 3 hz1 (some ⟨g2, 0, none⟩) (out.length + 1) cap' t0 (by omega) .i64
            rw [← hsl, ← hsc, show ((t0 : Nat) : Int) = 0 by omega] at this; exact this
          have HE := Lib.hid (And.intro ht1 (And.intro ht0 (And.intro hdl (And.intro hdc (And.intro hsl hsc)))))
          obtain ⟨m, hm⟩ : ∃ m : Nat, m = out.length - 0 := ⟨_, rfl⟩
          have hmm : m = min (out.length + 1 - t0) (out.length + 1 - t1) := by omega
          have HM := Lib.hid (And.intro hm hmm)
          have ht1l : t1 ≤ out.length + 1 := by omega
          have ht0l : t0 ≤ out.length + 1 := by omega
          clear ht1 ht0 hdl hdc hsl hsc hm hmm
          have HR6 := Lib.hid (fun k => (hown2.of_block (w' := w6.drewN k) fun _ _ => rfl : Row (w6.drewN k) 32 3 (.slice (some ⟨g2, 0, none⟩) (out.length + 1) cap') (out.length + 1) (tcells (out ++ [x]))))
          have HB6 := Lib.hid hB6
          have HF6 := Lib.hid hf6
          have HX6 := Lib.hid hx6
          have hwr : IntKind.i64.wrap (1) = 1 := IntWalk.i64_in _ (by omega)
          clear hown2 hgrow hat hap hB6 hf6 hx6 HR5 HX5 HS5 HD HSr HRW HBX e0 e1 e2
          go_region_law
            (refine step_copy_within _ (by rfl) _ _ _ (by rfl) 32 i0 3 Try.underlying36 hi0 hz1 g2 (out.length + 1) cap' _ (HR6.out 1) (tcells_one _) t1 t0 ht1l ht0l m HM.out.2 dl dc sl sc HE.out.2.2.1 HE.out.2.2.2.1 HE.out.2.2.2.2.1 HE.out.2.2.2.2.2 (by go_simp) (by go_simp) ?_; intro w7 hrow7 hgr7)
          all_goals
            have hgl7 : g2 < w6.heap.size := hgl2
            have hx7 : w7.heap[wr.heap.size]? = _ := (hgr7.block wr.heap.size (heap_lt HX6.out) (fun e => (HF6.out g2 rfl).2 (by injection e with e; exact e.symm))).trans HX6.out
            have hmv2 : (((splice (tcells (out ++ [x])) (t1 * 3) (((tcells (out ++ [x])).drop (t0 * 3)).take (m * 3))).set (0) (.complex .f64 (fl x.a) (fl x.b))).set (1) (.string x.s)).set (2) (.int .i64 x.f) = tcells (insAt out x 0) := by
              have := moved out x 0 (by omega)
              rw [HE.out.1, HE.out.2.1, HM.out.1]; exact this
            generalize splice (tcells (out ++ [x])) (t1 * 3) (((tcells (out ++ [x])).drop (t0 * 3)).take (m * 3)) = XS at hmv2 hrow7
            obtain ⟨g7, hg7, -, hgc7, hfz7⟩ := hrow7.view (by omega)
            obtain rfl : g2 = g7 := by simpa using hg7
            clear hg7
            have hlen7 := hrow7.1
            obtain ⟨v0, hv0⟩ : ∃ v0, XS[0]? = some v0 := ⟨_, List.getElem?_eq_getElem (by omega)⟩
            obtain ⟨v1, hv1⟩ : ∃ v1, XS[1]? = some v1 := ⟨_, List.getElem?_eq_getElem (by omega)⟩
            obtain ⟨v2, hv2⟩ : ∃ v2, XS[2]? = some v2 := ⟨_, List.getElem?_eq_getElem (by omega)⟩
            have k0 := (hgc7 (0) (by omega)).trans hv0
            have k1 := (hgc7 (1) (by omega)).trans hv1
            have k2 := (hgc7 (2) (by omega)).trans hv2
            have z0 := hfz7 (0)
            have z1 := hfz7 (1)
            have z2 := hfz7 (2)
            have e0 : w7.cell? ⟨wr.heap.size, 0, none⟩ = some (.complex .f64 (fl x.a) (fl x.b)) := by rw [cell_of_row _ _ _ _ _ _ hx7]; rfl
            have e1 : w7.cell? ⟨wr.heap.size, 1, none⟩ = some (.string x.s) := by rw [cell_of_row _ _ _ _ _ _ hx7]; rfl
            have e2 : w7.cell? ⟨wr.heap.size, 2, none⟩ = some (.int .i64 x.f) := by rw [cell_of_row _ _ _ _ _ _ hx7]; rfl
            have HR7 := Lib.hid hrow7
            have HG7 := Lib.hid hgr7
            have HMV := Lib.hid hmv2
            have hne7 : ¬ g2 = wr.heap.size := (HF6.out g2 rfl).2
            clear hrow7 hgr7 hmv2 hgc7 hfz7 hlen7 hgl7 hx7 hv0 hv1 hv2
            go_wp2_with fail
            go_roundw
            case rel =>
              refine ⟨k + 1, by go_num, by omega, ?_, fun b hb => (HF6.out b hb).1, ?_⟩
              · rw [HSn.out, HIns2.out, ← HMV.out]
                have hl8 : (insAt out x 0).length = out.length + 1 := by simp only [insAt, List.length_append, List.length_take, List.length_cons, List.length_drop]; omega
                rw [hl8]
                exact ((HR7.out.stored _ _).stored _ _).stored _ _
              · have h1 : Below w.heap.size w w7 := (HB6.out.drew).grown HG7.out HB6.out.size fun b hb => by
                  injection hb with hb; rw [← hb]; exact (HF6.out g2 rfl).1
                have hg2 : w.heap.size ≤ g2 := (HF6.out g2 rfl).1
                exact ((h1.setCell (p := ⟨g2, _, none⟩) hg2 _).setCell (p := ⟨g2, _, none⟩) hg2 _).setCell (p := ⟨g2, _, none⟩) hg2 _
            case measure => simp [intOf]; omega
        case inr =>
          obtain ⟨y, hy⟩ : ∃ y, out[t - 1]? = some y := ⟨_, List.getElem?_eq_getElem (by omega)⟩
          have hyl := hLo y (List.mem_of_getElem? hy)
          rw [dupB_pos out x t ht0 y hy] at hd
          have o1 := order_fl_eq y.a x.a (by omega) (by omega)
          have o2 := order_fl_eq y.b x.b (by omega) (by omega)
          have o3 : (FloatKind.f64.format.order (fl y.a) (fl x.a) == some .eq && FloatKind.f64.format.order (fl y.b) (fl x.b) == some .eq) = false := by rw [o1, o2]; exact hd
          obtain ⟨go, rfl, hgol, hgoc, -⟩ := HRW.out.view (by omega)
          have p0 : W.cell? ⟨go, (t - 1) * 3, none⟩ = some (.complex .f64 (fl y.a) (fl y.b)) := by rw [hgoc ((t - 1) * 3) (by omega)]; exact (tcells_at out (t - 1) y hy).1
          clear hgoc hd hy o1 o2
          go_wp2_with fail
          go_quiet (fail)
          obtain ⟨W5, hW5⟩ : ∃ W5, W.drewN nq = W5 := ⟨_, rfl⟩
          have HB5 := Lib.hid (show Below w.heap.size w W5 from hW5 ▸ below_drewN (HB.out.trans (HBW.out.mono HB.out.size)) nq)
          have HR5 := Lib.hid (show Row W5 32 3 (.slice (some ⟨go, 0, none⟩) out.length co) out.length (tcells out) from hW5 ▸ HRW.out.of_block fun _ _ => rfl)
          have HX5 := Lib.hid (show W5.heap[wr.heap.size]? = some (.cells #[.complex .f64 (fl x.a) (fl x.b), .string x.s, .int .i64 x.f] 32 (0, 0)) from hW5 ▸ HBX.out)
          have HS5 := Lib.hid (show W5.heap.size = wr.heap.size + 1 from hW5 ▸ HSW.out)
          have e0 : W5.cell? ⟨wr.heap.size, 0, none⟩ = some (.complex .f64 (fl x.a) (fl x.b)) := by rw [cell_of_row _ _ _ _ _ _ HX5.out]; rfl
          have e1 : W5.cell? ⟨wr.heap.size, 1, none⟩ = some (.string x.s) := by rw [cell_of_row _ _ _ _ _ _ HX5.out]; rfl
          have e2 : W5.cell? ⟨wr.heap.size, 2, none⟩ = some (.int .i64 x.f) := by rw [cell_of_row _ _ _ _ _ _ HX5.out]; rfl
          rw [hW5]
          have hdst : Row (W5.alloc (.cells #[.complex .f64 (fl x.a) (fl x.b), .string x.s, .int .i64 x.f] 32)) 32 3 (.slice (some ⟨go, 0, none⟩) out.length co) out.length (tcells out) := HR5.out.of_block fun b hb => Below.heap_alloc W5 _ b (HR5.out.lt hb)
          have hsrc : Src (W5.alloc (.cells #[.complex .f64 (fl x.a) (fl x.b), .string x.s, .int .i64 x.f] 32)) 3 (.slice (some ⟨W5.heap.size, 0, none⟩) 1 1) 1 (tgC x) := Src.of_block (heap_alloc_new W5 (.cells #[.complex .f64 (fl x.a) (fl x.b), .string x.s, .int .i64 x.f] 32)) 1 1 rfl (by simp [Value.oneCell'])
          have HD := Lib.hid hdst
          have HSr := Lib.hid hsrc
          clear hW5 hdst hsrc b0 b1 b2
          go_wp2_with (at_builtin; refine wpList_append_row _ rfl _ _ 36 rfl 32 i0 _ 3 40 Try.underlying36 hi0 hz0 hz1 hz2 rfl (.slice (some ⟨go, 0, none⟩) out.length co) out.length _ rfl HD.out (.slice (some ⟨W5.heap.size, 0, none⟩) 1 1) 1 (tgC x) rfl HSr.out (by unfold maxLen; omega) (by omega) (W5.heap.size + 1) (by simp) ?_; intro a' cap' w6 hown2 hgrow hat)
          have hx6 : w6.heap[wr.heap.size]? = _ := (hgrow.block wr.heap.size (by have := HS5.out; simp; omega) (fun e => by have := HRW.out; have := HR.out.lt e.symm; omega)).trans ((Below.heap_alloc W5 _ _ (by have := HS5.out; omega)).trans HX5.out)
          have hB6 : Below w.heap.size w w6 := (HB5.out.alloc HB5.out.size _).grown hgrow (by have := HB5.out.size; simp; omega) HFr.out
          have hf6 : ∀ b, (Value.slice a' (out.length + 1) cap').ownBlock = some b → w.heap.size ≤ b ∧ b ≠ wr.heap.size := fun b hb => by
            rcases hat b hb with h | h
            · exact ⟨HFr.out b h, fun e => by have := HR.out.lt h; omega⟩
            · have := HB5.out.size; have := HS5.out; exact ⟨by omega, by omega⟩
          have hap : tcells out ++ tgC x = tcells (out ++ [x]) := by rw [tcells_append]; simp [tcells]
          rw [hap] at hown2
          obtain ⟨g2, rfl, hgl2, -, -⟩ := hown2.view (by omega)
          obtain ⟨-, -, -, hcc, -, -⟩ := hown2.form
          obtain ⟨t1, ht1⟩ : ∃ t1 : Nat, t1 = t + 1 := ⟨_, rfl⟩
          obtain ⟨t0, ht0⟩ : ∃ t0 : Nat, t0 = t := ⟨_, rfl⟩
          obtain ⟨dl, hdl⟩ : ∃ dl : Nat, dl = out.length + 1 - t1 := ⟨_, rfl⟩
          obtain ⟨dc, hdc⟩ : ∃ dc : Nat, dc = cap' - t1 := ⟨_, rfl⟩
          obtain ⟨sl, hsl⟩ : ∃ sl : Nat, sl = out.length + 1 - t0 := ⟨_, rfl⟩
          obtain ⟨sc, hsc⟩ : ∃ sc : Nat, sc = cap' - t0 := ⟨_, rfl⟩
          have hs1 : ∀ w, (Instr.slice 36 (.slice (some ⟨g2, 0, none⟩) (out.length + 1) cap') (some (.int .i64 ((t : Int) + 1))) none none).run Try.prog w = .ok (.slice (fromAddr (some ⟨g2, 0, none⟩) cap' t1 3) dl dc) w := fun w => by
            have := run_slice_from w 36 32 i0 Try.underlying36 hi0 3 hz1 (some ⟨g2, 0, none⟩) (out.length + 1) cap' t1 (by omega) .i64
            rw [← hdl, ← hdc, show ((t1 : Nat) : Int) = (t : Int) + 1 by omega] at this; exact this
          have hs0 : ∀ w, (Instr.slice 36 (.slice (some ⟨g2, 0, none⟩) (out.length + 1) cap') (some (.int .i64 ((t : Int)))) none none).run Try.prog w = .ok (.slice (fromAddr (some ⟨g2, 0, none⟩) cap' t0 3) sl sc) w := fun w => by
            have := run_slice_from w 36 32 i0 Try.underlying36 hi0 3 hz1 (some ⟨g2, 0, none⟩) (out.length + 1) cap' t0 (by omega) .i64
            rw [← hsl, ← hsc, show ((t0 : Nat) : Int) = (t : Int) by omega] at this; exact this
          have HE := Lib.hid (And.intro ht1 (And.intro ht0 (And.intro hdl (And.intro hdc (And.intro hsl hsc)))))
          obtain ⟨m, hm⟩ : ∃ m : Nat, m = out.length - t := ⟨_, rfl⟩
          have hmm : m = min (out.length + 1 - t0) (out.length + 1 - t1) := by omega
          have HM := Lib.hid (And.intro hm hmm)
          have ht1l : t1 ≤ out.length + 1 := by omega
          have ht0l : t0 ≤ out.length + 1 := by omega
          clear ht1 ht0 hdl hdc hsl hsc hm hmm
          have HR6 := Lib.hid (fun k => (hown2.of_block (w' := w6.drewN k) fun _ _ => rfl : Row (w6.drewN k) 32 3 (.slice (some ⟨g2, 0, none⟩) (out.length + 1) cap') (out.length + 1) (tcells (out ++ [x]))))
          have HB6 := Lib.hid hB6
          have HF6 := Lib.hid hf6
          have HX6 := Lib.hid hx6
          have hwr : IntKind.i64.wrap ((t : Int) + 1) = (t : Int) + 1 := IntWalk.i64_in _ (by omega)
          clear hown2 hgrow hat hap hB6 hf6 hx6 HR5 HX5 HS5 HD HSr HRW HBX e0 e1 e2
          go_region_law
            (refine step_copy_within _ (by rfl) _ _ _ (by rfl) 32 i0 3 Try.underlying36 hi0 hz1 g2 (out.length + 1) cap' _ (HR6.out 1) (tcells_one _) t1 t0 ht1l ht0l m HM.out.2 dl dc sl sc HE.out.2.2.1 HE.out.2.2.2.1 HE.out.2.2.2.2.1 HE.out.2.2.2.2.2 (by go_simp) (by go_simp) ?_; intro w7 hrow7 hgr7)
          all_goals
            have hgl7 : g2 < w6.heap.size := hgl2
            have hx7 : w7.heap[wr.heap.size]? = _ := (hgr7.block wr.heap.size (heap_lt HX6.out) (fun e => (HF6.out g2 rfl).2 (by injection e with e; exact e.symm))).trans HX6.out
            have hmv2 : (((splice (tcells (out ++ [x])) (t1 * 3) (((tcells (out ++ [x])).drop (t0 * 3)).take (m * 3))).set (t * 3) (.complex .f64 (fl x.a) (fl x.b))).set (t * 3 + 1) (.string x.s)).set (t * 3 + 2) (.int .i64 x.f) = tcells (insAt out x t) := by
              have := moved out x t (by omega)
              rw [HE.out.1, HE.out.2.1, HM.out.1]; exact this
            generalize splice (tcells (out ++ [x])) (t1 * 3) (((tcells (out ++ [x])).drop (t0 * 3)).take (m * 3)) = XS at hmv2 hrow7
            obtain ⟨g7, hg7, -, hgc7, hfz7⟩ := hrow7.view (by omega)
            obtain rfl : g2 = g7 := by simpa using hg7
            clear hg7
            have hlen7 := hrow7.1
            obtain ⟨v0, hv0⟩ : ∃ v0, XS[t * 3]? = some v0 := ⟨_, List.getElem?_eq_getElem (by omega)⟩
            obtain ⟨v1, hv1⟩ : ∃ v1, XS[t * 3 + 1]? = some v1 := ⟨_, List.getElem?_eq_getElem (by omega)⟩
            obtain ⟨v2, hv2⟩ : ∃ v2, XS[t * 3 + 2]? = some v2 := ⟨_, List.getElem?_eq_getElem (by omega)⟩
            have k0 := (hgc7 (t * 3) (by omega)).trans hv0
            have k1 := (hgc7 (t * 3 + 1) (by omega)).trans hv1
            have k2 := (hgc7 (t * 3 + 2) (by omega)).trans hv2
            have z0 := hfz7 (t * 3)
            have z1 := hfz7 (t * 3 + 1)
            have z2 := hfz7 (t * 3 + 2)
            have e0 : w7.cell? ⟨wr.heap.size, 0, none⟩ = some (.complex .f64 (fl x.a) (fl x.b)) := by rw [cell_of_row _ _ _ _ _ _ hx7]; rfl
            have e1 : w7.cell? ⟨wr.heap.size, 1, none⟩ = some (.string x.s) := by rw [cell_of_row _ _ _ _ _ _ hx7]; rfl
            have e2 : w7.cell? ⟨wr.heap.size, 2, none⟩ = some (.int .i64 x.f) := by rw [cell_of_row _ _ _ _ _ _ hx7]; rfl
            have HR7 := Lib.hid hrow7
            have HG7 := Lib.hid hgr7
            have HMV := Lib.hid hmv2
            have hne7 : ¬ g2 = wr.heap.size := (HF6.out g2 rfl).2
            clear hrow7 hgr7 hmv2 hgc7 hfz7 hlen7 hgl7 hx7 hv0 hv1 hv2
            go_wp2_with fail
            go_roundw
            case rel =>
              refine ⟨k + 1, by go_num, by omega, ?_, fun b hb => (HF6.out b hb).1, ?_⟩
              · rw [HSn.out, HIns2.out, ← HMV.out]
                have hl8 : (insAt out x t).length = out.length + 1 := by simp only [insAt, List.length_append, List.length_take, List.length_cons, List.length_drop]; omega
                rw [hl8]
                exact ((HR7.out.stored _ _).stored _ _).stored _ _
              · have h1 : Below w.heap.size w w7 := (HB6.out.drew).grown HG7.out HB6.out.size fun b hb => by
                  injection hb with hb; rw [← hb]; exact (HF6.out g2 rfl).1
                have hg2 : w.heap.size ≤ g2 := (HF6.out g2 rfl).1
                exact ((h1.setCell (p := ⟨g2, _, none⟩) hg2 _).setCell (p := ⟨g2, _, none⟩) hg2 _).setCell (p := ⟨g2, _, none⟩) hg2 _
            case measure => simp [intOf]; omega
    · obtain rfl : k = L.length := by omega
      rw [List.take_length] at HR HFr hco hmo ⊢
      clear HL HRow
      go_wp2_with fail
      go_ret
      exact ⟨ao, co, rfl, HR.out, HFr.out, HB.out⟩
end Go.Proofs.Ytboogadchjojkaa
