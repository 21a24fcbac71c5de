/- A box in memory beside a sink; the walks of outbox.New, Len, Full, All, Again and Acked. No condition. -/
import Derived.Test.YtboogadchjojkaaSKnown
import Derived.Laws.ComplexArith
namespace Go.Proofs.Ytboogadchjojkaa
open Go.ChangeShapes Go.WideShapes Go.ChangeAt Go.RowKit

structure Bx where
  queue : Int
  items : List Tg
  sent : Nat
def bxHead (v : Value) (b : Bx) : Array Value := #[.int .i64 b.queue, v, .int .i64 b.sent]
structure BoxAt (w : World) (p : Nat) (v : Value) (b : Bx) : Prop where
  head : w.heap[p]? = some (.cells (bxHead v b) 51 (0, 0))
  row : Row w 32 3 v b.items.length (tcells b.items)
  notp : ∀ k, v.ownBlock = some k → k ≠ p
section
variable {w w' : World} {p : Nat} {v : Value} {b : Bx}
theorem BoxAt.cells (h : BoxAt w p v b) : w.cell? ⟨p, 0, none⟩ = some (.int .i64 b.queue) ∧ w.cell? ⟨p, 1, none⟩ = some v ∧ w.cell? ⟨p, 2, none⟩ = some (.int .i64 b.sent) ∧ ∀ j, w.frozen? ⟨p, j, none⟩ = false := by
  refine ⟨?_, ?_, ?_, fun j => frozen_of_row _ _ _ _ _ h.head⟩ <;> (rw [cell_of_row _ _ _ _ _ _ h.head]; rfl)
theorem BoxAt.lt (h : BoxAt w p v b) : p < w.heap.size := heap_lt h.head
theorem BoxAt.move (h : BoxAt w p v b) (hb : ∀ k, (k = p ∨ v.ownBlock = some k) → w'.heap[k]? = w.heap[k]?) : BoxAt w' p v b :=
  ⟨(hb p (.inl rfl)).trans h.head, h.row.of_block fun k hk => hb k (.inr hk), h.notp⟩
theorem BoxAt.foot (h : BoxAt w p v b) : ∀ k, (k = p ∨ v.ownBlock = some k) → k < w.heap.size := by
  rintro k (rfl | hk)
  · exact h.lt
  · exact h.row.lt hk
theorem BoxAt.below (h : BoxAt w p v b) (hB : Below w.heap.size w w') : BoxAt w' p v b := h.move fun k hk => hB.block k (h.foot k hk)
end
/-- a box whose blocks are none of X's -/
def BoxOwn (X : Nat → Prop) (w : World) (p : Nat) (b : Bx) : Prop := (∀ k, X k → k < w.heap.size) ∧ ∃ v, BoxAt w p v b ∧ ∀ k, (k = p ∨ v.ownBlock = some k) → ¬ X k
theorem BoxOwn.below {X : Nat → Prop} {w w' : World} {p : Nat} {b : Bx} (h : BoxOwn X w p b) (hB : Below w.heap.size w w') : BoxOwn X w' p b := by
  obtain ⟨hX, v, hA, hf⟩ := h
  exact ⟨fun k hk => Nat.lt_of_lt_of_le (hX k hk) hB.size, v, hA.below hB, hf⟩
theorem bown_set {X : Nat → Prop} {p : Nat} {b b' : Bx} {w : World} {v : Value} (hX : ∀ k, X k → k < w.heap.size) (hA : BoxAt w p v b) (hf : ∀ k, (k = p ∨ v.ownBlock = some k) → ¬ X k) (j : Nat) (u : Value) (hs : (bxHead v b).setIfInBounds j u = bxHead v b') (hal : b'.items = b.items) :
    BoxOwn X (w.setCell ⟨p, j, none⟩ u) p b' ∧ Keep X w (w.setCell ⟨p, j, none⟩ u) := by
  refine ⟨⟨fun k hk => by simpa [World.setCell] using hX k hk, v, ⟨?_, ?_, hA.notp⟩, hf⟩, Mod.setCell (S := fun k => ¬ X k) (p := ⟨p, j, none⟩) (Mod.refl _ w) (.inr (hf p (.inl rfl))) u⟩
  · have := heap_setCell_same w p j _ _ u hA.head
    rw [hs] at this; exact this
  · rw [hal]
    exact hA.row.of_block fun k hk => heap_setCell_other _ _ _ _ (show k ≠ (⟨p, j, none⟩ : Addr).block from hA.notp k hk)

def emptyBx (q : Int) : Bx := ⟨q, [], 0⟩
theorem bnew_ok (q : Int) (h1 : 1 ≤ q) (h2 : q ≤ 1000) (w : World) : Calls Try.prog 13 #[.int .i64 q] w fun e w' => e = .returned (.tuple #[.pointer (some ⟨w.heap.size, 0, none⟩), .int .i64 0]) ∧ BoxOwn (fun k => k < w.heap.size) w' w.heap.size (emptyBx q) ∧ Below w.heap.size w w' := by
  go_enter Try.func13, Try.ntmps13
  go_wp2
  go_ret2
  have hB := (Below.refl w.heap.size w).alloc (Nat.le_refl _) (.cells (bxHead (.slice none 0 0) (emptyBx q)) 51)
  refine ⟨rfl, ⟨fun k hk => Nat.lt_of_lt_of_le hk hB.size, .slice none 0 0, ⟨heap_alloc_new w _, Row.nil _ _ _, by intro k hk; simp [Value.ownBlock] at hk⟩, ?_⟩, hB⟩
  rintro k (rfl | hk)
  · omega
  · simp [Value.ownBlock] at hk
theorem bnew_no (q : Int) (h : q < 1 ∨ 1000 < q) (w : World) : Calls Try.prog 13 #[.int .i64 q] w fun e w' => e = .returned (.tuple #[.pointer none, .int .i64 1]) ∧ w = w' := by
  by_cases h0 : q < 1
  · clear h
    go_enter Try.func13, Try.ntmps13
    go_wp2
    go_ret2
    exact ⟨rfl, rfl⟩
  · have h1 : 1000 < q := by omega
    clear h
    go_enter Try.func13, Try.ntmps13
    go_wp2
    go_ret2
    exact ⟨rfl, rfl⟩
section
variable (X : Nat → Prop) (p : Nat) (b : Bx) (w : World)
theorem blen_own (h : BoxOwn X w p b) : Calls Try.prog 26 #[.pointer (some ⟨p, 0, none⟩)] w fun e w' => e = .returned (.int .i64 b.items.length) ∧ w = w' := by
  obtain ⟨-, v, hA, -⟩ := h
  obtain ⟨-, c1, -, -⟩ := hA.cells
  obtain ⟨a, cap, rfl, -⟩ := hA.row.form
  clear hA
  go_enter Try.func26, Try.ntmps26
  go_wp2
  go_ret
  exact ⟨rfl, rfl⟩
theorem bfull_own (h : BoxOwn X w p b) (t : Bool) (ht : decide (b.queue ≤ b.items.length) = t) : Calls Try.prog 23 #[.pointer (some ⟨p, 0, none⟩)] w fun e w' => e = .returned (.bool t) ∧ ∃ n, w' = w.drewN n := by
  obtain ⟨-, v, hA, -⟩ := h
  obtain ⟨c0, c1, -, -⟩ := hA.cells
  obtain ⟨a, cap, rfl, -⟩ := hA.row.form
  clear hA
  go_enter Try.func23, Try.ntmps23
  go_wp2
  go_quiet (fail)
  go_wp2
  go_ret
  exact ⟨rfl, _, rfl⟩
theorem ball_own (h : BoxOwn X w p b) (hl : b.items.length ≤ 1000000) : Calls Try.prog 25 #[.pointer (some ⟨p, 0, none⟩)] w fun e w' => NewItems w w' e b.items := by
  obtain ⟨i0, hi0, hz0, hz1, hz2⟩ := info_parts infoT
  obtain ⟨-, v, hA, -⟩ := h
  obtain ⟨-, c0, -, -⟩ := hA.cells
  obtain ⟨a, cap, rfl, -⟩ := hA.row.form
  have hsrc : Src (w.alloc (.cells #[] 32)) 3 (.slice a b.items.length cap) b.items.length (tcells b.items) := (Src.of_row hA.row (tcells_one _)).below ((Below.refl _ w).alloc (Nat.le_refl _) _)
  have hdst := Row.lit_at w 32 3 #[] 0 w.heap.size rfl (Nat.zero_le _) rfl
  have hpl := hA.lt
  clear hA
  go_enter Try.func25, Try.ntmps25
  go_wp2_with (at_builtin; refine wpList_append_row _ rfl _ _ 36 rfl 32 i0 _ 3 40 Try.underlying36 hi0 hz0 hz1 hz2 rfl (.slice (some ⟨w.heap.size, 0, none⟩) 0 0) 0 [] rfl hdst _ _ _ rfl hsrc (by unfold maxLen; omega) (by omega) (w.heap.size + 1) (by simp) ?_; intro a' cap' w2 hown2 hgrow hat)
  go_ret
  simp only [Nat.zero_add, List.nil_append] at hown2
  refine ⟨a', cap', by simp, hown2, fun k hk => ?_, ((Below.refl _ w).alloc (Nat.le_refl _) _).grown hgrow (by simp) (by intro k hk; simp [Value.ownBlock] at hk; omega)⟩
  rcases hat k (by simpa using hk) with e | e
  · simp [Value.ownBlock] at e; omega
  · omega
theorem again_own (h : BoxOwn X w p b) : Calls Try.prog 18 #[.pointer (some ⟨p, 0, none⟩)] w fun e w' => e = .returned (.tuple #[]) ∧ BoxOwn X w' p { b with sent := 0 } ∧ Keep X w w' := by
  obtain ⟨hX, v, hA, hf⟩ := h
  obtain ⟨-, -, c2, hfz⟩ := hA.cells
  have f2 := hfz 2
  have ho := bown_set hX hA hf 2 (.int .i64 0) (b' := { b with sent := 0 }) rfl rfl
  have HO := Lib.hid ho
  clear hfz hX hA hf ho
  go_enter Try.func18, Try.ntmps18
  go_wp2
  go_end0
  exact ⟨rfl, HO.out⟩
end

/-! what is acknowledged goes -/
def goneB (a b : Nat) (t : Tg) : Bool := (decide (t.a = a) && decide (t.b = b)) || lessB t.a t.b a b
def leftM (l : List Tg) (a b : Nat) : List Tg := l.filter fun t => !goneB a b t
theorem leftM_snoc (l : List Tg) (a b k : Nat) (x : Tg) (h : l[k]? = some x) : leftM (l.take (k + 1)) a b = if goneB a b x then leftM (l.take k) a b else leftM (l.take k) a b ++ [x] := by
  have hlt := (List.getElem?_eq_some_iff.1 h).1
  have hx := (List.getElem?_eq_some_iff.1 h).2
  unfold leftM
  rw [List.take_succ_eq_append_getElem hlt, hx, List.filter_append]
  cases hg : goneB a b x <;> simp [hg]
theorem leftM_len (l : List Tg) (a b : Nat) : (leftM l a b).length ≤ l.length := List.length_filter_le _ _

set_option maxRecDepth 100000 in
set_option maxHeartbeats 2000000 in
theorem backed_own (X : Nat → Prop) (p : Nat) (b : Bx) (w : World) (h : BoxOwn X w p b) (hs : b.sent = 0) (a1 a2 : Nat) (ha1 : a1 ≤ 1099511627776) (ha2 : a2 ≤ 1099511627776) (hL : Low b.items) (hl : b.items.length ≤ 1000) :
    Calls Try.prog 24 #[.pointer (some ⟨p, 0, none⟩), .complex .f64 (fl a1) (fl a2)] w fun e w' => e = .returned (.tuple #[]) ∧ BoxOwn X w' p { b with items := leftM b.items a1 a2 } ∧ Keep X w w' := by
  obtain ⟨i0, hi0, hz0, hz1, hz2⟩ := info_parts infoT
  obtain ⟨hX, v, hA, hf⟩ := h
  obtain ⟨-, c1, c2, hfz⟩ := hA.cells
  obtain ⟨av, cap, rfl, -⟩ := hA.row.form
  rw [hs] at c2
  have hpl := hA.lt
  have HA := Lib.hid hA
  have HX := Lib.hid hX
  have HF := Lib.hid hf
  have HL := Lib.hid hL
  have HS := Lib.hid hs
  have f1 := hfz 1
  have f2 := hfz 2
  clear hA hX hf hL hfz hs
  go_enter Try.func24, Try.ntmps24
  go_wp2_with fail
  go_loopw [4, 5, 17] (fun out st i wr => ∃ k : Nat, i = .int .i64 k ∧ st = .int .i64 0 ∧ k ≤ b.items.length ∧ Row wr 32 3 out (leftM (b.items.take k) a1 a2).length (tcells (leftM (b.items.take k) a1 a2)) ∧ (∀ j, out.ownBlock = some j → w.heap.size ≤ j) ∧ Below w.heap.size w wr) (fun _ _ i _ => b.items.length - (intOf i).toNat)
  case atStart => exact ⟨0, rfl, rfl, Nat.zero_le _, Row.nil _ _ _, by intro b hb; simp [Value.ownBlock] at hb, Below.refl _ _⟩
  case round =>
    obtain ⟨k, rfl, rfl, hk, hR, hfr, hB⟩ := hrel
    obtain ⟨ao, co, rfl, hco, hmo, hmc⟩ := hR.form
    have HR := Lib.hid hR
    have HFr := Lib.hid hfr
    have HB := Lib.hid hB
    have q2 := (hB.cell (p := ⟨p, 2, none⟩) hpl).trans c2
    clear hR hfr hB
    by_cases hlt : k < b.items.length
    · obtain ⟨x, hx⟩ : ∃ x, b.items[k]? = some x := ⟨_, List.getElem?_eq_getElem hlt⟩
      have hxl := HL.out x (List.mem_of_getElem? hx)
      obtain ⟨g, rfl, hgl, hgc, -⟩ := HA.out.row.view (by omega)
      have hxa := tcells_at b.items k x hx
      have e0 := (HB.out.cell (p := ⟨g, k * 3, none⟩) hgl).trans ((hgc (k * 3) (by omega)).trans hxa.1)
      have e1 := (HB.out.cell (p := ⟨g, k * 3 + 1, none⟩) hgl).trans ((hgc (k * 3 + 1) (by omega)).trans hxa.2.1)
      have e2 := (HB.out.cell (p := ⟨g, k * 3 + 2, none⟩) hgl).trans ((hgc (k * 3 + 2) (by omega)).trans hxa.2.2)
      have hsn := leftM_snoc b.items a1 a2 k x hx
      have hfl : (leftM (b.items.take k) a1 a2).length ≤ 1000 := by have := leftM_len (b.items.take k) a1 a2; rw [List.length_take] at this; omega
      have HSn := Lib.hid hsn
      generalize leftM (b.items.take k) a1 a2 = out at *
      have o1 := order_fl_eq x.a a1 (by omega) (by omega)
      have o2 := order_fl_eq x.b a2 (by omega) (by omega)
      have HLs := Lib.hid (fun w => less_yes x.a x.b a1 a2 hxl.1 hxl.2 ha1 ha2 w)
      have hpz : p < wr.heap.size := Nat.lt_of_lt_of_le hpl HB.out.size
      cases hgn : goneB a1 a2 x with
      | true =>
        have hsn2 : leftM (b.items.take (k + 1)) a1 a2 = out := by rw [HSn.out, if_pos hgn]
        have HSn2 := Lib.hid hsn2
        clear hgc hxa hx hsn hsn2 HSn
        by_cases hq : (decide (x.a = a1) && decide (x.b = a2)) = true
        case' pos =>
          have o3 : (FloatKind.f64.format.order (fl x.a) (fl a1) == some .eq && FloatKind.f64.format.order (fl x.b) (fl a2) == some .eq) = true := by rw [o1, o2]; exact hq
          clear o1 o2 hgn hq
          go_wp2_with fail
        case' neg =>
          have hq2 : (decide (x.a = a1) && decide (x.b = a2)) = false := by simpa using hq
          have o3 : (FloatKind.f64.format.order (fl x.a) (fl a1) == some .eq && FloatKind.f64.format.order (fl x.b) (fl a2) == some .eq) = false := by rw [o1, o2]; exact hq2
          have hls : lessB x.a x.b a1 a2 = true := by unfold goneB at hgn; rw [hq2, Bool.false_or] at hgn; exact hgn
          rw [hls] at HLs
          clear o1 o2 hgn hq hq2 hls
          go_wp2_with fail
          refine (HLs.out _).mono ?_
          rintro e w' ⟨rfl, rfl⟩
          go_wp2_with fail
        all_goals
          go_roundw
          case rel => exact ⟨k + 1, by go_num, rfl, by omega, by rw [HSn2.out]; exact HR.out.of_block fun j hj => Below.heap_alloc wr _ j (HR.out.lt hj), HFr.out, HB.out.alloc HB.out.size _⟩
          case measure => simp [intOf]; omega
      | false =>
        have hsn2 : leftM (b.items.take (k + 1)) a1 a2 = out ++ [x] := by rw [HSn.out, hgn]; rfl
        have HSn2 := Lib.hid hsn2
        unfold goneB at hgn
        rw [Bool.or_eq_false_iff] at hgn
        obtain ⟨hq2, hls⟩ := hgn
        have o3 : (FloatKind.f64.format.order (fl x.a) (fl a1) == some .eq && FloatKind.f64.format.order (fl x.b) (fl a2) == some .eq) = false := by rw [o1, o2]; exact hq2
        rw [hls] at HLs
        have hdst : Row ((wr.alloc (.cells #[.complex .f64 (fl x.a) (fl x.b), .string x.s, .int .i64 x.f] 32)).alloc (.cells #[.complex .f64 (fl x.a) (fl x.b), .string x.s, .int .i64 x.f] 32)) 32 3 (.slice ao out.length co) out.length (tcells out) := HR.out.of_block fun j hj => (Below.heap_alloc _ _ j (by have := HR.out.lt hj; simp; omega)).trans (Below.heap_alloc wr _ j (HR.out.lt hj))
        have hsrc : Src ((wr.alloc (.cells #[.complex .f64 (fl x.a) (fl x.b), .string x.s, .int .i64 x.f] 32)).alloc (.cells #[.complex .f64 (fl x.a) (fl x.b), .string x.s, .int .i64 x.f] 32)) 3 (.slice (some ⟨wr.heap.size + 1, 0, none⟩) 1 1) 1 (tgC x) := by
          have := Src.of_block (size := 3) (heap_alloc_new (wr.alloc (.cells #[.complex .f64 (fl x.a) (fl x.b), .string x.s, .int .i64 x.f] 32)) (.cells #[.complex .f64 (fl x.a) (fl x.b), .string x.s, .int .i64 x.f] 32)) 1 1 rfl (by simp [Value.oneCell'])
          simpa [tgC] using this
        have HD := Lib.hid hdst
        have HSr := Lib.hid hsrc
        clear hgc hxa hx hsn hsn2 HSn o1 o2 hq2 hls hdst hsrc
        go_wp2_with fail
        refine (HLs.out _).mono ?_
        rintro e w' ⟨rfl, rfl⟩
        go_wp2_with (at_builtin; refine wpList_append_row _ rfl _ _ 36 rfl 32 i0 _ 3 40 Try.underlying36 hi0 hz0 hz1 hz2 rfl (.slice ao out.length co) out.length _ rfl HD.out (.slice (some ⟨wr.heap.size + 1, 0, none⟩) 1 1) 1 (tgC x) rfl HSr.out (by unfold maxLen; omega) (by omega) (wr.heap.size + 2) (by simp) ?_; intro a' cap' w6 hown2 hgrow hat)
        go_roundw
        case rel =>
          refine ⟨k + 1, by go_num, rfl, by omega, ?_, fun j hj => ?_, ?_⟩
          · rw [HSn2.out, tcells_append, List.length_append]
            have e : tcells [x] = tgC x := by simp [tcells]
            rw [e]; exact hown2
          · rcases hat j hj with h | h
            · exact HFr.out j h
            · have := HB.out.size; omega
          · exact ((HB.out.alloc HB.out.size _).alloc (by have := HB.out.size; simp; omega) _).grown hgrow (by have := HB.out.size; simp; omega) HFr.out
        case measure => simp [intOf]; omega
    · obtain rfl : k = b.items.length := by omega
      rw [List.take_length] at HR HFr hco hmo ⊢
      have q1 := (HB.out.cell (p := ⟨p, 1, none⟩) hpl).trans c1
      have g1 := (HB.out.frozen (p := ⟨p, 1, none⟩) hpl).trans f1
      have g2 := (HB.out.frozen (p := ⟨p, 2, none⟩) hpl).trans f2
      clear HL c1 c2 f1 f2
      go_wp2_with fail
      go_end0
      have hnp : ∀ j, (Value.slice ao (leftM b.items a1 a2).length co).ownBlock = some j → j ≠ p := fun j hj => by have := HFr.out j hj; omega
      have hM : Keep X w ((wr.setCell ⟨p, 1, none⟩ (.slice ao (leftM b.items a1 a2).length co)).setCell ⟨p, 2, none⟩ (.int .i64 0)) :=
        Mod.setCell (S := fun k => ¬ X k) (p := ⟨p, 2, none⟩) (Mod.setCell (S := fun k => ¬ X k) (p := ⟨p, 1, none⟩) (Mod.of_below HB.out) (.inr (HF.out p (.inl rfl))) _) (.inr (HF.out p (.inl rfl))) _
      refine ⟨rfl, ⟨fun j hj => Nat.lt_of_lt_of_le (HX.out j hj) hM.size, .slice ao (leftM b.items a1 a2).length co, ⟨?_, ?_, hnp⟩, ?_⟩, hM⟩
      · have h1 := heap_setCell_same wr p 1 _ _ (.slice ao (leftM b.items a1 a2).length co) ((HB.out.block p hpl).trans HA.out.head)
        have h2 := heap_setCell_same _ p 2 _ _ (.int .i64 0) h1
        rw [h2, show b = ⟨b.queue, b.items, b.sent⟩ from rfl, HS.out]; rfl
      · exact HR.out.of_block fun j hj => by rw [heap_setCell_other _ _ _ _ (show j ≠ (⟨p, 2, none⟩ : Addr).block from hnp j hj), heap_setCell_other _ _ _ _ (show j ≠ (⟨p, 1, none⟩ : Addr).block from hnp j hj)]
      · rintro j (rfl | hj)
        · exact HF.out _ (.inl rfl)
        · intro hx
          have := HFr.out j hj
          have := HX.out j hx; omega
end Go.Proofs.Ytboogadchjojkaa
