/- The walks of chapter 26's closed sentence. No condition. -/
import Derived.Test.YtboogadchjojkaaTwo
namespace Go.Proofs.Ytboogadchjojkaa
open Go.ChangeShapes Go.WideShapes Go.ChangeAt Go.RowKit

theorem BoxOwn.fewer {X Y : Nat → Prop} {w : World} {p : Nat} {b : Bx} (h : BoxOwn Y w p b) (hXY : ∀ k, X k → Y k) : BoxOwn X w p b := by
  obtain ⟨hX, v, hA, hf⟩ := h
  exact ⟨fun k hk => hX k (hXY k hk), v, hA, fun k hk e => hf k hk (hXY k e)⟩
theorem BoxOwn.more {X : Nat → Prop} {w w' : World} {p : Nat} {b : Bx} (h : BoxOwn X w p b) (hB : Below w.heap.size w w') : BoxOwn (More X w w') w' p b := by
  obtain ⟨hX, v, hA, hf⟩ := h
  refine ⟨fun k hk => ?_, v, hA.below hB, fun k hk e => ?_⟩
  · rcases hk with hk | hk
    · exact Nat.lt_of_lt_of_le (hX k hk) hB.size
    · exact hk.2
  · rcases e with e | e
    · exact hf k hk e
    · have := hA.foot k hk; omega
theorem keep_more {X : Nat → Prop} {w w1 w' : World} (hB : Below w.heap.size w w1) (hK : Keep (More X w w1) w1 w') : Keep X w w' :=
  (Mod.of_below hB).trans' (S := fun k => ¬ X k) hK fun _ _ hk e => hk (.inl e)

abbrev sA : ByteArray := ⟨#[97]⟩
abbrev sB : ByteArray := ⟨#[98]⟩
/-- the two items -/
theorem items_two (w : World) : Calls Try.prog 16 #[.slice (some ⟨w.heap.size, 0, none⟩) 2 2] (w.alloc (.cells #[.string sA, .string sB] 9)) fun e w' =>
    ∃ a c, e = .returned (.slice a 2 c) ∧ Row w' 30 2 (.slice a 2 c) 2 (icells [sA, sB]) ∧ (∀ j, (Value.slice a 2 c).ownBlock = some j → w.heap.size ≤ j) ∧ Below w.heap.size w w' := by
  have hb := heap_alloc_new w (.cells #[.string sA, .string sB] 9)
  have hB := (Below.refl w.heap.size w).alloc (Nat.le_refl _) (.cells #[.string sA, .string sB] 9)
  refine (items_any [sA, sB] w.heap.size _ (fun j x hj => ?_) (by simp) (by decide)).mono fun e w' ⟨a, c, he, hR, hf, hB2⟩ => ⟨a, c, he, hR, fun j hj => ?_, hB.trans (hB2.mono hB.size)⟩
  · rw [cell_of_row _ _ _ _ _ _ hb]
    match j, hj with
    | 0, hj => simp at hj; subst hj; rfl
    | 1, hj => simp at hj; subst hj; rfl
    | j + 2, hj => simp at hj
  · exact Nat.le_trans hB.size (hf j hj)

/-- a box of blocks made behind w0 -/
def BxS (w0 w : World) (p : Nat) (b : Bx) : Prop := BoxOwn (fun k => k < w0.heap.size) w p b ∧ Below w0.heap.size w0 w
section
variable {w0 w w1 w' : World} {p : Nat} {b b' : Bx}
theorem BxS.below (h : BxS w0 w p b) (hB : Below w.heap.size w w') : BxS w0 w' p b := ⟨h.1.below hB, h.2.trans (hB.mono h.2.size)⟩
theorem BxS.keep (hB : Below w0.heap.size w0 w) (h : BoxOwn (fun k => k < w0.heap.size) w' p b') (hK : Keep (fun k => k < w0.heap.size) w w') : BxS w0 w' p b' := ⟨h, hB.trans (hK.below (fun _ h => h) hB.size)⟩
theorem own_new {a : Option Addr} {c n : Nat} {cells : List Value} {T : TypeId} {sz : Nat} {X : Nat → Prop} (hR : Row w1 T sz (.slice a n c) n cells) (hf : ∀ j, (Value.slice a n c).ownBlock = some j → w.heap.size ≤ j) : ∀ j, (Value.slice a n c).ownBlock = some j → More X w w1 j :=
  fun j hj => .inr ⟨hf j hj, hR.lt hj⟩
theorem BxS.add {a : Option Addr} {c ep : Nat} (h : BxS w0 w p b) (hB : Below w.heap.size w w1) (hR : Row w1 30 2 (.slice a 2 c) 2 (icells [sA, sB])) (hf : ∀ j, (Value.slice a 2 c).ownBlock = some j → w.heap.size ≤ j) (he : ep ≤ 1099511627776) (hbl : b.items.length ≤ 100000) :
    Calls Try.prog 15 #[.pointer (some ⟨p, 0, none⟩), .int .u64 ep, .slice a 2 c] w1 fun e w' => e = .returned (.tuple #[]) ∧ BxS w0 w' p { b with items := b.items ++ tagsM ep 0 [sA, sB] } :=
  (add_own _ p b [sA, sB] a c ep w1 (h.1.more hB) hR (own_new hR hf) he (by decide) hbl).mono fun _ _ ⟨he, hO, hK⟩ => ⟨he, BxS.keep h.2 (hO.fewer fun _ h => .inl h) (keep_more hB hK)⟩
theorem BxS.acked (h : BxS w0 w p b) (hs : b.sent = 0) (a1 a2 : Nat) (ha1 : a1 ≤ 1099511627776) (ha2 : a2 ≤ 1099511627776) (hL : Low b.items) (hl : b.items.length ≤ 1000) :
    Calls Try.prog 24 #[.pointer (some ⟨p, 0, none⟩), .complex .f64 (fl a1) (fl a2)] w fun e w' => e = .returned (.tuple #[]) ∧ BxS w0 w' p { b with items := leftM b.items a1 a2 } :=
  (backed_own _ p b w h.1 hs a1 a2 ha1 ha2 hL hl).mono fun _ _ ⟨he, hO, hK⟩ => ⟨he, BxS.keep h.2 hO hK⟩
theorem Two.add {pb ps : Nat} {s : Sk} {a : Option Addr} {c ep : Nat} (h : Two w0 w pb b ps s) (hB : Below w.heap.size w w1) (hR : Row w1 30 2 (.slice a 2 c) 2 (icells [sA, sB])) (hf : ∀ j, (Value.slice a 2 c).ownBlock = some j → w.heap.size ≤ j) (he : ep ≤ 1099511627776) (hbl : b.items.length ≤ 100000) :
    Calls Try.prog 15 #[.pointer (some ⟨pb, 0, none⟩), .int .u64 ep, .slice a 2 c] w1 fun e w' => e = .returned (.tuple #[]) ∧ Two w0 w' pb { b with items := b.items ++ tagsM ep 0 [sA, sB] } ps s := by
  obtain ⟨u, hs, h2, hO⟩ := h.boxOwn
  exact (add_own _ pb b [sA, sB] a c ep w1 (hO.more hB) hR (own_new hR hf) he (by decide) hbl).mono fun _ _ ⟨he, hO', hK⟩ => ⟨he, two_of_box h.1 hs h2 (hO'.fewer fun _ h => .inl h) (keep_more hB hK)⟩
theorem two_mk {pb ps : Nat} {s : Sk} (hb : BoxOwn (fun k => k < w0.heap.size) w pb b) (h0 : Below w0.heap.size w0 w) (hs : SinkOwn (fun k => k < w.heap.size) w1 ps s) (hB : Below w.heap.size w w1) : Two w0 w1 pb b ps s := by
  obtain ⟨-, v, hA, hf⟩ := hb
  obtain ⟨-, u, hS, hg⟩ := hs
  refine ⟨h0.trans (hB.mono h0.size), v, u, hA.below hB, hS, fun k hk => ⟨?_, fun e => hg k e (hA.foot k hk)⟩, fun k hk => ?_⟩
  · have := hf k hk; omega
  · have := hg k hk; have := h0.size; omega
end

def bk1 : Bx := { emptyBx 2 with items := [] ++ tagsM 3 0 [sA, sB] }
def bk2 : Bx := { bk1 with items := leftM bk1.items 3 1 }
theorem bk2_items : bk2.items = [⟨3, 2, sB, 0⟩] := by kernel_rfl
theorem low_bk1 : Low bk1.items := by
  intro x hx
  rw [show bk1.items = [⟨3, 1, sA, 0⟩, ⟨3, 2, sB, 0⟩] from rfl] at hx
  simp only [List.mem_cons, List.not_mem_nil, or_false] at hx
  rcases hx with rfl | rfl <;> decide
theorem three_fl : fl 3 = 4613937818241073152 := by kernel_rfl

set_option maxRecDepth 100000 in
set_option maxHeartbeats 2000000 in
theorem bknown_any (w : World) : Calls Try.prog 14 #[] w fun e w' => e = .returned (.bool true) ∧ Below w.heap.size w w' := by
  go_enter Try.func14, Try.ntmps14
  go_wp2_with fail
  refine (bnew_ok 2 (by decide) (by decide) w).mono ?_
  rintro e w1 ⟨rfl, hO1, hB1⟩
  have H1 := Lib.hid (show BxS w w1 w.heap.size (emptyBx 2) from ⟨hO1, hB1⟩)
  obtain ⟨p, hp⟩ : ∃ p, w.heap.size = p := ⟨_, rfl⟩
  rw [hp] at H1 ⊢
  clear hO1 hB1 hp
  go_wp2_with fail
  refine (items_two w1).mono ?_
  rintro e w2 ⟨a2, c2, rfl, hR2, hf2, hB2⟩
  have HAdd := Lib.hid (show Calls _ _ _ _ fun e w' => e = .returned (.tuple #[]) ∧ BxS w w' p bk1 from H1.out.add (ep := 3) hB2 hR2 hf2 (by decide) (by decide))
  clear hR2 hf2 hB2 H1
  go_wp2_with fail
  refine HAdd.out.mono ?_
  rintro e w3 ⟨rfl, S3⟩
  have H3 := Lib.hid S3
  clear S3 HAdd
  go_wp2_with fail
  refine (bfull_own _ p bk1 _ H3.out.1 true (by decide)).mono ?_
  rintro e w4 ⟨rfl, n4, rfl⟩
  have H4 := Lib.hid (H3.out.below (below_drewN (Below.refl _ _) n4))
  have HAck := Lib.hid (show Calls Try.prog 24 #[.pointer (some ⟨p, 0, none⟩), .complex .f64 4613937818241073152 4607182418800017408] (w3.drewN n4) fun e w' => e = .returned (.tuple #[]) ∧ BxS w w' p bk2 from by
    have := H4.out.acked rfl 3 1 (by decide) (by decide) low_bk1 (by decide)
    rw [three_fl, one_fl] at this; exact this)
  clear H3
  go_wp2_with fail
  refine HAck.out.mono ?_
  rintro e w5 ⟨rfl, S5⟩
  have H5 := Lib.hid S5
  clear S5 HAck H4
  go_wp2_with fail
  refine (ball_own _ p bk2 _ H5.out.1 (by rw [bk2_items]; decide)).mono ?_
  rintro e w6 hN
  rw [bk2_items] at hN
  obtain ⟨a6, c6, rfl, hR6, -, hB6⟩ := hN
  have H6 := Lib.hid (H5.out.below hB6)
  obtain ⟨g, rfl, -, hgc, -⟩ := hR6.view (by decide)
  have k0 : w6.cell? ⟨g, 0, none⟩ = some (.complex .f64 4613937818241073152 4611686018427387904) := by rw [hgc 0 (by decide), ← three_fl, ← two_fl]; rfl
  have k1 : w6.cell? ⟨g, 1, none⟩ = some (.string ⟨#[98]⟩) := by rw [hgc 1 (by decide)]; rfl
  have o1 : (FloatKind.f64.format.order 4613937818241073152 4613937818241073152 == some .eq) = true := by decide +kernel
  have o2 : (FloatKind.f64.format.order 4611686018427387904 4611686018427387904 == some .eq) = true := by decide +kernel
  have hl2 : [(⟨3, 2, sB, 0⟩ : Tg)].length = 1 := rfl
  rw [hl2]
  have HFull := Lib.hid (bfull_own _ p bk2 w6 H6.out.1 false (by rw [bk2_items]; decide))
  have HLen := Lib.hid (fun n => show Calls Try.prog 26 #[.pointer (some ⟨p, 0, none⟩)] (w6.drewN n) fun e w' => e = .returned (.int .i64 1) ∧ w6.drewN n = w' from by
    have := blen_own _ p bk2 (w6.drewN n) (H6.out.1.below (below_drewN (Below.refl _ _) n))
    rw [bk2_items] at this; exact this)
  clear hgc hR6 hB6 H5 hl2
  go_wp2_with fail
  refine HFull.out.mono ?_
  rintro e w7 ⟨rfl, n7, rfl⟩
  go_wp2_with fail
  refine (HLen.out _).mono ?_
  rintro e w8 ⟨rfl, rfl⟩
  go_wp2_with fail
  go_ret
  exact ⟨rfl, (H6.out.below (below_drewN (Below.refl _ _) n7)).2⟩

def bo1 : Bx := { emptyBx 2 with items := [] ++ tagsM 1 0 [sA, sB] }
def bo2 : Bx := { bo1 with sent := 2 }
def so1 : Sk := takes emptySk (bo1.items.drop 0)
def so2 : Sk := takes so1 (bo1.items.drop 0)
theorem low_bo1 : Low bo1.items := by
  intro x hx
  rw [show bo1.items = [⟨1, 1, sA, 0⟩, ⟨1, 2, sB, 0⟩] from rfl] at hx
  simp only [List.mem_cons, List.not_mem_nil, or_false] at hx
  rcases hx with rfl | rfl <;> decide
theorem so2_all : so2.all = [⟨1, 1, sA, 0⟩, ⟨1, 2, sB, 0⟩, ⟨1, 1, sA, 0⟩, ⟨1, 2, sB, 0⟩] := by kernel_rfl
theorem so2_first : firstM so2.all = [⟨1, 1, sA, 0⟩, ⟨1, 2, sB, 0⟩] := by kernel_rfl
theorem low_so2 : Low so2.all := by
  rw [so2_all]
  intro x hx
  simp only [List.mem_cons, List.not_mem_nil, or_false] at hx
  rcases hx with rfl | rfl | rfl | rfl <;> decide

set_option maxRecDepth 100000 in
set_option maxHeartbeats 2000000 in
theorem outboxKnown_any (w : World) : Calls Try.prog 4 #[] w fun e w' => e = .returned (.bool true) ∧ Below w.heap.size w w' := by
  go_enter Try.func4, Try.ntmps4
  go_wp2_with fail
  refine (bnew_no 0 (by decide) w).mono ?_
  rintro e w' ⟨rfl, rfl⟩
  go_wp2_with fail
  refine (bnew_no 1001 (by decide) w).mono ?_
  rintro e w' ⟨rfl, rfl⟩
  go_wp2_with fail
  refine (bnew_ok 2 (by decide) (by decide) w).mono ?_
  rintro e w1 ⟨rfl, hO1, hB1⟩
  have HO1 := Lib.hid hO1
  have HB1 := Lib.hid hB1
  obtain ⟨p, hp⟩ : ∃ p, w.heap.size = p := ⟨_, rfl⟩
  have HP := Lib.hid hp
  rw [hp]
  clear hO1 hB1 hp
  go_wp2_with fail
  refine (snew_any w1).mono ?_
  rintro e w2 ⟨rfl, hO2, hB2⟩
  have H2 := Lib.hid (show Two w w2 p (emptyBx 2) w1.heap.size emptySk from two_mk (HP.out ▸ HO1.out) HB1.out hO2 hB2)
  obtain ⟨q, hq⟩ : ∃ q, w1.heap.size = q := ⟨_, rfl⟩
  rw [hq] at H2 ⊢
  clear hO2 hB2 hq HO1 HB1 HP
  go_wp2_with fail
  refine (bknown_any w2).mono ?_
  rintro e w3 ⟨rfl, hB3⟩
  have H3 := Lib.hid (H2.out.below hB3)
  clear hB3 H2
  go_wp2_with fail
  refine (items_two w3).mono ?_
  rintro e w4 ⟨a4, c4, rfl, hR4, hf4, hB4⟩
  have HAdd := Lib.hid (show Calls _ _ _ _ fun e w' => e = .returned (.tuple #[]) ∧ Two w w' p bo1 q emptySk from H3.out.add (ep := 1) hB4 hR4 hf4 (by decide) (by decide))
  clear hR4 hf4 hB4 H3
  go_wp2_with fail
  refine HAdd.out.mono ?_
  rintro e w5 ⟨rfl, S5⟩
  have HSend := Lib.hid (show Calls Try.prog 17 #[.pointer (some ⟨p, 0, none⟩), .pointer (some ⟨q, 0, none⟩)] w5 fun e w' => e = .returned (.int .i64 2) ∧ Two w w' p bo2 q so1 from send_two S5 rfl low_bo1 (by decide) (by decide) (by decide) (by decide) (by decide))
  clear S5 HAdd
  go_wp2_with fail
  refine HSend.out.mono ?_
  rintro e w6 ⟨rfl, S6⟩
  have HSend2 := Lib.hid (show Calls Try.prog 17 #[.pointer (some ⟨p, 0, none⟩), .pointer (some ⟨q, 0, none⟩)] w6 fun e w' => e = .returned (.int .i64 0) ∧ Two w w' p bo2 q so1 from send_two S6 rfl low_bo1 (by decide) (by decide) (by decide) (by decide) (by decide))
  clear S6 HSend
  go_wp2_with fail
  refine HSend2.out.mono ?_
  rintro e w7 ⟨rfl, S7⟩
  have HAg := Lib.hid (show Calls Try.prog 18 #[.pointer (some ⟨p, 0, none⟩)] w7 fun e w' => e = .returned (.tuple #[]) ∧ Two w w' p bo1 q so1 from S7.again)
  clear S7 HSend2
  go_wp2_with fail
  refine HAg.out.mono ?_
  rintro e w8 ⟨rfl, S8⟩
  have HSend3 := Lib.hid (show Calls Try.prog 17 #[.pointer (some ⟨p, 0, none⟩), .pointer (some ⟨q, 0, none⟩)] w8 fun e w' => e = .returned (.int .i64 2) ∧ Two w w' p bo2 q so2 from send_two S8 rfl low_bo1 (by decide) (by decide) (by decide) (by decide) (by decide))
  clear S8 HAg
  go_wp2_with fail
  refine HSend3.out.mono ?_
  rintro e w9 ⟨rfl, S9⟩
  have H9 := Lib.hid S9
  obtain ⟨v9, -, -, hS9⟩ := S9.sinkOwn
  have HAll := Lib.hid (sall_own _ q so2 w9 hS9 (by rw [so2_all]; decide))
  clear HSend3 S9 hS9
  go_wp2_with fail
  refine HAll.out.mono ?_
  rintro e w10 hN
  rw [so2_all] at hN
  obtain ⟨a10, c10, rfl, -, -, hB10⟩ := hN
  have H10 := Lib.hid (H9.out.below hB10)
  obtain ⟨v10, -, -, hS10⟩ := H10.out.sinkOwn
  have HFirst := Lib.hid (first_own _ q so2 w10 hS10 low_so2 (by rw [so2_all]; decide))
  have hl4 : [(⟨1, 1, sA, 0⟩ : Tg), ⟨1, 2, sB, 0⟩, ⟨1, 1, sA, 0⟩, ⟨1, 2, sB, 0⟩].length = 4 := rfl
  rw [hl4]
  clear hS10 hB10 HAll H9 hl4
  go_wp2_with fail
  refine HFirst.out.mono ?_
  rintro e w11 hN
  rw [so2_first] at hN
  obtain ⟨a11, c11, rfl, -, -, hB11⟩ := hN
  have H11 := Lib.hid (H10.out.below hB11)
  obtain ⟨u11, -, -, hO11⟩ := H11.out.boxOwn
  have HNil := Lib.hid (send_nil _ p bo2 w11 hO11)
  have hl2 : [(⟨1, 1, sA, 0⟩ : Tg), ⟨1, 2, sB, 0⟩].length = 2 := rfl
  rw [hl2]
  clear hO11 hB11 HFirst H10 hl2
  go_wp2_with fail
  refine HNil.out.mono ?_
  rintro e w12 ⟨rfl, n12, rfl⟩
  go_wp2_with fail
  go_ret
  exact ⟨rfl, (H11.out.below (below_drewN (Below.refl _ _) n12)).1⟩
end Go.Proofs.Ytboogadchjojkaa
