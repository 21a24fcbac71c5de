/- The walk of the reference's with. No condition. -/
import Derived.Test.YtpkmnfpbcakflaaRF
import Derived.Deep.RegionLaw
import Derived.Deep.RegionHeld3
namespace Go.Proofs.Ytpkmnfpbcakflaa
open Go.ChangeShapes Go.WideShapes Go.ChangeAt Go.RowKit

theorem Row.to {w : World} {E : TypeId} {size : Nat} {a : Option Addr} {n cap : Nat} {xs : List Value} (h : Row w E size (.slice a n cap) n xs) (k : Nat) (hk : k ≤ n) : Row w E size (.slice a k cap) k (xs.take (k * size)) := by
  cases a with
  | some a =>
    obtain ⟨a', cap', e, h1, -⟩ := h.form
    simp only [Value.slice.injEq, true_and] at e
    obtain ⟨-, rfl⟩ := e
    exact h.short k hk rfl cap (by omega) (Nat.le_refl _)
  | none =>
    rcases h.2 with ⟨e, h0⟩ | ⟨g, cap', cur, e, -⟩
    · simp only [Value.slice.injEq, true_and] at e
      obtain ⟨rfl, rfl⟩ := e
      obtain rfl : k = 0 := by omega
      simpa using Row.nil w E size
    · simp at e
theorem below_drew {B : Nat} {a w : World} (h : Below B a w) : Below B a w.drew := ⟨h.os, h.tape, h.output, h.size, h.block⟩

/-- append to nil, at a step of a region that draws its order -/
theorem step_append_nil {P : Program} (w : World) {ops : Array Oper} {o : Oper} {a : Act} {K : Act → World → Prop} {Q : Exit → Act → World → Prop} {E : Prop} (hgd : o.guard = none) (s x : Operand) (t : TypeId)
    (ho : o.op = .call { callee := .builtin .append, args := #[s, x], argTypes := #[t, t] })
    (e : TypeId) (i : TypeInfo) (z : Value) (size bytes : Nat) (ht : P.underlying t = some (.slice e)) (hi : P.info? e = some i) (hz : i.zero = some z)
    (hsize : i.size = size) (hby : i.bytes = bytes) (hzs : z.cells.size = size) (hs : a.eval s = .slice none 0 0)
    (y : Value) (m : Nat) (news : List Value) (hx : a.eval x = y) (hsrc : Src w size y m news)
    (h63 : m ≤ maxLen) (hbytes : m * bytes ≤ 140737488355328) (H : Nat) (hH : w.heap.size = H)
    (h : ∀ a' cap' w', Row w' e size (.slice a' m cap') m news → w.grownBy w' none → (∀ k, (Value.slice a' m cap').ownBlock = some k → k = H) → K (a.put o.dst (.slice a' m cap')) w') :
    if Region.wanted o (yielded ops a.tmps) = true then Oper.wp P o a w K Q else E := by
  refine step_append_row w hgd s x t ho e i z size bytes ht hi hz hsize hby hzs (.slice none 0 0) 0 [] hs (Row.nil _ _ _) y m news hx hsrc (by omega) (by rw [Nat.zero_add]; exact hbytes) H hH fun a' cap' w' h1 h2 h3 => ?_
  rw [Nat.zero_add] at h1 h3 ⊢
  refine h a' cap' w' (by simpa using h1) h2 fun k hk => ?_
  rcases h3 k hk with e | e
  · simp [Value.ownBlock] at e
  · exact e

theorem with_fin {T : Nat → Prop} {w W0 w1 w2 : World} {v : Value} {L1 : Fl} {us1 : List Value} {x : ByteArray × List Int} {u v3 : Value} {j n : Nat} {cells : List Value} (hT : ∀ k, T k → k < w.heap.size) (hB0 : Below w.heap.size w W0) (hB1 : Below W0.heap.size W0 w1)
    (h : RF (More T W0 w1) w1 v L1 us1) (hu : Bts T w u x.2) (hB2 : Below w1.heap.size w1 w2) (hj : posL L1 x.1 = j) (hr : Row w2 56 2 v3 n cells) (hn : n = L1.length + 1) (hc : cells = (fcells L1 us1).take (j * 2) ++ [.string x.1, u] ++ (fcells L1 us1).drop (j * 2))
    (hat : ∀ k, v3.ownBlock = some k → w1.heap.size ≤ k) (hjl : j ≤ L1.length) :
    ROut w w2 (.returned v3) T (insL L1 x) := by
  have s0 := hB0.size
  have s1 := hB1.size
  have s2 := hB2.size
  have hBw : Below w.heap.size w w2 := (hB0.trans (hB1.mono s0)).trans (hB2.mono (Nat.le_trans s0 s1))
  have hlen : (us1.take j ++ [u] ++ us1.drop j).length = (insL L1 x).length := by
    unfold insL
    rw [hj]
    simp [h.len]
  have hil : (insL L1 x).length = L1.length + 1 := by
    unfold insL
    rw [hj]
    simp; omega
  refine ⟨v3, us1.take j ++ [u] ++ us1.drop j, rfl, ⟨?_, hlen, fun i y z hy hz => ?_, fun k hk => .inr ⟨by have := hat k hk; omega, hr.lt hk⟩⟩, hBw⟩
  · subst hn
    have e : fcells (insL L1 x) (us1.take j ++ [u] ++ us1.drop j) = cells := by
      unfold insL
      rw [hj, fcells_append _ _ _ _ (by simp [h.len]), fcells_append _ _ _ _ (by simp [h.len]), fcells_take _ _ _ h.len hjl, fcells_drop _ _ _ h.len hjl, hc]
      rfl
    rw [e, hil]; exact hr
  · have old : ∀ (i : Nat) y z, L1[i]? = some y → us1[i]? = some z → Bts (More T w w2) w2 z y.2 := fun i y z hy hz => by
      refine (h.bts i y z hy hz).move (fun k hk => hB2.block k ?_) fun k hk => ?_
      · rcases hk with hk | hk
        · have := hT k hk; omega
        · exact hk.2
      · rcases hk with hk | hk
        · exact .inl hk
        · exact .inr ⟨by omega, by omega⟩
    unfold insL at hy
    rw [hj] at hy
    by_cases h1 : i < j
    · rw [List.append_assoc, List.getElem?_append_left (by simp; omega), List.getElem?_take_of_lt h1] at hy
      rw [List.append_assoc, List.getElem?_append_left (by simp [h.len]; omega), List.getElem?_take_of_lt h1] at hz
      exact old i y z hy hz
    · rw [List.append_assoc, List.getElem?_append_right (by simp; omega)] at hy
      rw [List.append_assoc, List.getElem?_append_right (by simp [h.len]; omega)] at hz
      simp only [List.length_take, h.len, Nat.min_eq_left hjl] at hy hz
      by_cases h2 : i = j
      · subst h2
        simp at hy hz
        subst hy hz
        exact hu.move (fun k hk => hBw.block k (hT k hk)) fun k hk => .inl hk
      · obtain ⟨m, hm⟩ : ∃ m, i - j = m + 1 := ⟨i - j - 1, by omega⟩
        rw [hm] at hy hz
        simp only [List.singleton_append, List.getElem?_cons_succ, List.getElem?_drop] at hy hz
        exact old _ y z hy hz

set_option maxRecDepth 100000 in
set_option maxHeartbeats 4000000 in
theorem rwith {T : Nat → Prop} {w : World} {v : Value} {L : Fl} {us : List Value} (h : RF T w v L us) (hT : ∀ k, T k → k < w.heap.size) (hl : L.length ≤ 1000000) (x : ByteArray × List Int) (u : Value) (hu : Bts T w u x.2) :
    Calls Try.prog 112 #[v, .agg #[.string x.1, u]] w fun e w' => ROut w w' e T (insL (withoutL L x.1) x) := by
  obtain ⟨i0, hi0, hz0, hz1, hz2⟩ := info_parts infoF
  obtain ⟨au, cu, rfl, hcu1, hcu2⟩ := hu.ex
  obtain ⟨W, hW⟩ : ∃ W, w.alloc (.cells #[.string x.1, .slice au x.2.length cu] 56) = W := ⟨_, rfl⟩
  have hB0 : Below w.heap.size w W := hW ▸ (Below.refl _ w).alloc (Nat.le_refl _) _
  have hnew : W.heap[w.heap.size]? = some (.cells #[.string x.1, .slice au x.2.length cu] 56 (0, 0)) := hW ▸ heap_alloc_new w _
  have hWo := Lib.hid (rwithout (h.move (fun k hk => hB0.block k (hT k hk)) fun _ h => h) (fun k hk => Nat.lt_of_lt_of_le (hT k hk) hB0.size) hl x.1)
  obtain ⟨L1, hL1⟩ : ∃ L1, withoutL L x.1 = L1 := ⟨_, rfl⟩
  have hlw := withoutL_len L x.1
  rw [hL1] at hWo hlw ⊢
  have HT := Lib.hid hT
  have HU := Lib.hid hu
  have HB0 := Lib.hid hB0
  have lb0 : w.heap.size < W.heap.size := heap_lt hnew
  have b0 : W.cell? ⟨w.heap.size, 0, none⟩ = some (.string x.1) := by rw [cell_of_row _ _ _ _ _ _ hnew]; rfl
  have b1 : W.cell? ⟨w.heap.size, 1, none⟩ = some (.slice au x.2.length cu) := by rw [cell_of_row _ _ _ _ _ _ hnew]; rfl
  have hxl : x.2.length ≤ 9223372036854775807 := by unfold maxLen at hcu2; omega
  clear h hT hu hcu1 hcu2 hB0 hnew hL1
  go_enter Try.func112, Try.ntmps112
  go_wp2_with fail
  clear hW
  refine hWo.out.mono ?_
  rintro e w1 ⟨v1, us1, rfl, hR1, hB1⟩
  obtain ⟨a1, c1, rfl, hac1, hac2, hac3⟩ := hR1.row.form
  have hl1 : L1.length ≤ 1000000 := by omega
  have d0 := (hB1.cell (p := ⟨w.heap.size, 0, none⟩) lb0).trans b0
  have d1 := (hB1.cell (p := ⟨w.heap.size, 1, none⟩) lb0).trans b1
  have lb1 : w.heap.size < w1.heap.size := by have := hB1.size; omega
  have HR1 := Lib.hid (And.intro hR1 hB1)
  obtain ⟨n1, hn1⟩ : ∃ n1, L1.length = n1 := ⟨_, rfl⟩
  have HN1 := Lib.hid hn1
  rw [hn1] at hl1 hac1 hac2 ⊢
  have hac4 : c1 ≤ 9223372036854775807 := by unfold maxLen at hac3; omega
  clear hR1 hB1 hWo hlw b0 b1 hn1 hl hac2 hac3
  go_wp2_with fail
  go_loopw [5] (fun i wr => ∃ j : Nat, i = .int .i64 j ∧ j ≤ n1 ∧ Below w1.heap.size w1 wr ∧ Hid (∀ k, k < j → ∀ y, L1[k]? = some y → Op.bytesLess y.1.toList x.1.toList = true)) (fun i _ => n1 - (intOf i).toNat)
  case atStart => exact ⟨0, rfl, Nat.zero_le _, Below.refl _ _, fun k hk => by omega⟩
  case round =>
    obtain ⟨j, rfl, hj, hB, hbef⟩ := hrel
    have e0 := (hB.cell (p := ⟨w.heap.size, 0, none⟩) lb1).trans d0
    have e1 := (hB.cell (p := ⟨w.heap.size, 1, none⟩) lb1).trans d1
    have lb2 : w.heap.size < wr.heap.size := by have := hB.size; omega
    have HB := Lib.hid hB
    have HD := Lib.hid (And.intro d0 d1)
    clear hB d0 d1
    by_cases hgo : ∃ y, L1[j]? = some y ∧ Op.bytesLess y.1.toList x.1.toList = true
    · as_aux_lemma =>
      obtain ⟨y, hy, hless⟩ := hgo
      have hjl : j < n1 := by have := (List.getElem?_eq_some_iff.1 hy).1; have := HN1.out; omega
      obtain ⟨uy, huy⟩ : ∃ u, us1[j]? = some u := ⟨_, List.getElem?_eq_getElem (by rw [HR1.out.1.len]; have := HN1.out; omega)⟩
      obtain ⟨g, rfl, hgl, hcell, -⟩ := (show Row w1 56 2 (.slice a1 n1 c1) n1 (fcells L1 us1) from HN1.out ▸ HR1.out.1.row).view (by omega)
      obtain ⟨f0, -⟩ := fcells_at L1 us1 j y _ hy huy
      have g0 := ((HB.out.cell (p := ⟨g, j * 2, none⟩) hgl).trans (hcell (j * 2) (by omega))).trans f0
      have HBef : Hid (∀ k, k < j + 1 → ∀ y, L1[k]? = some y → Op.bytesLess y.1.toList x.1.toList = true) := by
        intro k hk z hz
        by_cases e : k = j
        · subst e; rw [hy] at hz; cases hz; exact hless
        · exact hbef.out k (by omega) z hz
      clear f0 hcell hy huy hbef
      go_wp2_with fail
      go_quiet (fail)
      go_wp2_with fail
      go_roundw
      case rel => exact ⟨j + 1, by go_num, by omega, ⟨HB.out.os, HB.out.tape, HB.out.output, HB.out.size, HB.out.block⟩, HBef⟩
      case measure => simp [intOf]; omega
    · have HPos := Lib.hid (posL_at (L := L1) (s := x.1) (i := j) (by have := HN1.out; omega) hbef.out fun y hy => by
        cases hb : Op.bytesLess y.1.toList x.1.toList with
        | false => rfl
        | true => exact absurd ⟨y, hy, hb⟩ hgo)
      have hend : n1 ≤ j ∨ (j < n1 ∧ ∃ y uy g, a1 = some ⟨g, 0, none⟩ ∧ wr.cell? ⟨g, j * 2, none⟩ = some (.string y) ∧ wr.cell? ⟨g, j * 2 + 1, none⟩ = some uy ∧ Op.bytesLess y.toList x.1.toList = false) := by
        by_cases hjl : j < n1
        · right
          obtain ⟨y, hy⟩ : ∃ y, L1[j]? = some y := ⟨_, List.getElem?_eq_getElem (by have := HN1.out; omega)⟩
          obtain ⟨uy, huy⟩ : ∃ u, us1[j]? = some u := ⟨_, List.getElem?_eq_getElem (by rw [HR1.out.1.len]; have := HN1.out; omega)⟩
          have hrow : Row wr 56 2 (.slice a1 n1 c1) n1 (fcells L1 us1) := (show Row w1 56 2 (.slice a1 n1 c1) n1 (fcells L1 us1) from HN1.out ▸ HR1.out.1.row).of_block fun k hk => HB.out.block k (HR1.out.1.row.lt (by rw [own_slice a1 _ c1 n1 c1]; exact hk))
          obtain ⟨g, e, hgl, hcell, -⟩ := hrow.view (by omega)
          obtain ⟨f0, f1⟩ := fcells_at L1 us1 j y _ hy huy
          refine ⟨hjl, y.1, uy, g, e, (hcell (j * 2) (by omega)).trans f0, (hcell (j * 2 + 1) (by omega)).trans f1, ?_⟩
          cases hb : Op.bytesLess y.1.toList x.1.toList with
          | false => rfl
          | true => exact absurd ⟨y, hy, hb⟩ hgo
        · exact .inl (by omega)
      clear hgo hbef
      rcases hend with hend | ⟨hjl, y, uy, g, rfl, g0, g1, hless⟩
      · have hd : decide ((j : Int) < (n1 : Int)) = false := by simp; omega
        have hdn : ¬ j < n1 := by omega
        as_aux_lemma =>
        go_wp2_with fail
        go_quiet (fail)
        go_wp2_with fail
        generalize hwx : wr.drewN _ = wx
        have hBx : Below w1.heap.size w1 wx := hwx ▸ ⟨HB.out.os, HB.out.tape, HB.out.output, HB.out.size, HB.out.block⟩
        have HBx := Lib.hid hBx
        have hzx : w1.heap.size ≤ wx.heap.size := hBx.size
        clear hwx hBx HB e0 e1 lb2
        have lb2 : w.heap.size < wx.heap.size := by omega
        have e0 := (HBx.out.cell (p := ⟨w.heap.size, 0, none⟩) lb1).trans HD.out.1
        have e1 := (HBx.out.cell (p := ⟨w.heap.size, 1, none⟩) lb1).trans HD.out.2
        have hrow : Row wx 56 2 (.slice a1 n1 c1) n1 (fcells L1 us1) := (show Row w1 56 2 (.slice a1 n1 c1) n1 (fcells L1 us1) from HN1.out ▸ HR1.out.1.row).of_block fun k hk => HBx.out.block k (HR1.out.1.row.lt (by rw [own_slice a1 _ c1 n1 c1]; exact hk))
        have hs1 := fun w => run_slice_to (P := Try.prog) w 57 56 i0 Try.underlying57 hi0 a1 n1 c1 j (by omega) .i64
        have hs2 := fun w => run_slice_from (P := Try.prog) w 57 56 i0 Try.underlying57 hi0 2 hz1 a1 n1 c1 j (by omega) .i64
        have hones := fcells_one (L := L1) HR1.out.1.ones
        obtain ⟨r1, hr1⟩ : ∃ r1, n1 - j = r1 := ⟨_, rfl⟩
        rw [hr1] at hs2
        have hsrc := (Src.of_row hrow hones).part j r1 (by omega) hac1
        have hnews : ((fcells L1 us1).drop (j * 2)).take (r1 * 2) = (fcells L1 us1).drop (j * 2) := by
          rw [List.take_of_length_le]
          rw [List.length_drop, fcells_len _ _ HR1.out.1.len]; have := HN1.out; omega
        rw [hnews] at hsrc
        have HSrc := Lib.hid hsrc
        have HI : Hid (∀ X : World, (∀ k, k < wx.heap.size → X.heap[k]? = wx.heap[k]?) → Src X 2 (.slice a1 j c1) j ((fcells L1 us1).take (j * 2))) := fun X hX => Src.of_row ((hrow.to j (by omega)).of_block (fun k hk => hX k ((hrow.to j (by omega)).lt hk))) fun u hu => hones u (List.mem_of_mem_take hu)
        have HE : Hid (∀ X w1 : World, ∀ r : Option Nat, X.grownBy w1 r → wx.heap.size ≤ X.heap.size → (∀ k, k < wx.heap.size → X.heap[k]? = wx.heap[k]?) → X.os = wx.os → X.tape = wx.tape → X.output = wx.output → (∀ k, r = some k → wx.heap.size ≤ k) → Below wx.heap.size wx w1) := fun X w1 r h6 h1 h2 h3 h4 h5 h7 =>
          (show Below wx.heap.size wx X from ⟨h3, h4, h5, h1, h2⟩).grown h6 h1 h7
        have HQ := Lib.hid (And.intro e0 e1)
        have HO3 : Hid ((wx.alloc (.cells #[.string x.1, .slice au x.2.length cu] 56)).drew.heap[wx.heap.size]? = some (.cells #[.string x.1, .slice au x.2.length cu] 56 (0, 0))) := heap_alloc_new wx _
        have HZ3 : Hid ((wx.alloc (.cells #[.string x.1, .slice au x.2.length cu] 56)).drew.heap.size = wx.heap.size + 1) := (show (wx.alloc _).heap.size = wx.heap.size + 1 by simp)
        have HR := Lib.hid hr1
        have hr2 : r1 ≤ 1000000 := by omega
        clear hrow hones hsrc hnews hr1
        go_region_held3 (fun w' => w'.cell? ⟨w.heap.size, 0, none⟩ = some (.string x.1) ∧ w'.cell? ⟨w.heap.size, 1, none⟩ = some (.slice au x.2.length cu))
          (first | go_keep | exact ⟨p1, p2⟩ | exact ⟨p3, p4⟩ | exact ⟨p5, p6⟩)
          (first
            | (refine step_append_nil _ (by rfl) _ _ _ (by rfl) 56 i0 _ 2 40 Try.underlying57 hi0 hz0 hz1 hz2 rfl (by rfl)
                (.slice _ j c1) j _ (by rfl) (HI.out _ (fun k hk => rfl)) (by unfold maxLen; omega) (by omega) wx.heap.size rfl ?_; intro a2 c2 w2 hrow1' hgrow1 hat1
               have hB1 := HE.out _ w2 _ hgrow1 (Nat.le_refl _) (fun k hk => rfl) rfl rfl rfl (by intro k hk; cases hk)
               have hat1' : ∀ k, (Value.slice a2 j c2).ownBlock = some k → wx.heap.size ≤ k := fun k hk => by
                 have := hat1 k hk
                 omega
               have p1 := (hB1.cell (p := ⟨w.heap.size, 0, none⟩) lb2).trans HQ.out.1
               have p2 := (hB1.cell (p := ⟨w.heap.size, 1, none⟩) lb2).trans HQ.out.2
               clear hat1 hgrow1)
            | (refine step_append_nil _ (by rfl) _ _ _ (by rfl) 56 i0 _ 2 40 Try.underlying57 hi0 hz0 hz1 hz2 rfl (by rfl)
                (.slice _ j c1) j _ (by rfl) (HI.out _ (fun k hk => Below.heap_alloc wx _ k hk)) (by unfold maxLen; omega) (by omega) (wx.heap.size + 1) HZ3.out ?_; intro a2 c2 w2 hrow1' hgrow1 hat1
               have hB1 := HE.out _ w2 _ hgrow1 (by rw [HZ3.out]; omega) (fun k hk => Below.heap_alloc wx _ k hk) rfl rfl rfl (by intro k hk; cases hk)
               have hat1' : ∀ k, (Value.slice a2 j c2).ownBlock = some k → wx.heap.size ≤ k := fun k hk => by
                 have := hat1 k hk
                 omega
               have hone : w2.heap[wx.heap.size]? = some (.cells #[.string x.1, .slice au x.2.length cu] 56 (0, 0)) := (hgrow1.block wx.heap.size (by rw [HZ3.out]; omega) (by simp)).trans HO3.out
               have p1 := (hB1.cell (p := ⟨w.heap.size, 0, none⟩) lb2).trans HQ.out.1
               have p2 := (hB1.cell (p := ⟨w.heap.size, 1, none⟩) lb2).trans HQ.out.2
               clear hat1 hgrow1)
            | (refine step_append_row _ (by rfl) _ _ _ (by rfl) 56 i0 _ 2 40 Try.underlying57 hi0 hz0 hz1 hz2 rfl (.slice a2 j c2) j _ (by rfl) hrow1'
                (.slice (some ⟨wx.heap.size, 0, none⟩) 1 1) 1 [.string x.1, .slice au x.2.length cu] (by rfl) (Src.of_block (cs := #[.string x.1, .slice au x.2.length cu]) (t := 56) (fr := (0, 0)) hone 1 1 rfl (by simp [Value.oneCell']))
                (by unfold maxLen; omega) (by omega) w2.heap.size rfl ?_; intro a3 c3 w3 hrow2 hgrow2 hat2
               have hB2 := hB1.grown hgrow2 hB1.size hat1'
               have hat2' : ∀ k, (Value.slice a3 (j + 1) c3).ownBlock = some k → wx.heap.size ≤ k := fun k hk => by
                 rcases hat2 k hk with h | h
                 · exact hat1' k h
                 · have := hB1.size; omega
               have p3 := (hB2.cell (p := ⟨w.heap.size, 0, none⟩) lb2).trans HQ.out.1
               have p4 := (hB2.cell (p := ⟨w.heap.size, 1, none⟩) lb2).trans HQ.out.2
               clear hat2 hgrow2)
            | (refine step_append_row _ (by rfl) _ _ _ (by rfl) 56 i0 _ 2 40 Try.underlying57 hi0 hz0 hz1 hz2 rfl (.slice a2 j c2) j _ (by rfl) (hrow1'.of_block (fun b hb => Below.heap_alloc w2 _ b (hrow1'.lt hb)))
                (.slice (some ⟨w2.heap.size, 0, none⟩) 1 1) 1 [.string x.1, .slice au x.2.length cu] (by rfl) (Src.of_block (cs := #[.string x.1, .slice au x.2.length cu]) (t := 56) (fr := (0, 0)) (heap_alloc_new w2 _) 1 1 rfl (by simp [Value.oneCell']))
                (by unfold maxLen; omega) (by omega) (w2.heap.size + 1) (by simp) ?_; intro a3 c3 w3 hrow2 hgrow2 hat2
               have hB2 := (hB1.alloc hB1.size (.cells #[.string x.1, .slice au x.2.length cu] 56)).grown hgrow2 (by have := hB1.size; simp; omega) hat1'
               have hat2' : ∀ k, (Value.slice a3 (j + 1) c3).ownBlock = some k → wx.heap.size ≤ k := fun k hk => by
                 rcases hat2 k hk with h | h
                 · exact hat1' k h
                 · have := hB1.size; omega
               have p3 := (hB2.cell (p := ⟨w.heap.size, 0, none⟩) lb2).trans HQ.out.1
               have p4 := (hB2.cell (p := ⟨w.heap.size, 1, none⟩) lb2).trans HQ.out.2
               clear hat2 hgrow2)
            | (refine step_append_row _ (by rfl) _ _ _ (by rfl) 56 i0 _ 2 40 Try.underlying57 hi0 hz0 hz1 hz2 rfl (.slice a3 (j + 1) c3) (j + 1) _ (by rfl) hrow2
                (.slice (fromAddr _ c1 j 2) r1 (c1 - j)) r1 _ (by rfl) (HSrc.out.below hB2)
                (by unfold maxLen; omega) (by omega) w3.heap.size rfl ?_; intro a4 c4 w4 hrow3 hgrow3 hat3
               have hB3 := hB2.grown hgrow3 hB2.size hat2'
               have hat3' : ∀ k, (Value.slice a4 (j + 1 + r1) c4).ownBlock = some k → wx.heap.size ≤ k := fun k hk => by
                 rcases hat3 k hk with h | h
                 · exact hat2' k h
                 · have := hB2.size; omega
               have p5 := (hB3.cell (p := ⟨w.heap.size, 0, none⟩) lb2).trans HQ.out.1
               have p6 := (hB3.cell (p := ⟨w.heap.size, 1, none⟩) lb2).trans HQ.out.2
               clear hat3 hgrow3))
        all_goals
          go_wp2_with fail
          go_ret
          exact with_fin HT.out HB0.out HR1.out.2 HR1.out.1 HU.out (HBx.out.trans (hB3.mono HBx.out.size)) HPos.out hrow3 (by have := HN1.out; have := HR.out; omega) rfl (fun k hk => by have := hat3' k hk; have := HBx.out.size; omega) (by have := HN1.out; omega)
      · skip
        as_aux_lemma =>
        go_wp2_with fail
        go_quiet (fail)
        go_wp2_with fail
        generalize hwx : wr.drewN _ = wx
        have hBx : Below w1.heap.size w1 wx := hwx ▸ ⟨HB.out.os, HB.out.tape, HB.out.output, HB.out.size, HB.out.block⟩
        have HBx := Lib.hid hBx
        have hzx : w1.heap.size ≤ wx.heap.size := hBx.size
        clear hwx hBx HB e0 e1 lb2
        have lb2 : w.heap.size < wx.heap.size := by omega
        have e0 := (HBx.out.cell (p := ⟨w.heap.size, 0, none⟩) lb1).trans HD.out.1
        have e1 := (HBx.out.cell (p := ⟨w.heap.size, 1, none⟩) lb1).trans HD.out.2
        have hrow : Row wx 56 2 (.slice (some ⟨g, 0, none⟩) n1 c1) n1 (fcells L1 us1) := (show Row w1 56 2 (.slice (some ⟨g, 0, none⟩) n1 c1) n1 (fcells L1 us1) from HN1.out ▸ HR1.out.1.row).of_block fun k hk => HBx.out.block k (HR1.out.1.row.lt (by rw [own_slice (some ⟨g, 0, none⟩) _ c1 n1 c1]; exact hk))
        have hs1 := fun w => run_slice_to (P := Try.prog) w 57 56 i0 Try.underlying57 hi0 (some ⟨g, 0, none⟩) n1 c1 j (by omega) .i64
        have hs2 := fun w => run_slice_from (P := Try.prog) w 57 56 i0 Try.underlying57 hi0 2 hz1 (some ⟨g, 0, none⟩) n1 c1 j (by omega) .i64
        have hones := fcells_one (L := L1) HR1.out.1.ones
        obtain ⟨r1, hr1⟩ : ∃ r1, n1 - j = r1 := ⟨_, rfl⟩
        rw [hr1] at hs2
        have hsrc := (Src.of_row hrow hones).part j r1 (by omega) hac1
        have hnews : ((fcells L1 us1).drop (j * 2)).take (r1 * 2) = (fcells L1 us1).drop (j * 2) := by
          rw [List.take_of_length_le]
          rw [List.length_drop, fcells_len _ _ HR1.out.1.len]; have := HN1.out; omega
        rw [hnews] at hsrc
        have HSrc := Lib.hid hsrc
        have HI : Hid (∀ X : World, (∀ k, k < wx.heap.size → X.heap[k]? = wx.heap[k]?) → Src X 2 (.slice (some ⟨g, 0, none⟩) j c1) j ((fcells L1 us1).take (j * 2))) := fun X hX => Src.of_row ((hrow.to j (by omega)).of_block (fun k hk => hX k ((hrow.to j (by omega)).lt hk))) fun u hu => hones u (List.mem_of_mem_take hu)
        have HE : Hid (∀ X w1 : World, ∀ r : Option Nat, X.grownBy w1 r → wx.heap.size ≤ X.heap.size → (∀ k, k < wx.heap.size → X.heap[k]? = wx.heap[k]?) → X.os = wx.os → X.tape = wx.tape → X.output = wx.output → (∀ k, r = some k → wx.heap.size ≤ k) → Below wx.heap.size wx w1) := fun X w1 r h6 h1 h2 h3 h4 h5 h7 =>
          (show Below wx.heap.size wx X from ⟨h3, h4, h5, h1, h2⟩).grown h6 h1 h7
        have HQ := Lib.hid (And.intro e0 e1)
        have HO3 : Hid ((wx.alloc (.cells #[.string x.1, .slice au x.2.length cu] 56)).drew.heap[wx.heap.size]? = some (.cells #[.string x.1, .slice au x.2.length cu] 56 (0, 0))) := heap_alloc_new wx _
        have HZ3 : Hid ((wx.alloc (.cells #[.string x.1, .slice au x.2.length cu] 56)).drew.heap.size = wx.heap.size + 1) := (show (wx.alloc _).heap.size = wx.heap.size + 1 by simp)
        have HR := Lib.hid hr1
        have hr2 : r1 ≤ 1000000 := by omega
        clear hrow hones hsrc hnews hr1
        go_region_held3 (fun w' => w'.cell? ⟨w.heap.size, 0, none⟩ = some (.string x.1) ∧ w'.cell? ⟨w.heap.size, 1, none⟩ = some (.slice au x.2.length cu))
          (first | go_keep | exact ⟨p1, p2⟩ | exact ⟨p3, p4⟩ | exact ⟨p5, p6⟩)
          (first
            | (refine step_append_nil _ (by rfl) _ _ _ (by rfl) 56 i0 _ 2 40 Try.underlying57 hi0 hz0 hz1 hz2 rfl (by rfl)
                (.slice _ j c1) j _ (by rfl) (HI.out _ (fun k hk => rfl)) (by unfold maxLen; omega) (by omega) wx.heap.size rfl ?_; intro a2 c2 w2 hrow1' hgrow1 hat1
               have hB1 := HE.out _ w2 _ hgrow1 (Nat.le_refl _) (fun k hk => rfl) rfl rfl rfl (by intro k hk; cases hk)
               have hat1' : ∀ k, (Value.slice a2 j c2).ownBlock = some k → wx.heap.size ≤ k := fun k hk => by
                 have := hat1 k hk
                 omega
               have p1 := (hB1.cell (p := ⟨w.heap.size, 0, none⟩) lb2).trans HQ.out.1
               have p2 := (hB1.cell (p := ⟨w.heap.size, 1, none⟩) lb2).trans HQ.out.2
               clear hat1 hgrow1)
            | (refine step_append_nil _ (by rfl) _ _ _ (by rfl) 56 i0 _ 2 40 Try.underlying57 hi0 hz0 hz1 hz2 rfl (by rfl)
                (.slice _ j c1) j _ (by rfl) (HI.out _ (fun k hk => Below.heap_alloc wx _ k hk)) (by unfold maxLen; omega) (by omega) (wx.heap.size + 1) HZ3.out ?_; intro a2 c2 w2 hrow1' hgrow1 hat1
               have hB1 := HE.out _ w2 _ hgrow1 (by rw [HZ3.out]; omega) (fun k hk => Below.heap_alloc wx _ k hk) rfl rfl rfl (by intro k hk; cases hk)
               have hat1' : ∀ k, (Value.slice a2 j c2).ownBlock = some k → wx.heap.size ≤ k := fun k hk => by
                 have := hat1 k hk
                 omega
               have hone : w2.heap[wx.heap.size]? = some (.cells #[.string x.1, .slice au x.2.length cu] 56 (0, 0)) := (hgrow1.block wx.heap.size (by rw [HZ3.out]; omega) (by simp)).trans HO3.out
               have p1 := (hB1.cell (p := ⟨w.heap.size, 0, none⟩) lb2).trans HQ.out.1
               have p2 := (hB1.cell (p := ⟨w.heap.size, 1, none⟩) lb2).trans HQ.out.2
               clear hat1 hgrow1)
            | (refine step_append_row _ (by rfl) _ _ _ (by rfl) 56 i0 _ 2 40 Try.underlying57 hi0 hz0 hz1 hz2 rfl (.slice a2 j c2) j _ (by rfl) hrow1'
                (.slice (some ⟨wx.heap.size, 0, none⟩) 1 1) 1 [.string x.1, .slice au x.2.length cu] (by rfl) (Src.of_block (cs := #[.string x.1, .slice au x.2.length cu]) (t := 56) (fr := (0, 0)) hone 1 1 rfl (by simp [Value.oneCell']))
                (by unfold maxLen; omega) (by omega) w2.heap.size rfl ?_; intro a3 c3 w3 hrow2 hgrow2 hat2
               have hB2 := hB1.grown hgrow2 hB1.size hat1'
               have hat2' : ∀ k, (Value.slice a3 (j + 1) c3).ownBlock = some k → wx.heap.size ≤ k := fun k hk => by
                 rcases hat2 k hk with h | h
                 · exact hat1' k h
                 · have := hB1.size; omega
               have p3 := (hB2.cell (p := ⟨w.heap.size, 0, none⟩) lb2).trans HQ.out.1
               have p4 := (hB2.cell (p := ⟨w.heap.size, 1, none⟩) lb2).trans HQ.out.2
               clear hat2 hgrow2)
            | (refine step_append_row _ (by rfl) _ _ _ (by rfl) 56 i0 _ 2 40 Try.underlying57 hi0 hz0 hz1 hz2 rfl (.slice a2 j c2) j _ (by rfl) (hrow1'.of_block (fun b hb => Below.heap_alloc w2 _ b (hrow1'.lt hb)))
                (.slice (some ⟨w2.heap.size, 0, none⟩) 1 1) 1 [.string x.1, .slice au x.2.length cu] (by rfl) (Src.of_block (cs := #[.string x.1, .slice au x.2.length cu]) (t := 56) (fr := (0, 0)) (heap_alloc_new w2 _) 1 1 rfl (by simp [Value.oneCell']))
                (by unfold maxLen; omega) (by omega) (w2.heap.size + 1) (by simp) ?_; intro a3 c3 w3 hrow2 hgrow2 hat2
               have hB2 := (hB1.alloc hB1.size (.cells #[.string x.1, .slice au x.2.length cu] 56)).grown hgrow2 (by have := hB1.size; simp; omega) hat1'
               have hat2' : ∀ k, (Value.slice a3 (j + 1) c3).ownBlock = some k → wx.heap.size ≤ k := fun k hk => by
                 rcases hat2 k hk with h | h
                 · exact hat1' k h
                 · have := hB1.size; omega
               have p3 := (hB2.cell (p := ⟨w.heap.size, 0, none⟩) lb2).trans HQ.out.1
               have p4 := (hB2.cell (p := ⟨w.heap.size, 1, none⟩) lb2).trans HQ.out.2
               clear hat2 hgrow2)
            | (refine step_append_row _ (by rfl) _ _ _ (by rfl) 56 i0 _ 2 40 Try.underlying57 hi0 hz0 hz1 hz2 rfl (.slice a3 (j + 1) c3) (j + 1) _ (by rfl) hrow2
                (.slice (fromAddr _ c1 j 2) r1 (c1 - j)) r1 _ (by rfl) (HSrc.out.below hB2)
                (by unfold maxLen; omega) (by omega) w3.heap.size rfl ?_; intro a4 c4 w4 hrow3 hgrow3 hat3
               have hB3 := hB2.grown hgrow3 hB2.size hat2'
               have hat3' : ∀ k, (Value.slice a4 (j + 1 + r1) c4).ownBlock = some k → wx.heap.size ≤ k := fun k hk => by
                 rcases hat3 k hk with h | h
                 · exact hat2' k h
                 · have := hB2.size; omega
               have p5 := (hB3.cell (p := ⟨w.heap.size, 0, none⟩) lb2).trans HQ.out.1
               have p6 := (hB3.cell (p := ⟨w.heap.size, 1, none⟩) lb2).trans HQ.out.2
               clear hat3 hgrow3))
        all_goals
          go_wp2_with fail
          go_ret
          exact with_fin HT.out HB0.out HR1.out.2 HR1.out.1 HU.out (HBx.out.trans (hB3.mono HBx.out.size)) HPos.out hrow3 (by have := HN1.out; have := HR.out; omega) rfl (fun k hk => by have := hat3' k hk; have := HBx.out.size; omega) (by have := HN1.out; omega)
end Go.Proofs.Ytpkmnfpbcakflaa
