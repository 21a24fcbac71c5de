/- The walks of items, Add and Send. No condition. -/
import Derived.Test.YtboogadchjojkaaBox
namespace Go.Proofs.Ytboogadchjojkaa
open Go.ChangeShapes Go.WideShapes Go.ChangeAt Go.RowKit

theorem infoI : (Try.prog.info? 30).map (fun i => (i.zero, i.size, i.bytes)) = some (some (.agg #[.string ⟨#[]⟩, .int .i64 0]), 2, 24) := by kernel_rfl
def icells (l : List ByteArray) : List Value := l.flatMap fun s => [.string s, .int .i64 0]
theorem icells_append (l m : List ByteArray) : icells (l ++ m) = icells l ++ icells m := by simp [icells]
theorem icells_len (l : List ByteArray) : (icells l).length = l.length * 2 := by
  induction l with
  | nil => rfl
  | cons x l ih => show ([_, _] ++ icells l).length = _; rw [List.length_append, ih]; simp; omega
theorem icells_at : ∀ (l : List ByteArray) (i : Nat) (x : ByteArray), l[i]? = some x → (icells l)[i * 2]? = some (.string x) ∧ (icells l)[i * 2 + 1]? = some (.int .i64 0)
  | [], _, _, h => by simp at h
  | y :: l, 0, x, h => by simp at h; subst h; exact ⟨rfl, rfl⟩
  | y :: l, i + 1, x, h => by
    have := icells_at l i x (by simpa using h)
    have e : ∀ j, (icells (y :: l))[j + 2]? = (icells l)[j]? := fun j => rfl
    refine ⟨?_, ?_⟩
    · rw [show (i + 1) * 2 = i * 2 + 2 by omega, e]; exact this.1
    · rw [show (i + 1) * 2 + 1 = (i * 2 + 1) + 2 by omega, e]; exact this.2

set_option maxHeartbeats 1000000 in
theorem items_any (l : List ByteArray) (g : Nat) (w : World) (hc : ∀ j x, l[j]? = some x → w.cell? ⟨g, j, none⟩ = some (.string x)) (hg : g < w.heap.size) (hl : l.length ≤ 1000) :
    Calls Try.prog 16 #[.slice (some ⟨g, 0, none⟩) l.length l.length] w fun e w' => ∃ a c, e = .returned (.slice a l.length c) ∧ Row w' 30 2 (.slice a l.length c) l.length (icells l) ∧ (∀ j, (Value.slice a l.length c).ownBlock = some j → w.heap.size ≤ j) ∧ Below w.heap.size w w' := by
  obtain ⟨i0, hi0, hz0, hz1, hz2⟩ := info_parts infoI
  have HC := Lib.hid hc
  clear hc
  go_enter Try.func16, Try.ntmps16
  go_wp2_with fail
  go_loopw [3, 4] (fun out i wr => ∃ k : Nat, i = .int .i64 k ∧ k ≤ l.length ∧ Row wr 30 2 out k (icells (l.take k)) ∧ (∀ j, out.ownBlock = some j → w.heap.size ≤ j) ∧ Below w.heap.size w wr) (fun _ i _ => l.length - (intOf i).toNat)
  case atStart => exact ⟨0, rfl, Nat.zero_le _, Row.nil _ _ _, by intro b hb; simp [Value.ownBlock] at hb, Below.refl _ _⟩
  case round =>
    obtain ⟨k, rfl, hk, hR, hfr, hB⟩ := hrel
    obtain ⟨ao, co, rfl, hco, hmo, hmc⟩ := hR.form
    have HR := Lib.hid hR
    have HFr := Lib.hid hfr
    have HB := Lib.hid hB
    clear hR hfr hB
    by_cases hlt : k < l.length
    · obtain ⟨x, hx⟩ : ∃ x, l[k]? = some x := ⟨_, List.getElem?_eq_getElem hlt⟩
      have c0 := (HB.out.cell (p := ⟨g, k, none⟩) hg).trans (HC.out k x hx)
      have hsn : icells (l.take (k + 1)) = icells (l.take k) ++ [.string x, .int .i64 0] := by
        rw [List.take_succ_eq_append_getElem hlt, (List.getElem?_eq_some_iff.1 hx).2, icells_append]; rfl
      have HSn := Lib.hid hsn
      have hdst : Row (wr.alloc (.cells #[.string x, .int .i64 0] 30)) 30 2 (.slice ao k co) k (icells (l.take k)) := HR.out.of_block fun j hj => Below.heap_alloc wr _ j (HR.out.lt hj)
      have hsrc : Src (wr.alloc (.cells #[.string x, .int .i64 0] 30)) 2 (.slice (some ⟨wr.heap.size, 0, none⟩) 1 1) 1 [.string x, .int .i64 0] := Src.of_block (heap_alloc_new wr _) 1 1 rfl (by simp [Value.oneCell'])
      have HD := Lib.hid hdst
      have HSr := Lib.hid hsrc
      clear hx hsn hdst hsrc
      go_wp2_with (at_builtin; refine wpList_append_row _ rfl _ _ 42 rfl 30 i0 _ 2 24 Try.underlying42 hi0 hz0 hz1 hz2 rfl (.slice ao k co) k _ rfl HD.out (.slice (some ⟨wr.heap.size, 0, none⟩) 1 1) 1 [.string x, .int .i64 0] rfl HSr.out (by unfold maxLen; omega) (by omega) (wr.heap.size + 1) (by simp) ?_; intro a' cap' w6 hown2 hgrow hat)
      go_roundw
      case rel =>
        refine ⟨k + 1, by go_num, by omega, by rw [HSn.out]; exact hown2, fun j hj => ?_, (HB.out.alloc HB.out.size _).grown hgrow (by have := HB.out.size; simp; omega) HFr.out⟩
        rcases hat j hj with h | h
        · exact HFr.out j h
        · have := HB.out.size; omega
      case measure => simp [intOf]; omega
    · obtain rfl : k = l.length := by omega
      rw [List.take_length] at HR
      clear HC
      go_wp2_with fail
      go_ret
      exact ⟨ao, co, rfl, HR.out, HFr.out, HB.out⟩

/-- the items that Add lays behind: tags of the epoch e, from number j on -/
def tagsM (e : Nat) : Nat → List ByteArray → List Tg
  | _, [] => []
  | j, s :: l => ⟨e, j + 1, s, 0⟩ :: tagsM e (j + 1) l
theorem tagsM_len (e : Nat) : ∀ (l : List ByteArray) (j : Nat), (tagsM e j l).length = l.length
  | [], _ => rfl
  | _ :: l, j => by simp [tagsM, tagsM_len e l]
theorem tagsM_snoc (e : Nat) (x : ByteArray) : ∀ (l : List ByteArray) (j : Nat), tagsM e j (l ++ [x]) = tagsM e j l ++ [⟨e, j + l.length + 1, x, 0⟩]
  | [], j => rfl
  | y :: l, j => by
    simp only [List.cons_append, tagsM, tagsM_snoc e x l (j + 1), List.length_cons]
    rw [show j + 1 + l.length + 1 = j + (l.length + 1) + 1 by omega]

theorem own_add {X : Nat → Prop} {p : Nat} {b : Bx} {x : Tg} {w W1 w2 : World} {a a' : Option Addr} {n cap n' cap' H : Nat} {cells : List Value} (hX : ∀ k, X k → k < w.heap.size) (hA : BoxAt w p (.slice a n cap) b) (hf : ∀ k, (k = p ∨ (Value.slice a n cap).ownBlock = some k) → ¬ X k)
    (hB : Below w.heap.size w W1) (hg : W1.grownBy w2 (Value.slice a n cap).ownBlock) (R : Row w2 32 3 (.slice a' n' cap') n' cells) (hn' : n' = b.items.length + 1) (hc : cells = tcells b.items ++ tgC x)
    (hat : ∀ k, (Value.slice a' n' cap').ownBlock = some k → (Value.slice a n cap).ownBlock = some k ∨ k = H) (hH : w.heap.size ≤ H) :
    BoxOwn X (w2.setCell ⟨p, 1, none⟩ (.slice a' n' cap')) p { b with items := b.items ++ [x] } ∧ Keep X w (w2.setCell ⟨p, 1, none⟩ (.slice a' n' cap')) := by
  have hpl := hA.lt
  have hM : Keep X w (w2.setCell ⟨p, 1, none⟩ (.slice a' n' cap')) := Mod.setCell (S := fun k => ¬ X k) (p := ⟨p, 1, none⟩) (Mod.grown (Mod.of_below hB) hg fun k hk => .inr (hf k (.inr hk))) (.inr (hf p (.inl rfl))) _
  refine ⟨⟨fun k hk => Nat.lt_of_lt_of_le (hX k hk) hM.size, .slice a' n' cap', ⟨?_, ?_, ?_⟩, ?_⟩, hM⟩
  · have hp2 : w2.heap[p]? = w.heap[p]? := (hg.block p (Nat.lt_of_lt_of_le hpl hB.size) (fun e => hA.notp p e.symm rfl)).trans (hB.block p hpl)
    exact heap_setCell_same w2 p 1 _ _ _ (hp2.trans hA.head)
  · subst hn' hc
    show Row _ _ _ _ (b.items ++ [x]).length (tcells (b.items ++ [x]))
    rw [tcells_append, List.length_append]
    have e : tcells [x] = tgC x := by simp [tcells]
    rw [e]
    refine R.of_block fun k hk => heap_setCell_other _ _ _ _ (show k ≠ (⟨p, 1, none⟩ : Addr).block from ?_)
    rcases hat k hk with h | h
    · exact hA.notp k h
    · show k ≠ p; omega
  · intro k hk
    rcases hat k hk with h | h
    · exact hA.notp k h
    · omega
  · rintro k (rfl | hk)
    · exact hf k (.inl rfl)
    · rcases hat k hk with h | h
      · exact hf k (.inr h)
      · intro hx; have := hX k hx; omega

theorem csum (e j : Nat) (he : e ≤ 1099511627776) (hj : j ≤ 1000000) : cSumBits .add .f64 (fl e) (fl j) 0 4607182418800017408 = some (fl e, fl (j + 1)) := by
  unfold cSumBits
  have h1 : floatBits .add .f64 (fl e) 0 = some (fl e) := by rw [← fl_zero, add_fl2 e 0 (by omega)]; rfl
  rw [h1, add_fl j (by omega)]; rfl

set_option maxRecDepth 100000 in
set_option maxHeartbeats 2000000 in
theorem add_own (X : Nat → Prop) (p : Nat) (b : Bx) (l : List ByteArray) (ai : Option Addr) (ci : Nat) (ep : Nat) (w : World) (h : BoxOwn X w p b) (hR : Row w 30 2 (.slice ai l.length ci) l.length (icells l)) (hXi : ∀ j, (Value.slice ai l.length ci).ownBlock = some j → X j) (he : ep ≤ 1099511627776) (hl : l.length ≤ 1000) (hbl : b.items.length ≤ 100000) :
    Calls Try.prog 15 #[.pointer (some ⟨p, 0, none⟩), .int .u64 ep, .slice ai l.length ci] w fun e w' => e = .returned (.tuple #[]) ∧ BoxOwn X w' p { b with items := b.items ++ tagsM ep 0 l } ∧ Keep X w w' := by
  obtain ⟨i0, hi0, hz0, hz1, hz2⟩ := info_parts infoT
  have hfe := fl_eq
  have H0 := Lib.hid h
  have HRi := Lib.hid hR
  have HXi := Lib.hid hXi
  clear h hR hXi
  go_enter Try.func15, Try.ntmps15
  go_wp2_with fail
  go_loopw [6, 14] (fun t i wr => ∃ k : Nat, i = .int .i64 k ∧ k ≤ l.length ∧ t = .complex .f64 (fl ep) (fl k) ∧ BoxOwn X wr p { b with items := b.items ++ tagsM ep 0 (l.take k) } ∧ Keep X w wr) (fun _ i _ => l.length - (intOf i).toNat)
  case atStart => exact ⟨0, rfl, Nat.zero_le _, by rw [fl_zero], by simpa [tagsM] using H0.out, Mod.refl _ _⟩
  case round =>
    obtain ⟨k, rfl, hk, rfl, hO, hK⟩ := hrel
    have HO := Lib.hid hO
    have HK := Lib.hid hK
    clear hO hK
    by_cases hlt : k < l.length
    · obtain ⟨x, hx⟩ : ∃ x, l[k]? = some x := ⟨_, List.getElem?_eq_getElem hlt⟩
      obtain ⟨g, rfl, hgl, hgc, -⟩ := HRi.out.view (by omega)
      have hxa := icells_at l k x hx
      have kb := fun j => World.cell?_of_block (a := ⟨g, j, none⟩) (HK.out.block g hgl fun e => e (HXi.out g rfl))
      have e0 := (kb (k * 2)).trans ((hgc (k * 2) (by omega)).trans hxa.1)
      have e1 := (kb (k * 2 + 1)).trans ((hgc (k * 2 + 1) (by omega)).trans hxa.2)
      have hsn : tagsM ep 0 (l.take (k + 1)) = tagsM ep 0 (l.take k) ++ [⟨ep, k + 1, x, 0⟩] := by
        rw [List.take_succ_eq_append_getElem hlt, (List.getElem?_eq_some_iff.1 hx).2, tagsM_snoc, List.length_take, Nat.min_eq_left (Nat.le_of_lt hlt), Nat.zero_add]
      have HSn := Lib.hid hsn
      have hcs : ∀ w, (binOp .add 27 (.complex .f64 (fl ep) (fl k)) (.complex .f64 0 4607182418800017408)).run Try.prog w = .ok (.complex .f64 (fl ep) (fl (k + 1))) w := fun w => run_complex_sum w .add (.inl rfl) 27 .f64 _ _ _ _ _ _ (csum ep k he (by omega))
      obtain ⟨hX, v, hA, hf⟩ := HO.out
      obtain ⟨-, c1, -, hfz⟩ := hA.cells
      obtain ⟨a, cap, rfl, hnc, -, hcm⟩ := hA.row.form
      have hil : (b.items ++ tagsM ep 0 (l.take k)).length ≤ 200000 := by rw [List.length_append, tagsM_len, List.length_take]; omega
      simp only at c1 hil
      obtain ⟨L, hL⟩ : ∃ L, b.items ++ tagsM ep 0 (l.take k) = L := ⟨_, rfl⟩
      rw [hL] at hil
      simp only [hL] at c1 hnc
      have hrow : Row wr 32 3 (.slice a L.length cap) L.length (tcells L) := by have := hA.row; simp only [hL] at this; exact this
      have f1 := hfz 1
      have hpl := hA.lt
      have hnp : (Value.slice a L.length cap).ownBlock ≠ some p := fun e => hA.notp p (by simp only [hL]; exact e) rfl
      have HLL := Lib.hid hL
      have HA := Lib.hid (And.intro hX (And.intro hA hf))
      clear hgc hxa hx hsn kb hX hA hf hfz hL
      have W0b := (Below.refl wr.heap.size wr).alloc (Nat.le_refl _) (.cells #[.string x, .int .i64 0] 30)
      have HW0 := Lib.hid W0b
      have HP := Lib.hid hrow
      clear W0b hrow
      go_wp2_with fail
      have hbx : (wr.alloc (.cells #[.string x, .int .i64 0] 30)).heap[wr.heap.size]? = some (.cells #[.string x, .int .i64 0] 30 (0, 0)) := heap_alloc_new wr _
      have hsW : (wr.alloc (.cells #[.string x, .int .i64 0] 30)).heap.size = wr.heap.size + 1 := by simp
      generalize wr.alloc (.cells #[.string x, .int .i64 0] 30) = W at *
      have q1 := (World.cell?_of_block (a := ⟨p, 1, none⟩) (HW0.out.block p hpl)).trans c1
      have qf := (World.frozen?_of_block (a := ⟨p, 1, none⟩) (HW0.out.block p hpl)).trans f1
      have b0 : W.cell? ⟨wr.heap.size, 0, none⟩ = some (.string x) := by rw [cell_of_row _ _ _ _ _ _ hbx]; rfl
      have b1 : W.cell? ⟨wr.heap.size, 1, none⟩ = some (.int .i64 0) := by rw [cell_of_row _ _ _ _ _ _ hbx]; rfl
      have hB1 : Below wr.heap.size wr (W.alloc (.cells #[.complex .f64 (fl ep) (fl (k + 1)), .string x, .int .i64 0] 32)).drew := (HW0.out.alloc HW0.out.size _).drew
      have hdst : Row (W.alloc (.cells #[.complex .f64 (fl ep) (fl (k + 1)), .string x, .int .i64 0] 32)).drew 32 3 (.slice a L.length cap) L.length (tcells L) := HP.out.of_block fun j hj => hB1.block j (HP.out.lt hj)
      have hsrc : Src (W.alloc (.cells #[.complex .f64 (fl ep) (fl (k + 1)), .string x, .int .i64 0] 32)).drew 3 (.slice (some ⟨W.heap.size, 0, none⟩) 1 1) 1 [.complex .f64 (fl ep) (fl (k + 1)), .string x, .int .i64 0] :=
        (Src.of_block (heap_alloc_new W (.cells #[.complex .f64 (fl ep) (fl (k + 1)), .string x, .int .i64 0] 32)) 1 1 rfl (by simp [Value.oneCell'])).below (Below.refl _ _).drew
      rw [hsW] at hsrc
      have hszd : (W.alloc (.cells #[.complex .f64 (fl ep) (fl (k + 1)), .string x, .int .i64 0] 32)).drew.heap.size = wr.heap.size + 2 := by show (W.alloc _).heap.size = _; simp [hsW]
      have HB1 := Lib.hid hB1
      have HDst := Lib.hid hdst
      have HSrc := Lib.hid hsrc
      have HSZ := Lib.hid hszd
      clear hB1 hdst hsrc hszd hbx c1 f1 e0 e1
      go_region_law
        (refine step_append_row _ (by rfl) _ _ _ (by rfl) 32 i0 _ 3 40 Try.underlying36 hi0 hz0 hz1 hz2 rfl (.slice a L.length cap) L.length _ (by go_simp) HDst.out
            (.slice (some ⟨wr.heap.size + 1, 0, none⟩) 1 1) 1 _ (by go_simp) HSrc.out (by unfold maxLen; omega) (by omega) (wr.heap.size + 2) HSZ.out ?_; intro a' cap' w2 hrow2 hgrow hat; have hz1' := HSZ.out; have hpb : w2.heap[p]? = W.heap[p]? := (hgrow.block p (by omega) (fun e => hnp e.symm)).trans (Below.heap_alloc W _ _ (by omega)); have q1' := (World.cell?_of_block (a := ⟨p, 1, none⟩) hpb).trans q1; have qf' := (World.frozen?_of_block (a := ⟨p, 1, none⟩) hpb).trans qf; clear hpb hz1')
      all_goals
        have hA0 := HA.out.2.1
        have ho := own_add (x := ⟨ep, k + 1, x, 0⟩) HA.out.1 hA0 HA.out.2.2 HB1.out (by simp only [HLL.out]; exact hgrow) hrow2 (by simp only [HLL.out]) (by simp only [HLL.out]; rfl) (by simp only [HLL.out]; exact hat) (by omega)
        have HOo := Lib.hid ho
        clear hA0 ho hgrow hrow2 hat q1' qf' q1 qf b0 b1
        go_wp2_with fail
        go_roundw
        case rel =>
          refine ⟨k + 1, by go_num, by omega, rfl, ?_, HK.out.trans HOo.out.2⟩
          rw [HSn.out, ← List.append_assoc]; exact HOo.out.1
        case measure => simp [intOf]; omega
    · obtain rfl : k = l.length := by omega
      rw [List.take_length] at HO
      clear HRi HXi
      go_wp2_with fail
      go_end0
      exact ⟨rfl, HO.out, HK.out⟩
end Go.Proofs.Ytboogadchjojkaa
