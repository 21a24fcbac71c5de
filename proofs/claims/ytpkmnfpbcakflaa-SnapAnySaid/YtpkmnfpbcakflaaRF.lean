/- The reference's files in memory, and the walks of its find and without. No condition. -/
import Derived.Test.YtpkmnfpbcakflaaFl
import Derived.Deep.QuietTactic
import Derived.BigQuiet
namespace Go.Proofs.Ytpkmnfpbcakflaa
open Go.ChangeShapes Go.WideShapes Go.ChangeAt Go.RowKit

def fcells : Fl → List Value → List Value
  | x :: L, u :: us => .string x.1 :: u :: fcells L us
  | _, _ => []
theorem fcells_len : ∀ (L : Fl) (us : List Value), us.length = L.length → (fcells L us).length = L.length * 2
  | [], [], _ => rfl
  | [], _ :: _, h => by simp at h
  | _ :: _, [], h => by simp at h
  | _ :: L, _ :: us, h => by
    have := fcells_len L us (by simpa using h)
    simp [fcells, this]; omega
theorem fcells_at : ∀ (L : Fl) (us : List Value) (i : Nat) (x : ByteArray × List Int) (u : Value), L[i]? = some x → us[i]? = some u → (fcells L us)[i * 2]? = some (.string x.1) ∧ (fcells L us)[i * 2 + 1]? = some u
  | [], _, _, _, _, h, _ => by simp at h
  | _ :: _, [], _, _, _, _, h => by simp at h
  | a :: L, b :: us, 0, x, u, h, h' => by simp at h h'; subst h h'; exact ⟨rfl, rfl⟩
  | a :: L, b :: us, i + 1, x, u, h, h' => by
    have := fcells_at L us i x u (by simpa using h) (by simpa using h')
    refine ⟨?_, ?_⟩
    · rw [show (i + 1) * 2 = i * 2 + 1 + 1 by omega]; simpa [fcells] using this.1
    · rw [show (i + 1) * 2 + 1 = (i * 2 + 1) + 1 + 1 by omega]; simpa [fcells] using this.2
theorem fcells_append : ∀ (L : Fl) (us : List Value) (L2 : Fl) (us2 : List Value), us.length = L.length → fcells (L ++ L2) (us ++ us2) = fcells L us ++ fcells L2 us2
  | [], [], _, _, _ => rfl
  | [], _ :: _, _, _, h => by simp at h
  | _ :: _, [], _, _, h => by simp at h
  | a :: L, b :: us, L2, us2, h => by simp [fcells, fcells_append L us L2 us2 (by simpa using h)]
theorem fcells_take (L : Fl) (us : List Value) (k : Nat) (h : us.length = L.length) (hk : k ≤ L.length) : fcells (L.take k) (us.take k) = (fcells L us).take (k * 2) := by
  have e := fcells_append (L.take k) (us.take k) (L.drop k) (us.drop k) (by simp; omega)
  rw [List.take_append_drop, List.take_append_drop] at e
  have hl : (fcells (L.take k) (us.take k)).length = k * 2 := by
    rw [fcells_len _ _ (by simp; omega), List.length_take, Nat.min_eq_left hk]
  rw [e, ← hl, List.take_left]
theorem fcells_drop (L : Fl) (us : List Value) (k : Nat) (h : us.length = L.length) (hk : k ≤ L.length) : fcells (L.drop k) (us.drop k) = (fcells L us).drop (k * 2) := by
  have e := fcells_append (L.take k) (us.take k) (L.drop k) (us.drop k) (by simp; omega)
  rw [List.take_append_drop, List.take_append_drop] at e
  have hl : (fcells (L.take k) (us.take k)).length = k * 2 := by
    rw [fcells_len _ _ (by simp; omega), List.length_take, Nat.min_eq_left hk]
  rw [e, ← hl, List.drop_left]
theorem fcells_one {L : Fl} {us : List Value} (h : ∀ u ∈ us, u.oneCell' = true) : ∀ u ∈ fcells L us, u.oneCell' = true := by
  induction L generalizing us with
  | nil => intro u hu; cases us <;> simp [fcells] at hu
  | cons a L ih =>
    cases us with
    | nil => intro u hu; simp [fcells] at hu
    | cons b us =>
      intro u hu
      simp only [fcells, List.mem_cons] at hu
      rcases hu with rfl | rfl | hu
      · rfl
      · exact h _ (List.mem_cons_self ..)
      · exact ih (fun u hu => h u (List.mem_cons_of_mem _ hu)) u hu

/-- a list of files lies so; T: blocks that are never written into -/
structure RF (T : Nat → Prop) (w : World) (v : Value) (L : Fl) (us : List Value) : Prop where
  row : Row w 56 2 v L.length (fcells L us)
  len : us.length = L.length
  bts : ∀ (i : Nat) x u, L[i]? = some x → us[i]? = some u → Bts T w u x.2
  own : ∀ k, v.ownBlock = some k → T k
theorem RF.move {T T' : Nat → Prop} {w w' : World} {v : Value} {L : Fl} {us : List Value} (h : RF T w v L us) (hw : ∀ k, T k → w'.heap[k]? = w.heap[k]?) (hT : ∀ k, T k → T' k) : RF T' w' v L us where
  row := h.row.of_block fun k hk => hw k (h.own k hk)
  len := h.len
  bts := fun i x u hx hu => (h.bts i x u hx hu).move hw hT
  own := fun k hk => hT k (h.own k hk)
theorem RF.nil (T : Nat → Prop) (w : World) : RF T w (.slice none 0 0) [] [] := ⟨Row.nil _ _ _, rfl, fun i x u h => by simp at h, fun k h => by simp [Value.ownBlock] at h⟩
theorem RF.ones {T : Nat → Prop} {w : World} {v : Value} {L : Fl} {us : List Value} (h : RF T w v L us) : ∀ u ∈ us, u.oneCell' = true := by
  intro u hu
  obtain ⟨i, hi, rfl⟩ := List.getElem_of_mem hu
  obtain ⟨a, c, e, -⟩ := (h.bts i _ us[i] (List.getElem?_eq_getElem (by rw [← h.len]; exact hi)) (List.getElem?_eq_getElem hi)).ex
  rw [e]; rfl
/-- an answer that is a list of files -/
def ROut (w w' : World) (e : Ending) (T : Nat → Prop) (L : Fl) : Prop := ∃ v us, e = .returned v ∧ RF (More T w w') w' v L us ∧ Below w.heap.size w w'
theorem infoF : (Try.prog.info? 56).map (fun i => (i.zero, i.size, i.bytes)) = some (some (.agg #[.string ⟨#[]⟩, .slice none 0 0]), 2, 40) := by kernel_rfl

section
variable {T : Nat → Prop} {w : World} {v : Value} {L : Fl} {us : List Value}
theorem rfind (h : RF T w v L us) (s : ByteArray) : Calls Try.prog 85 #[v, .string s] w fun e w' => e = .returned (.int .i64 (findL L s)) ∧ w = w' := by
  obtain ⟨a, cap, rfl, hnc, hml, _⟩ := h.row.form
  unfold maxLen at hml
  go_enter Try.func85, Try.ntmps85
  go_wp2_with fail
  go_loopw [5] (fun i wr => ∃ k : Nat, k ≤ L.length ∧ i = .int .i64 k ∧ w = wr ∧ Hid (∀ j, j < k → ∀ x, L[j]? = some x → isN s x = false)) (fun i _ => L.length - (intOf i).toNat)
  case atStart => exact ⟨0, Nat.zero_le _, rfl, rfl, fun j hj => by omega⟩
  case round =>
    obtain ⟨k, hk, rfl, rfl, hbef⟩ := hrel
    by_cases hlt : k < L.length
    · obtain ⟨g, rfl, -, hcell, -⟩ := h.row.view (by omega)
      obtain ⟨x, hx⟩ : ∃ x, L[k]? = some x := ⟨_, List.getElem?_eq_getElem hlt⟩
      obtain ⟨u, hu⟩ : ∃ x, us[k]? = some x := ⟨_, List.getElem?_eq_getElem (by rw [h.len]; exact hlt)⟩
      obtain ⟨c1, -⟩ := fcells_at L us k x _ hx hu
      have d1 := (hcell (k * 2) (by omega)).trans c1
      clear c1 hu hcell
      cases hs : isN s x with
      | true =>
        have HF := Lib.hid (findL_some hx hs hbef.out)
        have hb : (x.1.toList == s.toList) = true := hs
        clear hx hs hbef
        go_wp2_with fail
        go_ret
        exact ⟨by rw [HF.out]; rfl, rfl⟩
      | false =>
        have hb : (x.1.toList == s.toList) = false := hs
        have HB : Hid (∀ j, j < k + 1 → ∀ y, L[j]? = some y → isN s y = false) := by
          intro j hj y hy
          by_cases e : j = k
          · subst e; rw [hx] at hy; cases hy; exact hs
          · exact hbef.out j (by omega) y hy
        clear hx hs hbef
        go_wp2_with fail
        go_roundw
        case rel => exact ⟨k + 1, by omega, by go_num, trivial, HB⟩
        case measure => simp [intOf]; omega
    · have HF := Lib.hid (findL_none (L := L) (s := s) fun j x hx => hbef.out j (by have := (List.getElem?_eq_some_iff.1 hx).1; omega) x hx)
      clear hbef
      go_wp2_with fail
      go_ret
      exact ⟨by rw [HF.out]; rfl, rfl⟩

set_option maxRecDepth 100000 in
set_option maxHeartbeats 1000000 in
theorem rwithout (h : RF T w v L us) (hT : ∀ k, T k → k < w.heap.size) (hl : L.length ≤ 1000000) (s : ByteArray) : Calls Try.prog 113 #[v, .string s] w fun e w' => ROut w w' e T (withoutL L s) := by
  obtain ⟨a, cap, rfl, hnc, hml, _⟩ := h.row.form
  obtain ⟨i0, hi0, hz0, hz1, hz2⟩ := info_parts infoF
  unfold maxLen at hml
  have HH := Lib.hid (And.intro h hT)
  clear h hT
  go_enter Try.func113, Try.ntmps113
  go_wp2_with fail
  go_loopw [5, 6] (fun o i wr => ∃ (k n : Nat) (us' : List Value) (M : Fl), k ≤ L.length ∧ i = .int .i64 k ∧ Below w.heap.size w wr ∧ n ≤ k ∧ M.length = n ∧ Hid (M = withoutL (L.take k) s) ∧ Row wr 56 2 o n (fcells M us') ∧ Hid (us'.length = n ∧ ∀ (i : Nat) x u, M[i]? = some x → us'[i]? = some u → Bts T w u x.2) ∧ ∀ b, o.ownBlock = some b → w.heap.size ≤ b) (fun _ i _ => L.length - (intOf i).toNat)
  case atStart => exact ⟨0, 0, [], [], Nat.zero_le _, rfl, Below.refl _ _, Nat.le_refl _, rfl, rfl, Row.nil _ _ _, ⟨rfl, fun i x u h => by simp at h⟩, by intro b hb; simp [Value.ownBlock] at hb⟩
  case round =>
    obtain ⟨k, n, us', M, hk, rfl, hB, hnk, hMn, hM, ho, hus, hfresh⟩ := hrel
    have HMn := Lib.hid hMn
    by_cases hlt : k < L.length
    · as_aux_lemma =>
      obtain ⟨x, hx⟩ : ∃ x, L[k]? = some x := ⟨_, List.getElem?_eq_getElem hlt⟩
      obtain ⟨u, hu⟩ : ∃ u, us[k]? = some u := ⟨_, List.getElem?_eq_getElem (by rw [HH.out.1.len]; exact hlt)⟩
      obtain ⟨g, rfl, hgl, hcell, -⟩ := HH.out.1.row.view (by omega)
      have hbu := HH.out.1.bts k x u hx hu
      obtain ⟨au, cu, rfl, hcu1, hcu2⟩ := hbu.ex
      obtain ⟨d0, d1⟩ := fcells_at L us k x _ hx hu
      have e0 := ((hB.cell (p := ⟨g, k * 2, none⟩) hgl).trans (hcell (k * 2) (by omega))).trans d0
      have e1 := ((hB.cell (p := ⟨g, k * 2 + 1, none⟩) hgl).trans (hcell (k * 2 + 1) (by omega))).trans d1
      have HS := Lib.hid (withoutL_succ L s k x hx)
      have HBu := Lib.hid hbu
      have HB := Lib.hid hB
      have HO := Lib.hid ho
      have HFr := Lib.hid hfresh
      have hxl : x.2.length ≤ 9223372036854775807 := by unfold maxLen at hcu2; omega
      clear d0 d1 hu hx hcell hB ho hfresh hbu hcu1 hcu2 hMn
      cases hs : isN s x with
      | true =>
        have hb : (x.1.toList == s.toList) = true := hs
        rw [hs] at HS
        clear hs
        go_wp2_with fail
        go_roundw
        case rel => exact ⟨k + 1, n, us', M, by omega, by go_num, HB.out, by omega, HMn.out, by rw [HS.out]; exact hM, HO.out, hus, HFr.out⟩
        case measure => simp [intOf]; omega
      | false =>
        have hb : (x.1.toList == s.toList) = false := hs
        rw [hs] at HS
        clear hs
        go_wp2_with (at_builtin; refine wpList_append_row _ rfl _ _ 57 rfl 56 i0 _ 2 40 Try.underlying57 hi0 hz0 hz1 hz2 rfl u5 n _ rfl (HO.out.of_block (fun b hb => Below.heap_alloc wr _ b (HO.out.lt hb))) (.slice (some ⟨wr.heap.size, 0, none⟩) 1 1) 1 [.string x.1, .slice au x.2.length cu] rfl (Src.of_block (cs := #[.string x.1, .slice au x.2.length cu]) (t := 56) (fr := (0, 0)) (heap_alloc_new wr _) 1 1 rfl (by simp [Value.oneCell'])) (by unfold maxLen; omega) (by omega) (wr.heap.size + 1) (by simp) ?_; intro a' cap' w2 hown2 hgrow hat)
        go_roundw
        case rel =>
          refine ⟨k + 1, n + 1, us' ++ [.slice au x.2.length cu], M ++ [x], by omega, by go_num, (HB.out.alloc HB.out.size _).grown hgrow (by have := HB.out.size; simp; omega) HFr.out, by omega, by simp [HMn.out], ?_, ?_, ⟨by simp [hus.out.1], fun i y u hy hu => ?_⟩, ?_⟩
          · rw [HS.out, hM.out]; rfl
          · rw [fcells_append _ _ _ _ (by rw [hus.out.1, HMn.out])]; exact hown2
          · by_cases hi : i < n
            · rw [List.getElem?_append_left (by rw [HMn.out]; exact hi)] at hy
              rw [List.getElem?_append_left (by rw [hus.out.1]; exact hi)] at hu
              exact hus.out.2 i y u hy hu
            · have hi2 : i = n := by
                have := (List.getElem?_eq_some_iff.1 hy).1
                simp [HMn.out] at this; omega
              subst hi2
              rw [List.getElem?_append_right (by rw [HMn.out]; exact Nat.le_refl _)] at hy
              rw [List.getElem?_append_right (by rw [hus.out.1]; exact Nat.le_refl _)] at hu
              simp [HMn.out] at hy
              simp [hus.out.1] at hu
              subst hy hu
              exact HBu.out
          · intro b hb
            rcases hat b hb with h | h
            · exact HFr.out b h
            · have := HB.out.size; omega
        case measure => simp [intOf]; omega
    · as_aux_lemma =>
      obtain rfl : k = L.length := by omega
      have HM2 : Hid (M = withoutL L s) := by have := hM.out; rw [List.take_length] at this; exact this
      have HB := Lib.hid hB
      have HO := Lib.hid ho
      have HFr := Lib.hid hfresh
      obtain ⟨ao, co, rfl, -⟩ := ho.form
      clear hB ho hfresh hM hMn
      go_wp2_with fail
      go_ret
      have keep : ∀ k, T k → wr.heap[k]? = w.heap[k]? := fun k hk => HB.out.block k (HH.out.2 k hk)
      refine ⟨_, us', rfl, ?_, HB.out⟩
      rw [← HM2.out]
      refine ⟨by rw [HMn.out]; exact HO.out, by rw [hus.out.1, HMn.out], fun i x u hx hu => (hus.out.2 i x u hx hu).move keep fun k hk => .inl hk, fun k hk => .inr ⟨HFr.out k hk, HO.out.lt hk⟩⟩
end
end Go.Proofs.Ytpkmnfpbcakflaa
