/- The walk of frame.List over whole frames and an end that is none. No condition. -/
import Derived.Test.YtpkmnfpbcakflaaFrame
import Derived.Test.YtpkmnfpbcakflaaShort
import Derived.ScopeJumps
namespace Go.Proofs.Ytpkmnfpbcakflaa
open Go.ChangeShapes Go.WideShapes Go.ChangeAt Go.RowKit

section
variable {P : Program} {a : Act} {w : World} {Q : Exit → Act → World → Prop}
open Classical in
noncomputable def leastN (p : Nat → Prop) : Nat := if h : ∃ n, p n ∧ ∀ m, p m → n ≤ m then h.choose else 0
theorem leastN_spec {p : Nat → Prop} (h : ∃ n, p n) : p (leastN p) ∧ ∀ m, p m → leastN p ≤ m := by
  have hex : ∃ n, p n ∧ ∀ m, p m → n ≤ m := by
    obtain ⟨n, hn⟩ := h
    induction n using Nat.strongRecOn with
    | _ n ih =>
      by_cases hs : ∃ m, m < n ∧ p m
      · obtain ⟨m, hm, hp⟩ := hs
        exact ih m hm hp
      · refine ⟨n, hn, fun m hm => ?_⟩
        rcases Nat.lt_or_ge m n with h | h
        · exact absurd ⟨m, h, hm⟩ hs
        · exact h
  unfold leastN
  rw [dif_pos hex]
  exact hex.choose_spec
/-- a scope with one label -/
theorem wp_scope_one {c R0 : Code} (I : Nat → Act → World → Prop) (h0 : findLabel c 0 = some (.seq .skip R0))
    (first : ∀ S : Exit → Act → World → Prop, ∀ R : Code, R = R0 → Hid (∀ a w, Q .ret a w → S .ret a w) → Hid (∀ n a w, I n a w → R.wp P S a w) → c.wp P S a w)
    (p0 : ∀ n a w, I n a w → ∀ S : Exit → Act → World → Prop, Hid (∀ a w, Q .ret a w → S .ret a w) → Hid (∀ n' a' w', n' < n → I n' a' w' → S (.goto 0) a' w') → R0.wp P S a w) : (Code.scope c).wp P Q a w := by
  refine wp_scope_jumps 0 (fun a w => ∃ n, I n a w) (fun a w => leastN fun n => I n a w) h0 (first _ R0 rfl (Lib.hid fun _ _ h => h) (Lib.hid fun n a w h => p0 n a w h _ (Lib.hid fun _ _ h => h) (Lib.hid fun n' a' w' _ hi => ⟨rfl, n', hi⟩))) ?_
  intro a w hJ
  have hm := leastN_spec hJ
  refine wp_seq (wp_skip (p0 _ _ _ hm.1 _ (Lib.hid fun _ _ h => h) (Lib.hid fun n' a' w' hlt hi => ⟨rfl, ⟨n', hi⟩, Nat.lt_of_le_of_lt ((leastN_spec ⟨n', hi⟩).2 n' hi) hlt⟩)))
end
theorem fl_head {l : Nat} {b : Code} : findLabel (.seq (.label l) b) l = some (.seq .skip b) := by simp [findLabel]
theorem fl_right {l : Nat} {a b r : Code} (hn : findLabel a l = none) (h : findLabel b l = some r) : findLabel (.seq a b) l = some r := by simp [findLabel, hn, h]

def framesL (ys : List (List Int)) : List Int := (ys.map frameL).flatten
theorem framesL_cons (y : List Int) (ys : List (List Int)) : framesL (y :: ys) = frameL y ++ framesL ys := rfl
theorem framesL_append (xs ys : List (List Int)) : framesL (xs ++ ys) = framesL xs ++ framesL ys := by simp [framesL]
theorem framesL_split (ys : List (List Int)) (k : Nat) (y : List Int) (h : ys[k]? = some y) : framesL ys = framesL (ys.take k) ++ (frameL y ++ framesL (ys.drop (k + 1))) := by
  have hlt := (List.getElem?_eq_some_iff.1 h).1
  have hx := (List.getElem?_eq_some_iff.1 h).2
  rw [← framesL_cons, ← hx, ← List.drop_eq_getElem_cons hlt, ← framesL_append, List.take_append_drop]
theorem framesL_snoc (ys : List (List Int)) (k : Nat) (y : List Int) (h : ys[k]? = some y) : framesL (ys.take (k + 1)) = framesL (ys.take k) ++ frameL y := by
  have hlt := (List.getElem?_eq_some_iff.1 h).1
  rw [List.take_succ_eq_append_getElem hlt, (List.getElem?_eq_some_iff.1 h).2, framesL_append]; simp [framesL]

def ListI (w : World) (a : Option Addr) (n c : Nat) (ys : List (List Int)) (r : Nat) (A : Act) (W : World) : Prop :=
  ∃ u6 u7 u8 u9 u10 u11 u12 u13 u14 u15 u16 u17 u18 u19 u20 u21 u22 u23 u24 u25 u26 u27 : Value, ∃ (o va : Value) (us : List Value) (k : Nat), (k + r = ys.length ∧ va = .int .i64 ((framesL (ys.take k)).length : Nat) ∧ us.length = k ∧ TextsOf w.heap.size W o us (ys.take k) ∧ (∀ b, o.ownBlock = some b → w.heap.size ≤ b) ∧ Below w.heap.size w W) ∧
    A = ⟨#[.slice a n c, undef, .slice none 0 0, .int .i64 0, o, va, u6, u7, u8, u9, u10, u11, u12, u13, u14, u15, u16, u17, u18, u19, u20, u21, u22, u23, u24, u25, u26, u27], []⟩
/-- what List tells -/
def ListOut (w w' : World) (e : Ending) (ys : List (List Int)) (at_ : Nat) : Prop :=
  ∃ o us, e = .returned (.tuple #[o, .int .i64 (at_ : Nat)]) ∧ us.length = ys.length ∧ TextsOf w.heap.size w' o us ys ∧ (∀ b, o.ownBlock = some b → w.heap.size ≤ b) ∧ Below w.heap.size w w'

set_option maxRecDepth 100000 in
set_option maxHeartbeats 2000000 in
theorem list_any (a : Option Addr) (n c : Nat) (ys : List (List Int)) (rest : List Int) (w : World) (h : Src w 1 (.slice a n c) n (byteCells (framesL ys ++ rest))) (hc : n ≤ c) (hr : rest.length < 10)
    (hys : ∀ y ∈ ys, y.length ≤ 4194304 ∧ ∀ x ∈ y, 0 ≤ x ∧ x < 256) (hn : n ≤ 100000000) (hyl : ys.length ≤ 1000000) :
    Calls Try.prog 55 #[.slice a n c] w fun e w' => ListOut w w' e ys (framesL ys).length := by
  obtain ⟨i0, hi0, hz0, hz1, hz2⟩ := info_parts infoB
  obtain ⟨i1, hj0, hy0, hy1, hy2⟩ := info_parts infoL
  have hl : (framesL ys).length + rest.length = n := by have := h.1; rw [byteCells_len, List.length_append] at this; omega
  have HSrc := Lib.hid h
  have HL := Lib.hid hl
  have HYS := Lib.hid hys
  clear h hl hys
  go_enter Try.func55, Try.ntmps55
  go_wp2_with fail
  apply wp_scope_one (ListI w a n c ys) ?h0 ?first ?pass0
  case h0 => repeat (first | exact fl_head | refine fl_right (by kernel_rfl) ?_)
  case first =>
    intro S R hR hret hp0
    rw [← hR]
    clear hR
    go_wp2_with fail
    go_step3
    go_wp2_with fail
    refine hp0 ys.length _ _ ?_
    unfold ListI
    repeat apply Exists.intro
    refine ⟨?_, rfl⟩
    exact ⟨Nat.zero_add _, rfl, rfl, ⟨Row.nil _ _ _, rfl, by intro j u y h; simp at h⟩, by intro b hb; simp [Value.ownBlock] at hb, Below.refl _ _⟩
  case pass0 =>
    intro r A wr hinv S hret hg
    unfold ListI at hinv
    obtain ⟨u6, hinv⟩ := hinv; obtain ⟨u7, hinv⟩ := hinv; obtain ⟨u8, hinv⟩ := hinv; obtain ⟨u9, hinv⟩ := hinv; obtain ⟨u10, hinv⟩ := hinv; obtain ⟨u11, hinv⟩ := hinv; obtain ⟨u12, hinv⟩ := hinv; obtain ⟨u13, hinv⟩ := hinv; obtain ⟨u14, hinv⟩ := hinv; obtain ⟨u15, hinv⟩ := hinv; obtain ⟨u16, hinv⟩ := hinv; obtain ⟨u17, hinv⟩ := hinv; obtain ⟨u18, hinv⟩ := hinv; obtain ⟨u19, hinv⟩ := hinv; obtain ⟨u20, hinv⟩ := hinv; obtain ⟨u21, hinv⟩ := hinv; obtain ⟨u22, hinv⟩ := hinv; obtain ⟨u23, hinv⟩ := hinv; obtain ⟨u24, hinv⟩ := hinv; obtain ⟨u25, hinv⟩ := hinv; obtain ⟨u26, hinv⟩ := hinv; obtain ⟨u27, hinv⟩ := hinv
    obtain ⟨o, va, us, k, ⟨hk, hva, hus, hT, hfr, hB⟩, hA⟩ := hinv
    subst hA
    subst hva
    subst hus
    obtain ⟨ao, co, rfl, hco, hmo, hmc⟩ := hT.row.form
    have HT := Lib.hid hT
    have HFr := Lib.hid hfr
    have HB := Lib.hid hB
    obtain ⟨L, hLd⟩ : ∃ L, (framesL (ys.take us.length)).length = L := ⟨_, rfl⟩
    rw [hLd]
    have hLn : L ≤ n := by
      have e := congrArg List.length (congrArg framesL (List.take_append_drop us.length ys))
      rw [framesL_append, List.length_append, hLd] at e
      have := HL.out; omega
    have hpart := (HSrc.out.below HB.out).part L (n - L) (by omega) hc
    have hsl : ∀ w, (Instr.slice 25 (.slice a n c) (some (.int .i64 (L : Int))) none none).run Try.prog w = .ok (.slice (fromAddr a c L 1) (n - L) (c - L)) w := fun w => run_slice_from w 25 5 i0 Try.underlying25 hi0 1 hz1 a n c L hLn .i64
    rw [Nat.mul_one, Nat.mul_one, List.take_of_length_le (by rw [List.length_drop, byteCells_len, List.length_append]; have := HL.out; omega)] at hpart
    obtain ⟨sl, hsld⟩ : ∃ sl, n - L = sl := ⟨_, rfl⟩
    obtain ⟨sc, hscd⟩ : ∃ sc, c - L = sc := ⟨_, rfl⟩
    have hslc : sl ≤ sc := by omega
    have hsln : sl ≤ n := by omega
    rw [hsld, hscd] at hpart
    rw [hsld, hscd] at hsl
    have hbd : (byteCells (framesL ys ++ rest)).drop L = byteCells ((framesL ys ++ rest).drop L) := by simp [byteCells, List.map_drop]
    rw [hbd] at hpart
    rcases Nat.lt_or_ge us.length ys.length with hlt | hge
    · obtain ⟨y, hy⟩ : ∃ y, ys[us.length]? = some y := ⟨_, List.getElem?_eq_getElem hlt⟩
      have hyp := HYS.out y (List.mem_of_getElem? hy)
      have hdr : (framesL ys ++ rest).drop L = frameL y ++ (framesL (ys.drop (us.length + 1)) ++ rest) := by
        rw [framesL_split ys us.length y hy, List.append_assoc, ← hLd, List.drop_left, List.append_assoc]
      rw [hdr] at hpart
      have HW := Lib.hid (whole_yes (fromAddr a c L 1) sl sc y _ wr hpart hslc hyp.2 hyp.1 (by omega))
      have hsn : (framesL (ys.take (us.length + 1))).length = L + (10 + y.length) := by rw [framesL_snoc ys us.length y hy, List.length_append, frameL_len, hLd]; omega
      have hLy : L + (10 + y.length) ≤ n := by
        have e := congrArg List.length (framesL_split ys us.length y hy)
        rw [List.length_append, List.length_append, frameL_len, hLd] at e
        have := HL.out; omega
      have hts : ys.take (us.length + 1) = ys.take us.length ++ [y] := by rw [List.take_succ_eq_append_getElem hlt, (List.getElem?_eq_some_iff.1 hy).2]
      have hby := hyp.2
      have HSn := Lib.hid (And.intro hsn (And.intro hts hby))
      clear hT hfr hB hLd hpart hsld hscd hbd hy hdr hsn hts hby hyp
      go_wp2_with fail
      refine HW.out.mono ?_
      rintro e w2 ⟨a2, c2, rfl, hR2, hf2, hB2⟩
      have hrow2 := HT.out.row.of_block (w' := w2) fun k hk => hB2.block k (HT.out.row.lt hk)
      have hdst : Row (w2.alloc (.cells #[.slice a2 y.length c2] 25)) 25 1 (.slice ao us.length co) us.length us := hrow2.of_block fun k hk => Below.heap_alloc w2 _ k (hrow2.lt hk)
      have hsrc2 : Src (w2.alloc (.cells #[.slice a2 y.length c2] 25)) 1 (.slice (some ⟨w2.heap.size, 0, none⟩) 1 1) 1 [.slice a2 y.length c2] := Src.of_block (heap_alloc_new w2 _) 1 1 rfl (by simp [Value.oneCell'])
      have HD := Lib.hid hdst
      have HS2 := Lib.hid hsrc2
      have HO := Lib.hid (And.intro hR2 (And.intro hf2 hB2))
      clear HW hR2 hf2 hB2 hrow2 hdst hsrc2
      go_wp2_with (at_builtin; refine wpList_append_row _ rfl _ _ 22 rfl 25 i1 _ 1 24 Try.underlying22 hj0 hy0 hy1 hy2 rfl (.slice ao us.length co) us.length _ rfl HD.out (.slice (some ⟨w2.heap.size, 0, none⟩) 1 1) 1 [.slice a2 y.length c2] rfl HS2.out (by unfold maxLen; omega) (by omega) (w2.heap.size + 1) (by simp) ?_; intro a5 cap5 w5 hown5 hgrow5 hat5)
      go_step3
      have hsz2 := HO.out.2.2.size
      have hB5 : Below w.heap.size w w5 := ((HB.out.trans (HO.out.2.2.mono HB.out.size)).alloc (by have := HB.out.size; omega) _).grown hgrow5 (by have := HB.out.size; simp; omega) HFr.out
      have hsz5 : w2.heap.size + 1 ≤ w5.heap.size := by have := hgrow5.size; simpa using this
      have hkeep : ∀ k, k < w2.heap.size → (Value.slice ao us.length co).ownBlock ≠ some k → w5.heap[k]? = w2.heap[k]? := fun k hk hne => (hgrow5.block k (by simp; omega) (fun e => hne e.symm)).trans (Below.heap_alloc w2 _ k hk)
      have hob : ∀ k, (Value.slice ao us.length co).ownBlock = some k → k < wr.heap.size := fun k hk => HT.out.row.lt hk
      have hrow5 := HO.out.1.of_block (w' := w5) fun k hk => hkeep k (HO.out.1.lt hk) fun e => by have := hob k e; have := HO.out.2.1 k hk; omega
      have hbts : Bts (fun k => w.heap.size ≤ k ∧ k < w5.heap.size ∧ (Value.slice a5 (us.length + 1) cap5).ownBlock ≠ some k) w5 (.slice a2 y.length c2) y := by
        refine Bts.of_row hrow5 HSn.out.2.2 fun k hk => ⟨?_, ?_, fun e => ?_⟩
        · have := HO.out.2.1 k hk; have := HB.out.size; omega
        · exact hrow5.lt hk
        · have h1 := HO.out.2.1 k hk
          have h2 := HO.out.1.lt hk
          rcases hat5 k e with h | h
          · have := hob k h; omega
          · omega
      have hT5 := TextsOf.snoc HT.out hown5 (fun k hk hne => (hkeep k (by omega) hne).trans (HO.out.2.2.block k hk)) (by omega) (fun k hk => by
        rcases hat5 k hk with h | h
        · exact .inl h
        · right; omega) hbts
      rw [← HSn.out.2.1] at hT5
      refine hg.out (r - 1) _ _ (by omega) ?_
      unfold ListI
      repeat apply Exists.intro
      refine ⟨⟨?c1, ?c2, ?c3, hT5, ?c4, hB5⟩, rfl⟩
      case c3 => simp
      case c1 => omega
      case c2 => rw [HSn.out.1]; go_num
      case c4 =>
        intro k hk
        rcases hat5 k hk with h | h
        · exact HFr.out k h
        · have := HB.out.size; omega
    · have hkk : us.length = ys.length := by omega
      have hdr : (framesL ys ++ rest).drop L = rest := by
        have e : framesL (ys.take us.length) = framesL ys := by rw [hkk, List.take_length]
        rw [← hLd, e, List.drop_left]
      have hsl10 : sl < 10 := by
        have e : framesL (ys.take us.length) = framesL ys := by rw [hkk, List.take_length]
        rw [e] at hLd
        have := HL.out; omega
      have hfin : L = (framesL ys).length := by rw [← hLd, hkk, List.take_length]
      have HW := Lib.hid (whole_short (fromAddr a c L 1) sl sc hsl10 wr)
      have HFin := Lib.hid (And.intro hfin hkk)
      clear hT hfr hB hLd hpart hsld hscd hbd hdr hfin hkk
      go_wp2_with fail
      refine HW.out.mono ?_
      rintro e w2 ⟨rfl, rfl⟩
      go_wp2_with fail
      refine hret.out _ _ ?_
      try rw [Exit.noGoto_ret]
      go_ret2
      refine ⟨.slice ao us.length co, us, by rw [← HFin.out.1]; rfl, HFin.out.2, ?_, HFr.out, HB.out⟩
      have := HT.out
      rw [HFin.out.2, List.take_length] at this
      rw [HFin.out.2]; exact this
end Go.Proofs.Ytpkmnfpbcakflaa
