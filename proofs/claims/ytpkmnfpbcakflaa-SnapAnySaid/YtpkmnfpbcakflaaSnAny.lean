/- The walk of SnapAny. No condition. -/
import Derived.Test.YtpkmnfpbcakflaaSnAll
import Derived.Test.YtpkmnfpbcakflaaWide
namespace Go.Proofs.Ytpkmnfpbcakflaa
open Go.ChangeShapes Go.WideShapes Go.ChangeAt Go.RowKit

/-- files in a row of cells -/
theorem files_of_row {w : World} {a : Option Addr} {n c : Nat} {fs : List (ByteArray × List Int)} {us : List Value} (h : Row w 56 2 (.slice a n c) n (fcells fs us)) (hl : fs.length = n) (hu : us.length = n)
    (hb : ∀ (i : Nat) (x : ByteArray × List Int) (u : Value), fs[i]? = some x → us[i]? = some u → Bts (fun k => k < w.heap.size) w u x.2 ∧ x.1.size ≤ maxLen ∧ x.2.length ≤ 281474976710656) : FilesIn w a n fs := by
  refine ⟨hl, fun i x hx => ?_⟩
  have hi : i < n := by rw [← hl]; exact (List.getElem?_eq_some_iff.1 hx).1
  obtain ⟨u, hu'⟩ : ∃ u, us[i]? = some u := ⟨_, List.getElem?_eq_getElem (by omega)⟩
  obtain ⟨g, rfl, hg, hc, -⟩ := h.view (by omega)
  obtain ⟨b1, b2, b3⟩ := hb i x u hx hu'
  obtain ⟨c1, c2⟩ := fcells_at fs us i x u hx hu'
  obtain ⟨ab, cb, rfl, -⟩ := b1.ex
  refine ⟨⟨g, 0, rfl, hg, ?_, ab, cb, ?_, b1.src⟩, b1.byte, b2, b3⟩
  · rw [Nat.zero_add, hc _ (by omega)]; exact c1
  · rw [Nat.zero_add, hc _ (by omega)]; exact c2
theorem rframe_out (a : Option Addr) (n c : Nat) (b : List Int) (w : World) (h : Src w 1 (.slice a n c) n (byteCells b)) (hb : ∀ x ∈ b, 0 ≤ x ∧ x < 256) (hm : n ≤ maxLen) :
    Calls Try.prog 30 #[.slice a n c] w fun e w' => ∃ fr a1 c1, e = .returned (.slice a1 fr.length c1) ∧ Bts (fun k => k < w'.heap.size) w' (.slice a1 fr.length c1) fr ∧ fr.length ≤ 4194314 ∧ Below w.heap.size w w' := by
  have hl : b.length = n := by have := h.1; rw [byteCells_len] at this; omega
  by_cases hn : 4194304 < n
  · exact (rframe_no a n c hn hm w).mono fun e w' ⟨he, hw⟩ => ⟨[], none, 0, he, Bts.nil _ _, by simp, hw ▸ Below.refl _ _⟩
  · refine (rframe_any a n c b w h hb (by omega)).mono fun e w' ⟨a1, c1, he, hr, _, hB⟩ => ⟨frameL b, a1, c1, he, Bts.of_row hr (frameL_range b hb) fun k hk => hr.lt hk, ?_, hB⟩
    rw [frameL_len, hl]; omega

open Go.Deep in
set_option maxRecDepth 100000 in
/-- an argument of bytes -/
theorem open_bytes {H : Type} {enc : TypeId × Value → H} {w : World} {base : Nat} {spare : Nat → Bool} {held : Bool} {v : Value} {d : DataW H} {ps : List MemPlace} (hv : Value.okWide Try.prog w .any base 25 v) (h : DataW.Trod enc Try.prog w 0 spare held 25 v d ps) (hzw : ∀ q ∈ d.weights Try.prog 25, q ≤ reachBytes) :
    ∃ a c A, v = .slice a A.length c ∧ A.length ≤ 140737488351232 ∧ Bts (fun k => k < w.heap.size) w (.slice a A.length c) A := by
  obtain ⟨a0, len0, cap0, rfl⟩ := okWide_slice Try.underlying25 hv
  obtain ⟨fuel, hf⟩ := h
  have hf' : DataW.trod enc Try.prog w 0 spare held fuel 25 [.slice a0 len0 cap0] = some (d, ps) := hf
  obtain ⟨ab, lb, cb, zs, e, hz, hlc, hcm, hsrc, hwf⟩ := field_ints Try.underlying25 Try.underlying5 cellsB1 hf'
  cases e
  have hsm := len_weight Try.underlying25 bytesOne hf' hzw
  unfold reachBytes at hsm
  subst hz
  exact ⟨a0, cap0, zs, rfl, hsm, ⟨⟨a0, cap0, rfl, hlc, hcm⟩, hsrc, bytes_wf hwf, fun h0 k hk => hsrc.lt h0 k hk⟩⟩

set_option maxRecDepth 100000 in
set_option maxHeartbeats 8000000 in
theorem snany_law (aa : Option Addr) (ca : Nat) (A : List Int) (ab : Option Addr) (cb : Nat) (B : List Int) (what : Int) (sec : Bool) (w : World)
    (hA : Bts (fun k => k < w.heap.size) w (.slice aa A.length ca) A) (hal : A.length ≤ 140737488351232) (hB : Bts (fun k => k < w.heap.size) w (.slice ab B.length cb) B) (hbl : B.length ≤ 140737488351232) :
    Calls Try.prog 10 #[.slice aa A.length ca, .slice ab B.length cb, .int .i64 what, .bool sec] w fun e w' => e = .returned (.bool true) ∧ Below w.heap.size w w' := by
  obtain ⟨i0, hi0, hz0, hz1, hz2⟩ := info_parts infoB
  obtain ⟨i1, hj0, hy0, hy1, hy2⟩ := info_parts infoF
  have HF := Lib.hid (rframe_out ab B.length cb B w hB.src hB.byte (by unfold maxLen; omega))
  have HA := Lib.hid hA
  obtain ⟨na, hna⟩ : ∃ na, A.length = na := ⟨_, rfl⟩
  have HNa := Lib.hid hna
  obtain ⟨nb, hnb⟩ : ∃ nb, B.length = nb := ⟨_, rfl⟩
  have hsA := hA.src
  rw [hna] at hal hsA ⊢
  rw [hnb] at hbl HF ⊢
  have HSA := Lib.hid hsA
  clear hA hB hna hnb hsA
  go_enter Try.func10, Try.ntmps10
  go_upto_if 23 with (fail)
  go_cut [9] (fun v wx => ∃ (dt : List Int) (a1 : Option Addr) (c1 : Nat), v = .slice a1 dt.length c1 ∧ Hid (Bts (fun k => k < wx.heap.size) wx (.slice a1 dt.length c1) dt ∧ dt.length ≤ 281474976710656) ∧ Hid (Below w.heap.size w wx))
  case first =>
    by_cases h0 : 0 < what.tmod 3
    · as_aux_lemma =>
      go_wp2_with fail
      refine HF.out.mono ?_
      rintro e w1 ⟨fr, a1, c1, rfl, hb, hl, hB⟩
      obtain ⟨nf, hnf⟩ : ∃ nf, fr.length = nf := ⟨_, rfl⟩
      have hb2 := hb
      rw [hnf] at hb hl ⊢
      by_cases h2 : what.tmod 3 = 2
      · have hsrc : Src (w1.alloc (.cells #[] 5)) 1 (.slice a1 nf c1) nf (byteCells fr) := by
          have := hb.src
          rw [hnf] at this
          exact this.below ((Below.refl _ w1).alloc (Nat.le_refl _) _)
        have hdst := Row.lit_at w1 5 1 #[] 0 w1.heap.size rfl (Nat.zero_le _) rfl
        have HB := Lib.hid (And.intro hB hb2)
        have HNf := Lib.hid hnf
        clear hB hb hb2 hnf
        go_wp2_with (at_builtin; first
          | (refine wpList_append_row _ rfl _ _ 25 rfl 5 i0 _ 1 1 Try.underlying25 hi0 hz0 hz1 hz2 rfl (.slice (some ⟨w1.heap.size, 0, none⟩) 0 0) 0 [] rfl hdst _ _ _ rfl hsrc (by unfold maxLen; omega) (by omega) (w1.heap.size + 1) (by simp) ?_; intro a' cap' w2 hown2 hgrow2 hat2; simp only [Nat.zero_add, List.nil_append] at hown2 hat2; have hB2 : Below w1.heap.size w1 w2 := ((Below.refl _ w1).alloc (Nat.le_refl _) _).grown hgrow2 (by simp) (by intro k hk; simp [Value.ownBlock] at hk; omega); have hsrc2 : Src w2 1 (.slice aa na ca) na (byteCells A) := HSA.out.below (HB.out.1.trans (hB2.mono HB.out.1.size)))
          | (refine wpList_append_row_wide _ rfl _ _ 25 rfl 5 i0 _ 1 1 Try.underlying25 hi0 hz0 hz1 hz2 rfl (.slice a' nf cap') nf _ rfl hown2 _ _ _ rfl hsrc2 (by unfold maxLen; omega) (by omega) w2.heap.size rfl ?_; intro a5 cap5 w5 hown5 hgrow5 hat5))
        go_meet
        have hf2 : ∀ k, (Value.slice a' nf cap').ownBlock = some k → w1.heap.size ≤ k := fun k hk => by
          rcases hat2 k hk with e | e
          · simp [Value.ownBlock] at e; omega
          · omega
        have hB5 : Below w1.heap.size w1 w5 := hB2.grown hgrow5 hB2.size hf2
        have hlen : (fr ++ A).length = nf + na := by rw [List.length_append, HNf.out, HNa.out]
        refine ⟨fr ++ A, a5, cap5, by rw [hlen], ⟨?_, by rw [hlen]; omega⟩, HB.out.1.trans (hB5.mono HB.out.1.size)⟩
        rw [hlen]
        have hr : Row w5 5 1 (.slice a5 (nf + na) cap5) (fr ++ A).length (byteCells (fr ++ A)) := by rw [byteCells_append, hlen]; exact hown5
        refine Bts.of_row hr (fun x hx => ?_) fun k hk => hr.lt hk
        rcases List.mem_append.1 hx with hx | hx
        · exact HB.out.2.byte x hx
        · exact HA.out.byte x hx
      · have HB := Lib.hid (And.intro hB hb2)
        have HNf := Lib.hid (And.intro hnf hl)
        clear hB hb hb2 hnf hl
        go_wp2_with fail
        go_meet
        exact ⟨fr, a1, c1, by rw [HNf.out.1], ⟨HB.out.2, by rw [HNf.out.1]; have := HNf.out.2; omega⟩, HB.out.1⟩
    · as_aux_lemma =>
      go_wp2_with fail
      go_meet
      exact ⟨A, aa, ca, by rw [HNa.out], ⟨HA.out, by rw [HNa.out]; omega⟩, Below.refl _ _⟩
  case rest =>
  obtain ⟨dt, a1, c1, rfl, HD, HB⟩ := hcut
  obtain ⟨n1, hn1⟩ : ∃ n1, dt.length = n1 := ⟨_, rfl⟩
  have HN1 := Lib.hid hn1
  rw [hn1]
  clear HF hn1
  go_upto_if 37 with (fail)
  go_cut [10] (fun v wx => ∃ (a : Option Addr) (n c : Nat) (fs : List (ByteArray × List Int)), v = .slice a n c ∧ Hid (FilesIn wx a n fs) ∧ Hid (Below w.heap.size w wx))
  case first =>
    have hrow1 : Row (wc.alloc (.cells #[.string ⟨#[115, 110, 97, 112]⟩, .slice a1 n1 c1] 56)) 56 2 (.slice (some ⟨wc.heap.size, 0, none⟩) 1 1) 1 [.string ⟨#[115, 110, 97, 112]⟩, .slice a1 n1 c1] := Row.lit_at wc _ 2 #[.string ⟨#[115, 110, 97, 112]⟩, .slice a1 n1 c1] 1 wc.heap.size rfl (by unfold maxLen; omega) rfl
    have hBw : Below wc.heap.size wc (wc.alloc (.cells #[.string ⟨#[115, 110, 97, 112]⟩, .slice a1 n1 c1] 56)) := (Below.refl _ wc).alloc (Nat.le_refl _) _
    have hsz : (wc.alloc (.cells #[.string ⟨#[115, 110, 97, 112]⟩, .slice a1 n1 c1] 56)).heap.size = wc.heap.size + 1 := by simp
    generalize wc.alloc (.cells #[.string ⟨#[115, 110, 97, 112]⟩, .slice a1 n1 c1] 56) = W1 at *
    have hb1 : ∀ W, Below wc.heap.size wc W → Bts (fun k => k < W.heap.size) W (.slice a1 n1 c1) dt := fun W hW => by
      have := HD.out.1
      rw [HN1.out] at this
      exact this.move (fun k hk => hW.block k hk) fun k hk => Nat.lt_of_lt_of_le hk hW.size
    have hbA : ∀ W, Below wc.heap.size wc W → Bts (fun k => k < W.heap.size) W (.slice aa na ca) A := fun W hW => by
      have := HA.out
      rw [HNa.out] at this
      have hW' := HB.out.trans (hW.mono HB.out.size)
      exact this.move (fun k hk => hW'.block k hk) fun k hk => Nat.lt_of_lt_of_le hk hW'.size
    have hdl := HD.out.2
    have HR := Lib.hid (And.intro hrow1 (And.intro hBw (And.intro hsz (And.intro hb1 (And.intro hbA hdl)))))
    clear hrow1 hBw hsz hb1 hbA hdl
    cases sec with
    | false =>
      go_wp2_with fail
      go_meet
      refine ⟨some ⟨wc.heap.size, 0, none⟩, 1, 1, [(nameS, dt)], rfl, files_of_row (us := [.slice a1 n1 c1]) HR.out.1 rfl rfl (fun i x u hx hu => ?_), HB.out.trans (HR.out.2.1.mono HB.out.size)⟩
      rcases i with _ | i
      · simp only [List.getElem?_cons_zero, Option.some.injEq] at hx hu
        subst hx; subst hu
        exact ⟨HR.out.2.2.2.1 _ HR.out.2.1, (by decide : nameS.size ≤ maxLen), HR.out.2.2.2.2.2⟩
      · simp at hx
    | true =>
      have hdst : Row (W1.alloc (.cells #[.string ⟨#[115, 110, 97, 112, 46, 110, 101, 119]⟩, .slice aa na ca] 56)) 56 2 (.slice (some ⟨wc.heap.size, 0, none⟩) 1 1) 1 [.string ⟨#[115, 110, 97, 112]⟩, .slice a1 n1 c1] := HR.out.1.of_block fun k hk => Below.heap_alloc W1 _ k (HR.out.1.lt hk)
      have hsrc : Src (W1.alloc (.cells #[.string ⟨#[115, 110, 97, 112, 46, 110, 101, 119]⟩, .slice aa na ca] 56)) 2 (.slice (some ⟨W1.heap.size, 0, none⟩) 1 1) 1 [.string ⟨#[115, 110, 97, 112, 46, 110, 101, 119]⟩, .slice aa na ca] := Src.of_block (heap_alloc_new W1 _) 1 1 rfl (by simp [Value.oneCell'])
      go_wp2_with (at_builtin; refine wpList_append_row _ rfl _ _ 57 rfl 56 i1 _ 2 40 Try.underlying57 hj0 hy0 hy1 hy2 rfl (.slice (some ⟨wc.heap.size, 0, none⟩) 1 1) 1 _ rfl hdst (.slice (some ⟨W1.heap.size, 0, none⟩) 1 1) 1 [.string ⟨#[115, 110, 97, 112, 46, 110, 101, 119]⟩, .slice aa na ca] rfl hsrc (by unfold maxLen; omega) (by omega) (W1.heap.size + 1) (by simp) ?_; intro a5 cap5 w5 hown5 hgrow5 hat5)
      go_meet
      have hB5 : Below wc.heap.size wc w5 := (HR.out.2.1.alloc HR.out.2.1.size _).grown hgrow5 (by have := HR.out.2.1.size; simp; omega) (by intro k hk; simp [Value.ownBlock] at hk; omega)
      refine ⟨a5, 1 + 1, cap5, [(nameS, dt), (nameN, A)], rfl, files_of_row (us := [.slice a1 n1 c1, .slice aa na ca]) hown5 rfl rfl (fun i x u hx hu => ?_), HB.out.trans (hB5.mono HB.out.size)⟩
      rcases i with _ | i
      · simp only [List.getElem?_cons_zero, Option.some.injEq] at hx hu
        subst hx; subst hu
        exact ⟨HR.out.2.2.2.1 _ hB5, (by decide : nameS.size ≤ maxLen), HR.out.2.2.2.2.2⟩
      · rcases i with _ | i
        · simp only [List.getElem?_cons_succ, List.getElem?_cons_zero, Option.some.injEq] at hx hu
          subst hx; subst hu
          exact ⟨HR.out.2.2.2.2.1 _ hB5, (by decide : nameN.size ≤ maxLen), by show A.length ≤ _; rw [HNa.out]; omega⟩
        · simp at hx
  case rest =>
  obtain ⟨af, nf, cf, fs, rfl, HFs, HB2⟩ := hcut
  clear HD HB HA HSA HN1 HNa
  go_wp2_with fail
  refine (pair_any _ af nf cf fs HFs.out).mono ?_
  rintro e w2 ⟨p, q, d1, rfl, hP0, hI0⟩
  have HP0 := Lib.hid hP0
  have HI1 := Lib.hid hI0
  clear hP0 hI0 HFs
  go_wp2_with fail
  refine (snknown_any w2).mono ?_
  rintro e w5 ⟨rfl, hBk⟩
  have HP1 := Lib.hid (HP0.out.below hBk)
  clear HP0 hBk
  obtain ⟨o, err, df, hom⟩ : ∃ o err df, openM d1 = ((o, err), df) := ⟨_, _, _, rfl⟩
  have h1 := HP1.out.openP HI1.out (by omega)
  have hI' := HI1.out.opened
  rw [hom] at h1 hI'
  have H1 := Lib.hid (show Calls _ _ _ _ fun e w' => OpOut _ w5 w' e (fun _ => False) p q df d1 o err from h1)
  have HI' := Lib.hid (show Inv 21 df from hI')
  have HOm := Lib.hid hom
  clear h1 hI' hom
  go_wp2_with fail
  refine H1.out.mono ?_
  rintro e w7 ⟨v, wa, rfl, hT, hBa, hbv⟩
  have hF := hT.1.fresh hBa
  have h2 := hF.openR HI1.out (by omega)
  rw [HOm.out] at h2
  have H2 := Lib.hid (show Calls _ _ _ _ fun e w' => OpOut _ w7 w' e (fun k => False ∨ (wa.heap.size ≤ k ∧ k < w7.heap.size)) p q df df o err from h2)
  have HBv := Lib.hid hbv
  obtain ⟨b1, c2, rfl, -⟩ := hbv.ex
  clear hT hBa hF h2 hbv H1
  go_wp2_with fail
  refine H2.out.mono ?_
  rintro e w8 ho
  have hbv2 := OpOut.both (e1 := e) HBv.out ho rfl
  obtain ⟨v2, wb, rfl, hT2, hBb, hb2⟩ := ho
  obtain ⟨b2, c3, rfl, -⟩ := hb2.ex
  have cA := conv_str hbv2.src
  have cB := conv_str hb2.src
  have HD := Lib.hid (hT2.1.below hBb)
  have HSa := Lib.hid (same_any HD.out HI'.out (by omega))
  obtain ⟨S, hS⟩ : ∃ S, strOfNums (o.getD []) = S := ⟨_, rfl⟩
  obtain ⟨L, hL⟩ : ∃ L, (o.getD []).length = L := ⟨_, rfl⟩
  rw [hS, hL] at cA cB
  rw [hL]
  clear hbv2 hT2 hBb hb2 hS hL HBv H2
  go_wp2_with fail
  refine HSa.out.mono ?_
  rintro e w9 ⟨rfl, hB9⟩
  have HF := Lib.hid (HB2.out.trans ((HD.out.1.trans (hB9.mono HD.out.1.size)).mono HB2.out.size))
  clear hB9 HSa HD HB2
  go_wp2_with fail
  go_ret
  exact ⟨by simp, HF.out⟩
end Go.Proofs.Ytpkmnfpbcakflaa
