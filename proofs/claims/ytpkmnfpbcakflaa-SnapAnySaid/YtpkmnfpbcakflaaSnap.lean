/- The walks of snap's clear, Save and Open. No condition. -/
import Derived.Test.YtpkmnfpbcakflaaTwoF
import Derived.Test.YtpkmnfpbcakflaaList
namespace Go.Proofs.Ytpkmnfpbcakflaa
open Go.ChangeShapes Go.WideShapes Go.ChangeAt Go.RowKit

section
variable {X : Nat → Prop} {wa w : World} {p : Nat} {o n : Option (List Int)} {fr : List Int} {f : Int}
theorem clear_none (h : SX X wa w p (sOn o none f false)) : Calls Try.prog 54 #[.pointer (some ⟨p, 0, none⟩)] w fun e w' => e = .returned (.tuple #[.bool false, .int .i64 0]) ∧ SX X wa w' p (sOn o none f false) ∧ Below w.heap.size w w' := by
  have hR := Lib.hid (h.readNo nameN (by decide) (by show (hasF (twoF o none) nameN && _) = false; rw [two_has_n]; rfl) (by show (getF (twoF o none) nameN).length ≤ _; rw [two_get_n]; simp))
  clear h
  go_enter Try.func54, Try.ntmps54
  go_wp2_with fail
  refine hR.out.mono ?_
  rintro e w1 ⟨rfl, S1⟩
  have H1 := Lib.hid S1
  clear S1 hR
  go_wp2_with fail
  go_ret2
  exact ⟨rfl, H1.out⟩
theorem clear_some (h : SX X wa w p (sOn o (some fr) (-1) false)) (hl : fr.length ≤ 70368744177664) : Calls Try.prog 54 #[.pointer (some ⟨p, 0, none⟩)] w fun e w' => e = .returned (.tuple #[.bool true, .int .i64 0]) ∧ SX X wa w' p (sRm o fr (-1) false) := by
  have hR := h.readYes nameN (by decide) (by show (hasF (twoF o (some fr)) nameN && _) = true; rw [two_has_n]; rfl) (by show (getF (twoF o (some fr)) nameN).length ≤ _; rw [two_get_n]; exact hl)
  have hR := Lib.hid hR
  clear h
  go_enter Try.func54, Try.ntmps54
  go_wp2_with fail
  refine hR.out.mono ?_
  rintro e w1 ⟨a1, c1, rfl, -, -, S1, -⟩
  have H1 := Lib.hid S1.remove2
  clear S1 hR
  go_wp2_with fail
  refine H1.out.mono ?_
  rintro e w2 ⟨rfl, S2⟩
  have H2 := Lib.hid S2
  clear S2 H1
  go_wp2_with fail
  go_ret2
  exact ⟨rfl, H2.out⟩

/-- what Save leaves, and tells -/
def saveM (o : Option (List Int)) (fr : List Int) (f : Int) : Int × Dk :=
  if f = 0 then (3, sOn o none 0 true) else if nf f = 0 then (3, sAp o fr 0 true) else if nf (nf f) = 0 then (3, sOn o (some fr) 0 true) else if nf (nf (nf f)) = 0 then (3, sRn o fr 0 true) else (0, sOn (some fr) none (nf (nf (nf (nf f)))) false)
theorem nf_ge {f : Int} (h : -1 ≤ f) : -1 ≤ nf f := by unfold nf; split <;> omega
theorem nf_le {f : Int} (h : f ≤ 1000000000000) : nf f ≤ 1000000000000 := by unfold nf; split <;> omega
theorem save_nil (a : Option Addr) (m c : Nat) (w : World) : Calls Try.prog 29 #[.pointer none, .slice a m c] w fun e w' => e = .returned (.int .i64 1) ∧ w = w' := by
  go_enter Try.func29, Try.ntmps29
  go_wp2
  go_ret
  exact ⟨rfl, rfl⟩
theorem save_long (a : Option Addr) (m c : Nat) (hm : 4194304 < m) (w : World) : Calls Try.prog 29 #[.pointer (some ⟨p, 0, none⟩), .slice a m c] w fun e w' => e = .returned (.int .i64 12) ∧ w = w' := by
  go_enter Try.func29, Try.ntmps29
  go_wp2
  go_ret
  exact ⟨rfl, rfl⟩
set_option maxRecDepth 100000 in
set_option maxHeartbeats 4000000 in
theorem save_any {a : Option Addr} {m c : Nat} (b : List Int) (h : SX X wa w p (sOn o none f false)) (hsrc : Src w 1 (.slice a m c) m (byteCells b)) (hb : ∀ x ∈ b, 0 ≤ x ∧ x < 256) (hm : m ≤ 4194000) (ho : (o.getD []).length ≤ 4194100) (hf0 : -1 ≤ f) (hf1 : f ≤ 1000000000000) :
    Calls Try.prog 29 #[.pointer (some ⟨p, 0, none⟩), .slice a m c] w fun e w' => e = .returned (.int .i64 (saveM o (frameL b) f).1) ∧ SX X wa w' p (saveM o (frameL b) f).2 := by
  have hl : b.length = m := by have := hsrc.1; rw [byteCells_len] at this; omega
  have hfl : (frameL b).length = m + 10 := by rw [frameL_len, hl]
  have hfr := frameL_range b hb
  have HC := Lib.hid (clear_none h)
  have HF := Lib.hid (fun (w1 : World) (hw : Below w.heap.size w w1) => frame_any a m c b w1 (hsrc.below hw) hb (by omega))
  have HFl := Lib.hid (And.intro hfl hfr)
  have HH := Lib.hid h
  generalize frameL b = fr at *
  have HSv := Lib.hid (rfl : saveM o fr f = saveM o fr f)
  clear h hsrc hfr hfl hl hb
  have hfm : m + 10 ≤ 4194010 := by omega
  go_enter Try.func29, Try.ntmps29
  go_wp2_with fail
  refine HC.out.mono ?_
  rintro e w1 ⟨rfl, S1, hB1⟩
  have H1 := Lib.hid S1
  have HB1 := Lib.hid hB1
  clear S1 hB1 HC
  go_wp2_with fail
  refine (HF.out _ HB1.out).mono ?_
  rintro e w2 ⟨a2, c2, rfl, hR2, hf2, hB2⟩
  have HO := Lib.hid (And.intro hR2 (And.intro hf2 hB2))
  clear hR2 hf2 hB2 HF
  by_cases h0 : f = 0
  · as_aux_lemma =>
    have HA := Lib.hid ((H1.out.below HO.out.2.2).stopA a2 fr.length c2 h0)
    have hs : saveM o fr f = (3, sOn o none 0 true) := by unfold saveM; rw [if_pos h0]
    have HS := Lib.hid (And.intro hs h0)
    clear hs h0
    go_wp2_with fail
    refine HA.out.mono ?_
    rintro e w3 ⟨rfl, S3⟩
    have H3 := Lib.hid S3
    clear S3 HA
    go_wp2_with fail
    go_ret
    rw [HS.out.1]
    have := H3.out
    rw [HS.out.2] at this
    exact ⟨rfl, this⟩
  have HA := Lib.hid (H1.out.append2 HO.out.2.2 HO.out.1 HO.out.2.1 HFl.out.2 h0 hf0 hf1 (by have := HFl.out.1; omega))
  go_wp2_with fail
  refine HA.out.mono ?_
  rintro e w3 ⟨rfl, S3⟩
  have H3 := Lib.hid S3
  clear S3 HA
  have g1 := nf_ge hf0
  have l1 := nf_le hf1
  have hz1 : Maps.size (sAp o fr (nf f) false).now ≤ 1000000 := by have := two_size o (some fr); simp only [sAp]; omega
  by_cases h1 : nf f = 0
  · as_aux_lemma =>
    have HA := Lib.hid (H3.out.stopS h1 hz1)
    have hs : saveM o fr f = (3, sAp o fr 0 true) := by unfold saveM; rw [if_neg h0, if_pos h1]
    have HS := Lib.hid (And.intro hs h1)
    clear hs h1 hz1
    go_wp2_with fail
    refine HA.out.mono ?_
    rintro e w4 ⟨rfl, S4⟩
    have H4 := Lib.hid S4
    clear S4 HA
    go_wp2_with fail
    go_ret
    rw [HS.out.1]
    have := H4.out
    rw [HS.out.2] at this
    exact ⟨rfl, this⟩
  have HA := Lib.hid (show Calls _ _ _ _ fun e w' => e = .returned (.int .i64 0) ∧ SX X wa w' p (sOn o (some fr) (nf (nf f)) false) from H3.out.sync2 rfl h1 g1 l1 hz1)
  clear hz1
  go_wp2_with fail
  refine HA.out.mono ?_
  rintro e w4 ⟨rfl, S4⟩
  have H4 := Lib.hid S4
  clear S4 HA
  have g2 := nf_ge g1
  have l2 := nf_le l1
  by_cases h2 : nf (nf f) = 0
  · as_aux_lemma =>
    have HA := Lib.hid (H4.out.stopR h2 (Nat.zero_le _) (by have := two_size o (some fr); simp only [sOn]; omega))
    have hs : saveM o fr f = (3, sOn o (some fr) 0 true) := by unfold saveM; rw [if_neg h0, if_neg h1, if_pos h2]
    have HS := Lib.hid (And.intro hs h2)
    clear hs h2
    go_wp2_with fail
    refine HA.out.mono ?_
    rintro e w5 ⟨rfl, S5⟩
    have H5 := Lib.hid S5
    clear S5 HA
    go_wp2_with fail
    go_ret
    rw [HS.out.1]
    have := H5.out
    rw [HS.out.2] at this
    exact ⟨rfl, this⟩
  have HA := Lib.hid (H4.out.rename2 h2 g2 l2)
  go_wp2_with fail
  refine HA.out.mono ?_
  rintro e w5 ⟨rfl, S5⟩
  have H5 := Lib.hid S5
  clear S5 HA
  have g3 := nf_ge g2
  have l3 := nf_le l2
  have hz3 : Maps.size (sRn o fr (nf (nf (nf f))) false).now ≤ 1000000 := by have := two_size (some fr) none; simp only [sRn]; omega
  by_cases h3 : nf (nf (nf f)) = 0
  · as_aux_lemma =>
    have HA := Lib.hid (H5.out.stopS h3 hz3)
    have hs : saveM o fr f = (3, sRn o fr 0 true) := by unfold saveM; rw [if_neg h0, if_neg h1, if_neg h2, if_pos h3]
    have HS := Lib.hid (And.intro hs h3)
    clear hs h3 hz3
    go_wp2_with fail
    refine HA.out.mono ?_
    rintro e w6 ⟨rfl, S6⟩
    have H6 := Lib.hid S6
    clear S6 HA
    go_wp2_with fail
    go_ret
    rw [HS.out.1]
    have := H6.out
    rw [HS.out.2] at this
    exact ⟨rfl, this⟩
  have HA := Lib.hid (show Calls _ _ _ _ fun e w' => e = .returned (.int .i64 0) ∧ SX X wa w' p (sOn (some fr) none (nf (nf (nf (nf f)))) false) from H5.out.sync2 rfl h3 g3 l3 hz3)
  have hs : saveM o fr f = (0, sOn (some fr) none (nf (nf (nf (nf f)))) false) := by unfold saveM; rw [if_neg h0, if_neg h1, if_neg h2, if_neg h3]
  have HS := Lib.hid hs
  clear hz3 hs
  go_wp2_with fail
  refine HA.out.mono ?_
  rintro e w6 ⟨rfl, S6⟩
  have H6 := Lib.hid S6
  clear S6 HA
  go_wp2_with fail
  go_ret
  rw [HS.out]
  exact ⟨rfl, H6.out⟩
end

/-! Open -/
/-- what Open tells of a snapshot -/
def OpenOut (X : Nat → Prop) (wa w' : World) (e : Ending) (p : Nat) (oc : Option (List Int)) : Prop :=
  Keep X wa w' ∧ ∃ Y : Nat → Prop, (∀ k, X k → Y k) ∧ SX Y w' w' p (sOn (oc.map frameL) none (-1) false) ∧
  match oc with
  | none => e = .returned (.tuple #[.slice none 0 0, .bool false, .int .i64 0])
  | some y => ∃ a c, e = .returned (.tuple #[.slice a y.length c, .bool true, .int .i64 0]) ∧ Src w' 1 (.slice a y.length c) y.length (byteCells y) ∧ (0 < y.length → ∀ k, (Value.slice a y.length c).ownBlock = some k → Y k)
theorem open_nil (w : World) : Calls Try.prog 27 #[.pointer none] w fun e w' => e = .returned (.tuple #[.slice none 0 0, .bool false, .int .i64 1]) ∧ w = w' := by
  go_enter Try.func27, Try.ntmps27
  go_wp2
  go_ret3
  exact ⟨rfl, rfl⟩
set_option maxRecDepth 100000 in
set_option maxHeartbeats 4000000 in
theorem open_any {X : Nat → Prop} {wa w : World} {p : Nat} (oc n : Option (List Int)) (h : SX X wa w p (sOn (oc.map frameL) n (-1) false)) (hoc : ∀ y, oc = some y → y.length ≤ 4194000 ∧ ∀ x ∈ y, 0 ≤ x ∧ x < 256) (hn : (n.getD []).length ≤ 70368744177664) :
    Calls Try.prog 27 #[.pointer (some ⟨p, 0, none⟩)] w fun e w' => OpenOut X wa w' e p oc := by
  have HOC := Lib.hid hoc
  clear hoc
  rcases n with _ | fr
  case' none =>
    have HC := Lib.hid (clear_none h)
    clear h hn
    go_enter Try.func27, Try.ntmps27
    go_wp2_with fail
    refine HC.out.mono ?_
    rintro e w1 ⟨rfl, S1, -⟩
    have H1 := Lib.hid S1
    clear S1 HC
  case' some =>
    have HC := Lib.hid (clear_some h hn)
    clear h hn
    go_enter Try.func27, Try.ntmps27
    go_wp2_with fail
    refine HC.out.mono ?_
    rintro e wc ⟨rfl, Sc⟩
    have HSy := Lib.hid (show Calls _ _ _ _ fun e w' => e = .returned (.int .i64 0) ∧ SX X wa w' p (sOn (oc.map frameL) none (-1) false) from Sc.sync2 rfl (show (-1 : Int) ≠ 0 by decide) (show (-1 : Int) ≤ -1 by decide) (show (-1 : Int) ≤ 1000000000000 by decide) (by have := two_size (oc.map frameL) none; simp only [sRm]; omega))
    clear Sc HC
    go_wp2_with fail
    refine HSy.out.mono ?_
    rintro e w1 ⟨rfl, S1⟩
    have H1 := Lib.hid S1
    clear S1 HSy
  all_goals
    rcases oc with _ | y
    · as_aux_lemma =>
      have HR := Lib.hid (H1.out.readNo nameS (by decide) (by show (hasF (twoF none none) nameS && _) = false; rw [two_has_s]; rfl) (by show (getF (twoF none none) nameS).length ≤ _; rw [two_get_s]; simp))
      go_wp2_with fail
      refine HR.out.mono ?_
      rintro e w2 ⟨rfl, S2, -⟩
      have H2 := Lib.hid S2
      have HL := Lib.hid (list_any none 0 0 [] [] w2 ⟨rfl, by simp [byteCells, framesL], .inl ⟨rfl, rfl⟩⟩ (Nat.le_refl _) (by decide) (by simp) (by decide) (by decide))
      clear S2 HR H1
      go_wp2_with fail
      refine HL.out.mono ?_
      rintro e w3 ⟨l, us, rfl, hus, hT, -, hB⟩
      obtain ⟨al, cl, rfl, -⟩ := hT.row.form
      rw [hus]
      have H3 := Lib.hid (H2.out.below hB)
      clear hT hB hus HL H2
      go_wp2_with fail
      go_ret3
      exact ⟨H3.out.2, X, fun _ h => h, SX.wider H3.out.1, rfl⟩
    · as_aux_lemma =>
      have hyo := HOC.out y rfl
      have hg : getF (sOn ((some y).map frameL) none (-1) false).now nameS = frameL y := by show getF (twoF (some (frameL y)) none) nameS = _; rw [two_get_s]; rfl
      have hR := H1.out.readYes nameS (by decide) (by show (hasF (twoF (some (frameL y)) none) nameS && _) = true; rw [two_has_s]; rfl) (by rw [hg, frameL_len]; omega)
      rw [hg] at hR
      have HR := Lib.hid hR
      have HYO := Lib.hid hyo
      obtain ⟨m, hm⟩ : ∃ m, (frameL y).length = m := ⟨_, rfl⟩
      have hmy : m = y.length + 10 := by rw [← hm, frameL_len]
      have hml : m ≤ 4194010 := by have := HYO.out.1; omega
      have HM := Lib.hid (And.intro hm hmy)
      clear hg hR hyo hm hmy
      go_wp2_with fail
      refine HR.out.mono ?_
      rintro e w2 ⟨a2, c2, rfl, hc2, hR2, S2, hB12⟩
      have hfe : framesL [y] = frameL y := by simp [framesL]
      have HL := list_any a2 (frameL y).length c2 [y] [] w2 (by rw [List.append_nil, hfe]; exact Src.of_row hR2 (byteCells_one _)) hc2 (by decide) (by intro z hz; simp at hz; subst hz; exact ⟨by have := HYO.out.1; omega, HYO.out.2⟩) (by rw [HM.out.1]; omega) (by simp)
      rw [hfe, HM.out.1] at HL
      rw [HM.out.1]
      have HL := Lib.hid HL
      have H2 := Lib.hid S2
      clear S2 HR hR2 hc2 hfe
      go_wp2_with fail
      refine HL.out.mono ?_
      rintro e w3 ⟨l, us, rfl, hus, hT, -, hB⟩
      obtain ⟨al, cl, rfl, -⟩ := hT.row.form
      obtain ⟨g, rfl, -, hgc, -⟩ := hT.row.view (by rw [hus]; simp)
      obtain ⟨u, hu⟩ : ∃ u, us[0]? = some u := ⟨_, List.getElem?_eq_getElem (by rw [hus]; simp)⟩
      have hbts := hT.each 0 u y hu rfl
      obtain ⟨au, cu, rfl, -⟩ := hbts.ex
      have c0 : w3.cell? ⟨g, 0, none⟩ = some (.slice au y.length cu) := by rw [hgc 0 (by rw [hus]; simp)]; exact hu
      have HSr := Lib.hid (And.intro hbts.src hbts.own)
      have HB13 := Lib.hid (hB12.trans (hB.mono hB12.size))
      have hz12 := hB12.size
      have hul : us.length = 1 := hus
      rw [hul]
      have H3 := Lib.hid (H2.out.below hB)
      clear hT hB hus hul HL H2 hgc hu hbts hB12
      go_wp2_with fail
      go_ret3
      exact ⟨H3.out.2, More X w1 w3, fun _ h => .inl h, SX.wider (H1.out.1.more HB13.out), au, cu, rfl, HSr.out.1, fun h0 k hk => .inr ⟨by have := (HSr.out.2 h0 k hk).1; omega, (HSr.out.2 h0 k hk).2.1⟩⟩
end Go.Proofs.Ytpkmnfpbcakflaa
