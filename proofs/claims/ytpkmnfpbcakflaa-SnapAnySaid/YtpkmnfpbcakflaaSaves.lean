/- Plain laws of a Save that a fuse cuts, and a crash behind it. No condition; no walk in sight. -/
import Derived.Test.YtpkmnfpbcakflaaSnKnown
namespace Go.Proofs.Ytpkmnfpbcakflaa
open Go.RowKit

/-- what a crash leaves of d is settled, with the old snapshot or the new one -/
def CrashOk (o : Option (List Int)) (fr : List Int) (d : Dk) : Prop :=
  OkAll d.syn d.pend ∧ d.pend.length ≤ 1 ∧ ∀ k torn, ∃ o' n', crashed d k torn = sOn o' n' (-1) false ∧ crashD d k torn = twoF o' n' ∧ (o' = o ∨ o' = some fr) ∧ (n'.getD []).length ≤ fr.length
theorem crash_on_ok (o n : Option (List Int)) (fr : List Int) (f : Int) (dn : Bool) (hn : (n.getD []).length ≤ fr.length) : CrashOk o fr (sOn o n f dn) :=
  ⟨trivial, Nat.zero_le _, fun k torn => ⟨o, n, crashed_on o n f dn k torn, crashD_on o n f dn k torn, .inl rfl, hn⟩⟩
theorem crash_on_ok2 (o n : Option (List Int)) (fr : List Int) (f : Int) (dn : Bool) (hn : (n.getD []).length ≤ fr.length) : CrashOk o fr (sOn (some fr) n f dn) :=
  ⟨trivial, Nat.zero_le _, fun k torn => ⟨some fr, n, crashed_on _ n f dn k torn, crashD_on _ n f dn k torn, .inr rfl, hn⟩⟩
theorem crash_of_D {o n : Option (List Int)} {d : Dk} {k : Nat} {torn : Int} (hr : d.room = 8388608) (h : crashD d k torn = twoF o n) : crashed d k torn = sOn o n (-1) false := by
  unfold crashed sOn
  rw [h, ← hr]
theorem crash_ap_ok (o : Option (List Int)) (fr : List Int) (f : Int) (dn : Bool) (hl : fr.length ≤ 1000000) : CrashOk o fr (sAp o fr f dn) := by
  refine ⟨⟨⟨(by decide : nameN.size ≤ maxLen), Nat.zero_le _, ?_, .inl ⟨rfl, ?_⟩⟩, trivial⟩, Nat.le_refl _, fun k torn => ?_⟩
  · have := two_size o none; simp only [sAp]; omega
  · show (getF (twoF o none) nameN).length + fr.length ≤ _
    rw [two_get_n]; simp; omega
  · have key : ∃ n', crashD (sAp o fr f dn) k torn = twoF o n' ∧ (n'.getD []).length ≤ fr.length := by
      cases k with
      | zero =>
        unfold crashD sAp
        simp only [List.getElem?_cons_zero, List.take_zero, true_and]
        split
        · refine ⟨some (fr.take (pickV torn fr.length).toNat), ?_, by simp; omega⟩
          simp only [replay, List.foldl_nil, doesM, if_true]
          rw [two_get_n, two_put_n]; rfl
        · exact ⟨none, rfl, Nat.zero_le _⟩
      | succ k =>
        refine ⟨some fr, ?_, Nat.le_refl _⟩
        unfold crashD sAp
        simp only [List.getElem?_cons_succ, List.getElem?_nil, List.take_succ_cons, List.take_nil]
        simp only [replay, List.foldl_cons, List.foldl_nil, doesM, if_true]
        rw [two_get_n, two_put_n]; rfl
    obtain ⟨n', h, hn⟩ := key
    exact ⟨o, n', crash_of_D rfl h, h, .inl rfl, hn⟩
theorem crash_rn_ok (o : Option (List Int)) (fr : List Int) (f : Int) (dn : Bool) : CrashOk o fr (sRn o fr f dn) := by
  refine ⟨⟨⟨(by decide : nameN.size ≤ maxLen), (by decide : nameS.size ≤ maxLen), ?_, .inr (.inr (.inl rfl))⟩, trivial⟩, Nat.le_refl _, fun k torn => ?_⟩
  · have := two_size o (some fr); simp only [sRn]; omega
  · cases k with
    | zero =>
      have h : crashD (sRn o fr f dn) 0 torn = twoF o (some fr) := by
        unfold crashD sRn
        simp only [List.getElem?_cons_zero, List.take_zero]
        rw [if_neg (by simp)]; rfl
      exact ⟨o, some fr, crash_of_D rfl h, h, .inl rfl, Nat.le_refl _⟩
    | succ k =>
      have h : crashD (sRn o fr f dn) (k + 1) torn = twoF (some fr) none := by
        unfold crashD sRn
        simp only [List.getElem?_cons_succ, List.getElem?_nil, List.take_succ_cons, List.take_nil]
        simp only [replay, List.foldl_cons, List.foldl_nil, doesM]
        rw [if_neg (by decide), if_neg (by decide), if_pos trivial, two_get_n, two_del_n, two_put_s]; rfl
      exact ⟨some fr, none, crash_of_D rfl h, h, .inr rfl, Nat.zero_le _⟩
/-- Save goes well, or the disk is down -/
theorem save_cases (o : Option (List Int)) (fr : List Int) (f : Int) (hl : fr.length ≤ 1000000) :
    (∃ f', saveM o fr f = (0, sOn (some fr) none f' false)) ∨ ∃ d, saveM o fr f = (3, d) ∧ CrashOk o fr d := by
  unfold saveM
  split
  · exact .inr ⟨_, rfl, crash_on_ok o none fr 0 true (Nat.zero_le _)⟩
  · split
    · exact .inr ⟨_, rfl, crash_ap_ok o fr 0 true hl⟩
    · split
      · exact .inr ⟨_, rfl, crash_on_ok o (some fr) fr 0 true (Nat.le_refl _)⟩
      · split
        · exact .inr ⟨_, rfl, crash_rn_ok o fr 0 true⟩
        · exact .inl ⟨_, rfl⟩

theorem frameL_inj {a b : List Int} (h : frameL a = frameL b) : a = b := by
  have hl := congrArg List.length h
  rw [frameL_len, frameL_len] at hl
  unfold frameL sealL at h
  have h2 := congrArg (List.drop 4) h
  rw [List.drop_append_of_le_length (by simp [le4]), List.drop_append_of_le_length (by simp [le4])] at h2
  simp only [le4, List.drop_succ_cons, List.drop_zero, List.nil_append] at h2
  exact (List.append_inj h2 (by omega)).1
/-- of a crash: the old snapshot or the new one -/
theorem old_or_new {oc : Option (List Int)} {b : List Int} {o' : Option (List Int)} (h : o' = oc.map frameL ∨ o' = some (frameL b)) : ∃ oc', o' = oc'.map frameL ∧ (oc' = oc ∨ oc' = some b) := by
  rcases h with h | h
  · exact ⟨oc, h, .inl rfl⟩
  · exact ⟨some b, h, .inr rfl⟩
theorem strOfNums_inj {a b : List Int} (ha : ∀ n ∈ a, 0 ≤ n ∧ n < 256) (hb : ∀ n ∈ b, 0 ≤ n ∧ n < 256) (h : strOfNums a = strOfNums b) : a = b := by
  have h2 := congrArg (fun s : ByteArray => s.data.toList) h
  have key : ∀ (a b : List Int), (∀ n ∈ a, 0 ≤ n ∧ n < 256) → (∀ n ∈ b, 0 ≤ n ∧ n < 256) → a.map (fun n => UInt8.ofNat n.toNat) = b.map (fun n => UInt8.ofNat n.toNat) → a = b := by
    intro a
    induction a with
    | nil => intro b _ _ h; cases b with
      | nil => rfl
      | cons y b => simp at h
    | cons x a ih =>
      intro b ha hb h
      cases b with
      | nil => simp at h
      | cons y b =>
        simp only [List.map_cons, List.cons.injEq] at h
        have hx := ha x (List.mem_cons_self ..)
        have hy := hb y (List.mem_cons_self ..)
        have e := congrArg UInt8.toNat h.1
        rw [UInt8.toNat_ofNat', UInt8.toNat_ofNat'] at e
        have : x = y := by omega
        rw [this, ih b (fun n hn => ha n (List.mem_cons_of_mem _ hn)) (fun n hn => hb n (List.mem_cons_of_mem _ hn)) h.2]
  refine key a b ha hb ?_
  simpa [strOfNums] using h2
end Go.Proofs.Ytpkmnfpbcakflaa
