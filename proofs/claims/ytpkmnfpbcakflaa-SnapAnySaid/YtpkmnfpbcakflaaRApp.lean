/- The walk of the reference's Append. No condition. -/
import Derived.Test.YtpkmnfpbcakflaaROps
namespace Go.Proofs.Ytpkmnfpbcakflaa
open Go.ChangeShapes Go.WideShapes Go.ChangeAt Go.RowKit

section
variable {T : Nat → Prop} {w : World} {q : Nat} {d : Dk}
set_option maxRecDepth 100000 in
set_option maxHeartbeats 4000000 in
theorem rappend (h : RefOwn T w q d) (name : ByteArray) (ay : Option Addr) (m cy : Nat) (bs : List Int) (hn : name.size ≤ maxLen) (hf1 : d.fuse ≤ 1000000000000) (hpd : d.pend.length ≤ 1000000) (ht : total d.now ≤ 1000000000000) (hsz : Maps.size d.now ≤ 1000000) (hr0 : 0 ≤ d.room) (hr1 : d.room ≤ 1000000000000)
    (hsrc : Src w 1 (.slice ay m cy) m (byteCells bs)) (hy : 0 < m → (Value.slice ay m cy).ownBlock ≠ some q) (hbs : ∀ n ∈ bs, 0 ≤ n ∧ n < 256) (hm : bs.length = m) (hm2 : m ≤ 281474976710656) :
    Calls Try.prog 59 #[.pointer (some ⟨q, 0, none⟩), .string name, .slice ay m cy] w fun e w' => e = .returned (.int .i64 (appendM d name bs).1) ∧ RefOut T w w' q (appendM d name bs).2 := by
  obtain ⟨sv, nv, wv, fu, fz, Ls, Ln, us, un, uw, hR⟩ := h
  obtain ⟨i0, hi0, hz0, hz1, hz2⟩ := info_parts infoB
  have hc := rcounts hR hf1
  have hsame := countsM_same d
  have HNm := Lib.hid (fun w => rname name w)
  unfold appendM
  have heq := hR.eqn
  obtain ⟨ok, d1, hcm⟩ : ∃ ok d1, countsM d = (ok, d1) := ⟨_, _, rfl⟩
  rw [hcm] at hc hsame ⊢
  simp only at hc hsame ⊢
  rw [← hsame.1] at ht hsz heq ⊢
  rw [← hsame.2.2.1] at hpd
  rw [← hsame.2.2.2] at hr0 hr1 ⊢
  rw [hm]
  have hcase := has_find Ln name
  rw [heq] at hcase
  have hsize : Ln.length = Maps.size d1.now := by rw [← heq, size_filesOf]
  have HC := Lib.hid hc
  cases ok with
  | false =>
    simp only [Bool.false_eq_true, if_false]
    clear hc hcm hR hsame heq
    go_enter Try.func59, Try.ntmps59
    go_wp2_with fail
    refine HC.out.mono ?_
    rintro e w1 ⟨rfl, ⟨fz', hR1⟩, hM1⟩
    rw [show errDown false = 3 from rfl]
    have HR1 := Lib.hid (And.intro hR1 hM1)
    clear hR1 hM1
    go_wp2_with fail
    go_ret
    exact ⟨rfl, RefAt.outOf HR1.out.1 (fun k hk => .inl hk) HR1.out.2⟩
  | true =>
    have hdn : d1.down = false := counts_down hcm
    clear hc hcm hR hsame heq
    simp only [if_true]
    generalize namedB name = nm at HNm
    cases nm with
    | false =>
      simp only [Bool.false_eq_true, if_false]
      go_enter Try.func59, Try.ntmps59
      go_wp2_with fail
      refine HC.out.mono ?_
      rintro e w1 ⟨rfl, ⟨fz', hR1⟩, hM1⟩
      rw [show errDown true = 0 from rfl]
      have HR1 := Lib.hid (And.intro hR1 hM1)
      clear hR1 hM1
      go_wp2_with fail
      refine (HNm.out _).mono ?_
      rintro e w2 ⟨rfl, rfl⟩
      go_wp2_with fail
      go_ret
      exact ⟨rfl, RefAt.outOf HR1.out.1 (fun k hk => .inl hk) HR1.out.2⟩
    | true =>
      simp only [if_true]
      have HY := Lib.hid (And.intro hsrc (And.intro hy (And.intro hbs hm)))
      obtain ⟨fi, hfi⟩ : ∃ fi, findL Ln name = fi := ⟨_, rfl⟩
      rw [hfi] at hcase
      have hcase2 : (fi < 0 ∧ hasF d1.now name = false) ∨ (0 ≤ fi ∧ hasF d1.now name = true) := by
        rcases hcase with ⟨h1, h2, -⟩ | ⟨i, x, h1, -, h2, -⟩
        · exact .inl ⟨h1, h2⟩
        · exact .inr ⟨by omega, h2⟩
      obtain ⟨tt, htt⟩ : ∃ tt, total d1.now = tt := ⟨_, rfl⟩
      rw [htt] at ht ⊢
      obtain ⟨nn, hnn⟩ : ∃ nn, Ln.length = nn := ⟨_, rfl⟩
      rw [hnn] at hsize
      rw [← hsize] at hsz ⊢
      obtain ⟨room, hroom⟩ : ∃ r, d1.room = r := ⟨_, rfl⟩
      rw [hroom] at hr0 hr1 ⊢
      have hgl := get_le d1.now name
      rw [htt] at hgl
      obtain ⟨gl, hgl0⟩ : ∃ g, (getF d1.now name).length = g := ⟨_, rfl⟩
      rw [hgl0] at hgl
      have HF := Lib.hid (And.intro hfi (And.intro htt (And.intro hnn (And.intro hroom hgl0))))
      have hsz2 : Maps.size d1.now ≤ 1000000 := by rw [← hsize]; exact hsz
      have HOk := Lib.hid hsz2
      have HDn := Lib.hid hdn
      clear hcase hsrc hy hbs hm hfi htt hnn hroom hgl0 hsz2 hdn hsize
      have hwr : IntKind.i64.wrap (room - (m : Int)) = room - (m : Int) := IntWalk.i64_in _ (by omega)
      rcases (show (room < tt + m ∧ room < m) ∨ (room < tt + m ∧ m ≤ room ∧ room - m < tt) ∨ (¬ room < tt + m ∧ m ≤ room ∧ ¬ (room - m < tt) ∧ fi < 0 ∧ hasF d1.now name = false ∧ 64 ≤ nn) ∨ (¬ room < tt + m ∧ m ≤ room ∧ ¬ (room - m < tt) ∧ fi < 0 ∧ hasF d1.now name = false ∧ nn < 64) ∨ (¬ room < tt + m ∧ m ≤ room ∧ ¬ (room - m < tt) ∧ 0 ≤ fi ∧ hasF d1.now name = true) by
        by_cases h1 : room < tt + m
        · by_cases h2 : room < m
          · exact .inl ⟨h1, h2⟩
          · exact .inr (.inl ⟨h1, by omega, by omega⟩)
        · rcases hcase2 with ⟨h3, h4⟩ | ⟨h3, h4⟩
          · by_cases h5 : 64 ≤ nn
            · exact .inr (.inr (.inl ⟨h1, by omega, by omega, h3, h4, h5⟩))
            · exact .inr (.inr (.inr (.inl ⟨h1, by omega, by omega, h3, h4, by omega⟩)))
          · exact .inr (.inr (.inr (.inr ⟨h1, by omega, by omega, h3, h4⟩)))) with ⟨g1, g2⟩ | ⟨g1, g2, g3⟩ | ⟨g1, g2, g3, g4, g5, g6⟩ | ⟨g1, g2, g3, g4, g5, g6⟩ | ⟨g1, g2, g3, g4, g5⟩
      case' inl =>
        rw [if_pos (.inl g1)]
        have k1 : decide (room < (m : Int)) = true := by simp; omega
      case' inr.inl =>
        rw [if_pos (.inl g1)]
        have k1 : decide (room < (m : Int)) = false := by simp; omega
        have k2 : decide (room - (m : Int) < (tt : Int)) = true := by simp; omega
      case' inr.inr.inl =>
        rw [if_pos (.inr ⟨g5, g6⟩)]
        have k1 : decide (room < (m : Int)) = false := by simp; omega
        have k2 : decide (room - (m : Int) < (tt : Int)) = false := by simp; omega
        have k3 : decide (fi < 0) = true := by simp; omega
        have k4 : decide ((64 : Int) ≤ (nn : Int)) = true := by simp; omega
      case' inr.inr.inr.inl =>
        rw [if_neg (by rintro (h | h); exact g1 h; omega)]
        have k1 : decide (room < (m : Int)) = false := by simp; omega
        have k2 : decide (room - (m : Int) < (tt : Int)) = false := by simp; omega
        have k3 : decide (fi < 0) = true := by simp; omega
        have k4 : decide ((64 : Int) ≤ (nn : Int)) = false := by simp; omega
      case' inr.inr.inr.inr =>
        rw [if_neg (by rintro (h | h); exact g1 h; rw [g5] at h; cases h.1)]
        have k1 : decide (room < (m : Int)) = false := by simp; omega
        have k2 : decide (room - (m : Int) < (tt : Int)) = false := by simp; omega
        have k3 : decide (fi < 0) = false := by simp; omega
      all_goals
        clear hcase2
        try clear g5
        as_aux_lemma =>
        go_enter Try.func59, Try.ntmps59
        go_wp2_with fail
        refine HC.out.mono ?_
        rintro e w1 ⟨rfl, ⟨fz', hR1⟩, hM1⟩
        rw [show errDown true = 0 from rfl]
        obtain ⟨c0, -, c2, -⟩ := rhead_cells hR1.head
        rw [HF.out.2.2.2.1] at c0
        have hus := fun n => rused (hR1.move (w' := w1.drewN n) (Nat.le_refl _) rfl fun _ _ => rfl) (by rw [HF.out.2.1]; exact ht) (by have := HF.out.2.2.1; omega)
        rw [HDn.out, show usedV d1.now false = total d1.now from rfl, HF.out.2.1] at hus
        have HUs := Lib.hid (fun n => (hus n).mono fun e w' h => And.intro h.1 h.2.symm)
        obtain ⟨a, cap, rfl, -⟩ := hR1.now.row.form
        have hfd := fun n => rfind (hR1.now.move (w' := w1.drewN n) (fun _ _ => rfl) fun _ h => h) name
        rw [HF.out.1] at hfd
        rw [HF.out.2.2.1] at hfd c2
        have HFd := Lib.hid (fun n => (hfd n).mono fun e w' h => And.intro h.1 h.2.symm)
        have hs1 := HY.out.1.mod hM1 (fun hm k hk e => HY.out.2.1 hm (e ▸ hk))
        have HS1 := Lib.hid hs1
        have HR1 := Lib.hid (And.intro hR1 hM1)
        clear hR1 hM1 hus hfd hs1
        go_wp2_with fail
        refine (HNm.out _).mono ?_
        rintro e w2 ⟨rfl, rfl⟩
        go_wp2_with fail
        go_quiet (first
          | (go_at_call 66; exact Calls.quiet_of_same (HUs.out _))
          | (go_at_call 85; exact Calls.quiet_of_same (HFd.out _)))
        generalize hwx : w1.drewN _ = wx
        have HX : Hid (RefAt T wx q sv (.slice a Ln.length cap) wv fu fz' Ls Ln us un uw d1 ∧ Mod (fun k => k = q) w wx ∧ Below w1.heap.size w1 wx) := by
          have hB : Below w1.heap.size w1 wx := hwx ▸ ⟨rfl, rfl, rfl, Nat.le_refl _, fun _ _ => rfl⟩
          exact ⟨HR1.out.1.below hB, HR1.out.2.trans (Mod.of_below hB), hB⟩
        clear hwx HR1
        first
        | (go_wp2_with fail
           go_ret
           exact ⟨rfl, RefAt.outOf HX.out.1 (fun k hk => .inl hk) HX.out.2.1⟩)
        | (have hdst := Row.lit_at wx 5 1 #[] 0 wx.heap.size rfl (by simp [maxLen]) rfl
           have hsrc' : Src (wx.alloc (.cells #[] 5)) 1 (.slice ay m cy) m (byteCells bs) := HS1.out.below (HX.out.2.2.alloc HX.out.2.2.size _)
           have HDst := Lib.hid hdst
           have HSrc := Lib.hid hsrc'
           clear hdst hsrc'
           go_wp2_with (at_builtin; refine wpList_append_row _ rfl _ _ 25 rfl 5 i0 _ 1 1 Try.underlying25 hi0 hz0 hz1 hz2 rfl (.slice (some ⟨wx.heap.size, 0, none⟩) 0 0) 0 [] rfl HDst.out _ _ _ rfl HSrc.out (by unfold maxLen; omega) (by omega) (wx.heap.size + 1) (by simp) ?_; intro a2 c2 w2 hrow2 hgrow2 hat2)
           have hrow : Row w2 5 1 (.slice a2 m c2) m (byteCells bs) := by rw [Nat.zero_add] at hrow2; simpa using hrow2
           have hB2 : Below wx.heap.size wx w2 := ((Below.refl _ wx).alloc (Nat.le_refl _) _).grown hgrow2 (by simp) (by intro b hb; simp [Value.ownBlock] at hb; omega)
           have hat : ∀ k, (Value.slice a2 m c2).ownBlock = some k → wx.heap.size ≤ k := fun k hk => by
             rcases hat2 k (by rw [Nat.zero_add]; exact hk) with h | h
             · simp [Value.ownBlock] at h; omega
             · omega
           have hdo := rdoes (HX.out.1.later hB2) ⟨0, name, ⟨#[]⟩, bs, 0⟩ (.slice a2 m c2) (bts_own hrow HY.out.2.2.2 rfl hat HY.out.2.2.1) ⟨hn, Nat.zero_le _, HOk.out, .inl ⟨rfl, by have := HF.out.2.2.2.2; have := HY.out.2.2.2; simp only; omega⟩⟩ (by rw [HF.out.2.1]; exact ht) hpd
           rw [does_appended] at hdo
           have HDo := Lib.hid hdo
           have HB2 := Lib.hid hB2
           clear hrow hrow2 hgrow2 hat2 hat hdo hB2
           go_wp2_with fail
           refine HDo.out.mono ?_
           rintro e w3 ⟨rfl, ho⟩
           have HO := Lib.hid ho
           clear ho HDo
           go_wp2_with fail
           go_ret
           exact ⟨rfl, (HO.out.ofMore HB2.out).behind HX.out.2.1⟩)
end
end Go.Proofs.Ytpkmnfpbcakflaa
