/- Whole contracts of the program's disk, over disks in order; the walks of its Truncate and Room. No condition. -/
import Derived.Test.YtpkmnfpbcakflaaHist
import Derived.Test.YtpkmnfpbcakflaaNm
namespace Go.Proofs.Ytpkmnfpbcakflaa
open Go.ChangeShapes Go.WideShapes Go.ChangeAt Go.RowKit

theorem does_trunc_at {S : Nat → Prop} {bn : Nat} {D : Fs} {name : ByteArray} {m : Nat} {w2 : World} (h1 : FilesAt S w2 bn D) (hn : name.size ≤ maxLen) (h3 : ¬ S bn) (h4 : ∀ k, S k → k < w2.heap.size) (hsz : Maps.size D ≤ 1000000) (hm : m ≤ (getF D name).length) (hu : Bts S w2 (.slice none 0 0) []) :
    Calls Try.prog 51 #[.map (some bn), .agg (ddAgg ⟨1, name, ⟨#[]⟩, [], m⟩ (.slice none 0 0))] w2 fun e w' => DoesOut w2 w' e S bn (putF D name ((getF D name).take m)) := by
  have := does_any S bn D ⟨1, name, ⟨#[]⟩, [], m⟩ (.slice none 0 0) w2 h1 hu h3 h4 ⟨hn, Nat.zero_le _, hsz, .inr (.inl ⟨rfl, by simp only; omega, by simp only; omega⟩)⟩
  simpa [doesM] using this

section
variable (X : Nat → Prop) (p : Nat) (d : Dk) (w : World) {C : Nat}
set_option maxRecDepth 100000 in
set_option maxHeartbeats 2000000 in
theorem trunc_own (h : DiskOwn X w p d) (name : ByteArray) (n : Int) (hn : name.size ≤ maxLen) (hf0 : -1 ≤ d.fuse) (hf1 : d.fuse ≤ 1000000000000) (hpd : d.pend.length ≤ 1000000) (hszs : Maps.size d.now ≤ 1000000) :
    Calls Try.prog 91 #[.pointer (some ⟨p, 0, none⟩), .string name, .int .i64 n] w fun e w' => e = .returned (.int .i64 (truncM d name n).1) ∧ DiskOwn X w' p (truncM d name n).2 ∧ Keep X w w' := by
  obtain ⟨hX, S, bs1, bn, vp, us, hD, hf⟩ := h
  have hc0 := counts_any S p bs1 bn vp us d w hD hf0 hf1
  have hsame := countsM_same d
  unfold truncM
  obtain ⟨ok, d1, hcm⟩ : ∃ ok d1, countsM d = (ok, d1) := ⟨_, _, rfl⟩
  rw [hcm] at hc0 hsame ⊢
  simp only at hc0 hsame ⊢
  rw [← hsame.1]
  rw [← hsame.2.2.1] at hpd
  rw [← hsame.1] at hszs
  have HC := Lib.hid hc0
  have HX := Lib.hid hX
  have HF := Lib.hid hf
  clear hc0 hX hf hD hcm hsame
  cases ok with
  | false =>
    simp only [Bool.false_eq_true, if_false]
    go_enter Try.func91, Try.ntmps91
    go_wp2_with fail
    refine HC.out.mono ?_
    rintro e w1 ⟨rfl, hD1, hM1⟩
    have HD1 := Lib.hid hD1
    clear hD1
    go_wp2_with fail
    go_ret
    exact ⟨rfl, own_of_head HX.out HF.out hM1 (Below.refl _ _) HD1.out⟩
  | true =>
    simp only [if_true]
    generalize hth : hasF d1.now name = there
    have HTh := Lib.hid hth
    clear hth
    cases there with
    | false =>
      simp only [Bool.false_eq_true, if_false]
      go_enter Try.func91, Try.ntmps91
      go_wp2_with fail
      refine HC.out.mono ?_
      rintro e w1 ⟨rfl, hD1, hM1⟩
      obtain ⟨c0, -, c2, -⟩ := hD1.head.cells
      obtain ⟨v0, hv0, hlook⟩ := hD1.now.look name hn
      obtain ⟨a0, k0, rfl, hk1, hk2⟩ := hv0.ex
      have l0 := (hlook w1 rfl).2
      rw [HTh.out] at l0
      have HD1 := Lib.hid hD1
      clear hD1 hlook hv0
      go_wp2_with fail
      go_ret
      exact ⟨rfl, own_of_head HX.out HF.out hM1 (Below.refl _ _) HD1.out⟩
    | true =>
      simp only [if_true]
      obtain ⟨gl, hgl⟩ : ∃ gl, (getF d1.now name).length = gl := ⟨_, rfl⟩
      have HGl := Lib.hid hgl
      rw [hgl]
      clear hgl
      rcases (show n < 0 ∨ (0 ≤ n ∧ (gl : Int) < n) ∨ (0 ≤ n ∧ n ≤ (gl : Int)) by omega) with hb | ⟨hb0, hb⟩ | ⟨hb0, hb⟩
      · rw [if_pos (.inl hb)]
        have k1 : decide (n < 0) = true := by simp; omega
        go_enter Try.func91, Try.ntmps91
        go_wp2_with fail
        refine HC.out.mono ?_
        rintro e w1 ⟨rfl, hD1, hM1⟩
        obtain ⟨c0, -, c2, -⟩ := hD1.head.cells
        obtain ⟨v0, hv0, hlook⟩ := hD1.now.look name hn
        obtain ⟨a0, k0, rfl, hk1, hk2⟩ := hv0.ex
        have l0 := (hlook w1 rfl).2
        rw [HTh.out, HGl.out] at l0
        have HD1 := Lib.hid hD1
        clear hD1 hlook hv0 hk1 hk2
        go_wp2_with fail
        go_ret
        exact ⟨rfl, own_of_head HX.out HF.out hM1 (Below.refl _ _) HD1.out⟩
      · rw [if_pos (.inr hb)]
        have k1 : decide (n < 0) = false := by simp; omega
        have k2 : decide ((gl : Int) < n) = true := by simp; omega
        go_enter Try.func91, Try.ntmps91
        go_wp2_with fail
        refine HC.out.mono ?_
        rintro e w1 ⟨rfl, hD1, hM1⟩
        obtain ⟨c0, -, c2, -⟩ := hD1.head.cells
        obtain ⟨v0, hv0, hlook⟩ := hD1.now.look name hn
        obtain ⟨a0, k0, rfl, hk1, hk2⟩ := hv0.ex
        have l0 := (hlook w1 rfl).2
        rw [HTh.out, HGl.out] at l0
        have HD1 := Lib.hid hD1
        clear hD1 hlook hv0 hk1 hk2
        go_wp2_with fail
        go_ret
        exact ⟨rfl, own_of_head HX.out HF.out hM1 (Below.refl _ _) HD1.out⟩
      · rw [if_neg (by omega)]
        obtain ⟨m, rfl⟩ : ∃ m : Nat, n = m := ⟨n.toNat, by omega⟩
        have k1 : decide ((m : Int) < 0) = false := decide_eq_false (by omega)
        have k2 : decide ((gl : Int) < (m : Int)) = false := by simp; omega
        rw [Int.toNat_natCast]
        go_enter Try.func91, Try.ntmps91
        go_wp2_with fail
        refine HC.out.mono ?_
        rintro e w1 ⟨rfl, hD1, hM1⟩
        obtain ⟨c0, -, c2, -⟩ := hD1.head.cells
        obtain ⟨v0, hv0, hlook⟩ := hD1.now.look name hn
        obtain ⟨a0, k0, rfl, hk1, hk2⟩ := hv0.ex
        have l0 := (hlook w1 rfl).2
        rw [HTh.out, HGl.out] at l0
        have HD1 := Lib.hid hD1
        clear hD1 hlook hv0 hk1 hk2
        have hput := put_any (More S w1 w1) p bs1 bn vp us d1 ⟨1, name, ⟨#[]⟩, [], m⟩ (.slice none 0 0) w1 (HD1.out.toMore (Below.refl _ _)) (Bts.nil _ _) hpd (putF d1.now name ((getF d1.now name).take m)) fun S2 w2 h1 h2 h3 h4 => does_trunc_at h1 hn h3 h4 hszs (by have := HGl.out; omega) h2
        have HPut := Lib.hid hput
        unfold ddAgg at HPut
        clear hput
        go_wp2_with fail
        refine HPut.out.mono ?_
        intro e w6 ho
        obtain ⟨rfl, hownX, hkX⟩ := own_of_put HX.out HF.out hM1 (Below.refl _ _) ho
        have HO := Lib.hid hownX
        have HK := Lib.hid hkX
        clear ho hownX hkX
        go_wp2_with fail
        go_ret
        exact ⟨rfl, HO.out, HK.out⟩

theorem dfuse (h : DiskOwn X w p d) (n : Int) : Calls Try.prog 23 #[.pointer (some ⟨p, 0, none⟩), .int .i64 n] w fun e w' => e = .returned (.tuple #[]) ∧ DiskOwn X w' p (fused d n) ∧ Keep X w w' := fuse_own X p d n w h
theorem room_yes (h : DiskOwn X w p d) (n : Int) (h0 : 0 ≤ n) (h1 : n ≤ 8388608) : Calls Try.prog 69 #[.pointer (some ⟨p, 0, none⟩), .int .i64 n] w fun e w' => e = .returned (.int .i64 0) ∧ DiskOwn X w' p { d with room := n } ∧ Keep X w w' := by
  obtain ⟨hX, S, bs, bn, vp, us, hD, hf⟩ := h
  obtain ⟨c0, -, -, -, -, -, hfz⟩ := hD.head.cells
  have g0 := hfz 0
  have k1 : decide (n < 0) = false := by simp; omega
  have k2 : decide ((8388608 : Int) < n) = false := by simp; omega
  have HD := Lib.hid hD
  have HX := Lib.hid hX
  have HF := Lib.hid hf
  clear hfz hD hX hf
  go_enter Try.func69, Try.ntmps69
  go_wp2_with fail
  go_ret
  have hM := mod_p (p := p) (w := w) 0 (.int .i64 n)
  exact ⟨rfl, ⟨fun k hk => Nat.lt_of_lt_of_le (HX.out k hk) hM.size, S, bs, bn, vp, us, HD.out.rehead hM _ _ _ (HD.out.head.set0 _), HF.out⟩, hM.mono fun k _ hk hx => (HF.out k hx).2.1 hk⟩
theorem room_no (n : Int) (hb : n < 0 ∨ 8388608 < n) : Calls Try.prog 69 #[.pointer (some ⟨p, 0, none⟩), .int .i64 n] w fun e w' => e = .returned (.int .i64 1) ∧ w = w' := by
  rcases (show n < 0 ∨ (¬ n < 0 ∧ 8388608 < n) by omega) with h | ⟨h, h2⟩
  · clear hb
    go_enter Try.func69, Try.ntmps69
    go_wp2_with fail
    go_ret
    exact ⟨rfl, rfl⟩
  · clear hb
    go_enter Try.func69, Try.ntmps69
    go_wp2_with fail
    go_ret
    exact ⟨rfl, rfl⟩

/-- Append, whichever way -/
theorem dappend (h : DiskOwn X w p d) (hI : Inv C d) (hC : C ≤ 1000000) (name : ByteArray) (ay : Option Addr) (m cy : Nat) (bs : List Int) (hn : name.size ≤ maxLen) (hm : bs.length = m) (hm2 : m ≤ 281474976710656)
    (hsrc : Src w 1 (.slice ay m cy) m (byteCells bs)) (hy : 0 < m → ∀ k, (Value.slice ay m cy).ownBlock = some k → X k) (hbs : ∀ n ∈ bs, 0 ≤ n ∧ n < 256) :
    Calls Try.prog 18 #[.pointer (some ⟨p, 0, none⟩), .string name, .slice ay m cy] w fun e w' => e = .returned (.int .i64 (appendM d name bs).1) ∧ DiskOwn X w' p (appendM d name bs).2 ∧ Keep X w w' := by
  have hf := hI.fuse
  have ht := hI.fine.total
  have hz := hI.fine.size
  have hp := hI.pend
  have hr := hI.room
  have hg := hI.fine.get_le name
  unfold appendM
  cases hc : (countsM d).1 with
  | false =>
    simp only [Bool.false_eq_true, if_false]
    exact append_down X p d name w ay m cy h hf.1 (by omega) hc
  | true =>
    simp only [if_true]
    cases hnm : namedB name with
    | false =>
      simp only [Bool.false_eq_true, if_false]
      exact append_arg X p d name w ay m cy h hn hf.1 (by omega) hc hnm
    | true =>
      simp only [if_true]
      by_cases hfull : d.room < total d.now + bs.length ∨ (hasF d.now name = false ∧ 64 ≤ Maps.size d.now)
      · rw [if_pos hfull]
        exact append_full X p d name w ay m cy h hn hf.1 (by omega) hc hnm (by omega) hm2 (by rw [← hm]; exact hfull)
      · rw [if_neg hfull]
        exact append_ok X p d name w ay m cy bs h hn hf.1 (by omega) hc hnm (by omega) (by omega) (by omega) (by omega) (by omega) hm (by rw [← hm]; exact hfull) hsrc hy hbs
theorem dtrunc (h : DiskOwn X w p d) (hI : Inv C d) (hC : C ≤ 1000000) (name : ByteArray) (n : Int) (hn : name.size ≤ maxLen) :
    Calls Try.prog 91 #[.pointer (some ⟨p, 0, none⟩), .string name, .int .i64 n] w fun e w' => e = .returned (.int .i64 (truncM d name n).1) ∧ DiskOwn X w' p (truncM d name n).2 ∧ Keep X w w' := by
  have hf := hI.fuse
  have hz := hI.fine.size
  have hp := hI.pend
  exact trunc_own X p d w h name n hn hf.1 (by omega) (by omega) (by omega)
theorem drename (h : DiskOwn X w p d) (hI : Inv C d) (hC : C ≤ 1000000) (name to_ : ByteArray) (hn : name.size ≤ maxLen) (hto : to_.size ≤ maxLen) :
    Calls Try.prog 57 #[.pointer (some ⟨p, 0, none⟩), .string name, .string to_] w fun e w' => e = .returned (.int .i64 (renameM d name to_).1) ∧ DiskOwn X w' p (renameM d name to_).2 ∧ Keep X w w' := by
  have hf := hI.fuse
  have hz := hI.fine.size
  have hp := hI.pend
  exact rename_own X p d name to_ w h hn hto hf.1 (by omega) (by omega) (by omega)
theorem dremove (h : DiskOwn X w p d) (hI : Inv C d) (hC : C ≤ 1000000) (name : ByteArray) (hn : name.size ≤ maxLen) :
    Calls Try.prog 25 #[.pointer (some ⟨p, 0, none⟩), .string name] w fun e w' => e = .returned (.int .i64 (removeM d name).1) ∧ DiskOwn X w' p (removeM d name).2 ∧ Keep X w w' := by
  have hf := hI.fuse
  have hp := hI.pend
  exact remove_own X p d name w h hn hf.1 (by omega) (by omega)
theorem dsync (h : DiskOwn X w p d) (hI : Inv C d) :
    Calls Try.prog 21 #[.pointer (some ⟨p, 0, none⟩)] w fun e w' => e = .returned (.int .i64 (syncM d).1) ∧ DiskOwn X w' p (syncM d).2 ∧ Keep X w w' := by
  have hf := hI.fuse
  have hz := hI.fine.size
  exact sync_own X p d w h hf.1 (by omega) (by omega)
def crashM (d : Dk) (keep torn : Int) : Int × Dk := (pickV keep (d.pend.length + 1), crashed d (pickV keep (d.pend.length + 1)).toNat torn)
theorem dcrash (h : DiskOwn X w p d) (hI : Inv C d) (hC : C ≤ 1000000) (keep torn : Int) :
    Calls Try.prog 19 #[.pointer (some ⟨p, 0, none⟩), .int .i64 keep, .int .i64 torn] w fun e w' => e = .returned (.int .i64 (crashM d keep torn).1) ∧ DiskOwn X w' p (crashM d keep torn).2 ∧ Keep X w w' := by
  have hp := hI.pend
  obtain ⟨k, hk, hkl⟩ := pickV_at keep (d.pend.length + 1) (by omega)
  unfold crashM
  rw [hk, Int.toNat_natCast]
  exact crash_own X p d keep torn w h hI.hist.ok (by omega) (fun j => by have := (hI.crashD j torn).size; omega) k hk (by omega)
theorem Inv.crashM {d : Dk} (h : Inv C d) (keep torn : Int) : Inv C (Go.Proofs.Ytpkmnfpbcakflaa.crashM d keep torn).2 := h.crashed _ _
theorem dread (h : DiskOwn X w p d) (hI : Inv C d) (name : ByteArray) (hn : name.size ≤ maxLen) :
    Calls Try.prog 20 #[.pointer (some ⟨p, 0, none⟩), .string name] w fun e w' => ReadOut w w' e (hasF d.now name && !d.down) (getF d.now name) :=
  read_own X p d name w h hn (by have := hI.fine.get_le name; omega)
theorem dused (h : DiskOwn X w p d) (hI : Inv C d) : Calls Try.prog 48 #[.pointer (some ⟨p, 0, none⟩)] w fun e w' => e = .returned (.int .i64 (usedV d.now d.down)) ∧ Below w.heap.size w w' := by
  obtain ⟨-, S, bs, bn, vp, us, hD, -⟩ := h
  exact used_any S p d.room bs bn vp d.fuse d.down d.now w hD.head hD.now (by have := hI.fine.total; omega)
theorem dnames (h : DiskOwn X w p d) (hI : Inv C d) : Calls Try.prog 26 #[.pointer (some ⟨p, 0, none⟩)] w fun e w' => NamesOut w w' e (if d.down then [] else strKeys d.now) := by
  obtain ⟨-, S, bs, bn, vp, us, hD, -⟩ := h
  have hH := hD.head
  cases hdn : d.down with
  | true =>
    rw [hdn] at hH
    exact (names_down S p d.room bs bn vp d.fuse d.now w hH hD.now).mono fun e w' ⟨he, hB⟩ => ⟨_, he, Row.nil _ _ _, by intro b hb; simp [Value.ownBlock] at hb, hB⟩
  | false =>
    rw [hdn] at hH
    exact names_up S p d.room bs bn vp d.fuse d.now w hH hD.now (by have := hI.fine.size; omega)
end
end Go.Proofs.Ytpkmnfpbcakflaa
