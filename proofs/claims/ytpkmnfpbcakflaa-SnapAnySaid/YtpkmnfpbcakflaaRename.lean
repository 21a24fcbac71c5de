/- The walk of disk's Rename. No condition. -/
import Derived.Test.YtpkmnfpbcakflaaRemove
namespace Go.Proofs.Ytpkmnfpbcakflaa
open Go.ChangeShapes Go.WideShapes Go.ChangeAt Go.RowKit

def renamed (d : Dk) (name to_ : ByteArray) : Dk := { d with now := putF (delF d.now name) to_ (getF d.now name), pend := d.pend ++ [⟨2, name, to_, [], 0⟩] }
def renameM (d : Dk) (name to_ : ByteArray) : Int × Dk :=
  if (countsM d).1 then if namedB to_ then if hasF d.now name then (0, renamed (countsM d).2 name to_) else (4, (countsM d).2) else (1, (countsM d).2) else (3, (countsM d).2)

set_option maxRecDepth 100000 in
set_option maxHeartbeats 2000000 in
theorem rename_own (X : Nat → Prop) (p : Nat) (d : Dk) (name to_ : ByteArray) (w : World) (h : DiskOwn X w p d) (hn : name.size ≤ maxLen) (hto : to_.size ≤ maxLen) (hf0 : -1 ≤ d.fuse) (hf1 : d.fuse ≤ 1000000000000) (hpd : d.pend.length ≤ 1000000) (hszs : Maps.size d.now ≤ 1000000) :
    Calls Try.prog 57 #[.pointer (some ⟨p, 0, none⟩), .string name, .string to_] w fun e w' => e = .returned (.int .i64 (renameM d name to_).1) ∧ DiskOwn X w' p (renameM d name to_).2 ∧ Keep X w w' := by
  obtain ⟨hX, S, bs1, bn, vp, us, hD, hf⟩ := h
  have hc0 := counts_any S p bs1 bn vp us d w hD hf0 hf1
  have hsame := countsM_same d
  have hNm := Lib.hid (fun w => named_any to_ w)
  unfold renameM
  obtain ⟨ok, d1, hcm⟩ : ∃ ok d1, countsM d = (ok, d1) := ⟨_, _, rfl⟩
  rw [hcm] at hc0 hsame ⊢
  simp only at hc0 hsame ⊢
  rw [← hsame.1]
  rw [← hsame.2.2.1] at hpd
  rw [← hsame.1] at hszs
  have HC := Lib.hid hc0
  have HX := Lib.hid hX
  have HF := Lib.hid hf
  clear hc0 hX hf hD hcm hsame
  cases ok with
  | false =>
    simp only [Bool.false_eq_true, if_false]
    go_enter Try.func57, Try.ntmps57
    go_wp2_with fail
    refine HC.out.mono ?_
    rintro e w1 ⟨rfl, hD1, hM1⟩
    have HD1 := Lib.hid hD1
    clear hD1
    go_wp2_with fail
    go_ret
    exact ⟨rfl, own_of_head HX.out HF.out hM1 (Below.refl _ _) HD1.out⟩
  | true =>
    simp only [if_true]
    generalize hth : hasF d1.now name = there
    generalize hnm : namedB to_ = nm at hNm
    have HTh := Lib.hid hth
    clear hth hnm
    go_enter Try.func57, Try.ntmps57
    go_wp2_with fail
    refine HC.out.mono ?_
    rintro e w1 ⟨rfl, hD1, hM1⟩
    obtain ⟨c0, -, c2, -⟩ := hD1.head.cells
    obtain ⟨v0, -, hlook⟩ := hD1.now.look name hn
    have l0 := (hlook w1 rfl).2
    rw [HTh.out] at l0
    have HD1 := Lib.hid hD1
    clear hD1 hlook
    cases nm with
    | false =>
      go_wp2_with fail
      refine (hNm.out _).mono ?_
      rintro e w2 ⟨rfl, rfl⟩
      go_wp2_with fail
      go_ret
      exact ⟨rfl, own_of_head HX.out HF.out hM1 (Below.refl _ _) HD1.out⟩
    | true =>
      cases there with
      | false =>
        go_wp2_with fail
        refine (hNm.out _).mono ?_
        rintro e w2 ⟨rfl, rfl⟩
        go_wp2_with fail
        go_ret
        exact ⟨rfl, own_of_head HX.out HF.out hM1 (Below.refl _ _) HD1.out⟩
      | true =>
        have hput := put_any (More S w1 w1) p bs1 bn vp us d1 ⟨2, name, to_, [], 0⟩ (.slice none 0 0) w1 (HD1.out.toMore (Below.refl _ _)) (Bts.nil _ _) hpd (putF (delF d1.now name) to_ (getF d1.now name)) fun S2 w2 h1 _ h3 h4 => does_rename S2 bn d1.now name to_ (.slice none 0 0) 0 w2 h1 hn hto h3 h4 hszs
        have HPut := Lib.hid hput
        clear hput
        go_wp2_with fail
        refine (hNm.out _).mono ?_
        rintro e w2 ⟨rfl, rfl⟩
        go_wp2_with fail
        refine HPut.out.mono ?_
        intro e w6 ho
        obtain ⟨rfl, hownX, hkX⟩ := own_of_put HX.out HF.out hM1 (Below.refl _ _) ho
        have HO := Lib.hid hownX
        have HK := Lib.hid hkX
        clear ho hownX hkX
        go_wp2_with fail
        go_ret
        exact ⟨rfl, HO.out, HK.out⟩
end Go.Proofs.Ytpkmnfpbcakflaa
