/- The walk of disk's Remove. No condition. -/
import Derived.Test.YtpkmnfpbcakflaaAppend
namespace Go.Proofs.Ytpkmnfpbcakflaa
open Go.ChangeShapes Go.WideShapes Go.ChangeAt Go.RowKit

def removed (d : Dk) (name : ByteArray) : Dk := { d with now := delF d.now name, pend := d.pend ++ [⟨3, name, ⟨#[]⟩, [], 0⟩] }
def removeM (d : Dk) (name : ByteArray) : Int × Dk :=
  if (countsM d).1 then if hasF d.now name then (0, removed (countsM d).2 name) else (4, (countsM d).2) else (3, (countsM d).2)

set_option maxRecDepth 100000 in
set_option maxHeartbeats 2000000 in
theorem remove_own (X : Nat → Prop) (p : Nat) (d : Dk) (name : ByteArray) (w : World) (h : DiskOwn X w p d) (hn : name.size ≤ maxLen) (hf0 : -1 ≤ d.fuse) (hf1 : d.fuse ≤ 1000000000000) (hpd : d.pend.length ≤ 1000000) :
    Calls Try.prog 25 #[.pointer (some ⟨p, 0, none⟩), .string name] w fun e w' => e = .returned (.int .i64 (removeM d name).1) ∧ DiskOwn X w' p (removeM d name).2 ∧ Keep X w w' := by
  obtain ⟨hX, S, bs1, bn, vp, us, hD, hf⟩ := h
  have hc0 := counts_any S p bs1 bn vp us d w hD hf0 hf1
  have hsame := countsM_same d
  unfold removeM
  obtain ⟨ok, d1, hcm⟩ : ∃ ok d1, countsM d = (ok, d1) := ⟨_, _, rfl⟩
  rw [hcm] at hc0 hsame ⊢
  simp only at hc0 hsame ⊢
  rw [← hsame.1]
  rw [← hsame.2.2.1] at hpd
  have HC := Lib.hid hc0
  have HX := Lib.hid hX
  have HF := Lib.hid hf
  clear hc0 hX hf hD hcm hsame
  cases ok with
  | false =>
    simp only [Bool.false_eq_true, if_false]
    go_enter Try.func25, Try.ntmps25
    go_wp2_with fail
    refine HC.out.mono ?_
    rintro e w1 ⟨rfl, hD1, hM1⟩
    have HD1 := Lib.hid hD1
    clear hD1
    go_wp2_with fail
    go_ret
    exact ⟨rfl, own_of_head HX.out HF.out hM1 (Below.refl _ _) HD1.out⟩
  | true =>
    simp only [if_true]
    generalize hth : hasF d1.now name = there
    have HTh := Lib.hid hth
    clear hth
    go_enter Try.func25, Try.ntmps25
    go_wp2_with fail
    refine HC.out.mono ?_
    rintro e w1 ⟨rfl, hD1, hM1⟩
    obtain ⟨c0, -, c2, -⟩ := hD1.head.cells
    obtain ⟨v0, -, hlook⟩ := hD1.now.look name hn
    have l0 := (hlook w1 rfl).2
    rw [HTh.out] at l0
    have HD1 := Lib.hid hD1
    clear hD1 hlook
    cases there with
    | false =>
      go_wp2_with fail
      go_ret
      exact ⟨rfl, own_of_head HX.out HF.out hM1 (Below.refl _ _) HD1.out⟩
    | true =>
      have hput := put_any (More S w1 w1) p bs1 bn vp us d1 ⟨3, name, ⟨#[]⟩, [], 0⟩ (.slice none 0 0) w1 (HD1.out.toMore (Below.refl _ _)) (Bts.nil _ _) hpd (delF d1.now name) fun S2 w2 h1 _ h3 h4 => does_remove S2 bn d1.now name ⟨#[]⟩ (.slice none 0 0) 0 w2 h1 hn h3 h4
      have HPut := Lib.hid hput
      clear hput
      go_wp2_with fail
      refine HPut.out.mono ?_
      intro e w6 ho
      obtain ⟨rfl, hownX, hkX⟩ := own_of_put HX.out HF.out hM1 (Below.refl _ _) ho
      have HO := Lib.hid hownX
      have HK := Lib.hid hkX
      clear ho hownX hkX
      go_wp2_with fail
      go_ret
      exact ⟨rfl, HO.out, HK.out⟩
end Go.Proofs.Ytpkmnfpbcakflaa
