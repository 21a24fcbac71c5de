/- The walk of DiskKnown. No condition. -/
import Derived.Test.YtpkmnfpbcakflaaKnown
import Derived.Test.YtpkmnfpbcakflaaNames
namespace Go.Proofs.Ytpkmnfpbcakflaa
open Go.ChangeShapes Go.WideShapes Go.ChangeAt Go.RowKit

/-- a disk apart from blocks X, and those as they were in world wa -/
def StK (X : Nat → Prop) (wa w : World) (p : Nat) (d : Dk) : Prop := DiskOwn X w p d ∧ Keep X wa w
theorem StK.keep {X : Nat → Prop} {wa w w' : World} {p : Nat} {d' : Dk} (hK0 : Keep X wa w) (hD : DiskOwn X w' p d') (hK : Keep X w w') : StK X wa w' p d' := ⟨hD, hK0.trans hK⟩
theorem StK.keepMore {X : Nat → Prop} {wa w w1 w' : World} {p : Nat} {d' : Dk} (hK0 : Keep X wa w) (hA : Below w.heap.size w w1) (hD : DiskOwn (More X w w1) w' p d') (hK : Keep (More X w w1) w1 w') : StK X wa w' p d' :=
  ⟨hD.fewer fun _ h => .inl h, (hK0.trans (Keep.of_below hA)).trans (hK.mono fun _ _ hk hx => hk (.inl hx))⟩

abbrev nameB : ByteArray := ⟨#[98]⟩
abbrev dB1 : Dk := oneDk nameA 9 (some [120, 121, 122, 49]) [] 1 false
abbrev dB2 : Dk := appended (oneDk nameA 9 (some [120, 121, 122, 49]) [] 0 false) nameB [49]
abbrev dB3 : Dk := { dB2 with down := true }
section
variable {X : Nat → Prop} {wa w : World} {p : Nat}
theorem StK.fuseK (h : StK X wa w p (oneDk nameA 9 (some [120, 121, 122, 49]) [] (-1) false)) : Calls Try.prog 23 #[.pointer (some ⟨p, 0, none⟩), .int .i64 1] w fun e w' => e = .returned (.tuple #[]) ∧ StK X wa w' p dB1 :=
  (fuse_own X p _ 1 w h.1).mono fun _ _ ⟨he, hD, hK⟩ => ⟨he, StK.keep h.2 hD hK⟩
theorem StK.appB (h : StK X wa w p dB1) (fr : Nat × Nat) :
    Calls Try.prog 18 #[.pointer (some ⟨p, 0, none⟩), .string nameB, .slice (some ⟨w.heap.size, 0, none⟩) 1 1] (w.alloc (.cells #[.int .u8 49] 5 fr)) fun e w' => e = .returned (.int .i64 0) ∧ StK X wa w' p dB2 := by
  have hA : Below w.heap.size w (w.alloc (.cells #[.int .u8 49] 5 fr)) := (Below.refl _ w).alloc (Nat.le_refl _) _
  have hc := counts_one nameA 9 (some [120, 121, 122, 49]) [] 1 (by omega)
  have ht : total dB1.now = 4 := one_total nameA (some [120, 121, 122, 49])
  have hz : Maps.size dB1.now ≤ 1 := one_size nameA (some [120, 121, 122, 49])
  have hg : getF dB1.now nameB = [] := by
    show getF (oneF nameA (some [120, 121, 122, 49])) nameB = []
    have : (strKey nameA).sameKey (strKey nameB) = false := by decide
    simp [oneF, getF, DataW.atKey, this]
  have := append_ok _ p dB1 nameB _ (some ⟨w.heap.size, 0, none⟩) 1 1 [49] (h.1.more hA) (by decide) (by decide) (by decide) (by rw [hc]) (by decide) (by rw [ht]; omega) (show 0 ≤ 1000000 by omega) (by omega) (by rw [hg]; decide) (by decide) rfl
    (by
      rintro (e | e)
      · rw [ht] at e
        have e2 : (9 : Int) < ((4 : Nat) : Int) + ((1 : Nat) : Int) := e
        omega
      · omega) (src_const w _ fr 1 [49] rfl rfl) (fun _ k hk => .inr ⟨by simp [Value.ownBlock] at hk; omega, by simp [Value.ownBlock] at hk; simp; omega⟩) (by decide)
  rw [hc] at this
  exact this.mono fun _ _ ⟨he, hD, hK⟩ => ⟨he, StK.keepMore h.2 hA hD hK⟩
theorem StK.appNo (h : StK X wa w p dB2) (fr : Nat × Nat) :
    Calls Try.prog 18 #[.pointer (some ⟨p, 0, none⟩), .string nameB, .slice (some ⟨w.heap.size, 0, none⟩) 1 1] (w.alloc (.cells #[.int .u8 50] 5 fr)) fun e w' => e = .returned (.int .i64 3) ∧ StK X wa w' p dB3 := by
  have hA : Below w.heap.size w (w.alloc (.cells #[.int .u8 50] 5 fr)) := (Below.refl _ w).alloc (Nat.le_refl _) _
  exact (append_down _ p dB2 nameB _ (some ⟨w.heap.size, 0, none⟩) 1 1 (h.1.more hA) (by decide) (by decide) rfl).mono fun _ _ ⟨he, hD, hK⟩ => ⟨he, StK.keepMore h.2 hA hD hK⟩
theorem StK.namesNo (h : StK X wa w p dB3) : Calls Try.prog 26 #[.pointer (some ⟨p, 0, none⟩)] w fun e w' => e = .returned (.slice none 0 0) ∧ StK X wa w' p dB3 := by
  obtain ⟨-, S, bs, bn, vp, us, hD, -⟩ := h.1
  exact (names_down S p _ bs bn vp _ _ w hD.head hD.now).mono fun _ _ ⟨he, hB⟩ => ⟨he, h.1.below hB, h.2.trans (Keep.of_below hB)⟩
end

set_option maxRecDepth 100000 in
set_option maxHeartbeats 2000000 in
theorem dknown_any (w : World) : Calls Try.prog 7 #[] w fun e w' => e = .returned (.bool true) ∧ Below w.heap.size w w' := by
  have kc := fun (w : World) (C : Array Value) (n c : Nat) => Lib.run_convert_bytes_const (P := Try.prog) w 25 5 C n c Try.underlying25 Try.underlying5
  go_enter Try.func7, Try.ntmps7
  go_wp2_with fail
  refine (new_no (-1) (by omega) w).mono ?_
  rintro e w1 ⟨rfl, rfl⟩
  go_wp2_with fail
  refine (new_no 8388609 (by omega) w).mono ?_
  rintro e w1 ⟨rfl, rfl⟩
  go_wp2_with fail
  refine (new_ok 9 (by omega) (by omega) w).mono ?_
  rintro e w1 hN
  obtain ⟨p, rfl, S1, -⟩ := St.of_new (Below.refl _ w) hN
  rw [empty_one nameA] at S1
  clear hN
  have H1 := Lib.hid S1
  clear S1
  go_wp2_with fail
  refine (known_any w1).mono ?_
  rintro e wk ⟨rfl, hBk⟩
  have HK := Lib.hid (H1.out.below hBk)
  clear H1 hBk
  go_wp2_with fail
  refine (HK.out.appC #[.int .u8 120, .int .u8 121, .int .u8 122] _ 3 [120, 121, 122] rfl rfl rfl (by decide) (.inl rfl) (by omega) (by omega) (by decide) (by decide) (by decide)).mono ?_
  rintro e w2 ⟨rfl, S2⟩
  have H2 := Lib.hid S2
  clear S2 HK
  go_wp2_with fail
  refine (H2.out.sync (.inl rfl) (by decide)).mono ?_
  rintro e w3 ⟨rfl, S3⟩
  have H3 := Lib.hid (show St w w3 p (oneDk nameA 9 (some [120, 121, 122]) [] (-1) false) from S3)
  clear S3 H2
  go_wp2_with fail
  refine (H3.out.appC #[.int .u8 49, .int .u8 50] _ 2 [49, 50] rfl rfl rfl (by decide) (.inl rfl) (by omega) (by omega) (by decide) (by decide) (by decide)).mono ?_
  rintro e w4 ⟨rfl, S4⟩
  have H4 := Lib.hid (show St w w4 p (oneDk nameA 9 (some [120, 121, 122]) [[49, 50]] (-1) false) from S4)
  clear S4 H3
  go_wp2_with fail
  refine H4.out.remR.mono ?_
  rintro e w5 ⟨rfl, S5⟩
  have H5 := Lib.hid S5
  clear S5 H4
  go_wp2_with fail
  refine (H5.out.crashR 0 1 0 _ (by decide) (by omega) crashed_01).mono ?_
  rintro e w6 ⟨rfl, S6⟩
  have H6 := Lib.hid S6
  clear S6 H5
  go_wp2_with fail
  refine (H6.out.read (by decide) (by decide)).mono ?_
  rintro e w7 hr
  obtain ⟨vr, rfl, Rr, hfr, -, hB7⟩ : ReadYes w6 w7 e [120, 121, 122, 49] := hr
  obtain ⟨ar, cr, rfl, -⟩ := Rr.form
  have S7 : StK (More (fun k => k < w.heap.size) w6 w7) w7 w7 p (oneDk nameA 9 (some [120, 121, 122, 49]) [] (-1) false) := ⟨H6.out.1.more hB7, Mod.refl _ _⟩
  have H7 := Lib.hid S7
  have HB7 := Lib.hid (H6.out.below hB7).2
  have HRr := Lib.hid (And.intro Rr hfr)
  clear S7 H6 hB7 Rr hfr
  go_wp2_with fail
  refine H7.out.fuseK.mono ?_
  rintro e w8 ⟨rfl, S8⟩
  have H8 := Lib.hid S8
  clear S8 H7
  go_wp2_with fail
  refine (H8.out.appB _).mono ?_
  rintro e w9 ⟨rfl, S9⟩
  have H9 := Lib.hid S9
  clear S9 H8
  go_wp2_with fail
  refine (H9.out.appNo _).mono ?_
  rintro e w10 ⟨rfl, S10⟩
  have hsrc : Src w10 1 (.slice ar 4 cr) 4 (byteCells [120, 121, 122, 49]) := (Src.of_row HRr.out.1 (byteCells_one _)).mod S10.2 fun _ k hk e => e (.inr ⟨HRr.out.2 k hk, HRr.out.1.lt hk⟩)
  have hst : (convert 25 9 (.slice ar 4 cr)).run Try.prog w10 = .ok (.string ⟨#[120, 121, 122, 49]⟩) w10 := run_string_src (P := Try.prog) hsrc 25 5 9 Try.underlying25 Try.underlying5 Try.underlying9
  have H10 := Lib.hid S10
  clear S10 H9 hsrc
  go_wp2_with fail
  refine (down_own _ p _ w10 H10.out.1).mono ?_
  rintro e wd ⟨rfl, rfl⟩
  go_wp2_with fail
  refine H10.out.namesNo.mono ?_
  rintro e w11 ⟨rfl, S11⟩
  have H11 := Lib.hid S11
  clear S11 H10
  go_wp2_with fail
  refine (pending_own _ p _ w11 H11.out.1).mono ?_
  rintro e wd ⟨rfl, rfl⟩
  have hB := HB7.out.trans (H11.out.2.below (fun _ h => .inl h) HB7.out.size)
  clear H11
  go_wp2_with fail
  go_ret
  exact ⟨rfl, hB⟩
end Go.Proofs.Ytpkmnfpbcakflaa
