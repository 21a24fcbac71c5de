/- The walks of chapter 25's closed sentence. No condition. -/
import Derived.Test.YtboogadchjojkaaFirst
namespace Go.Proofs.Ytboogadchjojkaa
open Go.ChangeShapes Go.WideShapes Go.ChangeAt Go.RowKit

theorem mark_any (a b : Nat) (w : World) : Calls Try.prog 22 #[.int .u64 a, .int .u64 b] w fun e w' => e = .returned (.complex .f64 (fl a) (fl b)) ∧ w = w' := by
  have hf := fl_eq
  go_enter Try.func22, Try.ntmps22
  go_wp2
  go_ret
  exact ⟨rfl, rfl⟩
theorem tagged_any (a b : Nat) (s : ByteArray) (w : World) : Calls Try.prog 9 #[.int .u64 a, .int .u64 b, .string s] w fun e w' => e = .returned (.agg #[.complex .f64 (fl a) (fl b), .string s, .int .i64 0]) ∧ Below w.heap.size w w' := by
  have hm := fun w => mark_any a b w
  have HM := Lib.hid hm
  clear hm
  go_enter Try.func9, Try.ntmps9
  go_wp2_with fail
  refine (HM.out _).mono ?_
  rintro e w' ⟨rfl, rfl⟩
  go_wp2_with fail
  refine bodyPost_ret (v := .agg #[.complex .f64 (fl a) (fl b), .string s, .int .i64 0]) (by simp [results, Try.results9, go_sem]) rfl ⟨rfl, ?_⟩
  exact (Below.refl _ _).alloc (Nat.le_refl _) _
theorem part_neg (w : World) : Calls Try.prog 28 #[.float .f64 13830554455654793216] w fun e w' => e = .returned (.bool false) ∧ w = w' := by
  have o1 : (FloatKind.f64.format.order 13830554455654793216 0 == some .gt || FloatKind.f64.format.order 13830554455654793216 0 == some .eq) = false := by decide +kernel
  go_enter Try.func28, Try.ntmps28
  go_wp2
  go_ret
  exact ⟨rfl, rfl⟩
theorem right_neg (w : World) : Calls Try.prog 20 #[.complex .f64 13830554455654793216 0] w fun e w' => e = .returned (.bool false) ∧ w = w' := by
  go_enter Try.func20, Try.ntmps20
  go_wp2_with fail
  refine (part_neg _).mono ?_
  rintro e w' ⟨rfl, rfl⟩
  go_wp2_with fail
  go_ret
  exact ⟨rfl, rfl⟩
theorem take_bad (X : Nat → Prop) (p : Nat) (s : Sk) (w : World) (h : SinkOwn X w p s) (hr : s.rf = false) : Calls Try.prog 8 #[.pointer (some ⟨p, 0, none⟩), .agg #[.complex .f64 13830554455654793216 0, .string ⟨#[]⟩, .int .i64 0]] w fun e w' => e = .returned (.bool false) ∧ Below w.heap.size w w' := by
  obtain ⟨-, v, hA, -⟩ := h
  obtain ⟨-, -, -, c3, -⟩ := hA.cells
  have hpl := hA.lt
  rw [hr] at c3
  clear hA hr
  go_enter Try.func8, Try.ntmps8
  go_wp2_with fail
  refine (right_neg _).mono ?_
  rintro e w' ⟨rfl, rfl⟩
  go_wp2_with fail
  go_ret
  exact ⟨rfl, (Below.refl _ w).alloc (Nat.le_refl _) _⟩

/-- a sink of blocks made behind w0, and w0's blocks as they were -/
def SkS (w0 w : World) (p : Nat) (s : Sk) : Prop := SinkOwn (fun k => k < w0.heap.size) w p s ∧ Below w0.heap.size w0 w
section
variable {w0 w w' : World} {p : Nat} {s s' : Sk}
theorem SkS.below (h : SkS w0 w p s) (hB : Below w.heap.size w w') : SkS w0 w' p s := ⟨h.1.below hB, h.2.trans (hB.mono h.2.size)⟩
theorem SkS.keep (hB : Below w0.heap.size w0 w) (h : SinkOwn (fun k => k < w0.heap.size) w' p s') (hK : Keep (fun k => k < w0.heap.size) w w') : SkS w0 w' p s' := ⟨h, hB.trans (hK.below (fun _ h => h) hB.size)⟩
theorem SkS.new : Calls Try.prog 5 #[] w fun e w' => ∃ p, e = .returned (.pointer (some ⟨p, 0, none⟩)) ∧ SkS w w' p emptySk :=
  (snew_any w).mono fun _ _ ⟨he, h, hB⟩ => ⟨_, he, h, hB⟩
theorem SkS.take (x : Tg) (h : SkS w0 w p s) (hr : s.rf = false) (hxa : x.a ≤ 1099511627776) (hxb : x.b ≤ 1099511627776) (hma : s.ma ≤ 1099511627776) (hmb : s.mb ≤ 1099511627776) (hl : s.all.length ≤ 1000000) :
    Calls Try.prog 8 #[.pointer (some ⟨p, 0, none⟩), .agg #[.complex .f64 (fl x.a) (fl x.b), .string x.s, .int .i64 x.f]] w fun e w' => e = .returned (.bool true) ∧ SkS w0 w' p (took s x) :=
  (take_yes _ p s w x h.1 hr hxa hxb hma hmb hl).mono fun _ _ ⟨he, ho, hK⟩ => ⟨he, SkS.keep h.2 ho hK⟩
theorem SkS.ack (h : SkS w0 w p s) : Calls Try.prog 10 #[.pointer (some ⟨p, 0, none⟩)] w fun e w' => e = .returned (.tuple #[]) ∧ SkS w0 w' p { s with ca := s.ma, cb := s.mb } :=
  (ack_own _ p s w h.1).mono fun _ _ ⟨he, ho, hK⟩ => ⟨he, SkS.keep h.2 ho hK⟩
theorem SkS.refuse (on : Bool) (h : SkS w0 w p s) : Calls Try.prog 7 #[.pointer (some ⟨p, 0, none⟩), .bool on] w fun e w' => e = .returned (.tuple #[]) ∧ SkS w0 w' p { s with rf := on } :=
  (refuse_own _ p s w on h.1).mono fun _ _ ⟨he, ho, hK⟩ => ⟨he, SkS.keep h.2 ho hK⟩
end
def t1 : Tg := ⟨1, 2, ⟨#[97]⟩, 0⟩
def t2 : Tg := ⟨1, 1, ⟨#[98]⟩, 0⟩
def t3 : Tg := ⟨1, 2, ⟨#[99]⟩, 0⟩
def sk1 : Sk := took emptySk t1
def sk2 : Sk := took sk1 t2
def sk3 : Sk := took sk2 t3
def sk4 : Sk := { sk3 with ca := sk3.ma, cb := sk3.mb }
theorem first_known : firstM sk4.all = [t2, t1] := by kernel_rfl
theorem all_known : sk4.all = [t1, t2, t3] := rfl
theorem low_known : Low sk4.all := by
  rw [all_known]
  intro x hx
  simp only [List.mem_cons, List.not_mem_nil, or_false] at hx
  rcases hx with rfl | rfl | rfl <;> decide
theorem one_fl : fl 1 = 4607182418800017408 := by kernel_rfl
theorem two_fl : fl 2 = 4611686018427387904 := by kernel_rfl

set_option maxRecDepth 100000 in
set_option maxHeartbeats 2000000 in
theorem sknown_any (w : World) : Calls Try.prog 6 #[] w fun e w' => e = .returned (.bool true) ∧ Below w.heap.size w w' := by
  go_enter Try.func6, Try.ntmps6
  go_wp2_with fail
  refine SkS.new.mono ?_
  rintro e w1 ⟨p, rfl, S1⟩
  have H1 := Lib.hid S1
  clear S1
  go_wp2_with fail
  refine (tagged_any 1 2 ⟨#[97]⟩ _).mono ?_
  rintro e w2 ⟨rfl, hB2⟩
  have H2 := Lib.hid (H1.out.below hB2)
  clear hB2 H1
  go_wp2_with fail
  refine (H2.out.take t1 rfl (by decide) (by decide) (by decide) (by decide) (by decide)).mono ?_
  rintro e w3 ⟨rfl, S3⟩
  have H3 := Lib.hid S3
  clear S3 H2
  go_wp2_with fail
  refine (tagged_any 1 1 ⟨#[98]⟩ _).mono ?_
  rintro e w4 ⟨rfl, hB4⟩
  have H4 := Lib.hid (H3.out.below hB4)
  clear hB4 H3
  go_wp2_with fail
  refine (H4.out.take t2 rfl (by decide) (by decide) (by decide) (by decide) (by decide)).mono ?_
  rintro e w5 ⟨rfl, S5⟩
  have H5 := Lib.hid S5
  clear S5 H4
  go_wp2_with fail
  refine (tagged_any 1 2 ⟨#[99]⟩ _).mono ?_
  rintro e w6 ⟨rfl, hB6⟩
  have H6 := Lib.hid (H5.out.below hB6)
  clear hB6 H5
  go_wp2_with fail
  refine (H6.out.take t3 rfl (by decide) (by decide) (by decide) (by decide) (by decide)).mono ?_
  rintro e w7 ⟨rfl, S7⟩
  have H7 := Lib.hid S7
  clear S7 H6
  go_wp2_with fail
  refine (H7.out.ack).mono ?_
  rintro e w8 ⟨rfl, S8⟩
  have H8 := Lib.hid (show SkS w w8 p sk4 from S8)
  clear S8 H7
  go_wp2_with fail
  refine (first_own _ p sk4 _ H8.out.1 low_known (by decide)).mono ?_
  rintro e w9 hN
  rw [first_known] at hN
  obtain ⟨a9, c9, rfl, hR9, -, hB9⟩ := hN
  have H9 := Lib.hid (H8.out.below hB9)
  obtain ⟨g, rfl, -, hgc, -⟩ := hR9.view (by decide)
  have k1 : w9.cell? ⟨g, 1, none⟩ = some (.string ⟨#[98]⟩) := by rw [hgc 1 (by decide)]; rfl
  have k4 : w9.cell? ⟨g, 4, none⟩ = some (.string ⟨#[97]⟩) := by rw [hgc 4 (by decide)]; rfl
  have hAck : Calls Try.prog 11 #[.pointer (some ⟨p, 0, none⟩)] w9 fun e w' => e = .returned (.complex .f64 4607182418800017408 4611686018427387904) ∧ w9 = w' := by
    have := acked_own _ p sk4 w9 H9.out.1
    rw [show fl sk4.ca = 4607182418800017408 from one_fl, show fl sk4.cb = 4611686018427387904 from two_fl] at this
    exact this
  have HAck := Lib.hid hAck
  have o1 : (FloatKind.f64.format.order 4607182418800017408 4607182418800017408 == some .eq) = true := by decide +kernel
  have o2 : (FloatKind.f64.format.order 4611686018427387904 4611686018427387904 == some .eq) = true := by decide +kernel
  have hl2 : [t2, t1].length = 2 := rfl
  rw [hl2]
  clear hgc hR9 hB9 hAck H8 hl2
  go_wp2_with fail
  refine (HAck.out).mono ?_
  rintro e w' ⟨rfl, rfl⟩
  go_wp2_with fail
  refine (sall_own _ p sk4 _ H9.out.1 (by decide)).mono ?_
  rintro e w10 hN
  rw [all_known] at hN
  obtain ⟨a10, c10, rfl, -, -, hB10⟩ := hN
  have hl3 : [t1, t2, t3].length = 3 := rfl
  rw [hl3]
  have H10 := Lib.hid (H9.out.below hB10)
  clear hl3 hB10 HAck H9
  go_wp2_with fail
  go_ret
  exact ⟨rfl, H10.out.2⟩

set_option maxRecDepth 100000 in
set_option maxHeartbeats 2000000 in
theorem sinkKnown_any (w : World) : Calls Try.prog 3 #[] w fun e w' => e = .returned (.bool true) ∧ Below w.heap.size w w' := by
  go_enter Try.func3, Try.ntmps3
  go_wp2_with fail
  refine SkS.new.mono ?_
  rintro e w1 ⟨p, rfl, S1⟩
  have H1 := Lib.hid S1
  clear S1
  go_wp2_with fail
  refine (sknown_any w1).mono ?_
  rintro e w2 ⟨rfl, hB2⟩
  have H2 := Lib.hid (H1.out.below hB2)
  clear hB2 H1
  go_wp2_with fail
  refine (H2.out.refuse true).mono ?_
  rintro e w3 ⟨rfl, S3⟩
  have H3 := Lib.hid S3
  clear S3 H2
  go_wp2_with fail
  refine (tagged_any 1 1 ⟨#[97]⟩ _).mono ?_
  rintro e w4 ⟨rfl, hB4⟩
  have H4 := Lib.hid (H3.out.below hB4)
  clear hB4 H3
  go_wp2_with fail
  refine (take_no _ p _ _ ⟨1, 1, ⟨#[97]⟩, 0⟩ H4.out.1 rfl).mono ?_
  rintro e w5 ⟨rfl, hB5⟩
  have H5 := Lib.hid (H4.out.below hB5)
  clear hB5 H4
  go_wp2_with fail
  refine (H5.out.refuse false).mono ?_
  rintro e w6 ⟨rfl, S6⟩
  have H6 := Lib.hid S6
  clear S6 H5
  go_wp2_with fail
  refine (take_bad _ p _ _ H6.out.1 rfl).mono ?_
  rintro e w7 ⟨rfl, hB7⟩
  have H7 := Lib.hid (H6.out.below hB7)
  clear hB7 H6
  go_wp2_with fail
  refine (H7.out.ack).mono ?_
  rintro e w8 ⟨rfl, S8⟩
  have H8 := Lib.hid (show SkS w w8 p emptySk from S8)
  have hAck : Calls Try.prog 11 #[.pointer (some ⟨p, 0, none⟩)] w8 fun e w' => e = .returned (.complex .f64 0 0) ∧ w8 = w' := by
    have := acked_own _ p emptySk w8 H8.out.1
    rw [show fl emptySk.ca = 0 from fl_zero, show fl emptySk.cb = 0 from fl_zero] at this
    exact this
  have HAck := Lib.hid hAck
  have o1 : (FloatKind.f64.format.order 0 0 == some .eq) = true := by decide +kernel
  clear S8 H7 hAck
  go_wp2_with fail
  refine (HAck.out).mono ?_
  rintro e w' ⟨rfl, rfl⟩
  go_wp2_with fail
  refine (sall_own _ p emptySk _ H8.out.1 (by decide)).mono ?_
  rintro e w10 hN
  obtain ⟨a10, c10, rfl, -, -, hB10⟩ := hN
  have hl3 : emptySk.all.length = 0 := rfl
  rw [hl3]
  have H10 := Lib.hid (H8.out.below hB10)
  clear hl3 hB10 HAck H8
  go_wp2_with fail
  go_ret
  exact ⟨rfl, H10.out.2⟩
end Go.Proofs.Ytboogadchjojkaa
