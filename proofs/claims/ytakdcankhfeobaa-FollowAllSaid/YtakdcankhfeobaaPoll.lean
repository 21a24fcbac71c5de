/- The walk of the law FollowAll's poll: a function value that holds three variables. No condition. -/
import Derived.Test.YtakdcankhfeobaaTexts
import Derived.Test.YtakdcankhfeobaaGapsNext
import Derived.Test.YtakdcankhfeobaaRef1
import Derived.OneCell
import Derived.Deep.QuietTactic
import Derived.BigQuiet
import Derived.RegionTactic
namespace Go.Proofs.Ytakdcankhfeobaa
open Go.ChangeShapes Go.WideShapes Go.ChangeAt Go.RowKit

@[go_sem] theorem run_store_complex {P : Program} {w : World} {a : Addr} {m : Mode} (k : FloatKind) (x y : Nat) : (store a (.complex k x y) m).run P w = stored P w a (.complex k x y) m := run_store P w a _ m rfl

/-- the three variables: the family's pointer, the mark, what was told -/
structure Held (w : World) (bf ba bg p : Nat) (id pl : Nat) (got : List Int) : Prop where
  f : w.heap[bf]? = some (.cells #[.pointer (some ⟨p, 0, none⟩)] 22 (0, 0))
  at_ : w.heap[ba]? = some (.cells #[.complex .f64 (fl id) (fl pl)] 49 (0, 0))
  got : w.heap[bg]? = some (.cells #[.string (strOfNums got)] 9 (0, 0))
theorem Held.same {w w' : World} {bf ba bg p id pl : Nat} {got : List Int} (h : Held w bf ba bg p id pl got) (h1 : w'.heap[bf]? = w.heap[bf]?) (h2 : w'.heap[ba]? = w.heap[ba]?) (h3 : w'.heap[bg]? = w.heap[bg]?) : Held w' bf ba bg p id pl got :=
  ⟨h1.trans h.f, h2.trans h.at_, h3.trans h.got⟩
theorem Held.below {w w' : World} {bf ba bg p id pl : Nat} {got : List Int} (h : Held w bf ba bg p id pl got) (hB : Below w.heap.size w w') : Held w' bf ba bg p id pl got :=
  h.same (hB.block _ (heap_lt h.f)) (hB.block _ (heap_lt h.at_)) (hB.block _ (heap_lt h.got))
theorem Held.keep {X : Nat → Prop} {w w' : World} {bf ba bg p id pl : Nat} {got : List Int} (h : Held w bf ba bg p id pl got) (hK : Keep X w w') (h1 : X bf) (h2 : X ba) (h3 : X bg) : Held w' bf ba bg p id pl got :=
  h.same (hK.block _ (heap_lt h.f) (fun e => e h1)) (hK.block _ (heap_lt h.at_) (fun e => e h2)) (hK.block _ (heap_lt h.got) (fun e => e h3))
theorem Held.write {w : World} {bf ba bg p id pl : Nat} {got : List Int} (h : Held w bf ba bg p id pl got) (n1 : bf ≠ ba) (n2 : bf ≠ bg) (n3 : ba ≠ bg) (id2 pl2 : Nat) (got2 : List Int) :
    Held ((w.setCell ⟨bg, 0, none⟩ (.string (strOfNums got2))).setCell ⟨ba, 0, none⟩ (.complex .f64 (fl id2) (fl pl2))) bf ba bg p id2 pl2 got2 := by
  refine ⟨?_, ?_, ?_⟩
  · rw [heap_setCell_other _ _ _ _ n1, heap_setCell_other _ _ _ _ n2]; exact h.f
  · have h1 : (w.setCell ⟨bg, 0, none⟩ (.string (strOfNums got2))).heap[ba]? = some (.cells #[.complex .f64 (fl id) (fl pl)] 49 (0, 0)) := by
      rw [heap_setCell_other _ _ _ _ n3]; exact h.at_
    have := heap_setCell_same _ ba 0 _ 49 (.complex .f64 (fl id2) (fl pl2)) h1
    simpa using this
  · rw [heap_setCell_other _ _ _ _ (fun e => n3 e.symm)]
    have := heap_setCell_same w bg 0 _ 9 (.string (strOfNums got2)) h.got
    simpa using this
theorem FamOwn.two {X : Nat → Prop} {w : World} {p : Nat} {gs : List Gn} {l : Int} (h : FamOwn 64 67 X w p gs l) {ba bg : Nat} (h1 : X ba) (h2 : X bg) (u v : Value) : FamOwn 64 67 X ((w.setCell ⟨bg, 0, none⟩ u).setCell ⟨ba, 0, none⟩ v) p gs l :=
  (h.cell h2 0 u).cell h1 0 v

/-- what a poll leaves -/
def PollOut (w w' : World) (e : Ending) (X : Nat → Prop) (B bf ba bg p : Nat) (C : Int) (gs : List Gn) (l : Int) (all got : List Int) (id pl : Nat) (m : Nat) : Prop :=
  ∃ (x : List Int) (id2 p2 : Nat), e = .returned (.bool true) ∧ Held w' bf ba bg p id2 p2 (got ++ x) ∧ FamOwn 64 67 X w' p gs l ∧ AInv C gs l all (got ++ x) id2 p2 ∧ Below B w w' ∧ (m = 11 → got.length < all.length → polls id2 p2 gs < polls id pl gs)

set_option maxHeartbeats 1000000 in
theorem poll_any (X : Nat → Prop) (B bf ba bg p : Nat) (gs : List Gn) (l C : Int) (w : World) (hF : FamOwn 64 67 X w p gs l) (hC : C ≤ 1000) (all got : List Int) (id pl : Nat) (h : AInv C gs l all got id pl) (hH : Held w bf ba bg p id pl got)
    (n1 : bf ≠ ba) (n2 : bf ≠ bg) (n3 : ba ≠ bg) (x2 : X ba) (x3 : X bg) (b2 : B ≤ ba) (b3 : B ≤ bg) (hBw : B ≤ w.heap.size) (m : Nat) :
    Calls Try.prog 25 #[.int .i64 m, .pointer (some ⟨bf, 0, none⟩), .pointer (some ⟨ba, 0, none⟩), .pointer (some ⟨bg, 0, none⟩)] w fun e w' => PollOut w w' e X B bf ba bg p C gs l all got id pl m := by
  have c1 := cell_of_one hH.f
  have c2 := cell_of_one hH.at_
  have hs := h.small
  have HH := Lib.hid hH
  have HA := Lib.hid h
  have HN1 := Lib.hid n1
  have HN2 := Lib.hid n2
  have HN3 := Lib.hid n3
  clear hH n1 n2 n3 h
  go_enter Try.func25, Try.ntmps25
  go_wp2_with fail
  refine (next_all X p gs l C _ hF (by omega) all got id pl HA.out m).mono ?_
  rintro e w1 ⟨a, n, c, x, id2, p2, rfl, hx, hnm, hsrc, hB1, hi2, hp2, hor, hA1, hdec⟩
  have H1 := HH.out.below hB1
  have F1 := hF.below hB1
  have e2 := cell_of_one H1.at_
  have e3 := cell_of_one H1.got
  have g2 := free_of_one H1.at_
  have g3 := free_of_one H1.got
  have q1 : ¬ ba = bg := HN3.out
  have q2 : ¬ bg = ba := fun e => HN3.out e.symm
  have HB1 := Lib.hid hB1
  have HH1 := Lib.hid H1
  have HA1 := Lib.hid hA1
  have HD := Lib.hid hdec
  have hlen : got.length + x.length ≤ 60000 := by
    have h1 := hA1.len
    have h2 := congrArg List.length hA1.sum
    rw [List.length_append, List.length_append] at h2; omega
  have hadd : ∀ w, (Op.stringOp .add (strOfNums got) (strOfNums x)).run Try.prog w = .ok (.string (strOfNums (got ++ x))) w := fun w => by
    rw [str_append]; exact run_string_add_sum w _ _ (by rw [strOfNums_size, strOfNums_size]; omega)
  have hconv : (convert 27 9 (.slice a n c)).run Try.prog w1 = .ok (.string (strOfNums x)) w1 := run_string_src (P := Try.prog) hsrc 27 5 9 Try.underlying27 Try.underlying5 Try.underlying9
  have HL := Lib.hid (rless_no id2 p2 id pl hi2 hp2 (by omega) (by omega) (by omega))
  clear c1 c2 hF hB1 H1 hA1 hdec hx hor hlen
  go_wp2_with fail
  refine (HL.out _).mono ?_
  rintro e w2 ⟨rfl, rfl⟩
  go_wp2_with fail
  go_ret
  refine ⟨x, id2, p2, rfl, HH1.out.write HN1.out HN2.out HN3.out id2 p2 (got ++ x), F1.two x2 x3 _ _, HA1.out, ?_, HD.out⟩
  exact ((HB1.out.mono hBw).setCell (p := ⟨bg, 0, none⟩) b3 _).setCell (p := ⟨ba, 0, none⟩) b2 _
end Go.Proofs.Ytakdcankhfeobaa
