/- The walk of the reference's Truncate. No condition. -/
import Derived.Test.YtpkmnfpbcakflaaDoorPair
namespace Go.Proofs.YtpkmnfpbcakflaaDoor
open Go.ChangeShapes Go.WideShapes Go.ChangeAt Go.RowKit

set_option maxRecDepth 100000 in
set_option maxHeartbeats 2000000 in
theorem rtrunc {T : Nat → Prop} {w : World} {q : Nat} {d : Dk} (h : RefOwn T w q d) (name : ByteArray) (n : Int) (hn : name.size ≤ maxLen) (hf1 : d.fuse ≤ 1000000000000) (hpd : d.pend.length ≤ 1000000) (ht : total d.now ≤ 1000000000000) (hsz : Maps.size d.now ≤ 1000000) :
    Calls Tryd.prog 22 #[.pointer (some ⟨q, 0, none⟩), .string name, .int .i64 n] w fun e w' => e = .returned (.int .i64 (truncM d name n).1) ∧ RefOut T w w' q (truncM d name n).2 := by
  obtain ⟨sv, nv, wv, fu, fz, Ls, Ln, us, un, uw, hR⟩ := h
  have hc := rcounts hR hf1
  have hsame := countsM_same d
  unfold truncM
  have heq := hR.eqn
  obtain ⟨ok, d1, hcm⟩ : ∃ ok d1, countsM d = (ok, d1) := ⟨_, _, rfl⟩
  rw [hcm] at hc hsame ⊢
  simp only at hc hsame ⊢
  rw [← hsame.1] at ht hsz heq ⊢
  rw [← hsame.2.2.1] at hpd
  have hcase := has_find Ln name
  rw [heq] at hcase
  have HC := Lib.hid hc
  clear hc hcm hR hsame heq
  cases ok with
  | false =>
    simp only [Bool.false_eq_true, if_false]
    go_enter Tryd.func22, Tryd.ntmps22
    go_wp2_with fail
    refine HC.out.mono ?_
    rintro e w1 ⟨rfl, ⟨fz', hR1⟩, hM1⟩
    rw [show errDown false = 3 from rfl]
    have HR1 := Lib.hid (And.intro hR1 hM1)
    clear hR1 hM1
    go_wp2_with fail
    go_ret
    exact ⟨rfl, RefAt.outOf HR1.out.1 (fun k hk => .inl hk) HR1.out.2⟩
  | true =>
    simp only [if_true]
    rcases hcase with ⟨hlt, hh, -⟩ | ⟨i, x, hi, hx, hh, hgx⟩
    · rw [hh]
      simp only [Bool.false_eq_true, if_false]
      obtain ⟨fi, hfi⟩ : ∃ fi, findL Ln name = fi := ⟨_, rfl⟩
      rw [hfi] at hlt
      go_enter Tryd.func22, Tryd.ntmps22
      go_wp2_with fail
      refine HC.out.mono ?_
      rintro e w1 ⟨rfl, ⟨fz', hR1⟩, hM1⟩
      rw [show errDown true = 0 from rfl]
      obtain ⟨-, -, c2, -⟩ := rhead_cells hR1.head
      obtain ⟨a, cap, rfl, -⟩ := hR1.now.row.form
      have hfd := rfind hR1.now name
      rw [hfi] at hfd
      have HFd := Lib.hid hfd
      have HR1 := Lib.hid (And.intro hR1 hM1)
      clear hR1 hM1 hfd hfi hh
      go_wp2_with fail
      refine HFd.out.mono ?_
      rintro e w2 ⟨rfl, rfl⟩
      go_wp2_with fail
      go_ret
      exact ⟨rfl, RefAt.outOf HR1.out.1 (fun k hk => .inl hk) HR1.out.2⟩
    · rw [hh, hgx]
      simp only [if_true]
      obtain ⟨gl, hgl⟩ : ∃ gl, x.2.length = gl := ⟨_, rfl⟩
      rw [hgl]
      rcases (show n < 0 ∨ (0 ≤ n ∧ (gl : Int) < n) ∨ (0 ≤ n ∧ n ≤ (gl : Int)) by omega) with hb | ⟨hb0, hb⟩ | ⟨hb0, hb⟩
      · rw [if_pos (.inl hb)]
        have k1 : decide (n < 0) = true := decide_eq_true hb
        go_enter Tryd.func22, Tryd.ntmps22
        go_wp2_with fail
        refine HC.out.mono ?_
        rintro e w1 ⟨rfl, ⟨fz', hR1⟩, hM1⟩
        rw [show errDown true = 0 from rfl]
        obtain ⟨-, -, c2, -⟩ := rhead_cells hR1.head
        obtain ⟨a, cap, rfl, -, hml, -⟩ := hR1.now.row.form
        unfold maxLen at hml
        have hfd := rfind hR1.now name
        rw [hi] at hfd
        have HFd := Lib.hid hfd
        have hil : i < Ln.length := (List.getElem?_eq_some_iff.1 hx).1
        obtain ⟨u, hu⟩ : ∃ u, un[i]? = some u := ⟨_, List.getElem?_eq_getElem (by rw [hR1.now.len]; exact hil)⟩
        obtain ⟨g, rfl, hgl2, hcell, -⟩ := hR1.now.row.view (by omega)
        obtain ⟨au, cu, rfl, -⟩ := (hR1.now.bts i x u hx hu).ex
        obtain ⟨-, d1'⟩ := fcells_at Ln un i x _ hx hu
        have e1 := (hcell (i * 2 + 1) (by omega)).trans d1'
        rw [hgl] at e1
        have HR1 := Lib.hid (And.intro hR1 hM1)
        clear hR1 hM1 hfd hi hx hu hcell d1' hgl hgx hh
        go_wp2_with fail
        refine HFd.out.mono ?_
        rintro e w2 ⟨rfl, rfl⟩
        clear HFd
        go_wp2_with fail
        go_ret
        exact ⟨rfl, RefAt.outOf HR1.out.1 (fun k hk => .inl hk) HR1.out.2⟩
      · rw [if_pos (.inr hb)]
        have k1 : decide (n < 0) = false := decide_eq_false (by omega)
        have k2 : decide ((gl : Int) < n) = true := decide_eq_true hb
        go_enter Tryd.func22, Tryd.ntmps22
        go_wp2_with fail
        refine HC.out.mono ?_
        rintro e w1 ⟨rfl, ⟨fz', hR1⟩, hM1⟩
        rw [show errDown true = 0 from rfl]
        obtain ⟨-, -, c2, -⟩ := rhead_cells hR1.head
        obtain ⟨a, cap, rfl, -, hml, -⟩ := hR1.now.row.form
        unfold maxLen at hml
        have hfd := rfind hR1.now name
        rw [hi] at hfd
        have HFd := Lib.hid hfd
        have hil : i < Ln.length := (List.getElem?_eq_some_iff.1 hx).1
        obtain ⟨u, hu⟩ : ∃ u, un[i]? = some u := ⟨_, List.getElem?_eq_getElem (by rw [hR1.now.len]; exact hil)⟩
        obtain ⟨g, rfl, hgl2, hcell, -⟩ := hR1.now.row.view (by omega)
        obtain ⟨au, cu, rfl, -⟩ := (hR1.now.bts i x u hx hu).ex
        obtain ⟨-, d1'⟩ := fcells_at Ln un i x _ hx hu
        have e1 := (hcell (i * 2 + 1) (by omega)).trans d1'
        rw [hgl] at e1
        have HR1 := Lib.hid (And.intro hR1 hM1)
        clear hR1 hM1 hfd hi hx hu hcell d1' hgl hgx hh
        go_wp2_with fail
        refine HFd.out.mono ?_
        rintro e w2 ⟨rfl, rfl⟩
        clear HFd
        go_wp2_with fail
        go_ret
        exact ⟨rfl, RefAt.outOf HR1.out.1 (fun k hk => .inl hk) HR1.out.2⟩
      · rw [if_neg (by omega)]
        obtain ⟨m, rfl⟩ : ∃ m : Nat, n = m := ⟨n.toNat, by omega⟩
        have k1 : decide ((m : Int) < 0) = false := decide_eq_false (by omega)
        have k2 : decide ((gl : Int) < (m : Int)) = false := decide_eq_false (by omega)
        rw [Int.toNat_natCast]
        go_enter Tryd.func22, Tryd.ntmps22
        go_wp2_with fail
        refine HC.out.mono ?_
        rintro e w1 ⟨rfl, ⟨fz', hR1⟩, hM1⟩
        rw [show errDown true = 0 from rfl]
        obtain ⟨-, -, c2, -⟩ := rhead_cells hR1.head
        obtain ⟨a, cap, rfl, -, hml, -⟩ := hR1.now.row.form
        unfold maxLen at hml
        have hfd := rfind hR1.now name
        rw [hi] at hfd
        have HFd := Lib.hid hfd
        have hil : i < Ln.length := (List.getElem?_eq_some_iff.1 hx).1
        obtain ⟨u, hu⟩ : ∃ u, un[i]? = some u := ⟨_, List.getElem?_eq_getElem (by rw [hR1.now.len]; exact hil)⟩
        obtain ⟨g, rfl, hgl2, hcell, -⟩ := hR1.now.row.view (by omega)
        obtain ⟨au, cu, rfl, -⟩ := (hR1.now.bts i x u hx hu).ex
        obtain ⟨-, d1'⟩ := fcells_at Ln un i x _ hx hu
        have e1 := (hcell (i * 2 + 1) (by omega)).trans d1'
        rw [hgl] at e1
        have HR1 := Lib.hid (And.intro hR1 hM1)
        have hdo := rdoes hR1 ⟨1, name, ⟨#[]⟩, [], m⟩ (.slice none 0 0) (Bts.nil _ _) ⟨hn, Nat.zero_le _, hsz, .inr (.inl ⟨rfl, by simp only; omega, by simp only; rw [hgx]; omega⟩)⟩ ht hpd
        rw [does_truncated] at hdo
        have HDo := Lib.hid hdo
        unfold ddAgg at HDo
        clear hdo
        clear hR1 hM1 hfd hi hx hu hcell d1' hgl hgx hh
        go_wp2_with fail
        refine HFd.out.mono ?_
        rintro e w2 ⟨rfl, rfl⟩
        clear HFd
        go_wp2_with fail
        refine HDo.out.mono ?_
        rintro e w3 ⟨rfl, ho⟩
        have HO := Lib.hid ho
        clear ho HDo
        go_wp2_with fail
        go_ret
        exact ⟨rfl, HO.out.behind HR1.out.2⟩
theorem PairAt.trunc {w0 w : World} {E : Nat → Prop} {p q : Nat} {dp dq : Dk} {C : Nat} (h : PairAt w0 w E p q dp dq) (hI : Inv C dp) (hC : C ≤ 1000000) (name : ByteArray) (n : Int) (hn : name.size ≤ maxLen) :
    Calls Tryd.prog 21 #[.pointer (some ⟨p, 0, none⟩), .string name, .int .i64 n] w fun e w' => e = .returned (.int .i64 (truncM dp name n).1) ∧ PairTo w0 w w' E p q (truncM dp name n).2 dq := by
  obtain ⟨X, hD, -, -, hn1⟩ := h.left
  exact (dtrunc X p dp w hD hI hC name n hn).mono fun e w' ⟨he, hD1, hK⟩ => ⟨he, hn1 w' _ hD1 hK⟩
theorem PairAt.trunc2 {w0 w : World} {E : Nat → Prop} {p q : Nat} {dp dq : Dk} {C : Nat} (h : PairAt w0 w E p q dp dq) (hI : Inv C dq) (hC : C ≤ 1000000) (name : ByteArray) (n : Int) (hn : name.size ≤ maxLen) :
    Calls Tryd.prog 22 #[.pointer (some ⟨q, 0, none⟩), .string name, .int .i64 n] w fun e w' => e = .returned (.int .i64 (truncM dq name n).1) ∧ PairTo w0 w w' E p q dp (truncM dq name n).2 := by
  obtain ⟨T, hR, -, hn1⟩ := h.right
  have hf := hI.fuse
  have ht := hI.fine.total
  have hz := hI.fine.size
  have hp := hI.pend
  exact (rtrunc hR name n hn (by omega) (by omega) (by omega) (by omega)).mono fun e w' ⟨he, ho⟩ => ⟨he, hn1 w' _ ho⟩
end Go.Proofs.YtpkmnfpbcakflaaDoor
