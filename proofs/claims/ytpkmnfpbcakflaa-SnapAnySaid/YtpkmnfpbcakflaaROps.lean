/- The walks of the reference's Fuse, Sync, Truncate, Rename, Remove, Append. No condition. -/
import Derived.Test.YtpkmnfpbcakflaaRDoes
import Derived.Test.YtpkmnfpbcakflaaRename
namespace Go.Proofs.Ytpkmnfpbcakflaa
open Go.ChangeShapes Go.WideShapes Go.ChangeAt Go.RowKit

theorem RefOut.behind {T : Nat → Prop} {w w1 w2 : World} {q : Nat} {d : Dk} (h : RefOut T w1 w2 q d) (hM : Mod (fun k => k = q) w w1) : RefOut T w w2 q d := by
  obtain ⟨T', hO, hT, hM2⟩ := h
  have := hM.size
  refine ⟨T', hO, fun k hk => ?_, hM.trans hM2⟩
  rcases hT k hk with h | h
  · exact .inl h
  · exact .inr (by omega)
theorem RefOut.ofMore {T : Nat → Prop} {w w1 w2 : World} {q : Nat} {d : Dk} (h : RefOut (More T w w1) w1 w2 q d) (hB : Below w.heap.size w w1) : RefOut T w w2 q d := by
  obtain ⟨T', hO, hT, hM2⟩ := h
  have := hB.size
  refine ⟨T', hO, fun k hk => ?_, (Mod.of_below hB).trans hM2⟩
  rcases hT k hk with (h | h) | h
  · exact .inl h
  · exact .inr h.1
  · exact .inr (by omega)
theorem RefOwn.same {T : Nat → Prop} {w w' : World} {q : Nat} {d : Dk} (h : RefOwn T w' q d) (hM : Mod (fun k => k = q) w w') : RefOut T w w' q d := ⟨T, h, fun _ hk => .inl hk, hM⟩

/-! what the calls make of a disk's state: the program's and the reference's -/
def fused (d : Dk) (n : Int) : Dk := { d with fuse := fuseV n }
def truncated (d : Dk) (name : ByteArray) (n : Nat) : Dk := { d with now := putF d.now name ((getF d.now name).take n), pend := d.pend ++ [⟨1, name, ⟨#[]⟩, [], n⟩] }
def truncM (d : Dk) (name : ByteArray) (n : Int) : Int × Dk :=
  if (countsM d).1 then if hasF d.now name then if n < 0 ∨ ((getF d.now name).length : Int) < n then (1, (countsM d).2) else (0, truncated (countsM d).2 name n.toNat) else (4, (countsM d).2) else (3, (countsM d).2)
def appendM (d : Dk) (name : ByteArray) (bs : List Int) : Int × Dk :=
  if (countsM d).1 then if namedB name then if d.room < total d.now + bs.length ∨ (hasF d.now name = false ∧ 64 ≤ Maps.size d.now) then (2, (countsM d).2) else (0, appended (countsM d).2 name bs) else (1, (countsM d).2) else (3, (countsM d).2)
theorem does_removed (d : Dk) (name : ByteArray) : ({ d with now := doesM d.now ⟨3, name, ⟨#[]⟩, [], 0⟩, pend := d.pend ++ [⟨3, name, ⟨#[]⟩, [], 0⟩] } : Dk) = removed d name := rfl
theorem does_renamed (d : Dk) (name to_ : ByteArray) : ({ d with now := doesM d.now ⟨2, name, to_, [], 0⟩, pend := d.pend ++ [⟨2, name, to_, [], 0⟩] } : Dk) = renamed d name to_ := rfl
theorem does_truncated (d : Dk) (name : ByteArray) (n : Nat) : ({ d with now := doesM d.now ⟨1, name, ⟨#[]⟩, [], n⟩, pend := d.pend ++ [⟨1, name, ⟨#[]⟩, [], n⟩] } : Dk) = truncated d name n := rfl
theorem does_appended (d : Dk) (name : ByteArray) (bs : List Int) : ({ d with now := doesM d.now ⟨0, name, ⟨#[]⟩, bs, 0⟩, pend := d.pend ++ [⟨0, name, ⟨#[]⟩, bs, 0⟩] } : Dk) = appended d name bs := rfl

section
variable {T : Nat → Prop} {w : World} {q : Nat} {d : Dk}
theorem rfuse (h : RefOwn T w q d) (n : Int) :
    Calls Try.prog 67 #[.pointer (some ⟨q, 0, none⟩), .int .i64 n] w fun e w' => e = .returned (.tuple #[]) ∧ RefOut T w w' q (fused d n) := by
  obtain ⟨sv, nv, wv, fu, fz, Ls, Ln, us, un, uw, hR⟩ := h
  obtain ⟨-, -, -, -, c4, c5, -, hfr⟩ := rhead_cells hR.head
  have f4 := hfr 4
  have f5 := hfr 5
  obtain ⟨m, hm⟩ : ∃ m : Int, (if n > 0 then n else 0) = m := ⟨_, rfl⟩
  have hmx : ∀ ts t w, (Builtin.max_ ts t #[.int .i64 0, .int .i64 n]).run Try.prog w = .ok (.int .i64 m) w := fun ts t w => by rw [← hm]; exact run_max_int2 w ts t .i64 .i64 0 n
  have HR := Lib.hid hR
  have HM := Lib.hid hm
  clear hR hfr hm
  go_enter Try.func67, Try.ntmps67
  go_wp2_with fail
  go_end0
  refine ⟨rfl, RefAt.outOf (HR.out.rehead (d' := fused d n) ((mod_p 4 _).trans (mod_p 5 _)) (heap_setCell_same _ q 5 _ _ _ (rhead_set HR.out.head 4 _)) ?_ rfl rfl rfl) (fun k hk => .inl hk) ((mod_p 4 _).trans (mod_p 5 _))⟩
  have hm := HM.out
  show Fz _ _ (fuseV n)
  unfold fuseV
  by_cases h0 : 0 ≤ n
  · left
    rw [if_neg (by omega)]
    refine ⟨by simp [h0], ?_, h0⟩
    split at hm <;> omega
  · right
    refine ⟨by simp [h0], ?_⟩
    split <;> omega

theorem rsync (h : RefOwn T w q d) (hf1 : d.fuse ≤ 1000000000000) :
    Calls Try.prog 60 #[.pointer (some ⟨q, 0, none⟩)] w fun e w' => e = .returned (.int .i64 (syncM d).1) ∧ RefOut T w w' q (syncM d).2 := by
  obtain ⟨sv, nv, wv, fu, fz, Ls, Ln, us, un, uw, hR⟩ := h
  have hc := rcounts hR hf1
  have hsame := countsM_same d
  unfold syncM
  obtain ⟨ok, d1, hcm⟩ : ∃ ok d1, countsM d = (ok, d1) := ⟨_, _, rfl⟩
  rw [hcm] at hc hsame ⊢
  simp only at hc hsame ⊢
  have HC := Lib.hid hc
  have HSame := Lib.hid hsame
  clear hc hcm hR hsame
  go_enter Try.func60, Try.ntmps60
  go_wp2_with fail
  refine HC.out.mono ?_
  rintro e w1 ⟨rfl, ⟨fz', hR1⟩, hM1⟩
  obtain ⟨-, c1, c2, c3, -, -, -, hfr⟩ := rhead_cells hR1.head
  have f1 := hfr 1
  have f3 := hfr 3
  obtain ⟨a, cap, rfl, -⟩ := hR1.now.row.form
  have HR1 := Lib.hid hR1
  have HM1 := Lib.hid hM1
  clear hR1 hM1 hfr
  cases ok with
  | false =>
    rw [show errDown false = 3 from rfl]
    go_wp2_with fail
    go_ret
    exact ⟨rfl, RefAt.outOf HR1.out (fun k hk => .inl hk) HM1.out⟩
  | true =>
    rw [show errDown true = 0 from rfl]
    go_wp2_with fail
    go_ret
    have hM2 : Mod (fun k => k = q) w1 ((w1.setCell ⟨q, 1, none⟩ (.slice a Ln.length cap)).setCell ⟨q, 3, none⟩ (.slice none 0 0)) := (mod_p 1 _).trans (mod_p 3 _)
    have hT : ∀ k, T k → ((w1.setCell ⟨q, 1, none⟩ (.slice a Ln.length cap)).setCell ⟨q, 3, none⟩ (.slice none 0 0)).heap[k]? = w1.heap[k]? := fun k hk => hM2.block k (HR1.out.lt k hk) fun e => HR1.out.out (e ▸ hk)
    have hN : RF T ((w1.setCell ⟨q, 1, none⟩ (.slice a Ln.length cap)).setCell ⟨q, 3, none⟩ (.slice none 0 0)) (.slice a Ln.length cap) Ln un := HR1.out.now.move hT fun _ h => h
    refine ⟨rfl, RefAt.outOf (T := T) (sv := .slice a Ln.length cap) (nv := .slice a Ln.length cap) (wv := .slice none 0 0) (fused := fu) (fz := fz') (Ls := Ln) (Ln := Ln) (us := un) (un := un) (uw := []) ⟨?_, HR1.out.fz, hN, ?_, hN, HR1.out.eqn, Row.nil _ _ _, rfl, fun i x u hx => by simp at hx, fun k hk => by simp [Value.ownBlock] at hk, HR1.out.out, fun k hk => Nat.lt_of_lt_of_le (HR1.out.lt k hk) hM2.size⟩ (fun k hk => .inl hk) (HM1.out.trans hM2)⟩
    · exact heap_setCell_same _ q 3 _ _ _ (rhead_set HR1.out.head 1 _)
    · show filesOf Ln = d.now
      rw [HR1.out.eqn, HSame.out.1]

theorem rremove (h : RefOwn T w q d) (name : ByteArray) (hn : name.size ≤ maxLen) (hf1 : d.fuse ≤ 1000000000000) (hpd : d.pend.length ≤ 1000000) (ht : total d.now ≤ 1000000000000) (hsz : Maps.size d.now ≤ 1000000) :
    Calls Try.prog 62 #[.pointer (some ⟨q, 0, none⟩), .string name] w fun e w' => e = .returned (.int .i64 (removeM d name).1) ∧ RefOut T w w' q (removeM d name).2 := by
  obtain ⟨sv, nv, wv, fu, fz, Ls, Ln, us, un, uw, hR⟩ := h
  have hc := rcounts hR hf1
  have hsame := countsM_same d
  unfold removeM
  have heq := hR.eqn
  obtain ⟨ok, d1, hcm⟩ : ∃ ok d1, countsM d = (ok, d1) := ⟨_, _, rfl⟩
  rw [hcm] at hc hsame ⊢
  simp only at hc hsame ⊢
  rw [← hsame.1] at ht hsz heq ⊢
  rw [← hsame.2.2.1] at hpd
  have hcase := has_find Ln name
  rw [heq] at hcase
  have HC := Lib.hid hc
  clear hc hcm hR hsame heq
  cases ok with
  | false =>
    simp only [Bool.false_eq_true, if_false]
    go_enter Try.func62, Try.ntmps62
    go_wp2_with fail
    refine HC.out.mono ?_
    rintro e w1 ⟨rfl, ⟨fz', hR1⟩, hM1⟩
    rw [show errDown false = 3 from rfl]
    have HR1 := Lib.hid (And.intro hR1 hM1)
    clear hR1 hM1
    go_wp2_with fail
    go_ret
    exact ⟨rfl, RefAt.outOf HR1.out.1 (fun k hk => .inl hk) HR1.out.2⟩
  | true =>
    simp only [if_true]
    rcases hcase with ⟨hlt, hh, -⟩ | ⟨i, x, hi, hx, hh, hgx⟩
    · rw [hh]
      simp only [Bool.false_eq_true, if_false]
      obtain ⟨fi, hfi⟩ : ∃ fi, findL Ln name = fi := ⟨_, rfl⟩
      rw [hfi] at hlt
      go_enter Try.func62, Try.ntmps62
      go_wp2_with fail
      refine HC.out.mono ?_
      rintro e w1 ⟨rfl, ⟨fz', hR1⟩, hM1⟩
      rw [show errDown true = 0 from rfl]
      obtain ⟨-, -, c2, -⟩ := rhead_cells hR1.head
      obtain ⟨a, cap, rfl, -⟩ := hR1.now.row.form
      have hfd := rfind hR1.now name
      rw [hfi] at hfd
      have HFd := Lib.hid hfd
      have HR1 := Lib.hid (And.intro hR1 hM1)
      clear hR1 hM1 hfd hfi hh
      go_wp2_with fail
      refine HFd.out.mono ?_
      rintro e w2 ⟨rfl, rfl⟩
      go_wp2_with fail
      go_ret
      exact ⟨rfl, RefAt.outOf HR1.out.1 (fun k hk => .inl hk) HR1.out.2⟩
    · rw [hh]
      simp only [if_true]
      go_enter Try.func62, Try.ntmps62
      go_wp2_with fail
      refine HC.out.mono ?_
      rintro e w1 ⟨rfl, ⟨fz', hR1⟩, hM1⟩
      rw [show errDown true = 0 from rfl]
      obtain ⟨-, -, c2, -⟩ := rhead_cells hR1.head
      obtain ⟨a, cap, rfl, -⟩ := hR1.now.row.form
      have hfd := rfind hR1.now name
      rw [hi] at hfd
      have HFd := Lib.hid hfd
      have HDo := Lib.hid (rdoes hR1 ⟨3, name, ⟨#[]⟩, [], 0⟩ (.slice none 0 0) (Bts.nil _ _) ⟨hn, Nat.zero_le _, hsz, .inr (.inr (.inr rfl))⟩ ht hpd)
      rw [does_removed] at HDo
      have HR1 := Lib.hid (And.intro hR1 hM1)
      clear hR1 hM1 hfd hi hh hx hgx
      go_wp2_with fail
      refine HFd.out.mono ?_
      rintro e w2 ⟨rfl, rfl⟩
      clear HFd
      go_wp2_with fail
      refine HDo.out.mono ?_
      rintro e w3 ⟨rfl, ho⟩
      have HO := Lib.hid ho
      clear ho HDo
      go_wp2_with fail
      go_ret
      exact ⟨rfl, HO.out.behind HR1.out.2⟩
theorem rrename (h : RefOwn T w q d) (name to_ : ByteArray) (hn : name.size ≤ maxLen) (hto : to_.size ≤ maxLen) (hf1 : d.fuse ≤ 1000000000000) (hpd : d.pend.length ≤ 1000000) (ht : total d.now ≤ 1000000000000) (hsz : Maps.size d.now ≤ 1000000) :
    Calls Try.prog 70 #[.pointer (some ⟨q, 0, none⟩), .string name, .string to_] w fun e w' => e = .returned (.int .i64 (renameM d name to_).1) ∧ RefOut T w w' q (renameM d name to_).2 := by
  obtain ⟨sv, nv, wv, fu, fz, Ls, Ln, us, un, uw, hR⟩ := h
  have hc := rcounts hR hf1
  have hsame := countsM_same d
  have HNm := Lib.hid (fun w => rname to_ w)
  unfold renameM
  have heq := hR.eqn
  obtain ⟨ok, d1, hcm⟩ : ∃ ok d1, countsM d = (ok, d1) := ⟨_, _, rfl⟩
  rw [hcm] at hc hsame ⊢
  simp only at hc hsame ⊢
  rw [← hsame.1] at ht hsz heq ⊢
  rw [← hsame.2.2.1] at hpd
  have hcase := has_find Ln name
  rw [heq] at hcase
  have HC := Lib.hid hc
  clear hc hcm hR hsame heq
  cases ok with
  | false =>
    simp only [Bool.false_eq_true, if_false]
    go_enter Try.func70, Try.ntmps70
    go_wp2_with fail
    refine HC.out.mono ?_
    rintro e w1 ⟨rfl, ⟨fz', hR1⟩, hM1⟩
    rw [show errDown false = 3 from rfl]
    have HR1 := Lib.hid (And.intro hR1 hM1)
    clear hR1 hM1
    go_wp2_with fail
    go_ret
    exact ⟨rfl, RefAt.outOf HR1.out.1 (fun k hk => .inl hk) HR1.out.2⟩
  | true =>
    simp only [if_true]
    generalize namedB to_ = nm at HNm
    cases nm with
    | false =>
      go_enter Try.func70, Try.ntmps70
      go_wp2_with fail
      refine HC.out.mono ?_
      rintro e w1 ⟨rfl, ⟨fz', hR1⟩, hM1⟩
      rw [show errDown true = 0 from rfl]
      have HR1 := Lib.hid (And.intro hR1 hM1)
      clear hR1 hM1
      go_wp2_with fail
      refine (HNm.out _).mono ?_
      rintro e w2 ⟨rfl, rfl⟩
      go_wp2_with fail
      go_ret
      exact ⟨rfl, RefAt.outOf HR1.out.1 (fun k hk => .inl hk) HR1.out.2⟩
    | true =>
      simp only [if_true]
      rcases hcase with ⟨hlt, hh, -⟩ | ⟨i, x, hi, hx, hh, hgx⟩
      · rw [hh]
        simp only [Bool.false_eq_true, if_false]
        obtain ⟨fi, hfi⟩ : ∃ fi, findL Ln name = fi := ⟨_, rfl⟩
        rw [hfi] at hlt
        go_enter Try.func70, Try.ntmps70
        go_wp2_with fail
        refine HC.out.mono ?_
        rintro e w1 ⟨rfl, ⟨fz', hR1⟩, hM1⟩
        rw [show errDown true = 0 from rfl]
        obtain ⟨-, -, c2, -⟩ := rhead_cells hR1.head
        obtain ⟨a, cap, rfl, -⟩ := hR1.now.row.form
        have hfd := rfind hR1.now name
        rw [hfi] at hfd
        have HFd := Lib.hid hfd
        have HR1 := Lib.hid (And.intro hR1 hM1)
        clear hR1 hM1 hfd hfi hh
        go_wp2_with fail
        refine (HNm.out _).mono ?_
        rintro e w2 ⟨rfl, rfl⟩
        go_wp2_with fail
        refine HFd.out.mono ?_
        rintro e w2 ⟨rfl, rfl⟩
        go_wp2_with fail
        go_ret
        exact ⟨rfl, RefAt.outOf HR1.out.1 (fun k hk => .inl hk) HR1.out.2⟩
      · rw [hh]
        simp only [if_true]
        go_enter Try.func70, Try.ntmps70
        go_wp2_with fail
        refine HC.out.mono ?_
        rintro e w1 ⟨rfl, ⟨fz', hR1⟩, hM1⟩
        rw [show errDown true = 0 from rfl]
        obtain ⟨-, -, c2, -⟩ := rhead_cells hR1.head
        obtain ⟨a, cap, rfl, -⟩ := hR1.now.row.form
        have hfd := rfind hR1.now name
        rw [hi] at hfd
        have HFd := Lib.hid hfd
        have HDo := Lib.hid (rdoes hR1 ⟨2, name, to_, [], 0⟩ (.slice none 0 0) (Bts.nil _ _) ⟨hn, hto, hsz, .inr (.inr (.inl rfl))⟩ ht hpd)
        rw [does_renamed] at HDo
        have HR1 := Lib.hid (And.intro hR1 hM1)
        clear hR1 hM1 hfd hi hh hx hgx
        go_wp2_with fail
        refine (HNm.out _).mono ?_
        rintro e w2 ⟨rfl, rfl⟩
        go_wp2_with fail
        refine HFd.out.mono ?_
        rintro e w2 ⟨rfl, rfl⟩
        clear HFd
        go_wp2_with fail
        refine HDo.out.mono ?_
        rintro e w3 ⟨rfl, ho⟩
        have HO := Lib.hid ho
        clear ho HDo
        go_wp2_with fail
        go_ret
        exact ⟨rfl, HO.out.behind HR1.out.2⟩
end
end Go.Proofs.Ytpkmnfpbcakflaa
