/- The walks of disk's New, Read, Sync, Append, Remove, Pending, Down and Fuse. No condition. -/
import Derived.Test.YtpkmnfpbcakflaaOps
namespace Go.Proofs.Ytpkmnfpbcakflaa
open Go.ChangeShapes Go.WideShapes Go.ChangeAt Go.RowKit

def emptyDk (room : Int) : Dk := ⟨room, .map [], .map [], [], -1, false⟩
def NewDisk (w w' : World) (e : Ending) (room : Int) : Prop :=
  ∃ p, e = .returned (.tuple #[.pointer (some ⟨p, 0, none⟩), .int .i64 0]) ∧ DiskOwn (fun k => k < w.heap.size) w' p (emptyDk room) ∧ w.heap.size ≤ p ∧ Below w.heap.size w w'

theorem new_disk (w : World) (room : Int) : DiskAt (fun _ => False) (((w.alloc (.map #[] 0)).alloc (.map #[] 0)).alloc (.cells (headOf room w.heap.size (w.heap.size + 1) (.slice none 0 0) (-1) false) 84)) (w.heap.size + 2) w.heap.size (w.heap.size + 1) (.slice none 0 0) [] (emptyDk room) where
  head := by
    have := heap_alloc_new ((w.alloc (.map #[] 0)).alloc (.map #[] 0)) (.cells (headOf room w.heap.size (w.heap.size + 1) (.slice none 0 0) (-1) false) 84)
    rw [show ((w.alloc (.map #[] 0)).alloc (.map #[] 0)).heap.size = w.heap.size + 2 by simp] at this
    exact this
  syn := ((FilesAt.made (fun _ => False) w).same (Below.heap_alloc _ _ _ (by simp)) (by simp)).same (Below.heap_alloc _ _ _ (by simp; omega)) (by simp)
  now := by
    have := FilesAt.made (fun _ => False) (w.alloc (.map #[] 0))
    rw [show (w.alloc (.map #[] 0)).heap.size = w.heap.size + 1 by simp] at this
    exact this.same (Below.heap_alloc _ _ _ (by simp)) (by simp)
  pend := Row.nil _ _ _
  len := rfl
  bts := by intro i x u h; simp [emptyDk] at h
  ne := by omega
  notp := by intro k h; simp [Value.ownBlock] at h
  out := ⟨id, id, id, fun _ _ h => h⟩
  lt := fun _ h => h.elim

theorem new_ok (room : Int) (h0 : 0 ≤ room) (h1 : room ≤ 8388608) (w : World) : Calls Try.prog 16 #[.int .i64 room] w fun e w' => NewDisk w w' e room := by
  have hmm := @run_makeMap Try.prog
  have t : decide ((8388608 : Int) < room) = false := by simp; omega
  go_enter Try.func16, Try.ntmps16
  go_wp2_with fail
  go_ret2
  have hB := (((Below.refl w.heap.size w).alloc (Nat.le_refl _) (.map #[] 0)).alloc (by simp) (.map #[] 0)).alloc (by simp; omega) (.cells (headOf room w.heap.size (w.heap.size + 1) (.slice none 0 0) (-1) false) 84)
  refine ⟨w.heap.size + 2, rfl, ⟨fun k hk => Nat.lt_of_lt_of_le hk hB.size, _, _, _, _, _, new_disk w room, fun k hk => ⟨id, by omega, by omega, by omega, by simp [Value.ownBlock]⟩⟩, by omega, hB⟩
theorem new_no (room : Int) (h : room < 0 ∨ 8388608 < room) (w : World) : Calls Try.prog 16 #[.int .i64 room] w fun e w' => e = .returned (.tuple #[.pointer none, .int .i64 1]) ∧ w = w' := by
  by_cases h0 : room < 0
  · clear h
    go_enter Try.func16, Try.ntmps16
    go_wp2_with fail
    go_ret2
    exact ⟨rfl, rfl⟩
  · have h1 : 8388608 < room := by omega
    clear h
    go_enter Try.func16, Try.ntmps16
    go_wp2_with fail
    go_ret2
    exact ⟨rfl, rfl⟩

theorem pending_own (X : Nat → Prop) (p : Nat) (d : Dk) (w : World) (h : DiskOwn X w p d) : Calls Try.prog 22 #[.pointer (some ⟨p, 0, none⟩)] w fun e w' => e = .returned (.int .i64 d.pend.length) ∧ w = w' := by
  obtain ⟨-, S, bs, bn, vp, us, hD, -⟩ := h
  obtain ⟨-, -, -, c3, -⟩ := hD.head.cells
  obtain ⟨a, cap, rfl, -⟩ := hD.pend.form
  clear hD
  go_enter Try.func22, Try.ntmps22
  go_wp2_with fail
  go_ret
  exact ⟨rfl, rfl⟩
theorem down_own (X : Nat → Prop) (p : Nat) (d : Dk) (w : World) (h : DiskOwn X w p d) : Calls Try.prog 24 #[.pointer (some ⟨p, 0, none⟩)] w fun e w' => e = .returned (.bool d.down) ∧ w = w' := by
  obtain ⟨-, S, bs, bn, vp, us, hD, -⟩ := h
  obtain ⟨-, -, -, -, -, c5, -⟩ := hD.head.cells
  clear hD
  go_enter Try.func24, Try.ntmps24
  go_wp2_with fail
  go_ret
  exact ⟨rfl, rfl⟩
def fuseV (n : Int) : Int := if -1 > n then -1 else n
theorem fuse_own (X : Nat → Prop) (p : Nat) (d : Dk) (n : Int) (w : World) (h : DiskOwn X w p d) : Calls Try.prog 23 #[.pointer (some ⟨p, 0, none⟩), .int .i64 n] w fun e w' => e = .returned (.tuple #[]) ∧ DiskOwn X w' p { d with fuse := fuseV n } ∧ Keep X w w' := by
  obtain ⟨hX, S, bs, bn, vp, us, hD, hf⟩ := h
  obtain ⟨-, -, -, -, c4, -, hfz⟩ := hD.head.cells
  have g4 := hfz 4
  have hmx : ∀ ts t w, (Builtin.max_ ts t #[.int .i64 n, .int .i64 (-1)]).run Try.prog w = .ok (.int .i64 (fuseV n)) w := fun ts t w => run_max_int2 w ts t .i64 .i64 n (-1)
  have HD := Lib.hid hD
  have HX := Lib.hid hX
  have HF := Lib.hid hf
  clear hfz hD hX hf
  go_enter Try.func23, Try.ntmps23
  go_wp2_with fail
  go_end0
  have hM := mod_p (p := p) (w := w) 4 (.int .i64 (fuseV n))
  exact ⟨rfl, ⟨fun k hk => Nat.lt_of_lt_of_le (HX.out k hk) hM.size, S, bs, bn, vp, us, HD.out.rehead hM _ _ _ (HD.out.head.set4 _), HF.out⟩, hM.mono fun k _ hk hx => (HF.out k hx).2.1 hk⟩

/-- Read's answer -/
def ReadYes (w w' : World) (e : Ending) (b : List Int) : Prop := ∃ v, e = .returned (.tuple #[v, .bool true]) ∧ Row w' 5 1 v b.length (byteCells b) ∧ (∀ k, v.ownBlock = some k → w.heap.size ≤ k) ∧ (∀ n ∈ b, 0 ≤ n ∧ n < 256) ∧ Below w.heap.size w w'
def ReadNo (w w' : World) (e : Ending) : Prop := e = .returned (.tuple #[.slice none 0 0, .bool false]) ∧ Below w.heap.size w w'
def ReadOut (w w' : World) (e : Ending) (there : Bool) (b : List Int) : Prop := match there with | true => ReadYes w w' e b | false => ReadNo w w' e

set_option maxHeartbeats 1000000 in
theorem read_own (X : Nat → Prop) (p : Nat) (d : Dk) (name : ByteArray) (w : World) (h : DiskOwn X w p d) (hn : name.size ≤ maxLen) (hlen : (getF d.now name).length ≤ 70368744177664) :
    Calls Try.prog 20 #[.pointer (some ⟨p, 0, none⟩), .string name] w fun e w' => ReadOut w w' e (hasF d.now name && !d.down) (getF d.now name) := by
  obtain ⟨-, S, bs, bn, vp, us, hD, -⟩ := h
  obtain ⟨i0, hi0, hz0, hz1, hz2⟩ := info_parts infoB
  obtain ⟨-, -, c2, -, -, c5, -⟩ := hD.head.cells
  obtain ⟨v0, hv0, hlook⟩ := hD.now.look name hn
  have l0 := (hlook w rfl).2
  clear hlook hD
  cases hh : hasF d.now name with
  | false =>
    rw [hh] at l0
    show Calls _ _ _ w fun e w' => ReadNo w w' e
    clear hh
    go_enter Try.func20, Try.ntmps20
    go_wp2_with fail
    go_ret2
    exact ⟨rfl, Below.refl _ _⟩
  | true =>
    rw [hh] at l0
    clear hh
    obtain ⟨a0, c0, rfl, hc1, hc2⟩ := hv0.ex
    cases hdn : d.down with
    | true =>
      rw [hdn] at c5
      show Calls _ _ _ w fun e w' => ReadNo w w' e
      clear hdn
      go_enter Try.func20, Try.ntmps20
      go_wp2_with fail
      go_ret2
      exact ⟨rfl, Below.refl _ _⟩
    | false =>
      rw [hdn] at c5
      show Calls _ _ _ w fun e w' => ReadYes w w' e _
      clear hdn
      have hsrc : Src (w.alloc (.cells #[] 5)) 1 (.slice a0 (getF d.now name).length c0) (getF d.now name).length (byteCells (getF d.now name)) := hv0.src.below ((Below.refl _ w).alloc (Nat.le_refl _) _)
      have hdst := Row.lit_at w 5 1 #[] 0 w.heap.size rfl (Nat.zero_le _) rfl
      have HBy := Lib.hid hv0.byte
      clear hv0
      go_enter Try.func20, Try.ntmps20
      go_wp2_with (at_builtin; refine wpList_append_row _ rfl _ _ 25 rfl 5 i0 _ 1 1 Try.underlying25 hi0 hz0 hz1 hz2 rfl (.slice (some ⟨w.heap.size, 0, none⟩) 0 0) 0 [] rfl hdst _ _ _ rfl hsrc (by unfold maxLen; omega) (by omega) (w.heap.size + 1) (by simp) ?_; intro a' cap' w2 hown2 hgrow hat)
      go_ret2
      refine ⟨_, rfl, by simpa using hown2, fun k hk => ?_, HBy.out, ((Below.refl _ w).alloc (Nat.le_refl _) _).grown hgrow (by simp) (by intro k hk; simp [Value.ownBlock] at hk; omega)⟩
      rcases hat k (by simpa using hk) with e | e
      · simp [Value.ownBlock] at e; omega
      · omega

def syncM (d : Dk) : Int × Dk := if (countsM d).1 then (0, { (countsM d).2 with syn := d.now, pend := [] }) else (3, (countsM d).2)
theorem countsM_same (d : Dk) : (countsM d).2.now = d.now ∧ (countsM d).2.syn = d.syn ∧ (countsM d).2.pend = d.pend ∧ (countsM d).2.room = d.room := by
  unfold countsM; split <;> exact ⟨rfl, rfl, rfl, rfl⟩
set_option maxHeartbeats 1000000 in
theorem sync_own (X : Nat → Prop) (p : Nat) (d : Dk) (w : World) (h : DiskOwn X w p d) (hf0 : -1 ≤ d.fuse) (hf1 : d.fuse ≤ 1000000000000) (hsz : Maps.size d.now ≤ 1000000) :
    Calls Try.prog 21 #[.pointer (some ⟨p, 0, none⟩)] w fun e w' => e = .returned (.int .i64 (syncM d).1) ∧ DiskOwn X w' p (syncM d).2 ∧ Keep X w w' := by
  obtain ⟨hX, S, bs, bn, vp, us, hD, hf⟩ := h
  unfold syncM
  have hc := counts_any S p bs bn vp us d w hD hf0 hf1
  have hsame := countsM_same d
  obtain ⟨ok, d1, hcm⟩ : ∃ ok d1, countsM d = (ok, d1) := ⟨_, _, rfl⟩
  rw [hcm] at hc hsame ⊢
  simp only at hc hsame ⊢
  have HC := Lib.hid hc
  have HX := Lib.hid hX
  have HF := Lib.hid hf
  have HSame := Lib.hid hsame
  clear hc hcm hX hf hsame hD
  go_enter Try.func21, Try.ntmps21
  go_wp2_with fail
  refine HC.out.mono ?_
  rintro e w1 ⟨rfl, hD1, hM1⟩
  have HD1 := Lib.hid hD1
  cases ok with
  | false =>
    clear hD1
    go_wp2_with fail
    go_ret
    exact ⟨rfl, ⟨fun k hk => Nat.lt_of_lt_of_le (HX.out k hk) hM1.size, S, bs, bn, vp, us, HD1.out, HF.out⟩, hM1.mono fun k _ hk hx => (HF.out k hx).2.1 hk⟩
  | true =>
    have hset := settle_any S p d1.room bs bn vp d1.fuse d1.down d1.now w1 hD1.head hD1.now hD1.lt hD1.out.1 (by rw [HSame.out.1]; exact hsz)
    have HSet := Lib.hid hset
    clear hD1 hset
    go_wp2_with fail
    refine HSet.out.mono ?_
    rintro e w2 ⟨rfl, hH2, hF2, hN2, hM2⟩
    go_wp2_with fail
    go_ret
    have hlt := HD1.out.lt
    have hbl := HD1.out.now.lt
    have hpl := HD1.out.head.lt
    refine ⟨rfl, ⟨fun k hk => Nat.lt_of_lt_of_le (HX.out k hk) (Nat.le_trans hM1.size hM2.size), S, w1.heap.size, bn, .slice none 0 0, [], ?_, fun k hk => ?_⟩, (hM1.trans hM2).mono fun k _ hk hx => (HF.out k hx).2.1 hk⟩
    · exact ⟨hH2, by rw [← HSame.out.1]; exact hF2, hN2, Row.nil _ _ _, rfl, by intro i x u h; simp at h, by omega, by intro k h; simp [Value.ownBlock] at h,
        ⟨HD1.out.out.1, fun e => by have := hlt _ e; omega, HD1.out.out.2.2.1, by intro k h; simp [Value.ownBlock] at h⟩, fun k e => Nat.lt_of_lt_of_le (hlt k e) hM2.size⟩
    · have h1 := HF.out k hk
      have h2 := HX.out k hk
      have h3 := hM1.size
      exact ⟨h1.1, h1.2.1, by omega, h1.2.2.2.1, by simp [Value.ownBlock]⟩
end Go.Proofs.Ytpkmnfpbcakflaa
