/- The walks of wal's Open on a disk without a journal's file. No condition. -/
import Derived.Test.YtpkmnfpbcakflaaWRLog
import Derived.Test.YtpkmnfpbcakflaaWNamed
import Derived.Test.YtpkmnfpbcakflaaNm
import Derived.Test.YtpkmnfpbcakflaaOneOps
namespace Go.Proofs.Ytpkmnfpbcakflaa
open Go.ChangeShapes Go.WideShapes Go.ChangeAt Go.RowKit Go.Sort

theorem wopen_nil (a : Int) (w : World) : Calls Try.prog 39 #[.pointer none, .int .u64 a] w fun e w' => e = .returned (.tuple #[.pointer none, .slice none 0 0, .int .i64 1]) ∧ w = w' := by
  go_enter Try.func39, Try.ntmps39
  go_wp2
  go_ret3
  exact ⟨rfl, rfl⟩
theorem wopen_big (p : Nat) (w : World) : Calls Try.prog 39 #[.pointer (some ⟨p, 0, none⟩), .int .u64 1099511627777] w fun e w' => e = .returned (.tuple #[.pointer none, .slice none 0 0, .int .i64 1]) ∧ w = w' := by
  go_enter Try.func39, Try.ntmps39
  go_wp2
  go_ret3
  exact ⟨rfl, rfl⟩

/-- the journal's file -/
abbrev nm5 : ByteArray := nameN 5
theorem nm5_size : nm5.size = 16 := by unfold nm5 nameN; rw [if_neg (by omega), bytesN_size]; simp [digs_len]
/-- the disk between the calls: o its one file, synced -/
def wd (o : Option (List Int)) : Dk := oneDk nm5 8388608 o [] (-1) false
theorem wd_now (o : Option (List Int)) : (wd o).now = oneF nm5 o := rfl
theorem names_wd {X : Nat → Prop} {w : World} {p : Nat} (o : Option (List Int)) (h : DiskOwn X w p (wd o)) :
    Calls Try.prog 26 #[.pointer (some ⟨p, 0, none⟩)] w fun e w' => NamesOut w w' e (strKeys (oneF nm5 o)) := by
  obtain ⟨hX, S, bs, bn, vp, us, hD, hf⟩ := h
  exact names_up S p 8388608 bs bn vp (-1) (oneF nm5 o) w hD.head hD.now (by have := one_size nm5 o; omega)
/-- a Log in memory beside its disk: w0's blocks are as they were -/
def JS (w0 w : World) (p : Nat) (d : Dk) (l : Nat) (fs : List ByteArray) (last : Int) : Prop :=
  ∃ (X : Nat → Prop) (v : Value), (∀ k, k < w0.heap.size → X k) ∧ DiskOwn X w p d ∧ Below w0.heap.size w0 w ∧ X l ∧ w0.heap.size ≤ l ∧ LogAt w l p v last ∧ Row w 9 1 v fs.length (fs.map Value.string) ∧ ∀ k, v.ownBlock = some k → X k
theorem JS.st {w0 w : World} {p : Nat} {d : Dk} {l : Nat} {fs : List ByteArray} {last : Int} (h : JS w0 w p d l fs last) : St w0 w p d := by
  obtain ⟨X, v, hX, hD, hB, -⟩ := h
  exact ⟨hD.fewer hX, hB⟩
theorem JS.below {w0 w w' : World} {p : Nat} {d : Dk} {l : Nat} {fs : List ByteArray} {last : Int} (h : JS w0 w p d l fs last) (hB' : Below w.heap.size w w') : JS w0 w' p d l fs last := by
  obtain ⟨X, v, hX, hD, hB, hl, hlw, hL, hR, hv⟩ := h
  exact ⟨X, v, hX, hD.below hB', hB.trans (hB'.mono hB.size), hl, hlw, hL.below hB', hR.of_block fun k hk => hB'.block k (hR.lt hk), hv⟩
/-- a store of the last epoch -/
theorem LogAt.last {w : World} {l p : Nat} {v : Value} {last : Int} (h : LogAt w l p v last) (n : Int) : LogAt (w.setCell ⟨l, 2, none⟩ (.int .u64 n)) l p v n := ⟨heap_setCell_same _ l 2 _ _ _ h.b⟩
theorem LogAt.files {w : World} {l p : Nat} {v : Value} {last : Int} (h : LogAt w l p v last) (u : Value) : LogAt (w.setCell ⟨l, 1, none⟩ u) l p u last := ⟨heap_setCell_same _ l 1 _ _ _ h.b⟩
theorem Row.notLog {w : World} {l p : Nat} {v x : Value} {last : Int} {e : TypeId} {size n : Nat} {xs : List Value} (hR : Row w e size x n xs) (h : LogAt w l p v last) (he : 104 ≠ e) : x.ownBlock ≠ some l := row_not hR h.b he
/-- a Sync of it -/
theorem sync_wd {X : Nat → Prop} {w : World} {p : Nat} (o : Option (List Int)) (h : DiskOwn X w p (wd o)) :
    Calls Try.prog 21 #[.pointer (some ⟨p, 0, none⟩)] w fun e w' => e = .returned (.int .i64 0) ∧ DiskOwn X w' p (wd o) ∧ Keep X w w' :=
  (sync_one X p nm5 8388608 o [] (-1) w h (.inl rfl) (by decide)).mono fun e w' ⟨he, hD, hK⟩ => ⟨he, hD, hK⟩
set_option maxRecDepth 100000 in
set_option maxHeartbeats 8000000 in
theorem wopen_none {w0 w : World} {p : Nat} (h : St w0 w p (wd none)) (after : Nat) (ha : after ≤ 1099511627776) :
    Calls Try.prog 39 #[.pointer (some ⟨p, 0, none⟩), .int .u64 after] w fun e w' => ∃ l, e = .returned (.tuple #[.pointer (some ⟨l, 0, none⟩), .slice none 0 0, .int .i64 0]) ∧ JS w0 w' p (wd none) l [] after := by
  have hB1 := (Below.refl w.heap.size w).alloc (Nat.le_refl _) (.cells #[.pointer (some ⟨p, 0, none⟩), .slice none 0 0, .int .u64 0] 104)
  have hL1 : LogAt (w.alloc (.cells #[.pointer (some ⟨p, 0, none⟩), .slice none 0 0, .int .u64 0] 104)) w.heap.size p (.slice none 0 0) 0 := ⟨heap_alloc_new w _⟩
  have HN := Lib.hid (names_wd none (h.1.below hB1))
  have HB1 := Lib.hid hB1
  have HL1 := Lib.hid hL1
  have HH := Lib.hid h
  clear h hB1 hL1
  go_enter Try.func39, Try.ntmps39
  go_wp2_with fail
  refine HN.out.mono ?_
  rintro e w2 ⟨v, rfl, hRv, -, hB2⟩
  have hss : strKeys (oneF nm5 none) = [] := rfl
  rw [hss] at hRv
  obtain ⟨av, cv, rfl, -⟩ := hRv.form
  rw [show ([] : List (List UInt8)).length = 0 from rfl] at hRv ⊢
  have HB2 := Lib.hid (HB1.out.trans (hB2.mono HB1.out.size))
  have HL2 := Lib.hid (HL1.out.below hB2)
  clear hRv hB2 hss HN HL1
  go_wp2_with fail
  go_loopw [29] (fun i W => i = .int .i64 0 ∧ w2 = W) (fun _ _ => 0)
  case atStart => exact ⟨rfl, rfl⟩
  case round =>
    obtain ⟨rfl, rfl⟩ := hrel
    have HR := Lib.hid (wrlog_none _ none 0 0 HL2.out)
    go_wp2_with fail
    refine HR.out.mono ?_
    rintro e w3 ⟨rfl, rfl⟩
    obtain ⟨l0, l1, l2, lf⟩ := HL2.out.cells
    have lf2 := lf 2
    clear HR
    go_wp2_with fail
    have hD3 : DiskOwn (More (fun k => k < w0.heap.size) w w2) (w2.setCell ⟨w.heap.size, 2, none⟩ (.int .u64 after)) p (wd none) := (HH.out.1.more HB2.out).cell (.inr ⟨Nat.le_refl _, HL2.out.lt⟩) 2 _
    have hL3 := HL2.out.last after
    have hB3 : Below w0.heap.size w0 (w2.setCell ⟨w.heap.size, 2, none⟩ (.int .u64 after)) := (HH.out.2.trans (HB2.out.mono HH.out.2.size)).setCell (p := ⟨w.heap.size, 2, none⟩) HH.out.2.size _
    have hlm : More (fun k => k < w0.heap.size) w w2 w.heap.size := .inr ⟨Nat.le_refl _, HL2.out.lt⟩
    clear l0 l1 l2 lf lf2
    generalize w2.setCell ⟨w.heap.size, 2, none⟩ (.int .u64 after) = W3 at *
    obtain ⟨l0, l1, l2, lf⟩ := hL3.cells
    have HZ := Lib.hid (And.intro hD3 (And.intro hL3 (And.intro hB3 hlm)))
    have HSy := Lib.hid (sync_wd none hD3)
    clear hD3 hL3 hB3 hlm lf
    go_loopw [12, 60] (fun t i W => t = .slice none 0 0 ∧ i = .int .i64 0 ∧ W3 = W) (fun _ _ _ => 0)
    case atStart => exact ⟨rfl, rfl, rfl⟩
    case round =>
      obtain ⟨rfl, rfl, rfl⟩ := hrel
      go_wp2_with fail
      refine HSy.out.mono ?_
      rintro e w4 ⟨rfl, hD4, hK4⟩
      have H4 := Lib.hid (And.intro hD4 hK4)
      clear hD4 hK4 HSy l0 l1 l2
      go_wp2_with fail
      go_ret3
      have hL := HZ.out.2.1
      refine ⟨w.heap.size, rfl, _, .slice none 0 0, fun k hk => .inl hk, H4.out.1, HZ.out.2.2.1.trans (H4.out.2.below (fun k hk => .inl hk) HZ.out.2.2.1.size), HZ.out.2.2.2, HH.out.2.size, ⟨(H4.out.2.block _ hL.lt (fun e => e HZ.out.2.2.2)).trans hL.b⟩, Row.nil _ _ _, by simp [Value.ownBlock]⟩
end Go.Proofs.Ytpkmnfpbcakflaa
