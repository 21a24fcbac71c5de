/- What the laws of chapter 2 share: a disk apart from blocks that hold parts. No condition. -/
import Derived.Test.YtpkmnfpbcakflaaLaw
import Derived.Test.YtpkmnfpbcakflaaDKnown
namespace Go.Proofs.Ytpkmnfpbcakflaa
open Go.ChangeShapes Go.WideShapes Go.ChangeAt Go.RowKit

theorem PartsIn.below {w w' : World} {a : Option Addr} {n : Nat} {xs : List (List Int)} (h : PartsIn w a n xs) (hB : Below w.heap.size w w') : PartsIn w' a n xs := by
  refine ⟨h.1, fun i x hx => ?_⟩
  obtain ⟨⟨bk, off, ha, ab, cb, hc, h1, h2, h3⟩, hb⟩ := h.2 i x hx
  exact ⟨⟨bk, off, ha, ab, cb, (hB.cell (p := ⟨bk, off + i, none⟩) (World.block_lt_of_cell? _ _ hc)).trans hc, h1, h2, h3.below hB⟩, hb⟩
/-- parts in blocks of X -/
structure PtX (X : Nat → Prop) (w : World) (a : Option Addr) (i : Nat) (x : List Int) : Prop where
  ex : ∃ bk off ab cb, a = some ⟨bk, off, none⟩ ∧ X bk ∧ bk < w.heap.size ∧ w.cell? ⟨bk, off + i, none⟩ = some (.slice ab x.length cb) ∧ x.length ≤ cb ∧ cb ≤ maxLen ∧ Src w 1 (.slice ab x.length cb) x.length (byteCells x) ∧ (0 < x.length → ∀ k, (Value.slice ab x.length cb).ownBlock = some k → X k)
  bytes : ∀ n ∈ x, 0 ≤ n ∧ n < 256
theorem PtX.of {X : Nat → Prop} {lo : Nat} {w w' : World} {a : Option Addr} {i : Nat} {x : List Int} (h : PtF lo w a i x) (hB : Below w.heap.size w w') (hX : ∀ k, lo ≤ k → k < w.heap.size → X k) : PtX X w' a i x := by
  obtain ⟨⟨bk, off, ha, hlo, hlt, ab, cb, hc, h1, h2, h3, h4⟩, hb⟩ := h
  exact ⟨⟨bk, off, ab, cb, ha, hX bk hlo hlt, Nat.lt_of_lt_of_le hlt hB.size, (hB.cell (p := ⟨bk, off + i, none⟩) hlt).trans hc, h1, h2, h3.below hB, fun h0 k hk => hX k (h4 h0 k hk).1 (h4 h0 k hk).2⟩, hb⟩
theorem Keep.cellX {X : Nat → Prop} {w w' : World} (h : Keep X w w') {bk j : Nat} (hk : X bk) (hl : bk < w.heap.size) : w'.cell? ⟨bk, j, none⟩ = w.cell? ⟨bk, j, none⟩ :=
  World.cell?_of_block (a := ⟨bk, j, none⟩) (h.block bk hl fun e => e hk)

theorem grown_some (F : List Int) (l : List (List Int)) : grown (some F) l = some (F ++ l.flatten) := by
  cases l <;> simp [grown]
theorem cut_nil (o : Option (List Int)) (k : Nat) (torn : Int) : cutO o [] k torn = o := by
  simp [cutO, grown]
theorem cut_pre (F : List Int) (l : List (List Int)) (k : Nat) (torn : Int) : ∃ t, t ≤ l.flatten.length ∧ cutO (some F) l k torn = some (F ++ l.flatten.take t) := by
  have hsp : l.flatten = (l.take k).flatten ++ (l.drop k).flatten := by rw [← List.flatten_append, List.take_append_drop]
  unfold cutO
  cases hk : l[k]? with
  | none =>
    refine ⟨(l.take k).flatten.length, by rw [hsp, List.length_append]; omega, ?_⟩
    show grown (some F) (l.take k) = _
    rw [grown_some, hsp, List.take_left]
  | some b =>
    have hlt : k < l.length := (List.getElem?_eq_some_iff.1 hk).1
    have hx : l[k] = b := (List.getElem?_eq_some_iff.1 hk).2
    have hd : (l.drop k).flatten = b ++ (l.drop (k + 1)).flatten := by rw [List.drop_eq_getElem_cons hlt, hx]; rfl
    simp only
    split
    · refine ⟨(l.take k).flatten.length + min (pickV torn b.length).toNat b.length, by rw [hsp, hd]; simp only [List.length_append]; omega, ?_⟩
      rw [grown_some, hsp, hd, List.take_length_add_append, List.take_append_of_le_length (by omega), Option.getD_some, List.append_assoc]
      congr 3
      rw [List.take_eq_take_iff]; omega
    · refine ⟨(l.take k).flatten.length, by rw [hsp, List.length_append]; omega, ?_⟩
      rw [grown_some, hsp, List.take_left]

section
variable {X : Nat → Prop} {wa w : World} {p : Nat} {s : ByteArray} {room : Int} {o : Option (List Int)} {l : List (List Int)} {fuse : Int} {down : Bool}
theorem StK.appP (h : StK X wa w p (oneDk s room o l fuse false)) (ab : Option Addr) (cb : Nat) (x : List Int) (hsrc : Src wa 1 (.slice ab x.length cb) x.length (byteCells x)) (hX : 0 < x.length → ∀ k, (Value.slice ab x.length cb).ownBlock = some k → X k) (hs : namedB s = true) (hsl : s.size ≤ maxLen) (hf : fuse = -1 ∨ 0 < fuse) (hf1 : fuse ≤ 1000000000000) (hroom : room ≤ 8388608)
    (hfit : ((o.getD []).length + l.flatten.length + x.length : Nat) ≤ room) (hpd : l.length ≤ 1000000) (hb : ∀ n ∈ x, 0 ≤ n ∧ n < 256) :
    Calls Try.prog 18 #[.pointer (some ⟨p, 0, none⟩), .string s, .slice ab x.length cb] w fun e w' => e = .returned (.int .i64 0) ∧ StK X wa w' p (oneDk s room o (l ++ [x]) (nf fuse) false) :=
  (app_one _ p s room o l fuse _ _ _ _ x h.1 hs hsl hf hf1 hroom hfit hpd rfl (hsrc.mod h.2 fun h0 k hk hn => hn (hX h0 k hk)) hX hb).mono fun _ _ ⟨he, hD, hK⟩ => ⟨he, StK.keep h.2 hD hK⟩
theorem StK.sync (h : StK X wa w p (oneDk s room o l fuse false)) (hf : fuse = -1 ∨ 0 < fuse) (hf1 : fuse ≤ 1000000000000) :
    Calls Try.prog 21 #[.pointer (some ⟨p, 0, none⟩)] w fun e w' => e = .returned (.int .i64 0) ∧ StK X wa w' p (oneDk s room (grown o l) [] (nf fuse) false) :=
  (sync_one _ p s room o l fuse w h.1 hf hf1).mono fun _ _ ⟨he, hD, hK⟩ => ⟨he, StK.keep h.2 hD hK⟩
theorem StK.crash (keep torn : Int) (h : StK X wa w p (oneDk s room o l fuse down)) (hsl : s.size ≤ maxLen) (hpd : l.length ≤ 1000000) (hfit : (o.getD []).length + l.flatten.length ≤ 1000000000) (k : Nat) (hk : pickV keep (l.length + 1) = k) (hkl : k ≤ l.length) :
    Calls Try.prog 19 #[.pointer (some ⟨p, 0, none⟩), .int .i64 keep, .int .i64 torn] w fun e w' => e = .returned (.int .i64 k) ∧ StK X wa w' p (oneDk s room (cutO o l k torn) [] (-1) false) :=
  (crash_one _ p s room o l fuse down w keep torn h.1 hsl hpd hfit k hk hkl).mono fun _ _ ⟨he, hD, hK⟩ => ⟨he, StK.keep h.2 hD hK⟩
end
end Go.Proofs.Ytpkmnfpbcakflaa
