/- A disk that was made behind world w0, and the calls on it. No condition. -/
import Derived.Test.YtpkmnfpbcakflaaOneOps
import Derived.Lib.SlBytesConst
namespace Go.Proofs.Ytpkmnfpbcakflaa
open Go.ChangeShapes Go.WideShapes Go.ChangeAt Go.RowKit

/-- a disk of blocks made behind w0, and w0's blocks as they were -/
def St (w0 w : World) (p : Nat) (d : Dk) : Prop := DiskOwn (fun k => k < w0.heap.size) w p d ∧ Below w0.heap.size w0 w
theorem St.of_new {w0 w w' : World} {e : Ending} {room : Int} (hB : Below w0.heap.size w0 w) (h : NewDisk w w' e room) : ∃ p, e = .returned (.tuple #[.pointer (some ⟨p, 0, none⟩), .int .i64 0]) ∧ St w0 w' p (emptyDk room) ∧ w.heap.size ≤ p := by
  obtain ⟨p, he, hD, hp, hB2⟩ := h
  exact ⟨p, he, ⟨hD.fewer fun k hk => Nat.lt_of_lt_of_le hk hB.size, hB.trans (hB2.mono hB.size)⟩, hp⟩
theorem St.keep {w0 w w' : World} {p : Nat} {d' : Dk} (hB : Below w0.heap.size w0 w) (hD : DiskOwn (fun k => k < w0.heap.size) w' p d') (hK : Keep (fun k => k < w0.heap.size) w w') : St w0 w' p d' :=
  ⟨hD, hB.trans (hK.below (fun _ h => h) hB.size)⟩
theorem St.keepMore {w0 w w1 w' : World} {p : Nat} {d' : Dk} (hB : Below w0.heap.size w0 w) (hA : Below w.heap.size w w1) (hD : DiskOwn (More (fun k => k < w0.heap.size) w w1) w' p d') (hK : Keep (More (fun k => k < w0.heap.size) w w1) w1 w') : St w0 w' p d' :=
  ⟨hD.fewer fun _ h => .inl h, (hB.trans (hA.mono hB.size)).trans (hK.below (fun _ h => .inl h) (Nat.le_trans hB.size hA.size))⟩
theorem St.below {w0 w w' : World} {p : Nat} {d : Dk} (h : St w0 w p d) (hB : Below w.heap.size w w') : St w0 w' p d := ⟨h.1.below hB, h.2.trans (hB.mono h.2.size)⟩

/-- a constant's bytes: a new block, and what is appended of it -/
theorem src_const (w : World) (cs : Array Value) (fr : Nat × Nat) (n : Nat) (b : List Int) (hn : b.length = n) (hcs : cs.toList = byteCells b) :
    Src (w.alloc (.cells cs 5 fr)) 1 (.slice (some ⟨w.heap.size, 0, none⟩) n n) n (byteCells b) := by
  rw [← hcs]
  refine Src.of_block (heap_alloc_new w _) n n ?_ (by rw [hcs]; exact byteCells_one b)
  have : cs.toList.length = (byteCells b).length := by rw [hcs]
  rw [byteCells_len] at this
  simpa [hn] using this

section
variable {w0 w : World} {p : Nat} {s : ByteArray} {room : Int} {o : Option (List Int)} {l : List (List Int)} {fuse : Int} {down : Bool}
theorem St.appC (h : St w0 w p (oneDk s room o l fuse false)) (cs : Array Value) (fr : Nat × Nat) (n : Nat) (b : List Int) (hn : b.length = n) (hcs : cs.toList = byteCells b) (hs : namedB s = true) (hsl : s.size ≤ maxLen) (hf : fuse = -1 ∨ 0 < fuse) (hf1 : fuse ≤ 1000000000000) (hroom : room ≤ 8388608)
    (hfit : ((o.getD []).length + l.flatten.length + b.length : Nat) ≤ room) (hpd : l.length ≤ 1000000) (hb : ∀ n ∈ b, 0 ≤ n ∧ n < 256) :
    Calls Try.prog 18 #[.pointer (some ⟨p, 0, none⟩), .string s, .slice (some ⟨w.heap.size, 0, none⟩) n n] (w.alloc (.cells cs 5 fr)) fun e w' => e = .returned (.int .i64 0) ∧ St w0 w' p (oneDk s room o (l ++ [b]) (nf fuse) false) := by
  have hA : Below w.heap.size w (w.alloc (.cells cs 5 fr)) := (Below.refl _ w).alloc (Nat.le_refl _) _
  refine (app_one _ p s room o l fuse _ _ n n b (h.1.more hA) hs hsl hf hf1 hroom hfit hpd hn (src_const w cs fr n b hn hcs) (fun _ k hk => .inr ?_) hb).mono fun e w' ⟨he, hD, hK⟩ => ⟨he, St.keepMore h.2 hA hD hK⟩
  simp [Value.ownBlock] at hk
  subst hk
  exact ⟨Nat.le_refl _, by simp⟩
theorem St.sync (h : St w0 w p (oneDk s room o l fuse false)) (hf : fuse = -1 ∨ 0 < fuse) (hf1 : fuse ≤ 1000000000000) :
    Calls Try.prog 21 #[.pointer (some ⟨p, 0, none⟩)] w fun e w' => e = .returned (.int .i64 0) ∧ St w0 w' p (oneDk s room (grown o l) [] (nf fuse) false) :=
  (sync_one _ p s room o l fuse w h.1 hf hf1).mono fun _ _ ⟨he, hD, hK⟩ => ⟨he, St.keep h.2 hD hK⟩
theorem St.crash (keep torn : Int) (h : St w0 w p (oneDk s room o l fuse down)) (hsl : s.size ≤ maxLen) (hpd : l.length ≤ 1000000) (hfit : (o.getD []).length + l.flatten.length ≤ 1000000000) (k : Nat) (hk : pickV keep (l.length + 1) = k) (hkl : k ≤ l.length) :
    Calls Try.prog 19 #[.pointer (some ⟨p, 0, none⟩), .int .i64 keep, .int .i64 torn] w fun e w' => e = .returned (.int .i64 k) ∧ St w0 w' p (oneDk s room (cutO o l k torn) [] (-1) false) :=
  (crash_one _ p s room o l fuse down w keep torn h.1 hsl hpd hfit k hk hkl).mono fun _ _ ⟨he, hD, hK⟩ => ⟨he, St.keep h.2 hD hK⟩
theorem St.read (h : St w0 w p (oneDk s room o l fuse down)) (hsl : s.size ≤ maxLen) (hfit : (o.getD []).length + l.flatten.length ≤ 1000000000) :
    Calls Try.prog 20 #[.pointer (some ⟨p, 0, none⟩), .string s] w fun e w' => ReadOut w w' e ((grown o l).isSome && !down) (o.getD [] ++ l.flatten) :=
  read_one _ p s room o l fuse down w h.1 hsl hfit
end
end Go.Proofs.Ytpkmnfpbcakflaa
