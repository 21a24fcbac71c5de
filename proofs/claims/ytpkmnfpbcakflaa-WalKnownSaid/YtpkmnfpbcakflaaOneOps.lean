/- The walks of disk's calls on a disk of one file. No condition. -/
import Derived.Test.YtpkmnfpbcakflaaOne
namespace Go.Proofs.Ytpkmnfpbcakflaa
open Go.ChangeShapes Go.WideShapes Go.ChangeAt Go.RowKit

def nf (fuse : Int) : Int := if 0 < fuse then fuse - 1 else fuse
theorem counts_one (s : ByteArray) (room : Int) (o : Option (List Int)) (l : List (List Int)) (fuse : Int) (h : fuse ≠ 0) : countsM (oneDk s room o l fuse false) = (true, oneDk s room o l (nf fuse) false) := by
  unfold countsM oneDk nf
  simp [h]
theorem counts_stop (s : ByteArray) (room : Int) (o : Option (List Int)) (l : List (List Int)) (fuse : Int) (down : Bool) (h : (down || fuse == 0) = true) : countsM (oneDk s room o l fuse down) = (false, oneDk s room o l fuse true) := by
  unfold countsM oneDk
  simp only at *
  rw [if_pos h]
theorem grown_nil (o : Option (List Int)) : grown o [] = o := rfl
theorem nf_minus : nf (-1) = -1 := rfl

section
variable (X : Nat → Prop) (p : Nat) (s : ByteArray) (room : Int) (o : Option (List Int)) (l : List (List Int)) (fuse : Int) (down : Bool) (w : World)

theorem app_one (ay : Option Addr) (m cy : Nat) (b : List Int) (h : DiskOwn X w p (oneDk s room o l fuse false)) (hs : namedB s = true) (hsl : s.size ≤ maxLen) (hf : fuse = -1 ∨ 0 < fuse) (hf1 : fuse ≤ 1000000000000) (hroom : room ≤ 8388608)
    (hfit : ((o.getD []).length + l.flatten.length + b.length : Nat) ≤ room) (hpd : l.length ≤ 1000000) (hm : b.length = m) (hsrc : Src w 1 (.slice ay m cy) m (byteCells b)) (hy : 0 < m → ∀ k, (Value.slice ay m cy).ownBlock = some k → X k) (hb : ∀ n ∈ b, 0 ≤ n ∧ n < 256) :
    Calls Try.prog 18 #[.pointer (some ⟨p, 0, none⟩), .string s, .slice ay m cy] w fun e w' => e = .returned (.int .i64 0) ∧ DiskOwn X w' p (oneDk s room o (l ++ [b]) (nf fuse) false) ∧ Keep X w w' := by
  have hc := counts_one s room o l fuse (by omega)
  have ht : total (oneDk s room o l fuse false).now = (o.getD []).length + l.flatten.length := by
    show total (oneF s (grown o l)) = _
    rw [one_total, grown_bytes, List.length_append]
  have hz : Maps.size (oneDk s room o l fuse false).now ≤ 1 := one_size _ _
  have hg : (getF (oneDk s room o l fuse false).now s).length = (o.getD []).length + l.flatten.length := by
    show (getF (oneF s (grown o l)) s).length = _
    rw [one_get, grown_bytes, List.length_append]
  have := append_ok X p (oneDk s room o l fuse false) s w ay m cy b h hsl (by rcases hf with e | e <;> simp only [oneDk] <;> omega) hf1 (by rw [hc]) hs (by rw [ht]; omega)
    (by simpa [oneDk, apps] using hpd) (by omega) (by rw [hg]; omega) (show room ≤ _ by omega) hm
    (by
      rintro (e | e)
      · rw [ht] at e
        have e2 : room < ((o.getD []).length + l.flatten.length : Nat) + (m : Nat) := e
        omega
      · omega) hsrc hy hb
  rw [hc, appended_one] at this
  exact this

theorem stop_one (ay : Option Addr) (m cy : Nat) (h : DiskOwn X w p (oneDk s room o l fuse down)) (hf0 : -1 ≤ fuse) (hf1 : fuse ≤ 1000000000000) (hd : (down || fuse == 0) = true) :
    Calls Try.prog 18 #[.pointer (some ⟨p, 0, none⟩), .string s, .slice ay m cy] w fun e w' => e = .returned (.int .i64 3) ∧ DiskOwn X w' p (oneDk s room o l fuse true) ∧ Keep X w w' := by
  have hc := counts_stop s room o l fuse down hd
  have := append_down X p (oneDk s room o l fuse down) s w ay m cy h hf0 hf1 (by rw [hc])
  rw [hc] at this
  exact this

theorem sync_one (h : DiskOwn X w p (oneDk s room o l fuse false)) (hf : fuse = -1 ∨ 0 < fuse) (hf1 : fuse ≤ 1000000000000) :
    Calls Try.prog 21 #[.pointer (some ⟨p, 0, none⟩)] w fun e w' => e = .returned (.int .i64 0) ∧ DiskOwn X w' p (oneDk s room (grown o l) [] (nf fuse) false) ∧ Keep X w w' := by
  have hc := counts_one s room o l fuse (by omega)
  have := sync_own X p (oneDk s room o l fuse false) w h (by rcases hf with e | e <;> simp only [oneDk] <;> omega) hf1 (by have := one_size s (grown o l); simp only [oneDk]; omega)
  unfold syncM at this
  rw [hc] at this
  exact this

theorem crash_one (keep torn : Int) (h : DiskOwn X w p (oneDk s room o l fuse down)) (hsl : s.size ≤ maxLen) (hpd : l.length ≤ 1000000) (hfit : (o.getD []).length + l.flatten.length ≤ 1000000000) (k : Nat) (hk : pickV keep (l.length + 1) = k) (hkl : k ≤ l.length) :
    Calls Try.prog 19 #[.pointer (some ⟨p, 0, none⟩), .int .i64 keep, .int .i64 torn] w fun e w' => e = .returned (.int .i64 k) ∧ DiskOwn X w' p (oneDk s room (cutO o l k torn) [] (-1) false) ∧ Keep X w w' := by
  have hl : (oneDk s room o l fuse down).pend.length = l.length := by simp [oneDk, apps]
  have := crash_own X p (oneDk s room o l fuse down) keep torn w h (ok_apps s hsl l o hfit) (by rw [hl]; exact hpd) (fun k => by rw [crashD_one]; have := one_size s (cutO o l k torn); omega) k (by rw [hl]; exact hk) (by rw [hl]; exact hkl)
  rw [crashed_one] at this
  exact this

theorem read_one (h : DiskOwn X w p (oneDk s room o l fuse down)) (hsl : s.size ≤ maxLen) (hfit : (o.getD []).length + l.flatten.length ≤ 1000000000) :
    Calls Try.prog 20 #[.pointer (some ⟨p, 0, none⟩), .string s] w fun e w' => ReadOut w w' e ((grown o l).isSome && !down) (o.getD [] ++ l.flatten) := by
  have hg : getF (oneDk s room o l fuse down).now s = o.getD [] ++ l.flatten := by
    show getF (oneF s (grown o l)) s = _
    rw [one_get, grown_bytes]
  have hh : hasF (oneDk s room o l fuse down).now s = (grown o l).isSome := one_has s _
  have := read_own X p (oneDk s room o l fuse down) s w h hsl (by rw [hg, List.length_append]; omega)
  rw [hg, hh] at this
  exact this
theorem pending_one (h : DiskOwn X w p (oneDk s room o l fuse down)) : Calls Try.prog 22 #[.pointer (some ⟨p, 0, none⟩)] w fun e w' => e = .returned (.int .i64 l.length) ∧ w = w' := by
  have := pending_own X p _ w h
  rw [show (oneDk s room o l fuse down).pend.length = l.length by simp [oneDk, apps]] at this
  exact this
end
end Go.Proofs.Ytpkmnfpbcakflaa
