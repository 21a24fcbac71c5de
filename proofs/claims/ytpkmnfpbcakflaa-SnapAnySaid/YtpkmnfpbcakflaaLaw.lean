/- What the laws of chapter 2 share: parts that are appended, what is read. No condition. -/
import Derived.Test.YtpkmnfpbcakflaaKnown
import Derived.Test.YtpkmnfpbcakflaaShort
import Derived.Laws.BytesArg
import Derived.Laws.Concat
namespace Go.Proofs.Ytpkmnfpbcakflaa
open Go.ChangeShapes Go.WideShapes Go.ChangeAt Go.RowKit

theorem str_append (a b : List Int) : strOfNums a ++ strOfNums b = strOfNums (a ++ b) := by
  apply ByteArray.ext
  simp [strOfNums]
theorem shorten_le (xs : List (List Int)) (m n : Nat) : ∀ y ∈ shorten xs m n, y.length ≤ n := by
  intro y hy
  simp only [shorten, List.mem_map] at hy
  obtain ⟨x, _, rfl⟩ := hy
  rw [List.length_take]; omega
theorem shorten_len (xs : List (List Int)) (m n : Nat) : (shorten xs m n).length ≤ m := by
  simp [shorten]; omega
theorem flat_le {n : Nat} : ∀ (ys : List (List Int)), (∀ y ∈ ys, y.length ≤ n) → ys.flatten.length ≤ n * ys.length
  | [], _ => by simp
  | y :: ys, h => by
    have ih := flat_le ys fun z hz => h z (List.mem_cons_of_mem _ hz)
    have h1 := h y (by simp)
    simp only [List.flatten_cons, List.length_append, List.length_cons]
    rw [Nat.mul_add, Nat.mul_one]; omega
theorem flat_take_le {n : Nat} (ys : List (List Int)) (h : ∀ y ∈ ys, y.length ≤ n) (k : Nat) : (ys.take k).flatten.length ≤ n * ys.length :=
  Nat.le_trans (flat_le _ fun z hz => h z (List.mem_of_mem_take hz)) (Nat.mul_le_mul_left _ (by rw [List.length_take]; omega))
theorem take_snoc {α : Type} (ys : List α) (k : Nat) (y : α) (h : ys[k]? = some y) : ys.take (k + 1) = ys.take k ++ [y] := by
  have hlt : k < ys.length := (List.getElem?_eq_some_iff.1 h).1
  have hx : ys[k] = y := (List.getElem?_eq_some_iff.1 h).2
  rw [List.take_succ_eq_append_getElem hlt, hx]

section
variable {w0 w : World} {p : Nat} {s : ByteArray} {room : Int} {o : Option (List Int)} {l : List (List Int)} {fuse : Int} {down : Bool}
theorem St.appP (h : St w0 w p (oneDk s room o l fuse false)) (ab : Option Addr) (cb : Nat) (x : List Int) (hsrc : Src w0 1 (.slice ab x.length cb) x.length (byteCells x)) (hs : namedB s = true) (hsl : s.size ≤ maxLen) (hf : fuse = -1 ∨ 0 < fuse) (hf1 : fuse ≤ 1000000000000) (hroom : room ≤ 8388608)
    (hfit : ((o.getD []).length + l.flatten.length + x.length : Nat) ≤ room) (hpd : l.length ≤ 1000000) (hb : ∀ n ∈ x, 0 ≤ n ∧ n < 256) :
    Calls Try.prog 18 #[.pointer (some ⟨p, 0, none⟩), .string s, .slice ab x.length cb] w fun e w' => e = .returned (.int .i64 0) ∧ St w0 w' p (oneDk s room o (l ++ [x]) (nf fuse) false) :=
  (app_one _ p s room o l fuse _ _ _ _ x h.1 hs hsl hf hf1 hroom hfit hpd rfl (hsrc.below h.2) (fun h0 k hk => hsrc.lt h0 k hk) hb).mono fun _ _ ⟨he, hD, hK⟩ => ⟨he, St.keep h.2 hD hK⟩
theorem St.stopP (h : St w0 w p (oneDk s room o l fuse down)) (ay : Option Addr) (m cy : Nat) (hf0 : -1 ≤ fuse) (hf1 : fuse ≤ 1000000000000) (hd : (down || fuse == 0) = true) :
    Calls Try.prog 18 #[.pointer (some ⟨p, 0, none⟩), .string s, .slice ay m cy] w fun e w' => e = .returned (.int .i64 3) ∧ St w0 w' p (oneDk s room o l fuse true) :=
  (stop_one _ p s room o l fuse down _ ay m cy h.1 hf0 hf1 hd).mono fun _ _ ⟨he, hD, hK⟩ => ⟨he, St.keep h.2 hD hK⟩
/-- what Read tells of a disk that is up -/
def BytesOut (w w' : World) (e : Ending) (t : Bool) (b : List Int) : Prop :=
  ∃ a c, e = .returned (.tuple #[.slice a b.length c, .bool t]) ∧ Row w' 5 1 (.slice a b.length c) b.length (byteCells b) ∧ (∀ k, (Value.slice a b.length c).ownBlock = some k → w.heap.size ≤ k) ∧ (∀ n ∈ b, 0 ≤ n ∧ n < 256) ∧ Below w.heap.size w w'
theorem readB {X : Nat → Prop} (h : DiskOwn X w p (oneDk s room o l fuse false)) (hsl : s.size ≤ maxLen) (hfit : (o.getD []).length + l.flatten.length ≤ 1000000000) :
    Calls Try.prog 20 #[.pointer (some ⟨p, 0, none⟩), .string s] w fun e w' => BytesOut w w' e (grown o l).isSome (o.getD [] ++ l.flatten) := by
  refine (read_one X p s room o l fuse false w h hsl hfit).mono fun e w' hr => ?_
  rw [Bool.not_false, Bool.and_true] at hr
  cases hg : (grown o l).isSome with
  | true =>
    rw [hg] at hr
    obtain ⟨v, rfl, R, hfr, hby, hB⟩ : ReadYes w w' e _ := hr
    obtain ⟨a, c, rfl, -⟩ := R.form
    exact ⟨a, c, rfl, R, hfr, hby, hB⟩
  | false =>
    rw [hg] at hr
    obtain ⟨rfl, hB⟩ : ReadNo w w' e := hr
    have hb : o.getD [] ++ l.flatten = [] := by
      rw [← grown_bytes]
      cases hgr : grown o l with
      | none => rfl
      | some c => rw [hgr] at hg; cases hg
    rw [hb]
    exact ⟨none, 0, rfl, Row.nil _ _ _, by intro k hk; simp [Value.ownBlock] at hk, by simp, hB⟩
end
end Go.Proofs.Ytpkmnfpbcakflaa
