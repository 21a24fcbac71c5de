/- The walk of chapter 23's run: each call on both families. No condition. -/
import Derived.Test.YtakdcankhfeobaaTwo
import Derived.Test.YtakdcankhfeobaaGens
import Derived.Test.YtakdcankhfeobaaKnown
import Derived.Test.YtakdcankhfeobaaStepsW
namespace Go.Proofs.Ytakdcankhfeobaa
open Go.ChangeShapes Go.WideShapes Go.ChangeAt Go.RowKit

theorem TwoG.rename {w0 w : World} {E : Nat → Prop} {p q : Nat} {gs : List Gn} {l C : Int} (h : TwoG w0 w E p q gs l gs l) (hG : Good C gs l) (hC : C ≤ 1000000) :
    Calls Try.prog 11 #[.pointer (some ⟨p, 0, none⟩)] w fun e w' => e = .returned (.int .i64 (renameM gs).1) ∧ TwoG w0 w' E p q (renameM gs).2 l gs l := by
  obtain ⟨X, hF, -, -, hn⟩ := h.left
  exact (rename_own X p gs l C w hF hG hC).mono fun e w' ⟨he, hF', hK⟩ => ⟨he, hn w' _ _ hF' hK⟩
theorem TwoG.rename2 {w0 w : World} {E : Nat → Prop} {p q : Nat} {gs gs1 : List Gn} {l l1 C : Int} (h : TwoG w0 w E p q gs1 l1 gs l) (hG : Good C gs l) (hC : C ≤ 1000000) :
    Calls Try.prog 29 #[.pointer (some ⟨q, 0, none⟩)] w fun e w' => e = .returned (.int .i64 (renameM gs).1) ∧ TwoG w0 w' E p q gs1 l1 (renameM gs).2 l := by
  obtain ⟨X, hF, -, -, hn⟩ := h.right
  exact (rename_own_r X q gs l C w hF hG hC).mono fun e w' ⟨he, hF', hK⟩ => ⟨he, hn w' _ _ hF' hK⟩
theorem TwoG.create {w0 w : World} {E : Nat → Prop} {p q : Nat} {gs : List Gn} {l C : Int} (h : TwoG w0 w E p q gs l gs l) (hG : Good C gs l) (hC : C ≤ 1000000) :
    Calls Try.prog 12 #[.pointer (some ⟨p, 0, none⟩)] w fun e w' => e = .returned (.int .i64 (createM gs l).1) ∧ TwoG w0 w' E p q (createM gs l).2.1 (createM gs l).2.2 gs l := by
  obtain ⟨X, hF, -, -, hn⟩ := h.left
  exact (create_own X p gs l C w hF hG hC).mono fun e w' ⟨he, hF', hK⟩ => ⟨he, hn w' _ _ hF' hK⟩
theorem TwoG.create2 {w0 w : World} {E : Nat → Prop} {p q : Nat} {gs gs1 : List Gn} {l l1 C : Int} (h : TwoG w0 w E p q gs1 l1 gs l) (hG : Good C gs l) (hC : C ≤ 1000000) :
    Calls Try.prog 30 #[.pointer (some ⟨q, 0, none⟩)] w fun e w' => e = .returned (.int .i64 (createM gs l).1) ∧ TwoG w0 w' E p q gs1 l1 (createM gs l).2.1 (createM gs l).2.2 := by
  obtain ⟨X, hF, -, -, hn⟩ := h.right
  exact (create_own_r X q gs l C w hF hG hC).mono fun e w' ⟨he, hF', hK⟩ => ⟨he, hn w' _ _ hF' hK⟩
theorem TwoG.remove {w0 w : World} {E : Nat → Prop} {p q : Nat} {gs : List Gn} {l C : Int} (s : Int) (h : TwoG w0 w E p q gs l gs l) (hG : Good C gs l) :
    Calls Try.prog 14 #[.pointer (some ⟨p, 0, none⟩), .int .i64 s] w fun e w' => e = .returned (.int .i64 (removeM gs s).1) ∧ TwoG w0 w' E p q (removeM gs s).2 l gs l := by
  obtain ⟨X, hF, -, -, hn⟩ := h.left
  exact (remove_own X p gs l C s w hF hG).mono fun e w' ⟨he, hF', hK⟩ => ⟨he, hn w' _ _ hF' hK⟩
theorem TwoG.remove2 {w0 w : World} {E : Nat → Prop} {p q : Nat} {gs gs1 : List Gn} {l l1 C : Int} (s : Int) (h : TwoG w0 w E p q gs1 l1 gs l) (hG : Good C gs l) :
    Calls Try.prog 31 #[.pointer (some ⟨q, 0, none⟩), .int .i64 s] w fun e w' => e = .returned (.int .i64 (removeM gs s).1) ∧ TwoG w0 w' E p q gs1 l1 (removeM gs s).2 l := by
  obtain ⟨X, hF, -, -, hn⟩ := h.right
  exact (remove_own_r X q gs l C s w hF hG).mono fun e w' ⟨he, hF', hK⟩ => ⟨he, hn w' _ _ hF' hK⟩
theorem TwoG.app {w0 w : World} {E : Nat → Prop} {p q : Nat} {gs : List Gn} {l C : Int} (h : TwoG w0 w E p q gs l gs l) (hG : Good C gs l) (hC : C ≤ 1000000) (ay : Option Addr) (m cy : Nat) (bs : List Int) (hsrc : Src w 1 (.slice ay m cy) m (byteCells bs))
    (hy : 0 < m → ∀ k, (Value.slice ay m cy).ownBlock = some k → k < w0.heap.size ∨ E k) (hbs : ∀ n ∈ bs, 0 ≤ n ∧ n < 256) (hm : m ≤ 140737488355328) :
    Calls Try.prog 15 #[.pointer (some ⟨p, 0, none⟩), .slice ay m cy] w fun e w' => e = .returned (.int .i64 (appendM gs l bs).1) ∧ TwoG w0 w' E p q (appendM gs l bs).2.1 (appendM gs l bs).2.2 gs l ∧ ∀ k, (k < w0.heap.size ∨ E k) → k < w.heap.size → w'.heap[k]? = w.heap[k]? := by
  obtain ⟨X, hF, h0, hE, hn⟩ := h.left
  refine (append_own X p gs l C w hF hG hC ay m cy bs hsrc (fun hm k hk => by rcases hy hm k hk with h | h; exact h0 k h; exact hE k h) hbs hm).mono fun e w' ⟨he, hF', hK⟩ => ⟨he, hn w' _ _ hF' hK, fun k hk hl => hK.block k hl (fun e => ?_)⟩
  rcases hk with h | h
  · exact e (h0 k h)
  · exact e (hE k h)
theorem TwoG.app2 {w0 w : World} {E : Nat → Prop} {p q : Nat} {gs gs1 : List Gn} {l l1 C : Int} (h : TwoG w0 w E p q gs1 l1 gs l) (hG : Good C gs l) (hC : C ≤ 1000000) (ay : Option Addr) (m cy : Nat) (bs : List Int) (hsrc : Src w 1 (.slice ay m cy) m (byteCells bs))
    (hy : 0 < m → ∀ k, (Value.slice ay m cy).ownBlock = some k → k < w0.heap.size ∨ E k) (hbs : ∀ n ∈ bs, 0 ≤ n ∧ n < 256) (hm : m ≤ 140737488355328) :
    Calls Try.prog 32 #[.pointer (some ⟨q, 0, none⟩), .slice ay m cy] w fun e w' => e = .returned (.int .i64 (appendM gs l bs).1) ∧ TwoG w0 w' E p q gs1 l1 (appendM gs l bs).2.1 (appendM gs l bs).2.2 ∧ ∀ k, (k < w0.heap.size ∨ E k) → k < w.heap.size → w'.heap[k]? = w.heap[k]? := by
  obtain ⟨X, hF, h0, hE, hn⟩ := h.right
  refine (append_own_r X q gs l C w hF hG hC ay m cy bs hsrc (fun hm k hk => by rcases hy hm k hk with h | h; exact h0 k h; exact hE k h) hbs hm).mono fun e w' ⟨he, hF', hK⟩ => ⟨he, hn w' _ _ hF' hK, fun k hk hl => hK.block k hl (fun e => ?_)⟩
  rcases hk with h | h
  · exact e (h0 k h)
  · exact e (hE k h)
theorem TwoG.read {w0 w : World} {E : Nat → Prop} {p q : Nat} {gs gs1 : List Gn} {l l1 C : Int} (id f n : Int) (h : TwoG w0 w E p q gs l gs1 l1) (hG : Good C gs l) :
    Calls Try.prog 13 #[.pointer (some ⟨p, 0, none⟩), .int .u64 id, .int .i64 f, .int .i64 n] w fun e w' => ReadOut w w' e gs id (max f 0).toNat (max n 0).toNat := by
  obtain ⟨X, hF, -⟩ := h.left
  exact read_own X p gs l C id f n w hF hG
theorem TwoG.read2 {w0 w : World} {E : Nat → Prop} {p q : Nat} {gs gs1 : List Gn} {l l1 C : Int} (id f n : Int) (h : TwoG w0 w E p q gs l gs1 l1) (hG : Good C gs1 l1) :
    Calls Try.prog 20 #[.pointer (some ⟨q, 0, none⟩), .int .u64 id, .int .i64 f, .int .i64 n] w fun e w' => ReadR w w' e gs1 id (max f 0).toNat (max n 0).toNat := by
  obtain ⟨X, hF, -⟩ := h.right
  exact read_own_r X q gs1 l1 C id f n w hF hG

theorem pick_r (n k : Int) (hk0 : 1 ≤ k) (hk : k ≤ 1000000) (w : World) :
    Calls Try.prog 21 #[.int .i64 n, .int .i64 k] w fun e w' => (∃ m : Nat, e = .returned (.int .i64 m) ∧ (m : Int) < k) ∧ w = w' := by
  have b1 : -k < n.tmod k := by
    have := Int.lt_tmod_of_pos n (show 0 < k by omega); omega
  have b2 : n.tmod k < k := Int.tmod_lt_of_pos n (by omega)
  have hd : (k == 0) = false := by simp; omega
  by_cases hlt : n.tmod k < 0
  · go_enter Try.func21, Try.ntmps21
    go_wp2
    go_ret
    exact ⟨⟨(n.tmod k + k).toNat, by rw [Int.toNat_of_nonneg (by omega)]; rfl, by omega⟩, rfl⟩
  · go_enter Try.func21, Try.ntmps21
    go_wp2
    go_ret
    exact ⟨⟨(n.tmod k).toNat, by rw [Int.toNat_of_nonneg (by omega)]; rfl, by omega⟩, rfl⟩

def stepV (x : St) (ab : Option Addr) (cb : Nat) : Value := .agg #[.int .i64 x.what, .int .i64 x.k, .int .i64 x.n, .int .u64 x.id, .slice ab x.b.length cb]
/-- what run answers and leaves -/
def RunOut (w0 w' : World) (e : Ending) (E : Nat → Prop) (p q : Nat) (C : Int) : Prop :=
  e = .returned (.bool true) ∧ ∃ gs l, Good (C + 1) gs l ∧ TwoG w0 w' E p q gs l gs l
end Go.Proofs.Ytakdcankhfeobaa
