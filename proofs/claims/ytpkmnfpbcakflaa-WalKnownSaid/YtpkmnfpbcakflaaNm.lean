/- The walk of disk's Names: all names, in their order. No condition. -/
import Derived.Test.YtpkmnfpbcakflaaNames
import Derived.Test.YtpkmnfpbcakflaaSorts
import Derived.Test.YtpkmnfpbcakflaaFl
import Derived.Sort.KeysCollected
import Derived.Sort.OwnSorted
namespace Go.Proofs.Ytpkmnfpbcakflaa
open Go.ChangeShapes Go.WideShapes Go.ChangeAt Go.RowKit Go.Sort

theorem infoS : (Try.prog.info? 9).map (fun i => (i.zero, i.size, i.bytes)) = some (some (.string ⟨#[]⟩), 1, 16) := by kernel_rfl
theorem encStr_key (s : ByteArray) : encStr s.data.toList = .string s := by simp [encStr]

theorem row_sorted {w : World} {g cap n : Nat} {e : TypeId} {os : Array Obj} {cur : Array Value} {ss ts : List (List UInt8)} (hl : ts.length = ss.length) (hb : w.heap[g]? = some (.cells cur e (0, 0)))
    (h1 : ss.length ≤ cap) (h2 : cap ≤ maxLen) (h3 : cap * 1 ≤ cur.size) :
    Row (Sort.grow (putRow encStr (Sort.ahead w n) g 0 ts.toArray) os) e 1 (.slice (some ⟨g, 0, none⟩) ss.length cap) ss.length (ts.map encStr) :=
  ⟨by simp [hl], .inr ⟨g, cap, _, rfl, heap_sorted _ hb, h1, h2, by simp [putCells]; omega, by rw [Nat.mul_one, ← hl]; exact take_putCells cur ts (by omega)⟩⟩

theorem before_le {a b : List UInt8} (h : bytesBefore a b = true) : a ≤ b := by
  rw [← less_before, bytesLess_eq] at h
  exact List.le_of_lt (by simpa using h)
/-- the keys of a map that is read lie in their order -/
theorem keys_sorted {D : Fs} (hD : Maps.Canon D) (hs : ∀ es, D = .map es → ∀ p ∈ es, ∃ x, p.1 = .string x) : (strKeys D).mergeSort leB = strKeys D := by
  obtain ⟨es, rfl, hp, -⟩ := hD
  refine List.mergeSort_of_pairwise ?_
  show (es.map fun p => strOf p.1).Pairwise _
  refine List.pairwise_map.2 (hp.imp_of_mem fun {p q} hp' hq' h => ?_)
  obtain ⟨a, ha⟩ := hs es rfl p hp'
  obtain ⟨b, hb⟩ := hs es rfl q hq'
  rw [ha, hb] at h ⊢
  have h' : bytesBefore a b = true := h
  exact decide_eq_true (before_le h')

/-- what Names answers -/
def NamesOut (w w' : World) (e : Ending) (ss : List (List UInt8)) : Prop := ∃ v, e = .returned v ∧ Row w' 9 1 v ss.length (ss.map encStr) ∧ (∀ b, v.ownBlock = some b → w.heap.size ≤ b) ∧ Below w.heap.size w w'

theorem sort_row (v : Value) (ss : List (List UInt8)) (w : World) (h : Row w 9 1 v ss.length (ss.map encStr)) (hl : ss.length < 4611686018427387904) :
    Calls Try.prog 53 #[v] w fun e w' => e = .returned (.tuple #[]) ∧ Row w' 9 1 v ss.length ((ss.mergeSort leB).map encStr) ∧ ∃ row, (∀ k, row = some k → v.ownBlock = some k) ∧ w.grownBy w' row := by
  rcases h.2 with ⟨rfl, h0⟩ | ⟨g, cap, cur, rfl, hg, hnc, hcm, hcs, ht⟩
  · have : ss = [] := List.eq_nil_of_length_eq_zero h0
    subst this
    exact (sort_nil w).mono fun e w' ⟨he, hw⟩ => ⟨he, by subst hw; simpa using Row.nil w 9 1, none, by simp, by subst hw; exact ⟨rfl, rfl, rfl, Nat.le_refl _, fun _ _ _ => rfl⟩⟩
  · refine (slices_Sort_string g 0 cap ss w (holds_of_block hg (by rw [Nat.mul_one] at ht; exact ht)) (heap_lt hg) hl).mono ?_
    rintro e w' ⟨he, n, os, rfl⟩
    exact ⟨he, row_sorted (by simp) hg hnc hcm hcs, some g, fun k hk => by simpa [Value.ownBlock] using hk, grownBy_sorted _⟩

set_option maxRecDepth 100000 in
set_option maxHeartbeats 4000000 in
theorem names_up (S : Nat → Prop) (p : Nat) (room : Int) (bs bn : Nat) (vp : Value) (fuse : Int) (D : Fs) (w : World) (hH : HeadAt w p room bs bn vp fuse false) (hF : FilesAt S w bn D) (hsz : Maps.size D ≤ 1000000) :
    Calls Try.prog 26 #[.pointer (some ⟨p, 0, none⟩)] w fun e w' => NamesOut w w' e (strKeys D) := by
  obtain ⟨-, -, c2, -, -, c5, -⟩ := hH.cells
  obtain ⟨i0, hi0, hz0, hz1, hz2⟩ := info_parts infoS
  have hpl := hH.lt
  have hown : w.ownsMap Try.prog 9 (RB S w) bn (Maps.size D) D := hF
  have HSort := Lib.hid (keys_sorted (World.ownsMap.canon hF keyed) fun es e p hp => by
    obtain ⟨es', hD', hko⟩ := hown.keysOf
    rw [e] at hD'; cases hD'
    obtain ⟨v, hv⟩ := hko p hp
    obtain ⟨x, _, hx, _⟩ := Maps.keyOf_str Try.underlying9 hv
    exact ⟨x, hx⟩)
  go_enter Try.func26, Try.ntmps26
  go_wp2_with (first
    | (at_range; refine wpList_range_own _ rfl _ 81 rfl 9 25 keyed Try.underlying81 _ bn (Maps.size D) _ rfl hown ?_; intro w0 hrg0 hg0 hs0))
  go_frame
  have hB0 : Below w.heap.size w w0 := (Below.refl _ w).grown hg0 (Nat.le_refl _) (by simp)
  have HOwn := Lib.hid hown
  clear hown hg0 hs0
  go_loopw [3, 4] (fun o _ wr => ∃ (left : Lit → Bool) (cnt n : Nat) (ss : List (List UInt8)), wr.ranges Try.prog 9 (RB S w) bn w.heap.size (Maps.size D) D left cnt ∧ Hid (Collected D left ss) ∧ ss.length = n ∧ n + cnt ≤ Maps.size D ∧ Row wr 9 1 o n (ss.map encStr) ∧ (∀ b, o.ownBlock = some b → w.heap.size < b) ∧ Below w.heap.size w wr)
    (fun _ _ wr => wr.rangeLeft bn w.heap.size)
  case atStart => exact ⟨_, _, 0, [], hrg0, Collected.start D, rfl, by omega, Row.nil _ _ _, by simp [Value.ownBlock], hB0⟩
  case round =>
    obtain ⟨left, cnt, n, ss, hrg, hC, hn, hcnt, ho, hfr, hB⟩ := hrel
    have HN := Lib.hid hn
    have HO := Lib.hid (And.intro ho hfr)
    obtain ⟨ao, co, rfl, hoc1, hoc2, -⟩ := ho.form
    unfold maxLen at hoc2
    clear hrg0 hB0 hn ho hfr
    go_wp2_with (at_next; refine wpList_next_ranges _ rfl _ rfl 9 keyed (RB S w) Value.string mkSl key_inv val_inv bn w.heap.size (Maps.size D) _ _ _ rfl hrg ?_ ?_)
    · intro hc0 hl0
      have hp := hC.out.perm HOwn.out keyed Try.underlying9 hl0
      have HE : Hid (ss.mergeSort leB = strKeys D) := (mergeSort_of_perm hp).trans HSort.out
      have HPl := Lib.hid hp.length_eq
      have HB := Lib.hid hB
      have hSo := sort_row (.slice ao n co) ss wr (by rw [HN.out]; exact HO.out.1) (by have := HN.out; omega)
      have HSo := Lib.hid hSo
      clear hl0 hc0 hrg hp hB hSo
      go_wp2_with fail
      refine HSo.out.mono ?_
      rintro e w1 ⟨rfl, R1, row, hrow, hg⟩
      have HR1 := Lib.hid R1
      have HG := Lib.hid (And.intro hrow hg)
      clear R1 hrow hg
      go_wp2_with fail
      go_ret
      refine ⟨_, rfl, ?_, fun b hb => ?_, HB.out.grown HG.out.2 HB.out.size fun k hk => ?_⟩
      · rw [← HE.out, List.length_mergeSort]; exact HR1.out
      · have := HO.out.2 b hb; omega
      · have := HO.out.2 k (HG.out.1 k hk); omega
    · intro x ca cn cc kl d ps w1 cnt1 hkey hlx hRv hat hrg1 hlt hg1 hs1 hen
      have hB1 := hB.grown hg1 hB.size (by intro k hk; simp at hk; omega)
      have c5' := (hB1.cell (p := ⟨p, 5, none⟩) hpl).trans c5
      obtain ⟨x', ex, rfl, -⟩ := Maps.keyOf_str Try.underlying9 hkey
      have hxe : encStr x' = .string x := ex.symm
      have HC2 := Lib.hid (hC.out.step hlx hat)
      have ho1 : Row w1 9 1 (.slice ao n co) n (ss.map encStr) := HO.out.1.of_block fun k hk => hg1.block k (HO.out.1.lt hk) (fun e => by have := HO.out.2 k hk; have := Option.some.inj e; omega)
      have HO1 := Lib.hid ho1
      have HRL := Lib.hid hrg.left_eq
      have HG := Lib.hid hrg1
      have HB1 := Lib.hid hB1
      have hsz1 := hB1.size
      have HXe := Lib.hid hxe
      have hbn : bn < w.heap.size := hF.lt
      clear hkey hat hlx hrg hrg1 hg1 hs1 hRv hB1 hB hC ho1 hxe ex
      go_wp2_with (at_builtin; refine wpList_append_row _ rfl _ _ 43 rfl 9 i0 _ 1 16 Try.underlying43 hi0 hz0 hz1 hz2 rfl (.slice ao n co) n _ rfl (HO1.out.of_block (fun b hb => Below.heap_alloc w1 _ b (HO1.out.lt hb))) (.slice (some ⟨w1.heap.size, 0, none⟩) 1 1) 1 [.string x] rfl (Src.of_block (cs := #[.string x]) (t := 9) (fr := (0, 0)) (heap_alloc_new w1 _) 1 1 rfl (by simp [Value.oneCell'])) (by unfold maxLen; omega) (by omega) (w1.heap.size + 1) (by simp) ?_; intro a' cap' w2 hown2 hgrow hat)
      have hg2 : w1.grownBy w2 (Value.slice ao n co).ownBlock := (World.grownBy_alloc w1 _ _).trans hgrow
      have hrg2 := HG.out.kept hg2 (fun e => by have := HO.out.2 bn e.symm; omega) (fun e => by have := HO.out.2 _ e.symm; omega)
      have HG2 := Lib.hid hrg2
      have hB2 := HB1.out.grown hg2 HB1.out.size fun k hk => by have := HO.out.2 k hk; omega
      have HB2 := Lib.hid hB2
      clear hrg2 hgrow hg2 hB2
      go_roundw
      case rel =>
        refine ⟨_, cnt1, n + 1, ss ++ [x'], HG2.out, HC2.out, by simp [HN.out], by omega, ?_, fun b hb => ?_, HB2.out⟩
        · rw [List.map_append, List.map_singleton, HXe.out]; exact hown2
        · rcases hat b hb with e | e
          · exact HO.out.2 b e
          · omega
      case measure => rw [HG2.out.left_eq, HRL.out]; exact hlt
end Go.Proofs.Ytpkmnfpbcakflaa
