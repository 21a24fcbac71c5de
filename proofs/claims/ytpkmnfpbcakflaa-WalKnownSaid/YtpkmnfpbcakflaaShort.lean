/- The walks of tailracehand's Short and Pick. No condition. -/
import Derived.Test.YtpkmnfpbcakflaaParts
import Derived.Test.YtpkmnfpbcakflaaOps
import Derived.Deep.RegionHeld3
import Derived.Deep.DeepCutAuto
import Derived.Lib.MinMax
namespace Go.Proofs.Ytpkmnfpbcakflaa
open Go.ChangeShapes Go.WideShapes Go.ChangeAt Go.RowKit

def shorten (xs : List (List Int)) (m n : Nat) : List (List Int) := (xs.take m).map (·.take n)
/-- part number i lies so, in blocks from lo on -/
structure PtF (lo : Nat) (w : World) (a : Option Addr) (i : Nat) (x : List Int) : Prop where
  ex : ∃ bk off, a = some ⟨bk, off, none⟩ ∧ lo ≤ bk ∧ bk < w.heap.size ∧ ∃ ab cb, w.cell? ⟨bk, off + i, none⟩ = some (.slice ab x.length cb) ∧ x.length ≤ cb ∧ cb ≤ maxLen ∧ Src w 1 (.slice ab x.length cb) x.length (byteCells x) ∧ (0 < x.length → ∀ k, (Value.slice ab x.length cb).ownBlock = some k → lo ≤ k ∧ k < w.heap.size)
  bytes : ∀ n ∈ x, 0 ≤ n ∧ n < 256
def ShortNew (w w' : World) (e : Ending) (ys : List (List Int)) : Prop := ∃ a c, e = .returned (.slice a ys.length c) ∧ (∀ i y, ys[i]? = some y → PtF w.heap.size w' a i y) ∧ Below w.heap.size w w'
def ShortOut (w w' : World) (e : Ending) (ys : List (List Int)) : Prop := ∃ a c, e = .returned (.slice a ys.length c) ∧ PartsIn w' a ys.length ys ∧ Below w.heap.size w w'

theorem infoL : (Try.prog.info? 25).map (fun i => (i.zero, i.size, i.bytes)) = some (some (.slice none 0 0), 1, 24) := by kernel_rfl

/-- a row of texts, none in the row's own block -/
structure TextsOf (lo : Nat) (w : World) (o : Value) (us : List Value) (ys : List (List Int)) : Prop where
  row : Row w 25 1 o us.length us
  len : us.length = ys.length
  each : ∀ (j : Nat) u y, us[j]? = some u → ys[j]? = some y → Bts (fun k => lo ≤ k ∧ k < w.heap.size ∧ o.ownBlock ≠ some k) w u y
theorem TextsOf.parts {lo : Nat} {w : World} {a : Option Addr} {n c : Nat} {us : List Value} {ys : List (List Int)} (h : TextsOf lo w (.slice a n c) us ys) (hn : n = us.length) (hfr : ∀ b, (Value.slice a n c).ownBlock = some b → lo ≤ b) : ∀ i y, ys[i]? = some y → PtF lo w a i y := by
  subst hn
  intro i y hy
  have hi : i < us.length := by rw [h.len]; exact (List.getElem?_eq_some_iff.1 hy).1
  obtain ⟨u, hu⟩ : ∃ u, us[i]? = some u := ⟨_, List.getElem?_eq_getElem hi⟩
  have hb := h.each i u y hu hy
  obtain ⟨ab, cb, rfl, h1, h2⟩ := hb.ex
  obtain ⟨g, rfl, hg, hc, -⟩ := h.row.view (by omega)
  exact ⟨⟨g, 0, rfl, hfr g (by simp [Value.ownBlock]), hg, ab, cb, by rw [Nat.zero_add, hc i (by omega)]; exact hu, h1, h2, hb.src, fun h0 k hk => ⟨(hb.own h0 k hk).1, (hb.own h0 k hk).2.1⟩⟩, hb.byte⟩
theorem TextsOf.snoc {lo : Nat} {w w2 : World} {o o2 : Value} {us : List Value} {ys : List (List Int)} {u : Value} {y : List Int} (h : TextsOf lo w o us ys) (hrow : Row w2 25 1 o2 (us.length + 1) (us ++ [u])) (hk : ∀ k, k < w.heap.size → o.ownBlock ≠ some k → w2.heap[k]? = w.heap[k]?)
    (hs : w.heap.size ≤ w2.heap.size) (ho : ∀ k, o2.ownBlock = some k → o.ownBlock = some k ∨ w.heap.size ≤ k) (hu : Bts (fun k => lo ≤ k ∧ k < w2.heap.size ∧ o2.ownBlock ≠ some k) w2 u y) : TextsOf lo w2 o2 (us ++ [u]) (ys ++ [y]) := by
  refine ⟨by rw [List.length_append]; exact hrow, by simp [h.len], fun j v z hv hz => ?_⟩
  by_cases hj : j < us.length
  · rw [List.getElem?_append_left hj] at hv
    rw [List.getElem?_append_left (by rw [← h.len]; exact hj)] at hz
    refine (h.each j v z hv hz).move (fun k hk' => hk k hk'.2.1 hk'.2.2) fun k hk' => ⟨hk'.1, by omega, fun e => ?_⟩
    rcases ho k e with e | e
    · exact hk'.2.2 e
    · omega
  · have hj2 : j = us.length := by
      have := (List.getElem?_eq_some_iff.1 hv).1
      simp at this; omega
    subst hj2
    rw [List.getElem?_append_right (Nat.le_refl _)] at hv
    rw [List.getElem?_append_right (by rw [h.len]; exact Nat.le_refl _)] at hz
    simp at hv
    rw [h.len] at hz
    simp at hz
    subst hv; subst hz
    exact hu

theorem shorten_snoc (xs : List (List Int)) (k n : Nat) (x : List Int) (h : xs[k]? = some x) : shorten xs (k + 1) n = shorten xs k n ++ [x.take n] := by
  have hlt : k < xs.length := (List.getElem?_eq_some_iff.1 h).1
  have hx : xs[k] = x := (List.getElem?_eq_some_iff.1 h).2
  unfold shorten
  rw [List.take_succ_eq_append_getElem hlt, List.map_append, hx]; rfl
theorem shorten_all (xs : List (List Int)) (m n : Nat) (h : xs.length ≤ m) : shorten xs m n = shorten xs xs.length n := by
  unfold shorten
  rw [List.take_of_length_le h, List.take_length]

set_option maxRecDepth 100000 in
set_option maxHeartbeats 4000000 in
theorem short_new (a : Option Addr) (len cap : Nat) (xs : List (List Int)) (m n : Nat) (w : World) (hx : PartsIn w a len xs) (hm : m ≤ 1000) (hn : n ≤ 1000000) :
    Calls Try.prog 14 #[.slice a len cap, .int .i64 m, .int .i64 n] w fun e w' => ShortNew w w' e (shorten xs m n) := by
  obtain ⟨i0, hi0, hz0, hz1, hz2⟩ := info_parts infoB
  obtain ⟨i1, hi1, hy0, hy1, hy2⟩ := info_parts infoL
  obtain ⟨hxl, hxs⟩ := hx
  have HXS := Lib.hid hxs
  clear hxs
  go_enter Try.func14, Try.ntmps14
  go_wp2_with fail
  go_loopw [7, 8] (fun o i wr => ∃ (k : Nat) (us : List Value), i = .int .i64 k ∧ k ≤ m ∧ k ≤ len ∧ Below w.heap.size w wr ∧ TextsOf w.heap.size wr o us (shorten xs k n) ∧ (∀ b, o.ownBlock = some b → w.heap.size ≤ b) ∧ us.length = k) (fun _ i _ => m - (intOf i).toNat)
  case atStart => exact ⟨0, [], rfl, Nat.zero_le _, Nat.zero_le _, Below.refl _ _, ⟨Row.nil _ _ _, rfl, by intro j u y h; simp at h⟩, by intro b hb; simp [Value.ownBlock] at hb, rfl⟩
  case round =>
    obtain ⟨k, us, rfl, hkm, hkl, hB, hT, hfresh, hus⟩ := hrel
    subst hus
    obtain ⟨ao, co, rfl, hco, hmo, hmc⟩ := hT.row.form
    have HT := Lib.hid hT
    have HFr := Lib.hid hfresh
    clear hT hfresh
    by_cases hlt : us.length < len
    · by_cases hlt2 : us.length < m
      · as_aux_lemma =>
        obtain ⟨x, hxk⟩ : ∃ x, xs[us.length]? = some x := ⟨_, List.getElem?_eq_getElem (by omega)⟩
        obtain ⟨⟨bk, off, rfl, ab, cb, hcell, hc1, hc2, hsrc⟩, hbytes⟩ := HXS.out _ x hxk
        have hbl := World.block_lt_of_cell? _ _ hcell
        have HSnoc := Lib.hid (shorten_snoc xs us.length n x hxk)
        obtain ⟨r, hr⟩ : ∃ r, r = min x.length n := ⟨_, rfl⟩
        have hrl : r ≤ x.length := by omega
        have hrn : r ≤ n := by omega
        have htk : x.take n = x.take r := by rw [hr, List.take_eq_take_iff]; omega
        rw [htk] at HSnoc
        have hmin : ∀ ts t w, (Builtin.min_ ts t #[.int .i64 x.length, .int .i64 n]).run Try.prog w = .ok (.int .i64 r) w := fun ts t w => by
          rw [Lib.run_min_ints, hr]
          congr 2; omega
        have hsl := fun w => run_slice_to (P := Try.prog) w 25 5 i0 Try.underlying25 hi0 ab x.length cb r (by omega) .i64
        have hsrc2 : Src w 1 (.slice ab r cb) r (byteCells (x.take r)) := hsrc.take r hrl
        have hbt : ∀ z ∈ x.take r, 0 ≤ z ∧ z < 256 := fun z hz => hbytes z (List.mem_of_mem_take hz)
        have hlr : (x.take r).length = r := by rw [List.length_take]; omega
        generalize x.take r = y at *
        subst hlr
        have HBt := Lib.hid hbt
        have q0 := (hB.cell (p := ⟨bk, off + us.length, none⟩) hbl).trans hcell
        have HB := Lib.hid hB
        have HB0 := HB
        have HBa := Lib.hid ((hB.alloc hB.size (.cells #[] 5)).drew)
        have HSrc := Lib.hid hsrc2
        have hcw := fun (W : World) (h : Below w.heap.size w W) => (h.cell (p := ⟨bk, off + us.length, none⟩) hbl).trans hcell
        have HCW := Lib.hid hcw
        have HDE := Lib.hid ((Row.lit_at wr 5 1 #[] 0 wr.heap.size rfl (Nat.zero_le _) rfl).of_block (w' := (wr.alloc (.cells #[] 5)).drew) (fun _ _ => rfl))
        have hszd : (wr.alloc (.cells #[] 5)).drew.heap.size = wr.heap.size + 1 := by show (wr.alloc (.cells #[] 5)).heap.size = _; simp
        have HSZ := Lib.hid hszd
        clear hbytes hsrc hsrc2 hcell hxk hbt hr htk hB hszd hcw
        go_wp2_with fail
        go_region_held3 (fun w' => w'.cell? ⟨bk, off + us.length, none⟩ = some (.slice ab x.length cb))
          (first | go_keep | exact p1 | exact p2)
          (first
            | (refine step_append_row _ (by rfl) _ _ _ (by rfl) 5 i0 _ 1 1 Try.underlying25 hi0 hz0 hz1 hz2 rfl (.slice (some ⟨wr.heap.size, 0, none⟩) 0 0) 0 _ (by rfl) HDE.out
                (.slice ab y.length cb) y.length _ (by rfl) (HSrc.out.below HBa.out) (by unfold maxLen; omega) (by omega) (wr.heap.size + 1) HSZ.out ?_; intro a1 c1 w1 hrow1 hgrow1 hat1
               have hB1 := HBa.out.grown hgrow1 (by have := HSZ.out; have := HB.out.size; omega) (by intro k hk; have := HB.out.size; simp [Value.ownBlock] at hk; omega)
               have p1 := HCW.out w1 hB1
               have hr1 : Row w1 5 1 (.slice a1 y.length c1) y.length (byteCells y) := by simpa using hrow1
               have hat1' : ∀ k, (Value.slice a1 y.length c1).ownBlock = some k → wr.heap.size ≤ k := fun k hk => by
                 rcases hat1 k (by rw [own_slice a1 (0 + y.length) c1 y.length c1]; exact hk) with h | h
                 · simp [Value.ownBlock] at h; omega
                 · omega
               have hg1 : ∀ k, k < wr.heap.size → w1.heap[k]? = wr.heap[k]? := fun k hk => (hgrow1.block k (by have := HSZ.out; omega) (by simp [Value.ownBlock]; omega)).trans (Below.heap_alloc wr _ k hk)
               have hz1' : wr.heap.size < w1.heap.size := by have := hgrow1.size; have := HSZ.out; omega
               have hd2 : ∀ o, Row (w1.alloc o) 25 1 (.slice ao us.length co) us.length us := fun o => HT.out.row.of_block fun k hk => (Below.heap_alloc w1 o k (by have := HT.out.row.lt hk; omega)).trans (hg1 k (HT.out.row.lt hk))
               have HD2 := Lib.hid hd2
               have HG1 := Lib.hid hg1
               have HA1 := Lib.hid hat1'
               have HR1 := Lib.hid hr1
               have HB1 := Lib.hid hB1
               have HZ1 := Lib.hid hz1'
               clear hgrow1 hat1 hrow1 hB1 hr1 hat1' hg1 hz1' hd2)
            | (refine step_append_row _ (by rfl) _ _ _ (by rfl) 25 i1 _ 1 24 Try.underlying22 hi1 hy0 hy1 hy2 rfl (.slice ao us.length co) us.length us (by rfl) (HD2.out _)
                (.slice (some ⟨w1.heap.size, 0, none⟩) 1 1) 1 [.slice a1 y.length c1] (by rfl) (Src.of_block (heap_alloc_new w1 _) 1 1 rfl (by simp [Value.oneCell'])) (by unfold maxLen; omega) (by omega) (w1.heap.size + 1) (by simp) ?_; intro a2 c2 w2 hrow2 hgrow2 hat2
               have hB2 := (HB1.out.alloc HB1.out.size _).grown hgrow2 (by have := HB1.out.size; simp; omega) HFr.out
               have p2 := HCW.out w2 hB2
               have HG2 := Lib.hid hgrow2
               have HA2 := Lib.hid hat2
               have HR2 := Lib.hid hrow2
               have HB2 := Lib.hid hB2
               clear hgrow2 hat2 hrow2 hB2))
        all_goals
          go_wp2_with fail
          go_roundw
          case rel =>
            have hz1 := HZ1.out
            have hgs := HG2.out.size
            have hgs : w1.heap.size + 1 ≤ w2.heap.size := by simpa using hgs
            have hat3 : ∀ k, (Value.slice a2 (us.length + 1) c2).ownBlock = some k → (Value.slice ao us.length co).ownBlock = some k ∨ k = w1.heap.size + 1 := HA2.out
            have hkeep : ∀ k, k < w1.heap.size → (Value.slice ao us.length co).ownBlock ≠ some k → w2.heap[k]? = w1.heap[k]? := fun k hk hne => (HG2.out.block k (by simp; omega) (fun e => hne e.symm)).trans (Below.heap_alloc w1 _ k hk)
            have haol : ∀ k, (Value.slice ao us.length co).ownBlock = some k → k < wr.heap.size := fun k hk => HT.out.row.lt hk
            refine ⟨us.length + 1, us ++ [.slice a1 y.length c1], by go_num, by omega, by omega, HB2.out, ?_, fun b hb => ?_, by simp⟩
            · rw [HSnoc.out]
              refine HT.out.snoc HR2.out (fun k hk hne => (hkeep k (by omega) hne).trans (HG1.out k hk)) (by omega) (fun k hk => ?_) ?_
              · rcases hat3 k hk with e | e
                · exact .inl e
                · right; omega
              · have hb1 : Bts (fun k => k < w1.heap.size ∧ wr.heap.size ≤ k) w1 (.slice a1 y.length c1) y := Bts.of_row HR1.out HBt.out fun k hk => ⟨HR1.out.lt hk, HA1.out k hk⟩
                refine hb1.move (fun k hk => hkeep k hk.1 fun e => by have := haol k e; omega) fun k hk => ⟨by have := HB0.out.size; omega, by omega, fun e => ?_⟩
                rcases hat3 k e with e | e
                · have := haol k e; omega
                · omega
            · rcases hat3 b hb with e | e
              · exact HFr.out b e
              · have := HB1.out.size; omega
          case measure => simp [intOf]; omega
      · as_aux_lemma =>
        have hge : ¬ us.length < m := by omega
        go_wp2_with fail
        go_ret
        have hsh : shorten xs m n = shorten xs us.length n := by rw [show us.length = m by omega]
        rw [hsh]
        have hP := HT.out.parts rfl HFr.out
        have hl := HT.out.len
        generalize shorten xs us.length n = ys at hP hl ⊢
        exact ⟨ao, co, by rw [← hl]; rfl, hP, hB⟩
    · as_aux_lemma =>
      go_wp2_with fail
      go_ret
      have hsh : shorten xs m n = shorten xs us.length n := by rw [shorten_all xs m n (by omega), show us.length = xs.length by omega]
      rw [hsh]
      have hP := HT.out.parts rfl HFr.out
      have hl := HT.out.len
      generalize shorten xs us.length n = ys at hP hl ⊢
      exact ⟨ao, co, by rw [← hl]; rfl, hP, hB⟩

theorem short_any (a : Option Addr) (len cap : Nat) (xs : List (List Int)) (m n : Nat) (w : World) (hx : PartsIn w a len xs) (hm : m ≤ 1000) (hn : n ≤ 1000000) :
    Calls Try.prog 14 #[.slice a len cap, .int .i64 m, .int .i64 n] w fun e w' => ShortOut w w' e (shorten xs m n) := by
  refine (short_new a len cap xs m n w hx hm hn).mono fun e w' ⟨a', c', he, hp, hB⟩ => ⟨a', c', he, ⟨rfl, fun i y hy => ?_⟩, hB⟩
  obtain ⟨⟨bk, off, ha, -, -, ab, cb, hc, h1, h2, h3, -⟩, hb⟩ := hp i y hy
  exact ⟨⟨bk, off, ha, ab, cb, hc, h1, h2, h3⟩, hb⟩
theorem pick_any (n k : Int) (hk0 : 1 ≤ k) (hk : k ≤ 1000000000000) (w : World) :
    Calls Try.prog 15 #[.int .i64 n, .int .i64 k] w fun e w' => e = .returned (.int .i64 (pickV n k)) ∧ w' = w := by
  have b1 : -k < n.tmod k := by
    have := Int.lt_tmod_of_pos n (show 0 < k by omega); omega
  have b2 : n.tmod k < k := Int.tmod_lt_of_pos n (by omega)
  have hd : (k == 0) = false := by simp; omega
  unfold pickV
  by_cases hlt : n.tmod k < 0
  · rw [if_pos hlt]
    go_enter Try.func15, Try.ntmps15
    go_wp2
    go_ret
    exact ⟨rfl, rfl⟩
  · rw [if_neg hlt]
    go_enter Try.func15, Try.ntmps15
    go_wp2
    go_ret
    exact ⟨rfl, rfl⟩
end Go.Proofs.Ytpkmnfpbcakflaa
