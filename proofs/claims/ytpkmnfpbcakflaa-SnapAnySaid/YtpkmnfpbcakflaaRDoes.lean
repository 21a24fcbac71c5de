/- The walk of the reference's does. No condition. -/
import Derived.Test.YtpkmnfpbcakflaaRef
namespace Go.Proofs.Ytpkmnfpbcakflaa
open Go.ChangeShapes Go.WideShapes Go.ChangeAt Go.RowKit

theorem infoO : (Try.prog.info? 120).map (fun i => (i.zero, i.size, i.bytes)) = some (some (.agg #[.int .i64 0, .string ⟨#[]⟩, .string ⟨#[]⟩, .slice none 0 0, .int .i64 0]), 5, 72) := by kernel_rfl
theorem dcells_one {ds : List Dd} {us : List Value} (h : ∀ u ∈ us, u.oneCell' = true) : ∀ u ∈ dcells ds us, u.oneCell' = true := by
  induction ds generalizing us with
  | nil => intro u hu; cases us <;> simp [dcells] at hu
  | cons a ds ih =>
    cases us with
    | nil => intro u hu; simp [dcells] at hu
    | cons b us =>
      intro u hu
      simp only [dcells, List.mem_cons] at hu
      rcases hu with rfl | rfl | rfl | rfl | rfl | hu
      · rfl
      · rfl
      · rfl
      · exact h _ (List.mem_cons_self ..)
      · rfl
      · exact ih (fun u hu => h u (List.mem_cons_of_mem _ hu)) u hu
theorem done_any {T : Nat → Prop} {w : World} {v : Value} {L : Fl} {us : List Value} (h : RF T w v L us) (hT : ∀ k, T k → k < w.heap.size) (hl : L.length ≤ 1000000) (x : Dd) (u : Value) (hu : Bts T w u x.b) (ok : OkDeed (filesOf L) x) (ht : total (filesOf L) ≤ 1000000000000) :
    Calls Try.prog 89 #[v, .agg (ddAgg x u)] w fun e w' => ∃ L', filesOf L' = doesM (filesOf L) x ∧ ROut w w' e T L' := by
  have hgl : (getF (filesOf L) x.name).length ≤ 1000000000000 := by have := get_le (filesOf L) x.name; omega
  obtain ⟨kind, name, dest, bs, size⟩ := x
  unfold ddAgg doesM
  rcases ok.kind with ⟨h1, h2⟩ | ⟨h1, h2, h3⟩ | h1 | h1 <;> simp only at h1 <;> subst h1
  · exact (done_append h hT hl name dest bs size u hu h2).mono fun e w' ho => ⟨_, filesOf_put L (name, _), ho⟩
  · obtain ⟨m, rfl⟩ : ∃ m : Nat, size = m := ⟨size.toNat, by simp only at h2; omega⟩
    exact (done_trunc h hT hl name dest bs u hu m (by simp only at h3; omega) hgl).mono fun e w' ho => ⟨_, by rw [filesOf_put L (name, _)]; simp, ho⟩
  · exact (done_rename h hT hl name dest bs size u hu hgl).mono fun e w' ho => ⟨_, by rw [filesOf_put (withoutL L name) (dest, _), filesOf_without]; simp, ho⟩
  · exact (done_remove h hT hl name dest bs size u hu hgl).mono fun e w' ho => ⟨_, by rw [filesOf_without]; simp, ho⟩

theorem does_fin {T : Nat → Prop} {w W0 w4 W3 w5 : World} {q : Nat} {sv nv wv v4 v5 : Value} {fused : Bool} {fz : Int} {Ls Ln L' : Fl} {us un uw us' : List Value} {d : Dk} {x : Dd} {u : Value} {n : Nat} {cells : List Value} (h : RefAt T w q sv nv wv fused fz Ls Ln us un uw d) (hB0 : Below w.heap.size w W0)
    (hR : RF (More T W0 w4) w4 v4 L' us') (hB4 : Below W0.heap.size W0 w4) (hL' : filesOf L' = doesM d.now x) (hW : W3 = w4.setCell ⟨q, 2, none⟩ v4) (hB5 : Below W3.heap.size W3 w5) (hu : Bts T w u x.b)
    (hr : Row w5 120 5 v5 n cells) (hn : n = d.pend.length + 1) (hc : cells = dcells d.pend uw ++ (ddAgg x u).toList) (hat : ∀ k, v5.ownBlock = some k → W3.heap.size ≤ k) :
    RefOut T w (w5.setCell ⟨q, 3, none⟩ v5) q { d with now := doesM d.now x, pend := d.pend ++ [x] } := by
  subst hn hc
  have hql := h.qlt
  have s0 := hB0.size
  have s4 := hB4.size
  have s3 : W3.heap.size = w4.heap.size := by rw [hW]; simp [World.setCell]
  have s5 := hB5.size
  have s6 : (w5.setCell ⟨q, 3, none⟩ v5).heap.size = w5.heap.size := by simp [World.setCell]
  have keep : ∀ k, k < w4.heap.size → k ≠ q → (w5.setCell ⟨q, 3, none⟩ v5).heap[k]? = w4.heap[k]? := fun k hk hne => by
    rw [heap_setCell_other _ _ _ _ (show k ≠ (⟨q, 3, none⟩ : Addr).block from hne), hB5.block k (by omega), hW, heap_setCell_other _ _ _ _ (show k ≠ (⟨q, 2, none⟩ : Addr).block from hne)]
  have keep0 : ∀ k, k < w.heap.size → k ≠ q → (w5.setCell ⟨q, 3, none⟩ v5).heap[k]? = w.heap[k]? := fun k hk hne => by
    rw [keep k (by omega) hne, hB4.block k (by omega), hB0.block k hk]
  have hq4 : w4.heap[q]? = some (.cells (rhead d.room sv nv wv fused fz d.down) 99 (0, 0)) := by
    rw [hB4.block q (by omega), hB0.block q hql]; exact h.head
  have hq5 : w5.heap[q]? = some (.cells (rhead d.room sv v4 wv fused fz d.down) 99 (0, 0)) := by
    rw [hB5.block q (by omega), hW]; exact rhead_set hq4 2 v4
  have hq6 : (w5.setCell ⟨q, 3, none⟩ v5).heap[q]? = some (.cells (rhead d.room sv v4 v5 fused fz d.down) 99 (0, 0)) := rhead_set hq5 3 v5
  have hT : ∀ k, T k → (w5.setCell ⟨q, 3, none⟩ v5).heap[k]? = w.heap[k]? := fun k hk => keep0 k (h.lt k hk) fun e => h.out (e ▸ hk)
  have hTm : ∀ k, T k → More T w w5 k := fun k hk => .inl hk
  refine RefAt.outOf (T := More T w w5) (sv := sv) (nv := v4) (wv := v5) (fused := fused) (fz := fz) (Ls := Ls) (Ln := L') (us := us) (un := us') (uw := uw ++ [u]) ⟨hq6, h.fz, h.syn.move hT hTm, h.eqs, hR.move (fun k hk => ?_) (fun k hk => ?_), hL', ?_, by simp [h.len], fun i y z hy hz => ?_, fun k hk => .inr ⟨by have := hat k hk; omega, hr.lt hk⟩, fun hk => ?_, fun k hk => ?_⟩ (fun k hk => ?_) ?_
  · rcases hk with hk | hk
    · exact keep k (by have := h.lt k hk; omega) fun e => h.out (e ▸ hk)
    · exact keep k hk.2 (by omega)
  · rcases hk with hk | hk
    · exact .inl hk
    · exact .inr ⟨by omega, by omega⟩
  · show Row _ _ _ _ (d.pend ++ [x]).length (dcells (d.pend ++ [x]) (uw ++ [u]))
    have e : dcells (d.pend ++ [x]) (uw ++ [u]) = dcells d.pend uw ++ (ddAgg x u).toList := by rw [dcells_append _ _ _ _ h.len]; rfl
    rw [e, List.length_append]
    exact hr.of_block fun k hk => heap_setCell_other _ _ _ _ (show k ≠ (⟨q, 3, none⟩ : Addr).block from by have := hat k hk; show k ≠ q; omega)
  · simp only at hy
    by_cases hi : i < d.pend.length
    · rw [List.getElem?_append_left hi] at hy
      rw [List.getElem?_append_left (by rw [h.len]; exact hi)] at hz
      exact (h.bts i y z hy hz).move hT hTm
    · have hi2 : i = d.pend.length := by
        have := (List.getElem?_eq_some_iff.1 hy).1
        simp at this; omega
      subst hi2
      simp at hy
      rw [← h.len] at hz
      simp at hz
      subst hy hz
      exact hu.move hT hTm
  · rcases hk with hk | hk
    · exact h.out hk
    · omega
  · rw [s6]
    rcases hk with hk | hk
    · have := h.lt k hk; omega
    · exact hk.2
  · rcases hk with hk | hk
    · exact .inl hk
    · exact .inr hk.1
  · have hM3 : Mod (fun k => k = q) w W3 := by
      rw [hW]; exact Mod.setCell (S := fun k => k = q) (p := ⟨q, 2, none⟩) ((Mod.of_below hB0).trans (Mod.of_below hB4)) (.inr rfl) _
    exact Mod.setCell (S := fun k => k = q) (p := ⟨q, 3, none⟩) (hM3.trans (Mod.of_below hB5)) (.inr rfl) _

set_option maxRecDepth 100000 in
set_option maxHeartbeats 4000000 in
theorem rdoes {T : Nat → Prop} {w : World} {q : Nat} {sv nv wv : Value} {fused : Bool} {fz : Int} {Ls Ln : Fl} {us un uw : List Value} {d : Dk} (h : RefAt T w q sv nv wv fused fz Ls Ln us un uw d) (x : Dd) (u : Value) (hu : Bts T w u x.b) (ok : OkDeed d.now x) (ht : total d.now ≤ 1000000000000) (hp : d.pend.length ≤ 1000000) :
    Calls Try.prog 86 #[.pointer (some ⟨q, 0, none⟩), .agg (ddAgg x u)] w fun e w' => e = .returned (.int .i64 0) ∧ RefOut T w w' q { d with now := doesM d.now x, pend := d.pend ++ [x] } := by
  obtain ⟨i0, hi0, hz0, hz1, hz2⟩ := info_parts infoO
  obtain ⟨au, cu, rfl, hcu1, hcu2⟩ := hu.ex
  have hsz : Ln.length ≤ 1000000 := by have := ok.size; rw [← h.eqn, size_filesOf] at this; exact this
  obtain ⟨W, hW⟩ : ∃ W, w.alloc (.cells #[.int .i64 x.kind, .string x.name, .string x.«to», .slice au x.b.length cu, .int .i64 x.size] 120) = W := ⟨_, rfl⟩
  have hB0 : Below w.heap.size w W := hW ▸ (Below.refl _ w).alloc (Nat.le_refl _) _
  have hnew : W.heap[w.heap.size]? = some (.cells #[.int .i64 x.kind, .string x.name, .string x.«to», .slice au x.b.length cu, .int .i64 x.size] 120 (0, 0)) := hW ▸ heap_alloc_new w _
  have lb0 : w.heap.size < W.heap.size := heap_lt hnew
  have b0 : W.cell? ⟨w.heap.size, 0, none⟩ = some (.int .i64 x.kind) := by rw [cell_of_row _ _ _ _ _ _ hnew]; rfl
  have b1 : W.cell? ⟨w.heap.size, 1, none⟩ = some (.string x.name) := by rw [cell_of_row _ _ _ _ _ _ hnew]; rfl
  have b2 : W.cell? ⟨w.heap.size, 2, none⟩ = some (.string x.«to») := by rw [cell_of_row _ _ _ _ _ _ hnew]; rfl
  have b3 : W.cell? ⟨w.heap.size, 3, none⟩ = some (.slice au x.b.length cu) := by rw [cell_of_row _ _ _ _ _ _ hnew]; rfl
  have b4 : W.cell? ⟨w.heap.size, 4, none⟩ = some (.int .i64 x.size) := by rw [cell_of_row _ _ _ _ _ _ hnew]; rfl
  have hql := h.qlt
  have hqW : W.heap[q]? = some (.cells (rhead d.room sv nv wv fused fz d.down) 99 (0, 0)) := (hB0.block q hql).trans h.head
  obtain ⟨-, -, c2, -, -, -, -, hfr⟩ := rhead_cells hqW
  have f2 := hfr 2
  have hDone := done_any (h.now.move (w' := W.drew) (fun k hk => hB0.block k (h.lt k hk)) fun _ h => h) (fun k hk => Nat.lt_of_lt_of_le (h.lt k hk) hB0.size) hsz x (.slice au x.b.length cu) (hu.move (w' := W.drew) (fun k hk => hB0.block k (h.lt k hk)) fun _ h => h) (by rw [h.eqn]; exact ok) (by rw [h.eqn]; exact ht)
  rw [h.eqn] at hDone
  obtain ⟨n, hn⟩ : ∃ n, d.pend.length = n := ⟨_, rfl⟩
  have hwait := h.wait
  rw [hn] at hwait hp
  obtain ⟨a, cap, rfl, hnc, -, hcm⟩ := hwait.form
  have HDone := Lib.hid hDone
  have HU := Lib.hid hu
  have HB0 := Lib.hid hB0
  have HH := Lib.hid (And.intro h (And.intro hqW hwait))
  have HN := Lib.hid hn
  have honeC : ∀ u ∈ dcells d.pend uw, u.oneCell' = true := dcells_one fun u hu => by
    obtain ⟨i, hi, rfl⟩ := List.getElem_of_mem hu
    obtain ⟨a, c, e, -⟩ := (h.bts i _ uw[i] (List.getElem?_eq_getElem (by rw [← h.len]; exact hi)) (List.getElem?_eq_getElem hi)).ex
    rw [e]; rfl
  have HOne := Lib.hid honeC
  have hxl : x.b.length ≤ 9223372036854775807 := by unfold maxLen at hcu2; omega
  unfold maxLen at hcm
  clear h hu ok ht hcu1 hcu2 hB0 hnew hqW hfr hDone hn hwait honeC hsz
  unfold ddAgg
  go_enter Try.func86, Try.ntmps86
  go_wp2_with fail
  clear hW
  go_region_with (go_at_call 89; refine HDone.out.mono ?_; rintro e w4 ⟨L', hL', v4, us4, rfl, hR4, hB4⟩; obtain ⟨a4, k4, rfl, -⟩ := hR4.row.form; have f4 := ((World.frozen?_of_block (a := ⟨q, 2, none⟩) (hB4.block q (Nat.lt_of_lt_of_le hql HB0.out.size))).trans f2 : w4.frozen? ⟨q, 2, none⟩ = false); have q4 := ((hB4.cell (p := ⟨q, 2, none⟩) (Nat.lt_of_lt_of_le hql HB0.out.size)).trans c2 : w4.cell? ⟨q, 2, none⟩ = some nv))
  all_goals
    replace hB4 : Below W.heap.size W w4 := ⟨hB4.os, hB4.tape, hB4.output, hB4.size, hB4.block⟩
    replace hR4 : RF (More T W w4) w4 (.slice a4 L'.length k4) L' us4 := hR4.move (fun _ _ => rfl) fun k hk => hk
    have HR4 := Lib.hid (And.intro hL' (And.intro hR4 hB4))
    have hq4 : w4.heap[q]? = some (.cells (rhead d.room sv nv (.slice a n cap) fused fz d.down) 99 (0, 0)) := (hB4.block q (Nat.lt_of_lt_of_le hql HB0.out.size)).trans HH.out.2.1
    have hq3 := rhead_set hq4 2 (.slice a4 L'.length k4)
    have hs3 : (w4.setCell ⟨q, 2, none⟩ (.slice a4 L'.length k4)).heap.size = w4.heap.size := by simp [World.setCell]
    have hoth := fun k (h : k ≠ q) => heap_setCell_other w4 ⟨q, 2, none⟩ k (.slice a4 L'.length k4) h
    have hs4 := hB4.size
    have hs0 := HB0.out.size
    generalize hW3 : w4.setCell ⟨q, 2, none⟩ (.slice a4 L'.length k4) = W3 at *
    have HW3 := Lib.hid hW3
    have hz4 : W.heap.size ≤ w4.heap.size := hs4
    have hbk : W3.heap[w.heap.size]? = W.heap[w.heap.size]? := (hoth w.heap.size (by omega)).trans (hB4.block w.heap.size lb0)
    have hbk' : ∀ k, k < w.heap.size → k ≠ q → W3.heap[k]? = w.heap[k]? := fun k hk hne => ((hoth k hne).trans (hB4.block k (by omega))).trans (HB0.out.block k hk)
    have t0 := (World.cell?_of_block (a := ⟨w.heap.size, 0, none⟩) hbk).trans b0
    have t1 := (World.cell?_of_block (a := ⟨w.heap.size, 1, none⟩) hbk).trans b1
    have t2 := (World.cell?_of_block (a := ⟨w.heap.size, 2, none⟩) hbk).trans b2
    have t3 := (World.cell?_of_block (a := ⟨w.heap.size, 3, none⟩) hbk).trans b3
    have t4 := (World.cell?_of_block (a := ⟨w.heap.size, 4, none⟩) hbk).trans b4
    obtain ⟨-, -, -, c3, -, -, -, hfr⟩ := rhead_cells (sv := sv) (nv := .slice a4 L'.length k4) hq3
    have f3 := hfr 3
    have lb3 : w.heap.size < W3.heap.size := by omega
    have lq3 : q < W3.heap.size := by omega
    have hrow : Row W3 120 5 (.slice a n cap) n (dcells d.pend uw) := HH.out.2.2.of_block fun k hk => hbk' k (HH.out.2.2.lt hk) fun e => HH.out.1.out (e ▸ HH.out.1.own k (by rw [own_slice a n cap n cap] at hk; exact hk))
    have HI : Hid (∀ X : World, (∀ k, k < W3.heap.size → X.heap[k]? = W3.heap[k]?) → Src X 5 (.slice a n cap) n (dcells d.pend uw)) := fun X hX => Src.of_row (hrow.of_block (fun k hk => hX k (hrow.lt hk))) HOne.out
    have HE : Hid (∀ X w1 : World, ∀ r : Option Nat, X.grownBy w1 r → W3.heap.size ≤ X.heap.size → (∀ k, k < W3.heap.size → X.heap[k]? = W3.heap[k]?) → X.os = W3.os → X.tape = W3.tape → X.output = W3.output → (∀ k, r = some k → W3.heap.size ≤ k) → Below W3.heap.size W3 w1) := fun X w1 r h6 h1 h2 h3 h4 h5 h7 =>
      (show Below W3.heap.size W3 X from ⟨h3, h4, h5, h1, h2⟩).grown h6 h1 h7
    have HQ := Lib.hid (And.intro t0 (And.intro t1 (And.intro t2 (And.intro t3 (And.intro t4 f3)))))
    have two : ∀ (o1 o2 : Obj) (k : Nat), k < W3.heap.size → ((W3.alloc o1).alloc o2).heap[k]? = W3.heap[k]? := fun o1 o2 k hk => (Below.heap_alloc (W3.alloc o1) o2 k (by simp; omega)).trans (Below.heap_alloc W3 o1 k hk)
    have HTwo := Lib.hid two
    have HD2 : Hid (Row ((W3.alloc (.cells #[] 120)).alloc (.cells #[.int .i64 x.kind, .string x.name, .string x.«to», .slice au x.b.length cu, .int .i64 x.size] 120)).drew 120 5 (.slice (some ⟨W3.heap.size, 0, none⟩) 0 0) 0 []) := (Row.lit_at W3 120 5 #[] 0 W3.heap.size rfl (by simp [maxLen]) rfl).of_block (fun b hb => by
      simp [Value.ownBlock] at hb
      subst hb
      exact Below.heap_alloc (W3.alloc (.cells #[] 120)) (.cells #[.int .i64 x.kind, .string x.name, .string x.«to», .slice au x.b.length cu, .int .i64 x.size] 120) W3.heap.size (by simp))
    have HZ2 : Hid (((W3.alloc (.cells #[] 120)).alloc (.cells #[.int .i64 x.kind, .string x.name, .string x.«to», .slice au x.b.length cu, .int .i64 x.size] 120)).drew.heap.size = W3.heap.size + 2) := (show ((W3.alloc (.cells #[] 120)).alloc (.cells #[.int .i64 x.kind, .string x.name, .string x.«to», .slice au x.b.length cu, .int .i64 x.size] 120)).heap.size = W3.heap.size + 2 by simp)
    have HO2 : Hid (((W3.alloc (.cells #[] 120)).alloc (.cells #[.int .i64 x.kind, .string x.name, .string x.«to», .slice au x.b.length cu, .int .i64 x.size] 120)).drew.heap[W3.heap.size + 1]? = some (.cells #[.int .i64 x.kind, .string x.name, .string x.«to», .slice au x.b.length cu, .int .i64 x.size] 120 (0, 0))) := by
      have e := heap_alloc_new (W3.alloc (.cells #[] 120)) (.cells #[.int .i64 x.kind, .string x.name, .string x.«to», .slice au x.b.length cu, .int .i64 x.size] 120)
      rw [show (W3.alloc (.cells #[] 120)).heap.size = W3.heap.size + 1 from by simp] at e
      exact e
    have HD3 : Hid (Row ((W3.alloc (.cells #[.int .i64 x.kind, .string x.name, .string x.«to», .slice au x.b.length cu, .int .i64 x.size] 120)).alloc (.cells #[] 120)).drew 120 5 (.slice (some ⟨W3.heap.size + 1, 0, none⟩) 0 0) 0 []) := (Row.lit_at (W3.alloc (.cells #[.int .i64 x.kind, .string x.name, .string x.«to», .slice au x.b.length cu, .int .i64 x.size] 120)) 120 5 #[] 0 (W3.heap.size + 1) (by simp) (by simp [maxLen]) rfl).of_block (fun _ _ => rfl)
    have HZ3 : Hid (((W3.alloc (.cells #[.int .i64 x.kind, .string x.name, .string x.«to», .slice au x.b.length cu, .int .i64 x.size] 120)).alloc (.cells #[] 120)).drew.heap.size = W3.heap.size + 2) := (show ((W3.alloc (.cells #[.int .i64 x.kind, .string x.name, .string x.«to», .slice au x.b.length cu, .int .i64 x.size] 120)).alloc (.cells #[] 120)).heap.size = W3.heap.size + 2 by simp)
    have HO3 : Hid (((W3.alloc (.cells #[.int .i64 x.kind, .string x.name, .string x.«to», .slice au x.b.length cu, .int .i64 x.size] 120)).alloc (.cells #[] 120)).drew.heap[W3.heap.size]? = some (.cells #[.int .i64 x.kind, .string x.name, .string x.«to», .slice au x.b.length cu, .int .i64 x.size] 120 (0, 0))) := (Below.heap_alloc (W3.alloc (.cells #[.int .i64 x.kind, .string x.name, .string x.«to», .slice au x.b.length cu, .int .i64 x.size] 120)) (.cells #[] 120) W3.heap.size (by simp)).trans (heap_alloc_new W3 _)
    clear hq4 hq3 hs3 hoth hs4 hs0 hW3 hbk hbk' hfr hrow two hL' hR4 hB4 b0 b1 b2 b3 b4 c2 f2 hz4 q4 f4
    go_wp2_with fail
    go_region_law
        (first
          | (refine step_append_row _ (by rfl) _ _ _ (by rfl) 120 i0 _ 5 72 Try.underlying97 hi0 hz0 hz1 hz2 rfl (.slice (some ⟨W3.heap.size, 0, none⟩) 0 0) 0 [] (by rfl) ((Row.lit_at W3 120 5 #[] 0 W3.heap.size rfl (by simp [maxLen]) rfl).of_block (fun _ _ => rfl))
              (.slice a n cap) n (dcells d.pend uw) (by rfl) (HI.out _ (fun k hk => Below.heap_alloc W3 _ k hk)) (by unfold maxLen; omega) (by omega) (W3.heap.size + 1) (by simp) ?_; intro a1 c1 w1 hrow1 hgrow1 hat1
             have hB1 := HE.out _ w1 _ hgrow1 (by simp) (fun k hk => Below.heap_alloc W3 _ k hk) rfl rfl rfl (by intro k hk; simp [Value.ownBlock] at hk; omega)
             have hrow1' : Row w1 120 5 (.slice a1 n c1) n (dcells d.pend uw) := by rw [Nat.zero_add] at hrow1; simpa using hrow1
             have hat1' : ∀ k, (Value.slice a1 n c1).ownBlock = some k → W3.heap.size ≤ k := fun k hk => by
               rcases hat1 k (by rw [Nat.zero_add]; exact hk) with h | h
               · simp [Value.ownBlock] at h; omega
               · omega
             have p0 := (hB1.cell (p := ⟨w.heap.size, 0, none⟩) lb3).trans HQ.out.1
             have p1 := (hB1.cell (p := ⟨w.heap.size, 1, none⟩) lb3).trans HQ.out.2.1
             have p2 := (hB1.cell (p := ⟨w.heap.size, 2, none⟩) lb3).trans HQ.out.2.2.1
             have p3 := (hB1.cell (p := ⟨w.heap.size, 3, none⟩) lb3).trans HQ.out.2.2.2.1
             have p4 := (hB1.cell (p := ⟨w.heap.size, 4, none⟩) lb3).trans HQ.out.2.2.2.2.1
             clear hat1 hgrow1 hrow1)
          | (refine step_append_row _ (by rfl) _ _ _ (by rfl) 120 i0 _ 5 72 Try.underlying97 hi0 hz0 hz1 hz2 rfl (.slice (some ⟨W3.heap.size, 0, none⟩) 0 0) 0 [] (by rfl) HD2.out
              (.slice a n cap) n (dcells d.pend uw) (by rfl) (HI.out _ (fun k hk => HTwo.out _ _ k hk)) (by unfold maxLen; omega) (by omega) (W3.heap.size + 2) HZ2.out ?_; intro a1 c1 w1 hrow1 hgrow1 hat1
             have hB1 := HE.out _ w1 _ hgrow1 (by rw [HZ2.out]; omega) (fun k hk => HTwo.out _ _ k hk) rfl rfl rfl (by intro k hk; simp [Value.ownBlock] at hk; omega)
             have hrow1' : Row w1 120 5 (.slice a1 n c1) n (dcells d.pend uw) := by rw [Nat.zero_add] at hrow1; simpa using hrow1
             have hat1' : ∀ k, (Value.slice a1 n c1).ownBlock = some k → W3.heap.size ≤ k := fun k hk => by
               rcases hat1 k (by rw [Nat.zero_add]; exact hk) with h | h
               · simp [Value.ownBlock] at h; omega
               · omega
             have hone : w1.heap[W3.heap.size + 1]? = some (.cells #[.int .i64 x.kind, .string x.name, .string x.«to», .slice au x.b.length cu, .int .i64 x.size] 120 (0, 0)) := (hgrow1.block (W3.heap.size + 1) (by rw [HZ2.out]; omega) (by simp [Value.ownBlock])).trans HO2.out
             have p0 := (hB1.cell (p := ⟨w.heap.size, 0, none⟩) lb3).trans HQ.out.1
             have p1 := (hB1.cell (p := ⟨w.heap.size, 1, none⟩) lb3).trans HQ.out.2.1
             have p2 := (hB1.cell (p := ⟨w.heap.size, 2, none⟩) lb3).trans HQ.out.2.2.1
             have p3 := (hB1.cell (p := ⟨w.heap.size, 3, none⟩) lb3).trans HQ.out.2.2.2.1
             have p4 := (hB1.cell (p := ⟨w.heap.size, 4, none⟩) lb3).trans HQ.out.2.2.2.2.1
             clear hat1 hgrow1 hrow1)
          | (refine step_append_row _ (by rfl) _ _ _ (by rfl) 120 i0 _ 5 72 Try.underlying97 hi0 hz0 hz1 hz2 rfl (.slice (some ⟨W3.heap.size + 1, 0, none⟩) 0 0) 0 [] (by rfl) HD3.out
              (.slice a n cap) n (dcells d.pend uw) (by rfl) (HI.out _ (fun k hk => HTwo.out _ _ k hk)) (by unfold maxLen; omega) (by omega) (W3.heap.size + 2) HZ3.out ?_; intro a1 c1 w1 hrow1 hgrow1 hat1
             have hB1 := HE.out _ w1 _ hgrow1 (by rw [HZ3.out]; omega) (fun k hk => HTwo.out _ _ k hk) rfl rfl rfl (by intro k hk; simp [Value.ownBlock] at hk; omega)
             have hrow1' : Row w1 120 5 (.slice a1 n c1) n (dcells d.pend uw) := by rw [Nat.zero_add] at hrow1; simpa using hrow1
             have hat1' : ∀ k, (Value.slice a1 n c1).ownBlock = some k → W3.heap.size ≤ k := fun k hk => by
               rcases hat1 k (by rw [Nat.zero_add]; exact hk) with h | h
               · simp [Value.ownBlock] at h; omega
               · omega
             have hone : w1.heap[W3.heap.size]? = some (.cells #[.int .i64 x.kind, .string x.name, .string x.«to», .slice au x.b.length cu, .int .i64 x.size] 120 (0, 0)) := (hgrow1.block W3.heap.size (by rw [HZ3.out]; omega) (by simp [Value.ownBlock])).trans HO3.out
             have p0 := (hB1.cell (p := ⟨w.heap.size, 0, none⟩) lb3).trans HQ.out.1
             have p1 := (hB1.cell (p := ⟨w.heap.size, 1, none⟩) lb3).trans HQ.out.2.1
             have p2 := (hB1.cell (p := ⟨w.heap.size, 2, none⟩) lb3).trans HQ.out.2.2.1
             have p3 := (hB1.cell (p := ⟨w.heap.size, 3, none⟩) lb3).trans HQ.out.2.2.2.1
             have p4 := (hB1.cell (p := ⟨w.heap.size, 4, none⟩) lb3).trans HQ.out.2.2.2.2.1
             clear hat1 hgrow1 hrow1)
          | (refine step_append_row _ (by rfl) _ _ _ (by rfl) 120 i0 _ 5 72 Try.underlying97 hi0 hz0 hz1 hz2 rfl (.slice a1 n c1) n _ (by rfl) hrow1'
              (.slice (some ⟨W3.heap.size, 0, none⟩) 1 1) 1 [.int .i64 x.kind, .string x.name, .string x.«to», .slice au x.b.length cu, .int .i64 x.size] (by rfl) (Src.of_block (cs := #[.int .i64 x.kind, .string x.name, .string x.«to», .slice au x.b.length cu, .int .i64 x.size]) (t := 120) (fr := (0, 0)) hone 1 1 rfl (by simp [Value.oneCell']))
              (by unfold maxLen; omega) (by omega) w1.heap.size rfl ?_; intro a2 c2 w2 hrow2 hgrow2 hat2
             have hB2 := hB1.grown hgrow2 hB1.size hat1'
             have hat2' : ∀ k, (Value.slice a2 (n + 1) c2).ownBlock = some k → W3.heap.size ≤ k := fun k hk => by
               rcases hat2 k hk with h | h
               · exact hat1' k h
               · have := hB1.size; omega
             have p5 := (World.frozen?_of_block (a := ⟨q, 3, none⟩) (hB2.block q lq3)).trans HQ.out.2.2.2.2.2
             have p6 := (hB2.cell (p := ⟨q, 3, none⟩) lq3).trans c3
             clear hat2 hgrow2)
          | (refine step_append_row _ (by rfl) _ _ _ (by rfl) 120 i0 _ 5 72 Try.underlying97 hi0 hz0 hz1 hz2 rfl (.slice a1 n c1) n _ (by rfl) hrow1'
              (.slice (some ⟨W3.heap.size + 1, 0, none⟩) 1 1) 1 [.int .i64 x.kind, .string x.name, .string x.«to», .slice au x.b.length cu, .int .i64 x.size] (by rfl) (Src.of_block (cs := #[.int .i64 x.kind, .string x.name, .string x.«to», .slice au x.b.length cu, .int .i64 x.size]) (t := 120) (fr := (0, 0)) hone 1 1 rfl (by simp [Value.oneCell']))
              (by unfold maxLen; omega) (by omega) w1.heap.size rfl ?_; intro a2 c2 w2 hrow2 hgrow2 hat2
             have hB2 := hB1.grown hgrow2 hB1.size hat1'
             have hat2' : ∀ k, (Value.slice a2 (n + 1) c2).ownBlock = some k → W3.heap.size ≤ k := fun k hk => by
               rcases hat2 k hk with h | h
               · exact hat1' k h
               · have := hB1.size; omega
             have p5 := (World.frozen?_of_block (a := ⟨q, 3, none⟩) (hB2.block q lq3)).trans HQ.out.2.2.2.2.2
             have p6 := (hB2.cell (p := ⟨q, 3, none⟩) lq3).trans c3
             clear hat2 hgrow2)
          | (refine step_append_row _ (by rfl) _ _ _ (by rfl) 120 i0 _ 5 72 Try.underlying97 hi0 hz0 hz1 hz2 rfl (.slice a1 n c1) n _ (by rfl) (hrow1'.of_block (fun b hb => Below.heap_alloc w1 _ b (hrow1'.lt hb)))
              (.slice (some ⟨w1.heap.size, 0, none⟩) 1 1) 1 [.int .i64 x.kind, .string x.name, .string x.«to», .slice au x.b.length cu, .int .i64 x.size] (by rfl) (Src.of_block (cs := #[.int .i64 x.kind, .string x.name, .string x.«to», .slice au x.b.length cu, .int .i64 x.size]) (t := 120) (fr := (0, 0)) (heap_alloc_new w1 _) 1 1 rfl (by simp [Value.oneCell']))
              (by unfold maxLen; omega) (by omega) (w1.heap.size + 1) (by simp) ?_; intro a2 c2 w2 hrow2 hgrow2 hat2
             have hB2 := (hB1.alloc hB1.size (.cells #[.int .i64 x.kind, .string x.name, .string x.«to», .slice au x.b.length cu, .int .i64 x.size] 120)).grown hgrow2 (by have := hB1.size; simp; omega) hat1'
             have hat2' : ∀ k, (Value.slice a2 (n + 1) c2).ownBlock = some k → W3.heap.size ≤ k := fun k hk => by
               rcases hat2 k hk with h | h
               · exact hat1' k h
               · have := hB1.size; omega
             have p5 := (World.frozen?_of_block (a := ⟨q, 3, none⟩) (hB2.block q lq3)).trans HQ.out.2.2.2.2.2
             have p6 := (hB2.cell (p := ⟨q, 3, none⟩) lq3).trans c3
             clear hat2 hgrow2))
    all_goals
      go_wp2_with fail
      go_ret
      exact ⟨rfl, does_fin HH.out.1 HB0.out HR4.out.2.1 HR4.out.2.2 HR4.out.1 HW3.out.symm hB2 HU.out hrow2 (by rw [HN.out]) rfl hat2'⟩
end Go.Proofs.Ytpkmnfpbcakflaa
