/- The walk of (*family.Family).Append: by case. No condition. -/
import Derived.Test.YtakdcankhfeobaaCreate
import Derived.Test.YtakdcankhfeobaaRead
import Derived.IntWalk
namespace Go.Proofs.Ytakdcankhfeobaa
open Go.ChangeShapes Go.WideShapes Go.ChangeAt Go.RowKit

theorem append_full (p : Nat) (v : Value) (gs : List Gn) (vs : List Value) (latest : Int) (w : World) (hF : FamAt 64 67 w p v gs vs latest) (hs : findSuf gs 0 < 0) (hl : 12 ≤ gs.length) (y : Value) :
    Calls Try.prog 15 #[.pointer (some ⟨p, 0, none⟩), y] w fun e w' => e = .returned (.int .i64 2) ∧ Below w.heap.size w w' := by
  obtain ⟨a, cap, rfl, -⟩ := hF.row.form
  go_enter Try.func15, Try.ntmps15
  go_wp2_with fail
  refine (place_any _ _ _ _ _ _ _ hF).mono ?_
  rintro e w1 ⟨rfl, hB⟩
  obtain ⟨c0, c1, f0, f1⟩ := (hF.below hB).cells
  go_wp2_with fail
  go_ret
  exact ⟨rfl, hB⟩

theorem append_big (p : Nat) (v : Value) (gs : List Gn) (vs : List Value) (latest : Int) (w : World) (hF : FamAt 64 67 w p v gs vs latest) (hs : findSuf gs 0 < 0) (hl : gs.length < 12) (ay : Option Addr) (m cy : Nat) (hm : 65536 < m) (hm2 : m ≤ 140737488355328) :
    Calls Try.prog 15 #[.pointer (some ⟨p, 0, none⟩), .slice ay m cy] w fun e w' => e = .returned (.int .i64 2) ∧ Below w.heap.size w w' := by
  obtain ⟨a, cap, rfl, -⟩ := hF.row.form
  go_enter Try.func15, Try.ntmps15
  go_wp2_with fail
  refine (place_any _ _ _ _ _ _ _ hF).mono ?_
  rintro e w1 ⟨rfl, hB⟩
  obtain ⟨c0, c1, f0, f1⟩ := (hF.below hB).cells
  go_wp2_with fail
  go_ret
  exact ⟨rfl, hB⟩

theorem append_big2 (p : Nat) (v : Value) (gs : List Gn) (vs : List Value) (latest : Int) (w : World) (hF : FamAt 64 67 w p v gs vs latest) (k : Nat) (x : Gn) (hs : findSuf gs 0 = k) (hx : gs[k]? = some x) (hl : gs.length ≤ 1000000) (ay : Option Addr) (m cy : Nat) (hxb : x.b.length ≤ 65536) (hm : 65536 < m + x.b.length) :
    Calls Try.prog 15 #[.pointer (some ⟨p, 0, none⟩), .slice ay m cy] w fun e w' => e = .returned (.int .i64 2) ∧ Below w.heap.size w w' := by
  obtain ⟨a, cap, rfl, -⟩ := hF.row.form
  go_enter Try.func15, Try.ntmps15
  go_wp2_with fail
  refine (place_any _ _ _ _ _ _ _ hF).mono ?_
  rintro e w1 ⟨rfl, hB⟩
  rw [hs]
  have hF1 := hF.below hB
  obtain ⟨c0, -, -, -⟩ := hF1.cells
  have hk : k < gs.length := (List.getElem?_eq_some_iff.1 hx).1
  obtain ⟨u, hu⟩ : ∃ u, vs[k]? = some u := ⟨_, List.getElem?_eq_getElem (by rw [hF.len]; exact hk)⟩
  obtain ⟨g, rfl, hgl, hcell, -⟩ := hF1.row.view (by omega)
  obtain ⟨ak, ck, rfl, hck, hbl, -⟩ := (hF1.inner k x u hx hu).form
  obtain ⟨-, -, d2⟩ := gcells_at gs vs k x _ hx hu
  have e2 := (hcell (k * 3 + 2) (by omega)).trans d2
  clear hs hx hu hcell d2
  go_wp2_with fail
  go_ret
  exact ⟨rfl, hB⟩

theorem append_fin {p g n cap : Nat} {u' u0 : Value} {gs : List Gn} {vs : List Value} {latest : Int} {W w2 : World} {k H m : Nat} {x : Gn} {bs : List Int} (hF1 : FamAt 64 67 W p (.slice (some ⟨g, 0, none⟩) n cap) gs vs latest) (hx : gs[k]? = some x) (hu : vs[k]? = some u0)
    (hbs : ∀ n ∈ bs, 0 ≤ n ∧ n < 256) (hm : m = (x.b ++ bs).length)
    (hown2 : Row w2 5 1 u' m (byteCells x.b ++ byteCells bs))
    (hgrow : W.drew.grownBy w2 u0.ownBlock) (hat : ∀ k, u'.ownBlock = some k → u0.ownBlock = some k ∨ k = H) (hH : H = W.heap.size) :
    FamOut 64 67 W (w2.setCell ⟨g, k * 3 + 2, none⟩ u') p (.slice (some ⟨g, 0, none⟩) n cap) vs (gs.set k { x with b := x.b ++ bs }) latest := by
  subst hH
  subst hm
  have hu0 : u0 ∈ vs := List.mem_of_getElem? hu
  have hF2 := hF1.setVal (w := w2) (u' := u') (b' := x.b ++ bs) hx hu (fun j hj hne => hgrow.block j hj (fun e => hne e.symm))
    (fun j hj => by
      rcases hat j hj with h | h
      · exact .inl h
      · exact .inr (by omega))
    (by rw [show byteCells (x.b ++ bs) = byteCells x.b ++ byteCells bs by simp [byteCells]]; exact hown2)
    (by
      intro n hn
      rw [List.mem_append] at hn
      rcases hn with hn | hn
      · exact hF1.bytes x (List.mem_of_getElem? hx) n hn
      · exact hbs n hn)
  refine ⟨_, _, hF2, ?_, ?_⟩
  · exact Mod.setCell (((Mod.refl _ W).drew).grown hgrow (fun k hk => .inr (.inr (.inr ⟨u0, hu0, hk⟩)))) (.inr (.inr (.inl rfl))) _
  · rintro j (rfl | hk | ⟨u, hm, hk⟩)
    · exact .inl (.inl rfl)
    · exact .inl (.inr (.inl hk))
    · rcases List.mem_or_eq_of_mem_set hm with hm | rfl
      · exact .inl (.inr (.inr ⟨u, hm, hk⟩))
      · rcases hat j hk with h | h
        · exact .inl (.inr (.inr ⟨u0, hu0, h⟩))
        · exact .inr (by omega)

set_option maxHeartbeats 1000000 in
theorem append_old (p : Nat) (v : Value) (gs : List Gn) (vs : List Value) (latest : Int) (w : World) (hF : FamAt 64 67 w p v gs vs latest) (k : Nat) (x : Gn) (hs : findSuf gs 0 = k) (hx : gs[k]? = some x) (hl : gs.length ≤ 1000000) (ay : Option Addr) (m cy : Nat) (bs : List Int) (hsrc : Src w 1 (.slice ay m cy) m (byteCells bs)) (hbs : ∀ n ∈ bs, 0 ≤ n ∧ n < 256) (hm : m + x.b.length ≤ 65536) :
    Calls Try.prog 15 #[.pointer (some ⟨p, 0, none⟩), .slice ay m cy] w fun e w' => e = .returned (.int .i64 0) ∧ FamOut 64 67 w w' p v vs (gs.set k { x with b := x.b ++ bs }) latest := by
  obtain ⟨a, cap, rfl, hnc, -, -⟩ := hF.row.form
  obtain ⟨i0, hi0, hz0, hz1, hz2⟩ := info_parts info5
  go_enter Try.func15, Try.ntmps15
  go_wp2_with fail
  refine (place_any _ _ _ _ _ _ _ hF).mono ?_
  rintro e W ⟨rfl, hB⟩
  rw [hs]
  have hF1 := hF.below hB
  obtain ⟨c0, -, f0, -⟩ := hF1.cells
  have hk : k < gs.length := (List.getElem?_eq_some_iff.1 hx).1
  obtain ⟨u, hu⟩ : ∃ u, vs[k]? = some u := ⟨_, List.getElem?_eq_getElem (by rw [hF.len]; exact hk)⟩
  have hin := hF1.inner k x u hx hu
  obtain ⟨ak, ck, rfl, hck, hbl, -⟩ := hin.form
  have hgp := hF1.notp.1
  have hgu := hF1.out _ (List.mem_of_getElem? hu)
  have hpu := hF1.notp.2 _ (List.mem_of_getElem? hu)
  obtain ⟨g, rfl, hgl, hcell, hfr⟩ := hF1.row.view (by omega)
  obtain ⟨-, -, d2⟩ := gcells_at gs vs k x _ hx hu
  have e2 := (hcell (k * 3 + 2) (by omega)).trans d2
  have f2 := hfr (k * 3 + 2)
  have lp : p < W.heap.size := heap_lt hF1.head
  have hgu' : (Value.slice ak x.b.length ck).ownBlock ≠ some g := fun e => hgu g e rfl
  have hsrc1 := hsrc.below hB
  have HX := Lib.hid hx
  have HU := Lib.hid hu
  have hml : bs.length = m := by
    have := hsrc.1; simp [byteCells] at this; exact this
  have HM : Hid (x.b.length + m = (x.b ++ bs).length) := by show _ = _; rw [List.length_append, hml]
  clear hs hx hu hcell hfr d2 hgu hml hsrc
  go_wp2_with fail
  have ik0 : (0 : Int) ≤ (k : Int) := by omega
  have ik1 : (k : Int) < (gs.length : Int) := by omega
  go_region_law
    (refine step_append_row _ (by rfl) _ _ _ (by rfl) 5 i0 _ 1 1 Try.underlying27 hi0 hz0 hz1 hz2 rfl (.slice ak x.b.length ck) x.b.length _ (by rfl) (hin.of_block (fun _ _ => rfl))
        (.slice ay m cy) m _ (by rfl) (hsrc1.below (Below.refl _ _).drew)
        (by unfold maxLen; omega) (by omega) W.heap.size (by simp) ?_; intro ag' cap' w2 hown2 hgrow hat; have hpb : w2.heap[p]? = W.heap[p]? := (hgrow.block p (by simp; omega) (fun e => hpu e.symm)); have hgb : w2.heap[g]? = W.heap[g]? := (hgrow.block g (by simp; omega) (fun e => hgu' e.symm)); have q0' := (World.cell?_of_block (a := ⟨p, 0, none⟩) hpb).trans c0; have q1' := (World.cell?_of_block (a := ⟨g, k * 3 + 2, none⟩) hgb).trans e2; have q2' := (World.frozen?_of_block (a := ⟨g, k * 3 + 2, none⟩) hgb).trans f2; clear hpb hgb)
  all_goals
    go_wp2
    go_ret
    exact ⟨by rfl, (append_fin hF1 HX.out HU.out hbs HM.out hown2 hgrow hat rfl).of_below hB⟩

set_option maxHeartbeats 1000000 in
theorem append_new (p : Nat) (v : Value) (gs : List Gn) (vs : List Value) (latest : Int) (w : World) (hF : FamAt 64 67 w p v gs vs latest) (hs : findSuf gs 0 < 0) (hl : gs.length < 12) (h0 : 0 ≤ latest) (h1 : latest < 9223372036854775807)
    (ay : Option Addr) (m cy : Nat) (bs : List Int) (hsrc : Src w 1 (.slice ay m cy) m (byteCells bs)) (hy : 0 < m → ∀ k, (Value.slice ay m cy).ownBlock = some k → ¬ foot p v vs k) (hbs : ∀ n ∈ bs, 0 ≤ n ∧ n < 256) (hm : m ≤ 65536) :
    Calls Try.prog 15 #[.pointer (some ⟨p, 0, none⟩), .slice ay m cy] w fun e w' => e = .returned (.int .i64 0) ∧ FamOut 64 67 w w' p v vs (gs ++ [⟨latest + 1, 0, bs⟩]) (latest + 1) := by
  obtain ⟨a, cap, rfl, hnc, -, -⟩ := hF.row.form
  obtain ⟨i0, hi0, hz0, hz1, hz2⟩ := info_parts info5
  go_enter Try.func15, Try.ntmps15
  go_wp2_with fail
  refine (place_any _ _ _ _ _ _ _ hF).mono ?_
  rintro e w1 ⟨rfl, hB⟩
  have hF1 := hF.below hB
  obtain ⟨c0, -, -, -⟩ := hF1.cells
  go_wp2_with fail
  refine (create_ok _ _ _ _ _ _ hF1 (by omega) hl h0 h1).mono ?_
  rintro e W ⟨rfl, vW, vsW, hFW, hMW, hfW⟩
  clear c0
  obtain ⟨aW, capW, rfl, hncW, -, -⟩ := hFW.row.form
  obtain ⟨c0, -, f0, -⟩ := hFW.cells
  have hx : (gs ++ [(⟨latest + 1, 0, []⟩ : Gn)])[gs.length]? = some ⟨latest + 1, 0, []⟩ := by simp
  obtain ⟨u, hu⟩ : ∃ u, vsW[gs.length]? = some u := ⟨_, List.getElem?_eq_getElem (by rw [hFW.len]; simp)⟩
  have hin : Row W 5 1 u 0 (byteCells []) := hFW.inner gs.length _ u hx hu
  obtain ⟨ak, ck, rfl, hck, hbl, -⟩ := hin.form
  have hgu := hFW.out _ (List.mem_of_getElem? hu)
  have hpu := hFW.notp.2 _ (List.mem_of_getElem? hu)
  obtain ⟨g, rfl, hgl, hcell, hfr⟩ := hFW.row.view (by simp)
  obtain ⟨-, -, d2⟩ := gcells_at _ vsW gs.length _ _ hx hu
  have e2 := (hcell (gs.length * 3 + 2) (by simp; omega)).trans d2
  have f2 := hfr (gs.length * 3 + 2)
  have lp : p < W.heap.size := heap_lt hFW.head
  have hgu' : (Value.slice ak 0 ck).ownBlock ≠ some g := fun e => hgu g e rfl
  have hsrc1 := (hsrc.below hB).mod hMW hy
  have HX := Lib.hid hx
  have HU := Lib.hid hu
  have hml : bs.length = m := by
    have := hsrc.1; simp [byteCells] at this; exact this
  have HM : Hid (0 + m = (([] : List Int) ++ bs).length) := by show _ = _; simp [hml]
  have hfin : (gs ++ [(⟨latest + 1, 0, []⟩ : Gn)]).set gs.length { (⟨latest + 1, 0, []⟩ : Gn) with b := ([] : List Int) ++ bs } = gs ++ [⟨latest + 1, 0, bs⟩] := by
    rw [List.set_append_right _ _ (Nat.le_refl _)]; simp
  have HFin := Lib.hid hfin
  have hlen : (gs ++ [(⟨latest + 1, 0, []⟩ : Gn)]).length = gs.length + 1 := by simp
  rw [hlen] at hFW c0 hncW
  clear hx hu hcell hfr d2 hgu hml hsrc hfin hlen
  have ik0 : (0 : Int) ≤ (gs.length : Int) := by omega
  have ik1 : (gs.length : Int) < (gs.length : Int) + 1 := by omega
  go_wp2_with fail
  go_region_law
    (refine step_append_row _ (by rfl) _ _ _ (by rfl) 5 i0 _ 1 1 Try.underlying27 hi0 hz0 hz1 hz2 rfl (.slice ak 0 ck) 0 _ (by rfl) (hin.of_block (fun _ _ => rfl))
        (.slice ay m cy) m _ (by rfl) (hsrc1.below (Below.refl _ _).drew)
        (by unfold maxLen; omega) (by omega) W.heap.size (by simp) ?_; intro ag' cap' w2 hown2 hgrow hat; have hpb : w2.heap[p]? = W.heap[p]? := (hgrow.block p (by simp; omega) (fun e => hpu e.symm)); have hgb : w2.heap[g]? = W.heap[g]? := (hgrow.block g (by simp; omega) (fun e => hgu' e.symm)); have q0' := (World.cell?_of_block (a := ⟨p, 0, none⟩) hpb).trans c0; have q1' := (World.cell?_of_block (a := ⟨g, gs.length * 3 + 2, none⟩) hgb).trans e2; have q2' := (World.frozen?_of_block (a := ⟨g, gs.length * 3 + 2, none⟩) hgb).trans f2; clear hpb hgb)
  all_goals
    go_wp2
    go_ret
    refine ⟨by rfl, ?_⟩
    have hh := append_fin hFW HX.out HU.out hbs HM.out hown2 hgrow hat rfl
    rw [HFin.out] at hh
    simp only [Nat.zero_add] at hh
    exact (FamOut.trans hMW hfW hh).of_below hB
end Go.Proofs.Ytakdcankhfeobaa
