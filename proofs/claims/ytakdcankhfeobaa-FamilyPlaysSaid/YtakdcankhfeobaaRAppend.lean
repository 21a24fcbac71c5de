/- The walk of tailraceref23.Family's Append. No condition. -/
import Derived.Test.YtakdcankhfeobaaRRemove
namespace Go.Proofs.Ytakdcankhfeobaa
set_option linter.unusedVariables false
open Go.ChangeShapes Go.WideShapes Go.ChangeAt Go.RowKit

theorem append_fin_r {p g n cap k m' : Nat} {u0 u' : Value} {gs : List Gn} {vs : List Value} {latest : Int} {W w2 : World} {x : Gn} {bs : List Int} (hF : FamAt 37 69 W p (.slice (some ⟨g, 0, none⟩) n cap) gs vs latest) (hk : gs[k]? = some x) (hv : vs[k]? = some u0)
    (hB : Below W.heap.size W w2) (hm : (x.b ++ bs).length = m') (hown2 : Row w2 5 1 u' m' (byteCells (x.b ++ bs))) (hat : ∀ k, u'.ownBlock = some k → W.heap.size ≤ k) (hbs : ∀ n ∈ bs, 0 ≤ n ∧ n < 256) :
    FamOut 37 69 W (w2.setCell ⟨g, k * 3 + 2, none⟩ u') p (.slice (some ⟨g, 0, none⟩) n cap) vs (gs.set k { x with b := x.b ++ bs }) latest := by
  subst hm
  have hby : ∀ j ∈ x.b ++ bs, 0 ≤ j ∧ j < 256 := fun j hj => by
    rcases List.mem_append.1 hj with h | h
    · exact hF.bytes x (List.mem_of_getElem? hk) j h
    · exact hbs j h
  have hF2 := hF.setVal (w := w2) hk hv (fun j hj _ => hB.block j hj) (fun j hj => .inr (hat j hj)) hown2 hby
  refine ⟨_, _, hF2, (Mod.of_below hB).setCell (.inr (.inr (.inl rfl))) _, ?_⟩
  rintro j (rfl | hj | ⟨u, hu, hj⟩)
  · exact .inl (.inl rfl)
  · exact .inl (.inr (.inl hj))
  · rcases List.mem_or_eq_of_mem_set hu with hu | rfl
    · exact .inl (.inr (.inr ⟨u, hu, hj⟩))
    · exact .inr (hat j hj)

theorem append_full_r (p : Nat) (v : Value) (gs : List Gn) (vs : List Value) (latest : Int) (w : World) (hF : FamAt 37 69 w p v gs vs latest) (hs : ¬ 0 ≤ findSuf gs 0) (hl : 12 ≤ gs.length) (ay : Option Addr) (m cy : Nat) :
    Calls Try.prog 32 #[.pointer (some ⟨p, 0, none⟩), .slice ay m cy] w fun e w' => e = .returned (.int .i64 2) ∧ w = w' := by
  obtain ⟨a, cap, rfl, -⟩ := hF.row.form
  obtain ⟨c0, -, -, -⟩ := hF.cells
  have HFd := Lib.hid (find_r p _ gs vs latest 0 w hF)
  go_enter Try.func32, Try.ntmps32
  go_wp2_with fail
  refine HFd.out.mono ?_
  rintro e w1 ⟨rfl, rfl⟩
  go_wp2_with fail
  go_ret
  exact ⟨rfl, rfl⟩
theorem append_big_r (p : Nat) (v : Value) (gs : List Gn) (vs : List Value) (latest : Int) (w : World) (hF : FamAt 37 69 w p v gs vs latest) (hs : ¬ 0 ≤ findSuf gs 0) (hl : gs.length < 12) (ay : Option Addr) (m cy : Nat) (hm : 65536 < m) (hm2 : m ≤ 140737488355328) :
    Calls Try.prog 32 #[.pointer (some ⟨p, 0, none⟩), .slice ay m cy] w fun e w' => e = .returned (.int .i64 2) ∧ w = w' := by
  obtain ⟨a, cap, rfl, -⟩ := hF.row.form
  obtain ⟨c0, -, -, -⟩ := hF.cells
  have HFd := Lib.hid (find_r p _ gs vs latest 0 w hF)
  go_enter Try.func32, Try.ntmps32
  go_wp2_with fail
  refine HFd.out.mono ?_
  rintro e w1 ⟨rfl, rfl⟩
  go_wp2_with fail
  go_ret
  exact ⟨rfl, rfl⟩
theorem append_big2_r (p : Nat) (v : Value) (gs : List Gn) (vs : List Value) (latest : Int) (w : World) (hF : FamAt 37 69 w p v gs vs latest) (k : Nat) (x : Gn) (hs : findSuf gs 0 = k) (hx : gs[k]? = some x) (hl : gs.length ≤ 1000000) (ay : Option Addr) (m cy : Nat) (hxb : x.b.length ≤ 65536) (hm : 65536 < m + x.b.length) (hm2 : m ≤ 140737488355328) :
    Calls Try.prog 32 #[.pointer (some ⟨p, 0, none⟩), .slice ay m cy] w fun e w' => e = .returned (.int .i64 2) ∧ w = w' := by
  obtain ⟨a, cap, rfl, -⟩ := hF.row.form
  obtain ⟨c0, -, -, -⟩ := hF.cells
  have hlt : k < gs.length := (List.getElem?_eq_some_iff.1 hx).1
  obtain ⟨u, hu⟩ : ∃ u, vs[k]? = some u := ⟨_, List.getElem?_eq_getElem (by rw [hF.len]; exact hlt)⟩
  obtain ⟨g, rfl, -, hcell, -⟩ := hF.row.view (by omega)
  obtain ⟨ak, ck, rfl, -⟩ := (hF.inner k x u hx hu).form
  obtain ⟨-, -, d2⟩ := gcells_at gs vs k x _ hx hu
  have e2 := (hcell (k * 3 + 2) (by omega)).trans d2
  have hfd := find_r p _ gs vs latest 0 w hF
  rw [hs] at hfd
  have HFd := Lib.hid hfd
  clear hfd hcell d2 hs hx hu
  go_enter Try.func32, Try.ntmps32
  go_wp2_with fail
  refine HFd.out.mono ?_
  rintro e w1 ⟨rfl, rfl⟩
  go_wp2_with fail
  go_ret
  exact ⟨rfl, rfl⟩

set_option linter.unusedVariables false
set_option maxRecDepth 100000 in
set_option maxHeartbeats 1600000 in
theorem append_yes_r (p : Nat) (v : Value) (gs : List Gn) (vs : List Value) (latest : Int) (w : World) (hF : FamAt 37 69 w p v gs vs latest) (hl : gs.length ≤ 12) (ay : Option Addr) (m cy : Nat) (bs : List Int) (hsrc : Src w 1 (.slice ay m cy) m (byteCells bs))
    (hy : 0 < m → ∀ k, (Value.slice ay m cy).ownBlock = some k → ¬ foot p v vs k) (hbs : ∀ n ∈ bs, 0 ≤ n ∧ n < 256) (hm : m ≤ 65536) (h0 : 0 ≤ latest) (h1 : latest < 9223372036854775807)
    (hc : (∃ k x, findSuf gs 0 = (k : Nat) ∧ gs[k]? = some x ∧ m + x.b.length ≤ 65536) ∨ (¬ 0 ≤ findSuf gs 0 ∧ gs.length < 12)) :
    Calls Try.prog 32 #[.pointer (some ⟨p, 0, none⟩), .slice ay m cy] w fun e w' => e = .returned (.int .i64 0) ∧ FamOut 37 69 w w' p v vs (appendM gs latest bs).2.1 (appendM gs latest bs).2.2 := by
  have hml : bs.length = m := by
    have := hsrc.1; rw [byteCells_len] at this; omega
  obtain ⟨i0, hi0, hz0, hz1, hz2⟩ := info_parts info5
  have HBs := Lib.hid hbs
  have hfd := find_r p _ gs vs latest 0 w hF
  rcases hc with ⟨k, x, hk, hx, hfit⟩ | ⟨hno, hlt12⟩
  case inl =>
    have hlt : k < gs.length := (List.getElem?_eq_some_iff.1 hx).1
    have hM : appendM gs latest bs = (0, gs.set k { x with b := x.b ++ bs }, latest) := by
      unfold appendM
      rw [hk, if_pos (by omega), Int.toNat_natCast, hx]
      simp only
      rw [if_neg (by omega)]
    rw [hM]
    obtain ⟨u, hu⟩ : ∃ u, vs[k]? = some u := ⟨_, List.getElem?_eq_getElem (by rw [hF.len]; exact hlt)⟩
    obtain ⟨a, cap, rfl, -⟩ := hF.row.form
    obtain ⟨g, rfl, hgl, hcell, hfr⟩ := hF.row.view (by omega)
    have hin := hF.inner k x u hx hu
    obtain ⟨ak, ck, rfl, -⟩ := hin.form
    obtain ⟨-, -, d2⟩ := gcells_at gs vs k x _ hx hu
    have e2 := (hcell (k * 3 + 2) (by omega)).trans d2
    obtain ⟨q0, -, -, -⟩ := hF.cells
    rw [hk] at hfd
    have HFd := Lib.hid hfd
    have hxl : x.b.length ≤ 65536 := by omega
    clear hfd hcell d2 hk hM
    go_enter Try.func32, Try.ntmps32
    go_wp2_with fail
    refine HFd.out.mono ?_
    rintro e w1 ⟨rfl, rfl⟩
    clear HFd
    go_wp2_with fail
    have f2 := hfr (k * 3 + 2)
    have lp : p < w.heap.size := heap_lt hF.head
    have hB0 : Below w.heap.size w w := Below.refl _ w
    obtain ⟨n0, hn0⟩ : ∃ n0, x.b.length = n0 := ⟨_, rfl⟩
    rw [hn0] at e2 hin hxl
    have HSx := Lib.hid (Src.of_row hin (byteCells_one _))
    have HSb := Lib.hid hsrc
    have HQ := Lib.hid (And.intro q0 (And.intro e2 f2))
    have HN0 := Lib.hid hn0
    have HHx := Lib.hid (And.intro hx hu)
    have HFF := Lib.hid hF
    have HE1 : Hid (∀ X w1 : World, ∀ r : Option Nat, X.grownBy w1 r → w.heap.size ≤ X.heap.size → (∀ k, k < w.heap.size → X.heap[k]? = w.heap[k]?) → X.os = w.os → X.tape = w.tape → X.output = w.output → (∀ k, r = some k → w.heap.size ≤ k) → Below w.heap.size w w1) := fun X w1 r h6 h1 h2 h3 h4 h5 h7 =>
      (show Below w.heap.size w X from ⟨h3, h4, h5, h1, h2⟩).grown h6 h1 h7
    clear hx hu hin hn0 hfr
    go_region_law
      (first
        | (refine step_append_row _ (by rfl) _ _ _ (by rfl) 5 i0 _ 1 1 Try.underlying27 hi0 hz0 hz1 hz2 rfl (.slice (some ⟨w.heap.size, 0, none⟩) 0 0) 0 [] (by rfl) ((Row.lit_at w 5 1 #[] 0 w.heap.size rfl (by simp [maxLen]) rfl).of_block (fun _ _ => rfl))
            (.slice ak n0 ck) n0 _ (by rfl) (HSx.out.below (below_drew (hB0.alloc (Nat.le_refl _) _))) (by unfold maxLen; omega) (by omega) (w.heap.size + 1) (by simp) ?_; intro a1 c1 w1 hrow1 hgrow1 hat1
           have hB1 := HE1.out _ w1 _ hgrow1 (by simp) (fun k hk => Below.heap_alloc w _ k hk) rfl rfl rfl (by intro k hk; simp [Value.ownBlock] at hk; omega)
           have hrow1' : Row w1 5 1 (.slice a1 n0 c1) n0 (byteCells x.b) := by rw [Nat.zero_add] at hrow1; simpa using hrow1
           have hat1' : ∀ j, (Value.slice a1 n0 c1).ownBlock = some j → w.heap.size ≤ j := fun j hj => by
             rcases hat1 j (by rw [Nat.zero_add]; exact hj) with h | h
             · simp [Value.ownBlock] at h; omega
             · omega
           have p1 := (hB1.cell (p := ⟨p, 0, none⟩) lp).trans HQ.out.1
           have p2 := (hB1.cell (p := ⟨g, k * 3 + 2, none⟩) hgl).trans HQ.out.2.1
           clear hat1 hgrow1 hrow1)
        | (refine step_append_row _ (by rfl) _ _ _ (by rfl) 5 i0 _ 1 1 Try.underlying27 hi0 hz0 hz1 hz2 rfl (.slice a1 n0 c1) n0 _ (by rfl) hrow1'
            (.slice ay m cy) m _ (by rfl) (HSb.out.below hB1) (by unfold maxLen; omega) (by omega) w1.heap.size rfl ?_; intro a2 c2 w2 hrow2 hgrow2 hat2
           have hB2 := hB1.grown hgrow2 hB1.size hat1'
           have hat2' : ∀ j, (Value.slice a2 (n0 + m) c2).ownBlock = some j → w.heap.size ≤ j := fun j hj => by
             rcases hat2 j hj with h | h
             · exact hat1' j h
             · have := hB1.size; omega
           have p4 := (hB2.cell (p := ⟨p, 0, none⟩) lp).trans HQ.out.1
           have p5 := (hB2.cell (p := ⟨g, k * 3 + 2, none⟩) hgl).trans HQ.out.2.1
           have p6 := (World.frozen?_of_block (a := ⟨g, k * 3 + 2, none⟩) (hB2.block g hgl)).trans HQ.out.2.2
           clear hat2 hgrow2))
    all_goals
      go_wp2_with fail
      go_ret
      rw [show byteCells x.b ++ byteCells bs = byteCells (x.b ++ bs) from by simp [byteCells]] at hrow2
      exact ⟨rfl, append_fin_r HFF.out HHx.out.1 HHx.out.2 hB2 (by rw [List.length_append, HN0.out, hml]) hrow2 hat2' HBs.out⟩
  case inr =>
    have hM : appendM gs latest bs = (0, gs ++ [⟨latest + 1, 0, bs⟩], latest + 1) := by
      unfold appendM
      rw [if_neg hno, if_neg (by omega), if_neg (by omega)]
    rw [hM]
    have HNo := Lib.hid hno
    have HFd := Lib.hid hfd
    have HCr := Lib.hid (create_ok_r p v gs vs latest w hF hno hlt12 h0 h1)
    obtain ⟨a, cap, rfl, -⟩ := hF.row.form
    obtain ⟨c0, -, -, -⟩ := hF.cells
    have HSb0 := Lib.hid (And.intro hsrc hy)
    clear hfd hM hsrc hy
    go_enter Try.func32, Try.ntmps32
    go_wp2_with fail
    refine HFd.out.mono ?_
    rintro e w1 ⟨rfl, rfl⟩
    clear HFd
    go_wp2_with fail
    refine HCr.out.mono ?_
    rintro e W ⟨rfl, v1, vs1, hF1, hMd, hft⟩
    clear HCr c0
    obtain ⟨k, hk⟩ : ∃ k, gs.length = k := ⟨_, rfl⟩
    obtain ⟨x, hxe⟩ : ∃ x : Gn, x = ⟨latest + 1, 0, []⟩ := ⟨_, rfl⟩
    rw [← hxe] at hF1
    have hx : (gs ++ [x])[k]? = some x := by rw [← hk]; simp
    have hnf : findSuf (gs ++ [x]) 0 = k := by
      refine findSuf_at _ _ _ _ hx (by rw [hxe]) (fun j hj g' hg' e => ?_)
      rw [List.getElem?_append_left (by omega)] at hg'
      refine absurd (show 0 ≤ findSuf gs 0 from ?_) (by have := HNo.out; omega)
      unfold findSuf
      cases hfi : gs.findIdx? (fun g => g.suf == 0) with
      | some i => simp
      | none =>
        rw [List.findIdx?_eq_none_iff] at hfi
        have := hfi g' (List.mem_of_getElem? hg')
        simp [e] at this
    have hfd := find_r p v1 (gs ++ [x]) vs1 (latest + 1) 0 W hF1
    rw [hnf] at hfd
    have HFd := Lib.hid hfd
    obtain ⟨u, hu⟩ : ∃ u, vs1[k]? = some u := ⟨_, List.getElem?_eq_getElem (by rw [hF1.len]; simp; omega)⟩
    obtain ⟨a, cap, rfl, -⟩ := hF1.row.form
    obtain ⟨g, rfl, hgl, hcell, hfr⟩ := hF1.row.view (by simp)
    have hin := hF1.inner k x u hx hu
    obtain ⟨ak, ck, rfl, -⟩ := hin.form
    obtain ⟨-, -, d2⟩ := gcells_at (gs ++ [x]) vs1 k x _ hx hu
    have e2 := (hcell (k * 3 + 2) (by simp; omega)).trans d2
    obtain ⟨q0, -, -, -⟩ := hF1.cells
    have hxl : x.b.length ≤ 65536 := by rw [hxe]; simp
    have hsrcW := HSb0.out.1.mod hMd HSb0.out.2
    have hsets : (gs ++ [x]).set k { x with b := x.b ++ bs } = gs ++ [⟨latest + 1, 0, bs⟩] := by
      rw [hxe, ← hk]; simp
    have HSet := Lib.hid hsets
    have hkl : k < (gs ++ [x]).length := by simp; omega
    obtain ⟨nn, hnn⟩ : ∃ nn, (gs ++ [x]).length = nn := ⟨_, rfl⟩
    rw [hnn] at q0 hF1 hkl hft
    have HMd := Lib.hid (And.intro hMd hft)
    clear hfd hcell d2 hnf hsets hMd hft HSb0 hxe hno HNo
    go_wp2_with fail
    refine HFd.out.mono ?_
    rintro e W2 ⟨rfl, rfl⟩
    clear HFd
    go_wp2_with fail
    have f2 := hfr (k * 3 + 2)
    have lp : p < W.heap.size := heap_lt hF1.head
    have hB0 : Below W.heap.size W W := Below.refl _ W
    obtain ⟨n0, hn0⟩ : ∃ n0, x.b.length = n0 := ⟨_, rfl⟩
    rw [hn0] at e2 hin hxl
    have HSx := Lib.hid (Src.of_row hin (byteCells_one _))
    have HSb := Lib.hid hsrcW
    have HQ := Lib.hid (And.intro q0 (And.intro e2 f2))
    have HN0 := Lib.hid hn0
    have HHx := Lib.hid (And.intro hx hu)
    have HFF := Lib.hid hF1
    have HE1 : Hid (∀ X w1 : World, ∀ r : Option Nat, X.grownBy w1 r → W.heap.size ≤ X.heap.size → (∀ k, k < W.heap.size → X.heap[k]? = W.heap[k]?) → X.os = W.os → X.tape = W.tape → X.output = W.output → (∀ k, r = some k → W.heap.size ≤ k) → Below W.heap.size W w1) := fun X w1 r h6 h1 h2 h3 h4 h5 h7 =>
      (show Below W.heap.size W X from ⟨h3, h4, h5, h1, h2⟩).grown h6 h1 h7
    clear hx hu hin hn0 hfr
    go_region_law
      (first
        | (refine step_append_row _ (by rfl) _ _ _ (by rfl) 5 i0 _ 1 1 Try.underlying27 hi0 hz0 hz1 hz2 rfl (.slice (some ⟨W.heap.size, 0, none⟩) 0 0) 0 [] (by rfl) ((Row.lit_at W 5 1 #[] 0 W.heap.size rfl (by simp [maxLen]) rfl).of_block (fun _ _ => rfl))
            (.slice ak n0 ck) n0 _ (by rfl) (HSx.out.below (below_drew (hB0.alloc (Nat.le_refl _) _))) (by unfold maxLen; omega) (by omega) (W.heap.size + 1) (by simp) ?_; intro a1 c1 w1 hrow1 hgrow1 hat1
           have hB1 := HE1.out _ w1 _ hgrow1 (by simp) (fun k hk => Below.heap_alloc W _ k hk) rfl rfl rfl (by intro k hk; simp [Value.ownBlock] at hk; omega)
           have hrow1' : Row w1 5 1 (.slice a1 n0 c1) n0 (byteCells x.b) := by rw [Nat.zero_add] at hrow1; simpa using hrow1
           have hat1' : ∀ j, (Value.slice a1 n0 c1).ownBlock = some j → W.heap.size ≤ j := fun j hj => by
             rcases hat1 j (by rw [Nat.zero_add]; exact hj) with h | h
             · simp [Value.ownBlock] at h; omega
             · omega
           have p1 := (hB1.cell (p := ⟨p, 0, none⟩) lp).trans HQ.out.1
           have p2 := (hB1.cell (p := ⟨g, k * 3 + 2, none⟩) hgl).trans HQ.out.2.1
           clear hat1 hgrow1 hrow1)
        | (refine step_append_row _ (by rfl) _ _ _ (by rfl) 5 i0 _ 1 1 Try.underlying27 hi0 hz0 hz1 hz2 rfl (.slice a1 n0 c1) n0 _ (by rfl) hrow1'
            (.slice ay m cy) m _ (by rfl) (HSb.out.below hB1) (by unfold maxLen; omega) (by omega) w1.heap.size rfl ?_; intro a2 c2 w2 hrow2 hgrow2 hat2
           have hB2 := hB1.grown hgrow2 hB1.size hat1'
           have hat2' : ∀ j, (Value.slice a2 (n0 + m) c2).ownBlock = some j → W.heap.size ≤ j := fun j hj => by
             rcases hat2 j hj with h | h
             · exact hat1' j h
             · have := hB1.size; omega
           have p4 := (hB2.cell (p := ⟨p, 0, none⟩) lp).trans HQ.out.1
           have p5 := (hB2.cell (p := ⟨g, k * 3 + 2, none⟩) hgl).trans HQ.out.2.1
           have p6 := (World.frozen?_of_block (a := ⟨g, k * 3 + 2, none⟩) (hB2.block g hgl)).trans HQ.out.2.2
           clear hat2 hgrow2))
    all_goals
      go_wp2_with fail
      go_ret
      rw [show byteCells x.b ++ byteCells bs = byteCells (x.b ++ bs) from by simp [byteCells]] at hrow2
      refine ⟨rfl, FamOut.trans HMd.out.1 HMd.out.2 ?_⟩
      rw [← HSet.out]
      exact append_fin_r HFF.out HHx.out.1 HHx.out.2 hB2 (by rw [List.length_append, HN0.out, hml]) hrow2 hat2' HBs.out
end Go.Proofs.Ytakdcankhfeobaa
