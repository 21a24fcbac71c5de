/- The walk of chapter 23's run: each way. No condition. -/
import Derived.Test.YtakdcankhfeobaaRun
import Derived.Deep.QuietTactic
import Derived.BigQuiet
import Derived.Deep.DeepCutAuto
import Derived.OwnWalk
namespace Go.Proofs.Ytakdcankhfeobaa
open Go.ChangeShapes Go.WideShapes Go.ChangeAt Go.RowKit

/-- what is appended, where its own block is as it was -/
theorem Src.same {w w' : World} {size : Nat} {x : Value} {m : Nat} {news : List Value} (h : Src w size x m news) (hx : 0 < m → ∀ k, x.ownBlock = some k → w'.heap[k]? = w.heap[k]?) : Src w' size x m news := by
  have hl := h.1
  refine ⟨h.1, h.2.1, ?_⟩
  rcases h.2.2 with hn | ⟨ad, c, rfl, hr⟩
  · exact .inl hn
  · refine .inr ⟨ad, c, rfl, fun j u hu => ?_⟩
    have hm : 0 < m := by
      rcases Nat.eq_zero_or_pos m with h0 | h0
      · subst h0
        have : news = [] := List.eq_nil_of_length_eq_zero (by rw [hl, Nat.zero_mul])
        subst this; simp at hu
      · exact h0
    exact (World.cell?_of_block (by rw [add_block]; exact hx hm _ rfl)).trans (hr j u hu)

set_option maxRecDepth 100000 in
set_option maxHeartbeats 4000000 in
theorem run_any {w0 w : World} {p q : Nat} {gs : List Gn} {l C : Int} (x : St) (ab : Option Addr) (cb : Nat) (h : TwoG w0 w (fun _ => False) p q gs l gs l) (hG : Good C gs l) (hC0 : 0 ≤ C) (hC : C ≤ 100000)
    (hsrc : Src w0 1 (.slice ab x.b.length cb) x.b.length (byteCells x.b)) (hby : ∀ n ∈ x.b, 0 ≤ n ∧ n < 256) (_ : x.b.length ≤ cb) (hsm : x.b.length ≤ 140737488351232) :
    Calls Try.prog 16 #[.pointer (some ⟨p, 0, none⟩), .pointer (some ⟨q, 0, none⟩), stepV x ab cb] w fun e w' => RunOut w0 w' e (fun _ => False) p q C := by
  have HT := Lib.hid h
  have HG := Lib.hid hG
  have HSr := Lib.hid (And.intro hsrc hby)
  unfold stepV
  clear h hG hsrc hby
  go_enter Try.func16, Try.ntmps16
  go_wp2_with fail
  refine (pick_r x.what 9 (by omega) (by omega) _).mono ?_
  rintro e w1 ⟨⟨m, rfl, hm⟩, rfl⟩
  obtain ⟨W, hW⟩ : ∃ W, w.alloc (.cells #[.int .i64 x.what, .int .i64 x.k, .int .i64 x.n, .int .u64 x.id, .slice ab x.b.length cb] 40) = W := ⟨_, rfl⟩
  have hB : Below w.heap.size w W := hW ▸ (Below.refl _ w).alloc (Nat.le_refl _) _
  have hnew : W.heap[w.heap.size]? = some (.cells #[.int .i64 x.what, .int .i64 x.k, .int .i64 x.n, .int .u64 x.id, .slice ab x.b.length cb] 40 (0, 0)) := hW ▸ heap_alloc_new w _
  have c1 : W.cell? ⟨w.heap.size, 1, none⟩ = some (.int .i64 x.k) := by rw [cell_of_row _ _ _ _ _ _ hnew]; rfl
  have c2 : W.cell? ⟨w.heap.size, 2, none⟩ = some (.int .i64 x.n) := by rw [cell_of_row _ _ _ _ _ _ hnew]; rfl
  have c3 : W.cell? ⟨w.heap.size, 3, none⟩ = some (.int .u64 x.id) := by rw [cell_of_row _ _ _ _ _ _ hnew]; rfl
  have c4 : W.cell? ⟨w.heap.size, 4, none⟩ = some (.slice ab x.b.length cb) := by rw [cell_of_row _ _ _ _ _ _ hnew]; rfl
  have HT1 := Lib.hid (HT.out.below hB)
  have hlb : w.heap.size < W.heap.size := heap_lt hnew
  rw [hW]
  clear hnew hW HT
  by_cases h4 : m = 4 ∨ m = 5
  · have HR := Lib.hid (HT1.out.rename HG.out (by omega))
    rcases h4 with rfl | rfl
    all_goals
      as_aux_lemma =>
      clear c1 c2 c3 c4
      go_wp2_with fail
      refine HR.out.mono ?_
      rintro e w2 ⟨rfl, T2⟩
      have HR2 := Lib.hid (T2.rename2 HG.out (by omega))
      clear T2 HR
      go_wp2_with fail
      refine HR2.out.mono ?_
      rintro e w3 ⟨rfl, T3⟩
      have HT3 := Lib.hid T3
      clear T3 HR2
      go_wp2_with fail
      go_ret
      exact ⟨rfl, _, _, HG.out.rename, HT3.out⟩
  by_cases h6 : m = 6
  · as_aux_lemma =>
    subst h6
    have HR := Lib.hid (HT1.out.create HG.out (by omega))
    clear c1 c2 c3 c4
    go_wp2_with fail
    refine HR.out.mono ?_
    rintro e w2 ⟨rfl, T2⟩
    have HR2 := Lib.hid (T2.create2 HG.out (by omega))
    clear T2 HR
    go_wp2_with fail
    refine HR2.out.mono ?_
    rintro e w3 ⟨rfl, T3⟩
    have HT3 := Lib.hid T3
    clear T3 HR2
    go_wp2_with fail
    go_ret
    exact ⟨rfl, _, _, HG.out.create hC0, HT3.out⟩
  by_cases h7 : m = 7
  · subst h7
    clear c3 c4 h4 h6
    by_cases h5 : 0 < x.n.tmod 5
    case' pos =>
      have HPk := Lib.hid (pick_r x.k 6 (by omega) (by omega) W)
      go_wp2_with fail
      refine HPk.out.mono ?_
      rintro e w2 ⟨⟨k, rfl, hk⟩, rfl⟩
      obtain ⟨kk, hkk⟩ : ∃ kk : Int, (k : Int) = kk := ⟨_, rfl⟩
      rw [hkk]
      have HR := Lib.hid (HT1.out.remove kk HG.out)
      clear HPk hkk c1 c2 h5
      go_wp2_with fail
    case' neg =>
      obtain ⟨kk, hkk⟩ : ∃ kk : Int, x.k = kk := ⟨_, rfl⟩
      rw [hkk] at c1
      have HR := Lib.hid (HT1.out.remove kk HG.out)
      go_wp2_with fail
      clear c1 c2 h5 hkk
    all_goals
      as_aux_lemma =>
      refine HR.out.mono ?_
      rintro e w2 ⟨rfl, T2⟩
      have HR2 := Lib.hid (T2.remove2 kk HG.out)
      clear T2 HR
      go_wp2_with fail
      refine HR2.out.mono ?_
      rintro e w3 ⟨rfl, T3⟩
      have HT3 := Lib.hid T3
      clear T3 HR2
      go_wp2_with fail
      go_ret
      exact ⟨rfl, _, _, HG.out.remove, HT3.out⟩
  by_cases h8 : m = 8
  · subst h8
    clear h4 h6 h7 c4
    have HR := Lib.hid (HT1.out.read (x.id.tmod 9) x.k x.n HG.out)
    go_wp2_with fail
    refine HR.out.mono ?_
    rintro e w2 hRd
    have HRd := Lib.hid hRd
    clear hRd HR
    have conv : ∀ (w : World) (a : Option Addr) (n c : Nat) (b : List Int), Src w 1 (.slice a n c) n (byteCells b) → (convert 27 9 (.slice a n c)).run Try.prog w = .ok (.string (strOfNums b)) w := fun w a n c b h => run_string_src (P := Try.prog) h 27 5 9 Try.underlying27 Try.underlying5 Try.underlying9
    cases hfd : gs.find? (fun g => g.id == x.id.tmod 9) with
    | none =>
      have h2 := HRd.out
      unfold ReadOut at h2
      rw [hfd] at h2
      obtain ⟨rfl, hB2⟩ := h2
      have d1 := (hB2.cell (p := ⟨w.heap.size, 1, none⟩) hlb).trans c1
      have d2 := (hB2.cell (p := ⟨w.heap.size, 2, none⟩) hlb).trans c2
      have d3 := (hB2.cell (p := ⟨w.heap.size, 3, none⟩) hlb).trans c3
      have HT2 := Lib.hid (HT1.out.below hB2)
      have HR2 := Lib.hid (HT2.out.read2 (x.id.tmod 9) x.k x.n HG.out)
      have cA := conv w2 none 0 0 [] ⟨rfl, by simp [byteCells], .inl ⟨rfl, rfl⟩⟩
      have HFd := Lib.hid hfd
      clear conv c1 c2 c3 HRd hB2 hfd
      go_wp2_with fail
      refine HR2.out.mono ?_
      rintro e w3 hRr
      unfold ReadR at hRr
      rw [HFd.out] at hRr
      obtain ⟨rfl, rfl⟩ := hRr
      clear HR2 d1 d2 d3
      go_wp2_with fail
      go_loopw [13] (fun i wr => i = .int .i64 0 ∧ w2 = wr) (fun _ _ => 0)
      case atStart => exact ⟨rfl, rfl⟩
      case round =>
        obtain ⟨rfl, rfl⟩ := hrel
        go_wp2_with fail
        go_ret
        exact ⟨rfl, gs, l, HG.out.mono (by omega), HT2.out⟩
    | some y =>
      have h2 := HRd.out
      unfold ReadOut at h2
      rw [hfd] at h2
      obtain ⟨v2, rfl, hrow, hfresh, hB2⟩ := h2
      have d1 := (hB2.cell (p := ⟨w.heap.size, 1, none⟩) hlb).trans c1
      have d2 := (hB2.cell (p := ⟨w.heap.size, 2, none⟩) hlb).trans c2
      have d3 := (hB2.cell (p := ⟨w.heap.size, 3, none⟩) hlb).trans c3
      have HT2 := Lib.hid (HT1.out.fresh hB2)
      have HR2 := Lib.hid (HT2.out.read2 (x.id.tmod 9) x.k x.n HG.out)
      obtain ⟨a2, k2, rfl, -⟩ := hrow.form
      have cA := conv w2 a2 _ k2 _ (Src.of_row hrow (byteCells_one _))
      have HFd := Lib.hid hfd
      have HRow := Lib.hid (And.intro hrow hfresh)
      have HCv := Lib.hid conv
      clear conv c1 c2 c3 HRd hB2 hfd hrow hfresh
      go_wp2_with fail
      refine HR2.out.mono ?_
      rintro e w3 hRr
      unfold ReadR at hRr
      rw [HFd.out] at hRr
      obtain ⟨rfl, a3, k3, rfl, hs3⟩ := hRr
      have cB := HCv.out _ a3 _ k3 _ hs3
      generalize cutB y.b (max x.k 0).toNat (max x.n 0).toNat = bs at *
      clear HR2 d1 d2 d3 hs3 HCv HFd
      have hlW : w0.heap.size ≤ W.heap.size := HT1.out.1.size
      obtain ⟨nb, hnb⟩ : ∃ nb, bs.length = nb := ⟨_, rfl⟩
      have hmx : nb ≤ maxLen := by
        obtain ⟨_, _, _, _, h, _⟩ := HRow.out.1.form
        omega
      unfold maxLen at hmx
      rw [hnb] at cA cB HRow ⊢
      go_wp2_with fail
      go_loopw [13] (fun i wr => ∃ (j : Nat) (bs' : List Int), i = .int .i64 j ∧ j ≤ nb ∧ bs'.length = nb ∧ Row wr 5 1 (.slice a2 nb k2) nb (byteCells bs') ∧ TwoG w0 wr (fun k => False ∨ (W.heap.size ≤ k ∧ k < w2.heap.size)) p q gs l gs l) (fun i _ => nb - (intOf i).toNat)
      case atStart => exact ⟨0, bs, rfl, Nat.zero_le _, hnb, HRow.out.1, HT2.out⟩
      case round =>
        obtain ⟨j, bs', rfl, hj, hbl, hR, hT⟩ := hrel
        have HR := Lib.hid hR
        have HT := Lib.hid hT
        clear hR hT
        by_cases hjn : j < nb
        · as_aux_lemma =>
          obtain ⟨g, rfl, hgl, hgc, hgf⟩ := HR.out.view (by omega)
          have c0 : ∃ u, wr.cell? ⟨g, j, none⟩ = some u := by
            rw [hgc j (by omega)]
            exact ⟨_, List.getElem?_eq_getElem (by rw [byteCells_len]; omega)⟩
          obtain ⟨u, c0⟩ := c0
          have f0 := hgf j
          have hg1 : W.heap.size ≤ g ∧ g < w2.heap.size := ⟨HRow.out.2 g (by simp [Value.ownBlock]), HRow.out.1.lt (by simp [Value.ownBlock])⟩
          have hg0 : w0.heap.size ≤ g := by have := hg1.1; omega
          have HG0 := Lib.hid (And.intro hg1 hg0)
          have hset : byteCells (bs'.set j 238) = (byteCells bs').set j (.int .u8 238) := by simp [byteCells, List.map_set]
          have HSet := Lib.hid hset
          clear hgc hgf hset cA cB hg1 hg0
          go_wp2_with fail
          go_roundw
          case rel => exact ⟨j + 1, bs'.set j 238, by go_num, by omega, by rw [List.length_set]; exact hbl, by rw [HSet.out]; exact HR.out.stored j _, HT.out.cell (.inr HG0.out.1) HG0.out.2 j _⟩
          case measure => simp [intOf]; omega
        · as_aux_lemma =>
          clear cA cB
          go_wp2_with fail
          go_ret
          exact ⟨rfl, gs, l, HG.out.mono (by omega), HT.out.apart (fun k h => h.elim)⟩
  obtain ⟨i0, hi0, hz0, hz1, hz2⟩ := info_parts info5
  have hB0 := HT1.out.1
  by_cases h39 : x.n.tmod 40 = 39
  case' pos =>
    have HPk := Lib.hid (pick_r x.k 4 (by omega) (by omega) W)
    go_wp2_with fail
    refine HPk.out.mono ?_
    rintro e w2 ⟨⟨k, rfl, hk⟩, rfl⟩
    clear HPk c1 c2 c3 c4 HSr h4 h6 h7 h8
    obtain ⟨my, hmy⟩ : ∃ n : Nat, n = 65536 - k := ⟨_, rfl⟩
    have hkn : (65536 : Int) - (k : Int) = (my : Int) := by omega
    have hml : my ≤ 140737488351232 := by omega
    obtain ⟨W1, hW1⟩ : ∃ W1, W.alloc (.cells (bytesMade my) 5) = W1 := ⟨_, rfl⟩
    have hmk := run_make_bytes (P := Try.prog) W 27 5 i0 Try.underlying27 hi0 hz0 hz1 hz2 my (by omega)
    rw [hW1, ← hkn] at hmk
    obtain ⟨ay, hay⟩ : ∃ ay : Option Addr, ay = some ⟨W.heap.size, 0, none⟩ := ⟨_, rfl⟩
    obtain ⟨cy, hcy⟩ : ∃ cy : Nat, cy = my := ⟨_, rfl⟩
    obtain ⟨bs, hbs⟩ : ∃ bs : List Int, bs = List.replicate my 0 := ⟨_, rfl⟩
    have hB1 : Below W.heap.size W W1 := hW1 ▸ (Below.refl _ W).alloc (Nat.le_refl _) _
    have hs1 : W1.heap.size = W.heap.size + 1 := by rw [← hW1]; simp
    have HTb := Lib.hid (HT1.out.fresh hB1)
    have HSy := Lib.hid (show Src W1 1 (.slice ay my cy) my (byteCells bs) from by
      rw [hay, hcy, hbs, ← hW1, ← bytesMade_list]
      exact Src.of_row (Row.lit W 5 1 (bytesMade my) my (by unfold maxLen; omega) (by unfold bytesMade; simp [madeCells])) (by rw [bytesMade_list]; exact byteCells_one _))
    have HY := Lib.hid (show (0 < my → ∀ k, (Value.slice ay my cy).ownBlock = some k → k < w0.heap.size ∨ (False ∨ (W.heap.size ≤ k ∧ k < W1.heap.size))) ∧ ∀ n ∈ bs, 0 ≤ n ∧ n < 256 from ⟨fun _ k hk => by
        rw [hay] at hk; simp [Value.ownBlock] at hk; subst hk; exact .inr (.inr ⟨Nat.le_refl _, by omega⟩), fun n hn => by rw [hbs, List.mem_replicate] at hn; omega⟩)
    have hmk2 : (Instr.makeSlice 27 (.int .i64 (65536 - (k : Int))) (.int .i64 (65536 - (k : Int)))).run Try.prog W = .ok (.slice ay my cy) W1 := by rw [hay, hcy]; exact hmk
    replace hs1 : W.heap.size ≤ W1.heap.size := by omega
    clear hmk hay hcy hbs hW1 hmy hkn
  case' neg =>
    obtain ⟨my, hmy⟩ : ∃ n : Nat, x.b.length = n := ⟨_, rfl⟩
    obtain ⟨bs, hbs⟩ : ∃ bs : List Int, x.b = bs := ⟨_, rfl⟩
    rw [hmy] at c4 HSr hsm
    rw [hbs] at HSr
    obtain ⟨ay, hay⟩ : ∃ ay : Option Addr, ab = ay := ⟨_, rfl⟩
    obtain ⟨cy, hcy⟩ : ∃ cy : Nat, cb = cy := ⟨_, rfl⟩
    rw [hay, hcy] at c4 HSr
    have hml : my ≤ 140737488351232 := hsm
    obtain ⟨W1, hW1⟩ : ∃ W1, W = W1 := ⟨_, rfl⟩
    have HSy := Lib.hid (show Src W1 1 (.slice ay my cy) my (byteCells bs) from hW1 ▸ HSr.out.1.below hB0)
    have HTb := Lib.hid (HT1.out.fresh (show Below W.heap.size W W1 from hW1 ▸ Below.refl _ W))
    have HY := Lib.hid (show (0 < my → ∀ k, (Value.slice ay my cy).ownBlock = some k → k < w0.heap.size ∨ (False ∨ (W.heap.size ≤ k ∧ k < W1.heap.size))) ∧ ∀ n ∈ bs, 0 ≤ n ∧ n < 256 from ⟨fun hm k hk => .inl (HSr.out.1.lt hm k hk), HSr.out.2⟩)
    have hs1 : W.heap.size ≤ W1.heap.size := by rw [hW1]; exact Nat.le_refl _
    have hst : ((x.n.tmod 40 == 39) : Bool) = false := by simpa using h39
    clear h39 c1 c3 hmy hbs hay hcy HSr hsm
    rw [hW1] at c2 c4 ⊢
    clear hW1
  all_goals
    as_aux_lemma =>
    have hdst := Row.lit_at W1 5 1 #[] 0 W1.heap.size rfl (by simp [maxLen]) rfl
    have hsrc' := HSy.out.below ((Below.refl _ W1).alloc (Nat.le_refl _) (.cells #[] 5))
    go_wp2_with (at_builtin; refine wpList_append_row _ rfl _ _ 27 rfl 5 i0 _ 1 1 Try.underlying27 hi0 hz0 hz1 hz2 rfl (.slice (some ⟨W1.heap.size, 0, none⟩) 0 0) 0 [] rfl hdst _ _ _ rfl hsrc' (by unfold maxLen; omega) (by omega) (W1.heap.size + 1) (by simp) ?_; intro a2 ca2 w2 hrow2 hgrow2 hat2)
    have hB2 : Below W1.heap.size W1 w2 := ((Below.refl _ W1).alloc (Nat.le_refl _) _).grown hgrow2 (by simp) (by intro b hb; simp [Value.ownBlock] at hb; omega)
    have hrow : Row w2 5 1 (.slice a2 my ca2) my (byteCells bs) := by rw [Nat.zero_add] at hrow2; simpa using hrow2
    have hown : ∀ k, (Value.slice a2 my ca2).ownBlock = some k → W1.heap.size ≤ k := fun k hk => by
      rcases hat2 k (by rw [Nat.zero_add]; exact hk) with h | h
      · simp [Value.ownBlock] at h; omega
      · omega
    have HRow := Lib.hid (And.intro hrow hown)
    have HT2 := Lib.hid (HTb.out.fresh hB2)
    have HS2 := Lib.hid (And.intro (HSy.out.below hB2) (fun (hm : 0 < my) k (hk : (Value.slice ay my cy).ownBlock = some k) => HSy.out.lt hm k hk))
    have HB2 := Lib.hid hB2
    have HA := Lib.hid (HT2.out.app HG.out (by omega) a2 my ca2 bs (Src.of_row HRow.out.1 (byteCells_one _)) (fun _ k hk => .inr (.inr ⟨HRow.out.2 k hk, HRow.out.1.lt hk⟩)) HY.out.2 (by omega))
    have hmlx : my ≤ 9223372036854775807 := by omega
    clear hB2 hrow hown hrow2 hgrow2 hat2 hsrc' hdst HTb HSy
    go_wp2_with fail
    refine HA.out.mono ?_
    rintro e w3 ⟨rfl, T3, keep3⟩
    have HT3 := Lib.hid T3
    have hs3 := Src.same HS2.out.1 (w' := w3) (fun hm k hk => keep3 k (by
      rcases HY.out.1 hm k hk with h | h
      · exact .inl h
      · exact .inr (.inl h)) (Nat.lt_of_lt_of_le (HS2.out.2 hm k hk) HB2.out.size))
    have hr3 := HRow.out.1.of_block (fun k hk => keep3 k (.inr (.inr ⟨HRow.out.2 k hk, HRow.out.1.lt hk⟩)) (HRow.out.1.lt hk))
    have HA2 := Lib.hid (HT3.out.app2 HG.out (by omega) ay my cy bs hs3 (fun hm k hk => by
      rcases HY.out.1 hm k hk with h | h
      · exact .inl h
      · exact .inr (.inl h)) HY.out.2 (by omega))
    have HR3 := Lib.hid hr3
    clear T3 keep3 HA hs3 hr3
    go_wp2_with fail
    refine HA2.out.mono ?_
    rintro e w4 ⟨rfl, T4, keep4⟩
    have hr4 := HR3.out.of_block (fun k hk => keep4 k (.inr (.inr ⟨HRow.out.2 k hk, HRow.out.1.lt hk⟩)) (HR3.out.lt hk))
    have HG4 := Lib.hid (Good.append (bs := bs) HG.out hC0)
    obtain ⟨gs4, hgs4⟩ : ∃ g, (appendM gs l bs).2.1 = g := ⟨_, rfl⟩
    obtain ⟨l4, hl4⟩ : ∃ g, (appendM gs l bs).2.2 = g := ⟨_, rfl⟩
    rw [hgs4, hl4] at T4 HG4
    have HT4 := Lib.hid T4
    have HR4 := Lib.hid hr4
    have hl0 : w0.heap.size ≤ W1.heap.size := by have := HT1.out.1.size; omega
    clear T4 hr4 keep4 HA2 HT3 HR3 hgs4 hl4 HT2 HS2
    go_wp2_with fail
    go_loopw [17] (fun i wr => ∃ (j : Nat) (bs' : List Int), i = .int .i64 j ∧ j ≤ my ∧ bs'.length = my ∧ Row wr 5 1 (.slice a2 my ca2) my (byteCells bs') ∧ TwoG w0 wr (fun k => (False ∨ (W.heap.size ≤ k ∧ k < W1.heap.size)) ∨ (W1.heap.size ≤ k ∧ k < w2.heap.size)) p q gs4 l4 gs4 l4) (fun i _ => my - (intOf i).toNat)
    case atStart => exact ⟨0, bs, rfl, Nat.zero_le _, by have := HRow.out.1.1; rw [byteCells_len] at this; omega, HR4.out, HT4.out⟩
    case round =>
      obtain ⟨j, bs', rfl, hj, hbl, hR, hT⟩ := hrel
      have HR := Lib.hid hR
      have HT := Lib.hid hT
      clear hR hT
      by_cases hjn : j < my
      · as_aux_lemma =>
        obtain ⟨g, rfl, hgl, hgc, hgf⟩ := HR.out.view (by omega)
        have c0 : ∃ u, wr.cell? ⟨g, j, none⟩ = some u := by
          rw [hgc j (by omega)]
          exact ⟨_, List.getElem?_eq_getElem (by rw [byteCells_len]; omega)⟩
        obtain ⟨u, c0⟩ := c0
        have f0 := hgf j
        have hg1 : W1.heap.size ≤ g ∧ g < w2.heap.size := ⟨HRow.out.2 g (by simp [Value.ownBlock]), HRow.out.1.lt (by simp [Value.ownBlock])⟩
        have hg0 : w0.heap.size ≤ g := by have := hg1.1; omega
        have HG0 := Lib.hid (And.intro hg1 hg0)
        have hset : byteCells (bs'.set j 221) = (byteCells bs').set j (.int .u8 221) := by simp [byteCells, List.map_set]
        have HSet := Lib.hid hset
        clear hgc hgf hset hg1 hg0
        go_wp2_with fail
        go_roundw
        case rel => exact ⟨j + 1, bs'.set j 221, by go_num, by omega, by rw [List.length_set]; exact hbl, by rw [HSet.out]; exact HR.out.stored j _, HT.out.cell (.inr HG0.out.1) HG0.out.2 j _⟩
        case measure => simp [intOf]; omega
      · as_aux_lemma =>
        go_wp2_with fail
        go_ret
        exact ⟨rfl, gs4, l4, HG4.out, HT.out.apart (fun k h => h.elim)⟩
end Go.Proofs.Ytakdcankhfeobaa
