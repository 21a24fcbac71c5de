/- The walk of chapter 23's FamilyPlays. No condition. -/
import Derived.Test.YtakdcankhfeobaaRunW
namespace Go.Proofs.Ytakdcankhfeobaa
open Go.ChangeShapes Go.WideShapes Go.ChangeAt Go.RowKit

theorem FamAt.new37 (w : World) : FamAt 37 69 (w.alloc (.cells #[.slice none 0 0, .int .u64 0] 37)) w.heap.size (.slice none 0 0) [] [] 0 where
  head := heap_alloc_new w _
  row := Row.nil _ _ _
  len := rfl
  inner := by intro i g u h; simp at h
  apart := List.Pairwise.nil
  out := by intro u hu; simp at hu
  notp := ⟨by simp [Value.ownBlock], by intro u hu; simp at hu⟩
  bytes := by intro g hg; simp at hg
theorem TwoG.new {w w1 w2 : World} {p : Nat} (hF : FamAt 64 67 w1 p (.slice none 0 0) [] [] 0) (hp : p = w.heap.size) (hB : Below w.heap.size w w1) (hB2 : Below w1.heap.size w1 w2) :
    TwoG w (w2.alloc (.cells #[.slice none 0 0, .int .u64 0] 37)) (fun _ => False) p w2.heap.size [] 0 [] 0 := by
  have hB3 : Below w.heap.size w w2 := hB.trans (hB2.mono hB.size)
  have hpl := heap_lt hF.head
  have h2 := hB2.size
  refine ⟨hB3.alloc hB3.size _, _, _, _, _, (hF.below hB2).below ((Below.refl _ w2).alloc (Nat.le_refl _) _), FamAt.new37 w2, fun k hk => ?_, fun k hk => ?_, fun k hk => hk.elim⟩
  · rcases hk with rfl | hk | ⟨u, hu, _⟩
    · refine ⟨by omega, fun e => ?_, id⟩
      rcases e with e | e | ⟨u, hu, _⟩
      · omega
      · simp [Value.ownBlock] at e
      · simp at hu
    · simp [Value.ownBlock] at hk
    · simp at hu
  · rcases hk with rfl | hk | ⟨u, hu, _⟩
    · exact ⟨hB3.size, id⟩
    · simp [Value.ownBlock] at hk
    · simp at hu
theorem TwoG.list {w0 w : World} {E : Nat → Prop} {p q : Nat} {gs gs1 : List Gn} {l l1 C : Int} (h : TwoG w0 w E p q gs l gs1 l1) (hG : Good C gs l) :
    Calls Try.prog 18 #[.pointer (some ⟨p, 0, none⟩)] w fun e w' => NewRow w w' e 45 3 gs.length (lcells gs) := by
  obtain ⟨X, hF, -⟩ := h.left
  exact list_own X p gs l C w hF hG
theorem TwoG.list2 {w0 w : World} {E : Nat → Prop} {p q : Nat} {gs gs1 : List Gn} {l l1 C : Int} (h : TwoG w0 w E p q gs l gs1 l1) (hG : Good C gs1 l1) :
    Calls Try.prog 19 #[.pointer (some ⟨q, 0, none⟩)] w fun e w' => NewRow w w' e 45 3 gs1.length (lcells gs1) := by
  obtain ⟨X, hF, -⟩ := h.right
  exact list_own_r X q gs1 l1 C w hF hG

set_option maxRecDepth 100000 in
set_option maxHeartbeats 4000000 in
theorem plays_any (a : Option Addr) (len cap : Nat) (xs : List St) (w : World) (_ : len ≤ maxLen) (hS : StepsIn w a len xs) (hsm : ∀ (i : Nat) (x : St), xs[i]? = some x → x.b.length ≤ 140737488351232) :
    Calls Try.prog 4 #[.slice a len cap] w fun e w' => e = .returned (.bool true) ∧ Below w.heap.size w w' := by
  have HS := Lib.hid (And.intro hS hsm)
  clear hS hsm
  go_enter Try.func4, Try.ntmps4
  go_wp2_with fail
  refine (new_any _).mono ?_
  rintro e w1 ⟨p, rfl, hA1, hp, hB1⟩
  have HA1 := Lib.hid (And.intro hA1 (And.intro hp hB1))
  clear hA1 hp hB1
  go_wp2_with fail
  refine (known_any _).mono ?_
  rintro e w2 ⟨rfl, hB2⟩
  have HT0 := Lib.hid (TwoG.new HA1.out.1 HA1.out.2.1 HA1.out.2.2 hB2)
  clear hB2 HA1
  go_wp2_with fail
  obtain ⟨W, hW⟩ : ∃ W, w2.alloc (.cells #[.slice none 0 0, .int .u64 0] 37) = W := ⟨_, rfl⟩
  rw [hW] at HT0 ⊢
  clear hW
  obtain ⟨q, hq⟩ : ∃ q, w2.heap.size = q := ⟨_, rfl⟩
  rw [hq] at HT0 ⊢
  clear hq
  go_loopw [5] (fun i wr => ∃ (k : Nat) (gs : List Gn) (l : Int), i = .int .i64 k ∧ k ≤ len ∧ k ≤ 100 ∧ Good k gs l ∧ TwoG w wr (fun _ => False) p q gs l gs l) (fun i _ => len - (intOf i).toNat)
  case atStart => exact ⟨0, [], 0, rfl, Nat.zero_le _, by omega, Good.nil, HT0.out⟩
  case round =>
    obtain ⟨k, gs, l, rfl, hk, hk2, hG, hT⟩ := hrel
    have HG := Lib.hid hG
    have HT := Lib.hid hT
    clear hG hT HT0
    by_cases hgo : k < len ∧ k < 100
    · as_aux_lemma =>
      obtain ⟨hlt, hlt2⟩ := hgo
      obtain ⟨x, hx⟩ : ∃ x, xs[k]? = some x := ⟨_, List.getElem?_eq_getElem (by rw [HS.out.1.1]; exact hlt)⟩
      have hs := HS.out.1.2 k x hx
      have hxs := HS.out.2 k x hx
      obtain ⟨bk, off, rfl, c0, c1, c2, c3, ab, cb, c4, hcb, hcm, hsrc⟩ := hs.ex
      have hB := HT.out.1
      have d0 := (hB.cell (p := ⟨bk, off + k * 5, none⟩) (block_lt_of_cell c0)).trans c0
      have d1 := (hB.cell (p := ⟨bk, off + k * 5 + 1, none⟩) (block_lt_of_cell c1)).trans c1
      have d2 := (hB.cell (p := ⟨bk, off + k * 5 + 2, none⟩) (block_lt_of_cell c2)).trans c2
      have d3 := (hB.cell (p := ⟨bk, off + k * 5 + 3, none⟩) (block_lt_of_cell c3)).trans c3
      have d4 := (hB.cell (p := ⟨bk, off + k * 5 + 4, none⟩) (block_lt_of_cell c4)).trans c4
      have HR := Lib.hid (show Calls Try.prog 16 #[.pointer (some ⟨p, 0, none⟩), .pointer (some ⟨q, 0, none⟩), .agg #[.int .i64 x.what, .int .i64 x.k, .int .i64 x.n, .int .u64 x.id, .slice ab x.b.length cb]] wr _ from
        run_any x ab cb HT.out HG.out (by omega) (by omega) hsrc hs.bytes hcb hxs)
      clear hx hs c0 c1 c2 c3 c4 hsrc hcb hcm hB HS hxs
      go_wp2_with fail
      refine HR.out.mono ?_
      rintro e w3 ⟨rfl, gs', l', hG', hT'⟩
      have HG' := Lib.hid hG'
      have HT' := Lib.hid hT'
      have HL := Lib.hid (hT'.list hG')
      clear hG' hT' HR d0 d1 d2 d3 d4
      go_wp2_with fail
      refine HL.out.mono ?_
      rintro e w4 ⟨v1, rfl, hr1, hf1, hB4⟩
      have HL2 := Lib.hid ((HT'.out.below hB4).list2 HG'.out)
      have HR1 := Lib.hid (And.intro hr1 hB4)
      clear HL hr1 hf1 hB4
      go_wp2_with fail
      refine HL2.out.mono ?_
      rintro e w5 ⟨v2, rfl, hr2, hf2, hB5⟩
      have HGn := Lib.hid (gens_same gs' v1 v2 w5 (HR1.out.1.of_block fun b hb => hB5.block b (HR1.out.1.lt hb)) hr2 (by have := HG'.out.len; omega))
      have HB5 := Lib.hid hB5
      clear HL2 hr2 hf2 hB5
      go_wp2_with fail
      refine HGn.out.mono ?_
      rintro e w6 ⟨rfl, hB6⟩
      have HB6 := Lib.hid hB6
      clear HGn hB6
      go_wp2_with fail
      go_roundw
      case rel => exact ⟨k + 1, gs', l', by go_num, by omega, by omega, by have := HG'.out; rwa [show ((k + 1 : Nat) : Int) = (k : Int) + 1 from by omega], ((HT'.out.below HR1.out.2).below HB5.out).below HB6.out⟩
      case measure => simp [intOf]; omega
    · have HL := Lib.hid (HT.out.list2 HG.out)
      rcases (show len ≤ k ∨ (k < len ∧ 100 ≤ k) by omega) with h | ⟨h, h'⟩
      all_goals
        as_aux_lemma =>
        clear hgo
        go_wp2_with fail
        refine HL.out.mono ?_
        rintro e w3 ⟨v6, rfl, hr6, hf6, hB6⟩
        obtain ⟨a6, c6, rfl, -⟩ := hr6.form
        have HR6 := Lib.hid hr6
        have HT2 := Lib.hid (HT.out.below hB6)
        have hgl : gs.length ≤ 12 := HG.out.len
        clear HL hr6 hf6 hB6
        go_wp2_with fail
        go_loopw [7] (fun i wq => ∃ j : Nat, i = .int .i64 j ∧ j ≤ gs.length ∧ Below w3.heap.size w3 wq) (fun i _ => gs.length - (intOf i).toNat)
        case atStart => exact ⟨0, rfl, Nat.zero_le _, Below.refl _ _⟩
        case round =>
          obtain ⟨j, rfl, hj, hB⟩ := hrel
          have HB := Lib.hid hB
          clear hB
          by_cases hjl : j < gs.length
          · as_aux_lemma =>
            obtain ⟨y0, hy0⟩ : ∃ x, gs[j]? = some x := ⟨_, List.getElem?_eq_getElem hjl⟩
            obtain ⟨g6, rfl, hg6, hcell, -⟩ := HR6.out.view (by omega)
            obtain ⟨e0, -, -⟩ := lcells_at gs j y0 hy0
            have d0 := ((HB.out.cell (p := ⟨g6, j * 3, none⟩) hg6).trans (hcell (j * 3) (by omega))).trans e0
            obtain ⟨y, hy⟩ : ∃ y, gs.find? (fun g => g.id == y0.id) = some y := by
              rw [← Option.isSome_iff_exists, List.find?_isSome]
              exact ⟨y0, List.mem_of_getElem? hy0, by simp⟩
            have HY := Lib.hid hy
            have HRd := Lib.hid (show Calls Try.prog 13 _ _ fun e w' => ReadOut wr w' e gs y0.id 0 65536 from (HT2.out.below HB.out).read y0.id 0 65536 HG.out)
            have conv : ∀ (w : World) (a : Option Addr) (n c : Nat) (b : List Int), Src w 1 (.slice a n c) n (byteCells b) → (convert 27 9 (.slice a n c)).run Try.prog w = .ok (.string (strOfNums b)) w := fun w a n c b h => run_string_src (P := Try.prog) h 27 5 9 Try.underlying27 Try.underlying5 Try.underlying9
            have HCv := Lib.hid conv
            clear hy hy0 e0 hcell conv
            go_wp2_with fail
            refine HRd.out.mono ?_
            rintro e w7 hRd
            unfold ReadOut at hRd
            rw [HY.out] at hRd
            obtain ⟨v2, rfl, hrow, hfresh, hB7⟩ := hRd
            obtain ⟨a2, k2, rfl, -⟩ := hrow.form
            have cA := HCv.out w7 a2 _ k2 _ (Src.of_row hrow (byteCells_one _))
            have HB7 := Lib.hid (HB.out.trans (hB7.mono HB.out.size))
            have HRd2 := Lib.hid (show Calls Try.prog 20 _ _ fun e w' => ReadR w7 w' e gs y0.id 0 65536 from (HT2.out.below HB7.out).read2 y0.id 0 65536 HG.out)
            have d7 := (hB7.cell (p := ⟨g6, j * 3, none⟩) (Nat.lt_of_lt_of_le hg6 HB.out.size)).trans d0
            clear hrow hfresh hB7 HRd d0
            go_wp2_with fail
            refine HRd2.out.mono ?_
            rintro e w8 hRr
            unfold ReadR at hRr
            rw [HY.out] at hRr
            obtain ⟨rfl, a3, k3, rfl, hs3⟩ := hRr
            have cB := HCv.out _ a3 _ k3 _ hs3
            clear HRd2 hs3 HCv d7
            generalize cutB y.b 0 65536 = bs at *
            go_wp2_with fail
            go_roundw
            case rel => exact ⟨j + 1, by go_num, by omega, HB7.out⟩
            case measure => simp [intOf]; omega
          · as_aux_lemma =>
            go_wp2_with fail
            go_ret
            exact ⟨rfl, HT2.out.1.trans (HB.out.mono HT2.out.1.size)⟩
end Go.Proofs.Ytakdcankhfeobaa
