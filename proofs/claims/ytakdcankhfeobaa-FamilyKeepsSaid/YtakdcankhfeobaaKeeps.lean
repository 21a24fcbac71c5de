/- The walk of the law FamilyKeeps. No condition. -/
import Derived.Test.YtakdcankhfeobaaKnown
import Derived.Test.YtakdcankhfeobaaSteps
import Derived.Test.YtakdcankhfeobaaKeepsPlain
import Derived.Deep.DeepCutAuto
import Derived.Deep.CutBlock
import Derived.Deep.QuietTactic
import Derived.BigQuiet
import Derived.Laws.Concat
import Derived.RegionTactic
import Derived.BigRegion
namespace Go.Proofs.Ytakdcankhfeobaa
open Go.ChangeShapes Go.WideShapes Go.ChangeAt Go.RowKit

/-- 400 empty texts -/
def z400 : Array Value := Array.replicate 400 (.string ByteArray.empty)
theorem zero47 (w : World) : (zeroValue 47).run Try.prog w = .ok (.agg z400) w := by kernel_rfl
theorem z400_one : ∀ v ∈ z400.toList, v.oneCell' = true := by
  intro v hv; unfold z400 at hv; rw [Array.toList_replicate, List.mem_replicate] at hv; rw [hv.2]; rfl

/-- the texts that were appended, by ID -/
def HaveAt (w : World) (h : Nat) (hv : Int → List Int) : Prop :=
  ∃ cs : Array Value, w.heap[h]? = some (.cells cs 47 (0, 0)) ∧ cs.size = 400 ∧ ∀ j : Nat, j < 400 → cs[j]? = some (.string (strOfNums (hv j)))

theorem HaveAt.new (w : World) : HaveAt (w.alloc (.cells z400 47)) w.heap.size (fun _ => []) := by
  refine ⟨z400, heap_alloc_new w _, by simp [z400], fun j hj => ?_⟩
  unfold z400
  rw [Array.getElem?_replicate, if_pos hj]; rfl

theorem HaveAt.keep {X : Nat → Prop} {w w' : World} {h : Nat} {hv : Int → List Int} (hh : HaveAt w h hv) (hK : Keep X w w') (hx : X h) : HaveAt w' h hv := by
  obtain ⟨cs, h1, h2, h3⟩ := hh
  exact ⟨cs, by rw [hK.block h (heap_lt h1) (fun e => e hx)]; exact h1, h2, h3⟩
theorem lcells_at : ∀ (gs : List Gn) (i : Nat) (g : Gn), gs[i]? = some g → (lcells gs)[i * 3]? = some (.int .u64 g.id) ∧ (lcells gs)[i * 3 + 1]? = some (.int .i64 g.suf) ∧ (lcells gs)[i * 3 + 2]? = some (.int .i64 g.b.length)
  | [], _, _, h => by simp at h
  | a :: gs, 0, g, h => by simp at h; subst h; exact ⟨rfl, rfl, rfl⟩
  | a :: gs, i + 1, g, h => by
    have := lcells_at gs i g (by simpa using h)
    have e : lcells (a :: gs) = .int .u64 a.id :: .int .i64 a.suf :: .int .i64 a.b.length :: lcells gs := rfl
    rw [e]
    refine ⟨?_, ?_, ?_⟩
    · rw [show (i + 1) * 3 = i * 3 + 1 + 1 + 1 from by omega]; simpa using this.1
    · rw [show (i + 1) * 3 + 1 = (i * 3 + 1) + 1 + 1 + 1 from by omega]; simpa using this.2.1
    · rw [show (i + 1) * 3 + 2 = (i * 3 + 2) + 1 + 1 + 1 from by omega]; simpa using this.2.2
theorem strOfNums_append (a b : List Int) : strOfNums (a ++ b) = strOfNums a ++ strOfNums b := by
  unfold strOfNums
  rw [ByteArray.mk_append_mk, List.map_append]
def XK (w : World) (h : Nat) (k : Nat) : Prop := k < w.heap.size ∨ k = h

theorem pick_any (n k : Int) (hk0 : 1 ≤ k) (hk : k ≤ 1000000) (w : World) :
    Calls Try.prog 21 #[.int .i64 n, .int .i64 k] w fun e w' => (∃ m : Nat, e = .returned (.int .i64 m) ∧ (m : Int) < k) ∧ w = w' := by
  have b1 : -k < n.tmod k := by
    have := Int.lt_tmod_of_pos n (show 0 < k by omega); omega
  have b2 : n.tmod k < k := Int.tmod_lt_of_pos n (by omega)
  have hd : (k == 0) = false := by simp; omega
  by_cases hlt : n.tmod k < 0
  · go_enter Try.func21, Try.ntmps21
    go_wp2
    go_ret
    exact ⟨⟨(n.tmod k + k).toNat, by rw [Int.toNat_of_nonneg (by omega)]; rfl, by omega⟩, rfl⟩
  · go_enter Try.func21, Try.ntmps21
    go_wp2
    go_ret
    exact ⟨⟨(n.tmod k).toNat, by rw [Int.toNat_of_nonneg (by omega)]; rfl, by omega⟩, rfl⟩

theorem find_id {gs : List Gn} (h : gs.Pairwise (fun a b => a.id < b.id)) (j : Nat) (y : Gn) (hy : gs[j]? = some y) : gs.find? (fun g => g.id == y.id) = some y := by
  have hlt : j < gs.length := (List.getElem?_eq_some_iff.1 hy).1
  have hye : gs[j] = y := (List.getElem?_eq_some_iff.1 hy).2
  have hp := List.pairwise_iff_getElem.1 h
  rw [List.find?_eq_some_iff_getElem]
  refine ⟨by simp, j, hlt, hye, fun i hi => ?_⟩
  have := hp i j (by omega) hlt hi
  rw [hye] at this
  simp; omega
theorem KInv.setLast {C : Int} {gs : List Gn} {l lst : Int} {hv : Int → List Int} (h : KInv C gs l lst hv) {n : Int} (h0 : 0 ≤ n) (h1 : n ≤ l) : KInv C gs l n hv :=
  ⟨h.good, h.ids, h.sufs, h.idl, h.zero, h.keeps, h.fresh, ⟨h0, h1⟩⟩
theorem keeps_fam {w w6 : World} {h p : Nat} {gs : List Gn} {l : Int} (hF : FamOwn 64 67 (XK w h) w6 p gs l) (j : Nat) (u : Value) (n : Nat) : FamOwn 64 67 (XK w h) ((w6.setCell ⟨h, j, none⟩ u).drewN n) p gs l := by
  obtain ⟨hX, v, vs, hA, hf⟩ := hF
  refine ⟨fun k hk => by have := hX k hk; show k < (w6.setCell ⟨h, j, none⟩ u).heap.size; simpa [World.setCell] using this, v, vs, hA.of_blocks (fun k hk => ?_), hf⟩
  exact heap_setCell_other w6 ⟨h, j, none⟩ k u (fun e => hf k hk (.inr e))
theorem keeps_have {w6 : World} {h : Nat} {hv : Int → List Int} {cs : Array Value} (hc : w6.heap[h]? = some (.cells cs 47 (0, 0)) ∧ cs.size = 400 ∧ ∀ j : Nat, j < 400 → cs[j]? = some (.string (strOfNums (hv j)))) (bs : List Int) (id : Int) {idn : Nat} (hid : id = idn) (hlt : idn < 400) {n : Nat} :
    HaveAt ((w6.setCell ⟨h, idn, none⟩ (.string (strOfNums (hv idn ++ bs)))).drewN n) h (fun j => if j = id then hv j ++ bs else hv j) := by
  obtain ⟨h1, h2, h3⟩ := hc
  refine ⟨cs.setIfInBounds idn (.string (strOfNums (hv idn ++ bs))), heap_setCell_same w6 h idn cs 47 _ h1, by simpa using h2, fun j hj => ?_⟩
  rw [Array.getElem?_setIfInBounds]
  by_cases e : idn = j
  · subst e
    rw [if_pos rfl, if_pos (by omega)]
    simp only [if_pos hid.symm]
  · rw [if_neg e]
    simp only
    rw [if_neg (by omega)]; exact h3 j hj
theorem keeps_below {w w6 : World} {h : Nat} (hh : w.heap.size ≤ h) (hB : Below w.heap.size w w6) (j : Nat) (u : Value) {n : Nat} : Below w.heap.size w ((w6.setCell ⟨h, j, none⟩ u).drewN n) :=
  below_drewN (hB.setCell (p := ⟨h, j, none⟩) hh u) n

set_option maxRecDepth 100000 in
set_option maxHeartbeats 8000000 in
theorem keeps_any (a : Option Addr) (len cap : Nat) (xs : List St) (w : World) (hlen : len ≤ maxLen) (hS : StepsIn w a len xs) : Calls Try.prog 5 #[.slice a len cap] w fun e w' => e = .returned (.bool true) ∧ Below w.heap.size w w' := by
  have hz := zero47
  have hst := fun w => run_store_whole (P := Try.prog) w z400 47 z400_one
  unfold maxLen at hlen
  go_enter Try.func5, Try.ntmps5
  go_wp2_with fail
  refine (new_any _).mono ?_
  rintro e w1 ⟨p, rfl, hA1, hp, hB1⟩
  have F1 := FamOwn.new w w1 p hA1 hp hB1
  clear hA1 hp
  go_wp2_with fail
  refine (known_any _).mono ?_
  rintro e w2 ⟨rfl, hB2⟩
  have F2 := F1.below hB2
  have hB := hB1.trans (hB2.mono hB1.size)
  clear F1 hB1 hB2
  go_wp2_with fail
  have F3 : FamOwn 64 67 (XK w w2.heap.size) (w2.alloc (.cells z400 47)) p [] 0 := (F2.more ((Below.refl _ w2).alloc (Nat.le_refl _) (.cells z400 47))).fewer (by
    rintro k (hk | rfl)
    · exact .inl hk
    · exact .inr ⟨Nat.le_refl _, by simp⟩)
  have H3 := HaveAt.new w2
  have hB3 := hB.trans (((Below.refl _ w2).alloc (Nat.le_refl _) (.cells z400 47)).mono hB.size)
  have hh : w.heap.size ≤ w2.heap.size := hB.size
  clear F2 hB
  generalize w2.alloc (.cells z400 47) = w3 at *
  generalize w2.heap.size = h at *
  go_loopw [4, 6] (fun la i wr => ∃ (k : Nat) (gs : List Gn) (l lst : Int) (hv : Int → List Int), la = .int .u64 lst ∧ i = .int .i64 k ∧ k ≤ len ∧ k ≤ 100 ∧ KInv k gs l lst hv ∧ FamOwn 64 67 (XK w h) wr p gs l ∧ HaveAt wr h hv ∧ Below w.heap.size w wr) (fun _ i _ => len - (intOf i).toNat)
  case atStart => exact ⟨0, [], 0, 0, _, rfl, rfl, by omega, by omega, KInv.nil, F3, H3, hB3⟩
  case round =>
    obtain ⟨k, gs, l, lst, hv, rfl, rfl, hk, hk2, hI, hF, hH, hB⟩ := hrel
    clear F3 H3 hB3 hz hst
    by_cases hlt : k < len
    · by_cases hlt2 : k < 100
      · obtain ⟨x, hx⟩ : ∃ x, xs[k]? = some x := ⟨_, List.getElem?_eq_getElem (by rw [hS.1]; exact hlt)⟩
        have hs := hS.2 k x hx
        obtain ⟨bk, off, rfl, c0, c1, c2, c3, ab, cb, c4, hcb, hcm, hsrc⟩ := hs.ex
        have d0 := (hB.cell (p := ⟨bk, off + k * 5, none⟩) (block_lt_of_cell c0)).trans c0
        clear hx
        go_wp2_with fail
        refine (pick_any _ _ (by omega) (by omega) _).mono ?_
        rintro e w4 ⟨⟨m, rfl, hm⟩, rfl⟩
        go_upto_block 2 with fail
        go_cut [] (fun wx => ∃ (gs' : List Gn) (l' : Int) (hv' : Int → List Int), KInv (k + 1) gs' l' lst hv' ∧ FamOwn 64 67 (XK w h) wx p gs' l' ∧ HaveAt wx h hv' ∧ Below w.heap.size w wx)
        case first =>
          as_aux_lemma =>
          have hX : ∀ (w5 : World), Keep (XK w h) wr w5 → HaveAt w5 h hv ∧ Below w.heap.size w w5 := fun w5 hK =>
            ⟨hH.keep hK (.inr rfl), hB.trans (hK.below (B := w.heap.size) (fun _ h => .inl h) hB.size)⟩
          by_cases h4 : m = 4 ∨ m = 5
          · rcases h4 with rfl | rfl <;>
            · go_wp2_with fail
              refine (rename_own _ p _ _ k _ hF hI.good (by omega)).mono ?_
              rintro e w5 ⟨rfl, F5, hK5⟩
              obtain ⟨H5, B5⟩ := hX w5 hK5
              go_wp2_with fail
              go_meet
              exact ⟨_, _, _, hI.rename, F5, H5, B5⟩
          · by_cases h6 : m = 6
            · subst h6
              go_wp2_with fail
              refine (create_own _ p _ _ k _ hF hI.good (by omega)).mono ?_
              rintro e w5 ⟨rfl, F5, hK5⟩
              obtain ⟨H5, B5⟩ := hX w5 hK5
              go_wp2_with fail
              go_meet
              exact ⟨_, _, _, hI.create (by omega), F5, H5, B5⟩
            · by_cases h7 : m = 7
              · subst h7
                have d1 := (hB.cell (p := ⟨bk, off + k * 5 + 1, none⟩) (block_lt_of_cell c1)).trans c1
                go_wp2_with fail
                refine (pick_any _ _ (by omega) (by omega) _).mono ?_
                rintro e w5 ⟨⟨m2, rfl, hm2⟩, rfl⟩
                go_wp2_with fail
                refine (remove_own _ p _ _ k _ _ hF hI.good).mono ?_
                rintro e w5 ⟨rfl, F5, hK5⟩
                obtain ⟨H5, B5⟩ := hX w5 hK5
                go_wp2_with fail
                go_meet
                exact ⟨_, _, _, hI.remove _, F5, H5, B5⟩
              · as_aux_lemma =>
                obtain ⟨i0, hi0, hz0, hz1, hz2⟩ := info_parts info5
                have t4 : ((m : Int) == 4) = false := by simp; omega
                have t5 : ((m : Int) == 5) = false := by simp; omega
                have t6 : ((m : Int) == 6) = false := by simp; omega
                have t7 : ((m : Int) == 7) = false := by simp; omega
                have d4 := (hB.cell (p := ⟨bk, off + k * 5 + 4, none⟩) (block_lt_of_cell c4)).trans c4
                have hmn := run_minI
                have hr : minI (x.b.length : Int) 100 = ((min x.b.length 100 : Nat) : Int) := minI_nat x.b.length 100
                have hsl := fun w => run_slice_to (P := Try.prog) w 27 5 i0 Try.underlying27 hi0 ab x.b.length cb (min x.b.length 100) (by omega) .i64
                have hsrc0 := hsrc.take (min x.b.length 100) (Nat.min_le_left _ _)
                have hsrc1 := hsrc0.below hB
                have hbs : ∀ n ∈ x.b.take (min x.b.length 100), 0 ≤ n ∧ n < 256 := fun n hn => hs.bytes n (List.mem_of_mem_take hn)
                have HS := Lib.hid hs
                have hr100 : min x.b.length 100 ≤ 100 := Nat.min_le_right _ _
                generalize min x.b.length 100 = r at *
                have hy : 0 < r → ∀ k, (Value.slice ab r cb).ownBlock = some k → XK w h k := fun hr0 k hk => .inl (hsrc0.lt hr0 k hk)
                clear h4 h6 h7 c0 c1 c2 c3 c4 d0 hs
                have ik0 : (0 : Int) ≤ (k : Int) := by omega
                have ik1 : (k : Int) < (len : Int) := by omega
                go_wp2_with fail
                have hFq : ∀ n, FamOwn 64 67 (XK w h) (wr.drewN n) p gs l := fun n => hF.below (below_drewN (Below.refl _ _) n)
                have hSq : ∀ n, Src (wr.drewN n) 1 (.slice ab r cb) r (byteCells (x.b.take r)) := fun n => hsrc1.below (below_drewN (Below.refl _ _) n)
                have hXq : ∀ n (w5 : World), Keep (XK w h) (wr.drewN n) w5 → HaveAt w5 h hv ∧ Below w.heap.size w w5 ∧ ∀ k, k < w.heap.size → w5.heap[k]? = wr.heap[k]? := fun n w5 hK =>
                  ⟨HaveAt.keep (w := wr.drewN n) hH hK (.inr rfl), (below_drewN hB n).trans (hK.below (B := w.heap.size) (fun _ h => .inl h) hB.size), fun k hk => hK.block k (Nat.lt_of_lt_of_le hk hB.size) (fun e => e (.inl hk))⟩
                have HFq := Lib.hid hFq
                have HSq := Lib.hid hSq
                have HXq := Lib.hid hXq
                have hrl : r ≤ 140737488355328 := by omega
                clear hFq hSq hXq hX
                go_quiet (fail)
                go_wp2_with fail
                refine (append_own _ p _ _ k _ (HFq.out _) hI.good (by omega) ab r cb _ (HSq.out _) hy hbs hrl).mono ?_
                rintro e w5 ⟨rfl, F5, hK5⟩
                obtain ⟨H5, B5, hsame⟩ := HXq.out _ _ hK5
                have hsrc5 : Src w5 1 (.slice ab r cb) r (byteCells (x.b.take r)) := hsrc0.below B5
                clear HFq HSq HXq hK5 hsame hsl hmn hr hy d4 hsrc1 hF hH hB
                by_cases hok : (appendM gs l (x.b.take r)).1 = 0
                · obtain ⟨y, hy1, hy2, hy3, hI5⟩ := hI.append (by omega) _ hok
                  have tk : ((appendM gs l (x.b.take r)).1 == 0) = true := by simp [hok]
                  generalize hgs : (appendM gs l (x.b.take r)).2.1 = gs5 at *
                  generalize hls : (appendM gs l (x.b.take r)).2.2 = l5 at *
                  generalize (appendM gs l (x.b.take r)).1 = code at *
                  clear hgs hls hok
                  go_wp2_with fail
                  refine (list_own _ p _ _ _ _ F5 hI5.good).mono ?_
                  rintro e w6 ⟨vl, rfl, Rl, hfr, hB6⟩
                  have F6 := F5.below hB6
                  have H6 : HaveAt w6 h hv := H5.keep (X := XK w h) (Mod.of_below hB6) (.inr rfl)
                  have B6 := B5.trans (hB6.mono B5.size)
                  have hsrc6 := hsrc5.below hB6
                  clear F5 H5 B5 hsrc5 hfr
                  obtain ⟨q, hq⟩ : ∃ q, gs5.length = q + 1 := by
                    cases gs5 with
                    | nil => simp at hy1
                    | cons a b => exact ⟨b.length, rfl⟩
                  have hyq : gs5[q]? = some y := by rw [List.getLast?_eq_getElem?, hq] at hy1; simpa using hy1
                  have hym := List.mem_of_getElem? hyq
                  obtain ⟨idn, hidn⟩ : ∃ n : Nat, y.id = n := ⟨y.id.toNat, by omega⟩
                  have hid400 : idn < 400 := by
                    have h1 := (hI5.idl y hym).2
                    have h2 := hI5.good.latest.2
                    omega
                  obtain ⟨cs, hcs1, hcs2, hcs3⟩ := H6
                  have hcell := hcs3 idn hid400
                  have f0 : w6.cell? ⟨h, idn, none⟩ = some (.string (strOfNums (hv idn))) := by rw [cell_of_row _ _ _ _ _ _ hcs1]; exact hcell
                  have f1 : w6.frozen? ⟨h, idn, none⟩ = false := frozen_of_row _ _ _ _ _ hcs1
                  obtain ⟨al, cl, rfl, -⟩ := Rl.form
                  rw [hq] at Rl
                  obtain ⟨gl, rfl, -, hlc, -⟩ := Rl.view (by omega)
                  have hl0 := (hlc (q * 3) (by omega)).trans (lcells_at gs5 q y hyq).1
                  have hl1 := (hlc (q * 3 + 1) (by omega)).trans (lcells_at gs5 q y hyq).2.1
                  rw [hidn] at hl0
                  rw [hy2] at hl1
                  have hconv : ∀ n, (convert 27 9 (.slice ab r cb)).run Try.prog (w6.drewN n) = .ok (.string (strOfNums (x.b.take r))) (w6.drewN n) := fun n => run_string_src (P := Try.prog) (hsrc6.below (below_drewN (Below.refl _ _) n)) 27 5 9 Try.underlying27 Try.underlying5 Try.underlying9
                  have hconv1 : (convert 27 9 (.slice ab r cb)).run Try.prog w6.drew = .ok (.string (strOfNums (x.b.take r))) w6.drew := hconv 1
                  have hlen65 : (hv idn).length + (x.b.take r).length ≤ 65536 := by
                    have h1 := hI5.keeps y hym
                    rw [hidn] at h1
                    simp only [if_pos] at h1
                    have h2 := (hI5.good.each y hym).1
                    rw [← h1, List.length_append] at h2; exact h2
                  have hadd : ∀ w, (Op.stringOp .add (strOfNums (hv idn)) (strOfNums (x.b.take r))).run Try.prog w = .ok (.string (strOfNums (hv idn ++ x.b.take r))) w := fun w => by
                    rw [strOfNums_append]; exact run_string_add_sum w _ _ (by rw [strOfNums_size, strOfNums_size]; omega)
                  have hq12 : q ≤ 12 := by have := hI5.good.len; omega
                  have HI5 := Lib.hid hI5
                  have HCS := Lib.hid (show w6.heap[h]? = some (.cells cs 47 (0, 0)) ∧ cs.size = 400 ∧ ∀ j : Nat, j < 400 → cs[j]? = some (.string (strOfNums (hv j))) from ⟨hcs1, hcs2, hcs3⟩)
                  have HID := Lib.hid hidn
                  rw [hq]
                  have i0 : (0 : Int) ≤ (idn : Int) := by omega
                  have i1 : (idn : Int) < 400 := by omega
                  clear hcs1 hcs2 hcs3 hcell hlc hconv hlen65 hI5 hy1 hyq hq hidn hy2
                  go_wp2_with fail
                  go_region
                  all_goals
                    go_wp2_with fail
                    go_meet
                    exact ⟨_, _, _, HI5.out, keeps_fam F6 _ _ _, keeps_have HCS.out (x.b.take r) y.id HID.out hid400 , keeps_below hh B6 _ _⟩
                · have tk : ((appendM gs l (x.b.take r)).1 == 0) = false := by simp [hok]
                  go_wp2_with fail
                  go_meet
                  exact ⟨_, _, _, hI.append_no _ hok, F5, H5, B5⟩
        case rest =>
          as_aux_lemma =>
          obtain ⟨gs5, l5, hv5, hI5, hF5, hH5, hB5⟩ := hcut
          clear hI hF hH hB hs c0 c1 c2 c3 c4 d0 hsrc hcb hcm
          go_wp2_with fail
          refine (list_own _ p _ _ _ _ hF5 hI5.good).mono ?_
          rintro e w6 ⟨vl, rfl, Rl, hfr, hB6⟩
          have F6 := hF5.below hB6
          have H6 : HaveAt w6 h hv5 := hH5.keep (X := XK w h) (Mod.of_below hB6) (.inr rfl)
          have B6 := hB5.trans (hB6.mono hB5.size)
          clear hF5 hH5 hB5 hB6 hfr
          obtain ⟨al, cl, rfl, -, hn5, -⟩ := Rl.form
          unfold maxLen at hn5
          go_wp2_with fail
          go_loopw [4, 11] (fun la i2 w7 => ∃ (j : Nat) (lst' : Int), la = .int .u64 lst' ∧ i2 = .int .i64 j ∧ j ≤ gs5.length ∧ KInv (k + 1) gs5 l5 lst' hv5 ∧ Below w6.heap.size w6 w7) (fun _ i2 _ => gs5.length - (intOf i2).toNat)
          case atStart => exact ⟨0, lst, rfl, rfl, by omega, hI5, Below.refl _ _⟩
          case round =>
            obtain ⟨j, lst', rfl, rfl, hj, hI6, hB7⟩ := hrel
            clear hI5
            by_cases hjl : j < gs5.length
            · obtain ⟨y, hy⟩ : ∃ y, gs5[j]? = some y := ⟨_, List.getElem?_eq_getElem hjl⟩
              have hym := List.mem_of_getElem? hy
              obtain ⟨idn, hidn⟩ : ∃ n : Nat, y.id = n := ⟨y.id.toNat, by have := (hI6.idl y hym).1; omega⟩
              have hid400 : idn < 400 := by
                have h1 := (hI6.idl y hym).2
                have h2 := hI6.good.latest.2
                omega
              have R7 := Rl.of_block (fun k hk => hB7.block k (Rl.lt hk))
              have H7 : HaveAt wr h hv5 := H6.keep (X := XK w h) (Mod.of_below hB7) (.inr rfl)
              have F7 := F6.below hB7
              obtain ⟨gl, rfl, hgl, hlc, -⟩ := R7.view (by omega)
              have l0 := (hlc (j * 3) (by omega)).trans (lcells_at gs5 j y hy).1
              have l1 := (hlc (j * 3 + 1) (by omega)).trans (lcells_at gs5 j y hy).2.1
              have l2 := (hlc (j * 3 + 2) (by omega)).trans (lcells_at gs5 j y hy).2.2
              rw [hidn] at l0
              have hn12 := hI6.good.len
              have ij0 : (0 : Int) ≤ (j : Int) := by omega
              have ij1 : (j : Int) < (gs5.length : Int) := by omega
              have hfind : gs5.find? (fun g => g.id == (idn : Int)) = some y := by rw [← hidn]; exact find_id hI6.ids j y hy
              have hcut : cutB y.b (max (0 : Int) 0).toNat (max (65536 : Int) 0).toNat = y.b := by
                have := (hI6.good.each y hym).1
                unfold cutB
                rw [show (max (0 : Int) 0).toNat = 0 from rfl, List.drop_zero, List.take_of_length_le (by rw [show (max (65536 : Int) 0).toNat = 65536 from rfl]; exact this)]
              have HFind := Lib.hid hfind
              have HCut := Lib.hid hcut
              have HK := Lib.hid (hI6.keeps y hym)
              have HI6 := Lib.hid hI6
              have HY := Lib.hid hy
              have HID := Lib.hid hidn
              clear hfind hcut
              go_upto_region 30 with fail
              go_cut [143] (fun s wx => s = .bool false ∧ Below wr.heap.size wr wx)
              case first =>
                as_aux_lemma =>
                by_cases hj0 : j = 0
                · subst hj0
                  clear hlc hy hidn hI6
                  go_quiet (fail)
                  go_wp2_with fail
                  go_meet
                  exact ⟨rfl, below_drewN (Below.refl _ _) _⟩
                · obtain ⟨j', rfl⟩ : ∃ j', j = j' + 1 := ⟨j - 1, by omega⟩
                  obtain ⟨z, hzz⟩ : ∃ z, gs5[j']? = some z := ⟨_, List.getElem?_eq_getElem (by omega)⟩
                  have p0 := (hlc (j' * 3) (by omega)).trans (lcells_at gs5 j' z hzz).1
                  have p1 := (hlc (j' * 3 + 1) (by omega)).trans (lcells_at gs5 j' z hzz).2.1
                  have hlt' : z.id < y.id ∧ y.suf < z.suf := by
                    have e1 : gs5[j'] = z := (List.getElem?_eq_some_iff.1 hzz).2
                    have e2 : gs5[j' + 1] = y := (List.getElem?_eq_some_iff.1 hy).2
                    have h1 := List.pairwise_iff_getElem.1 hI6.ids j' (j' + 1) (by omega) hjl (by omega)
                    have h2 := List.pairwise_iff_getElem.1 hI6.sufs j' (j' + 1) (by omega) hjl (by omega)
                    rw [e1, e2] at h1 h2; exact ⟨h1, h2⟩
                  have t1 : decide ((idn : Int) ≤ z.id) = false := by rw [← hidn]; simp; omega
                  have t2 : decide (z.suf ≤ y.suf) = false := by simp; omega
                  clear hlc hy hidn hI6 hlt' hzz hj0
                  have ij3 : IntKind.i64.wrap ((j' : Int) + 1 - 1) = (j' : Int) := by rw [show ((j' : Int) + 1 - 1) = (j' : Int) by omega]; exact IntWalk.i64_in _ (by omega)
                  go_quiet (fail)
                  go_wp2_with fail
                  go_meet
                  exact ⟨rfl, below_drewN (Below.refl _ _) _⟩
              case rest =>
                as_aux_lemma =>
                obtain ⟨rfl, hBc⟩ := hcut
                have hB8 := hB7.trans (hBc.mono hB7.size)
                have R8 := R7.of_block (fun k hk => hBc.block k (R7.lt hk))
                have H8 : HaveAt wc h hv5 := H7.keep (X := XK w h) (Mod.of_below hBc) (.inr rfl)
                have F8 := F7.below hBc
                have hread := read_own _ p _ _ _ idn 0 65536 _ F8 HI6.out.good
                unfold ReadOut at hread
                rw [HFind.out] at hread
                simp only [HCut.out] at hread
                have HR := Lib.hid hread
                clear hread hB7 hlc R7 H7 F7 l0 l1 l2 hy hidn hI6
                obtain ⟨gl', hgl', -, hlc, -⟩ := R8.view (by omega)
                obtain rfl : gl = gl' := by simpa using hgl'
                have l0 := (hlc (j * 3) (by omega)).trans (lcells_at gs5 j y HY.out).1
                rw [HID.out] at l0
                clear hgl' hlc
                go_wp2_with fail
                refine HR.out.mono ?_
                rintro e w8 ⟨vx, rfl, Rx, -, hB9⟩
                have R9 := R8.of_block (fun k hk => hB9.block k (R8.lt hk))
                have H9 : HaveAt w8 h hv5 := H8.keep (X := XK w h) (Mod.of_below hB9) (.inr rfl)
                have hB10 := hB8.trans (hB9.mono hB8.size)
                obtain ⟨ax, cx, rfl, -⟩ := Rx.form
                clear HR R8 H8 F8 l0 hB8 hB9
                obtain ⟨gl', hgl', -, hlc, -⟩ := R9.view (by omega)
                obtain rfl : gl = gl' := by simpa using hgl'
                have l0 := (hlc (j * 3) (by omega)).trans (lcells_at gs5 j y HY.out).1
                have l1 := (hlc (j * 3 + 1) (by omega)).trans (lcells_at gs5 j y HY.out).2.1
                have l2 := (hlc (j * 3 + 2) (by omega)).trans (lcells_at gs5 j y HY.out).2.2
                rw [HID.out] at l0
                obtain ⟨cs, hcs1, hcs2, hcs3⟩ := H9
                have f0 : w8.cell? ⟨h, idn, none⟩ = some (.string (strOfNums y.b)) := by
                  rw [cell_of_row _ _ _ _ _ _ hcs1]
                  have := hcs3 idn hid400
                  rw [← HID.out, HK.out] at this; exact this
                have hconv : ∀ n, (convert 27 9 (.slice ax y.b.length cx)).run Try.prog (w8.drewN n) = .ok (.string (strOfNums y.b)) (w8.drewN n) := fun n => run_string_src (P := Try.prog) ((Src.of_row Rx (byteCells_one _)).below (below_drewN (Below.refl _ _) n)) 27 5 9 Try.underlying27 Try.underlying5 Try.underlying9
                have i0 : (0 : Int) ≤ (idn : Int) := by omega
                have i1 : (idn : Int) < 400 := by omega
                clear hgl' hlc hcs1 hcs2 hcs3 R9 Rx
                go_wp2_with fail
                go_quiet (fail)
                have hBn := fun n => below_drewN hB10 n
                have HBn := Lib.hid hBn
                clear hBn hconv f0
                by_cases hjn : j + 1 = gs5.length
                · have tl : ((j : Int) == (gs5.length : Int) - 1) = true := by simp; omega
                  by_cases hys : y.suf = 0
                  · have ts : (y.suf == 0) = true := by simp [hys]
                    have tge : lst' ≤ (idn : Int) := by
                      have h1 := HI6.out.zero y hym hys
                      have h2 := HI6.out.last.2
                      rw [HID.out] at h1; omega
                    have HI7 : Hid (KInv (k + 1) gs5 l5 idn hv5) := HI6.out.setLast (by omega) (by have h1 := (HI6.out.idl y hym).2; rw [HID.out] at h1; exact h1)
                    clear hjn hys
                    go_wp2
                    go_roundw
                    case rel => exact ⟨j + 1, idn, rfl, by go_num, by omega, HI7.out, HBn.out _⟩
                    case measure => simp [intOf]; omega
                  · have ts : (y.suf == 0) = false := by simp [hys]
                    clear hjn hys
                    go_wp2
                    go_roundw
                    case rel => exact ⟨j + 1, lst', rfl, by go_num, by omega, HI6.out, HBn.out _⟩
                    case measure => simp [intOf]; omega
                · have tl : ((j : Int) == (gs5.length : Int) - 1) = false := by simp; omega
                  clear hjn
                  go_wp2
                  go_roundw
                  case rel => exact ⟨j + 1, lst', rfl, by go_num, by omega, HI6.out, HBn.out _⟩
                  case measure => simp [intOf]; omega
            · have F7 := F6.below hB7
              have H7 : HaveAt wr h hv5 := H6.keep (X := XK w h) (Mod.of_below hB7) (.inr rfl)
              have B7 := B6.trans (hB7.mono B6.size)
              go_wp2
              go_roundw
              case rel => exact ⟨k + 1, gs5, l5, lst', hv5, rfl, by go_num, by omega, by omega, hI6, F7, H7, B7⟩
              case measure => simp [intOf]; omega
      · go_wp2
        go_ret
        exact ⟨rfl, hB⟩
    · go_wp2
      go_ret
      exact ⟨rfl, hB⟩
end Go.Proofs.Ytakdcankhfeobaa
