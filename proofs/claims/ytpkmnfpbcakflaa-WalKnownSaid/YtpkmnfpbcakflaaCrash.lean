/- The walk of disk's Crash. No condition. -/
import Derived.Test.YtpkmnfpbcakflaaRemove
import Derived.Deep.DeepCutAuto
import Derived.Deep.CutBlock
namespace Go.Proofs.Ytpkmnfpbcakflaa
open Go.ChangeShapes Go.WideShapes Go.ChangeAt Go.RowKit

/-- files behind a deed -/
def doesM (D : Fs) (x : Dd) : Fs :=
  if x.kind = 0 then putF D x.name (getF D x.name ++ x.b) else if x.kind = 1 then putF D x.name ((getF D x.name).take x.size.toNat) else if x.kind = 2 then putF (delF D x.name) x.«to» (getF D x.name) else delF D x.name
/-- a deed that may be done -/
structure OkDeed (D : Fs) (x : Dd) : Prop where
  name : x.name.size ≤ maxLen
  dest : x.«to».size ≤ maxLen
  size : Maps.size D ≤ 1000000
  kind : x.kind = 0 ∧ (getF D x.name).length + x.b.length ≤ 1000000000000 ∨ x.kind = 1 ∧ 0 ≤ x.size ∧ x.size ≤ (getF D x.name).length ∨ x.kind = 2 ∨ x.kind = 3
def OkAll : Fs → List Dd → Prop
  | _, [] => True
  | D, x :: l => OkDeed D x ∧ OkAll (doesM D x) l
def replay (D : Fs) (l : List Dd) : Fs := l.foldl doesM D

theorem does_any (S : Nat → Prop) (b : Nat) (D : Fs) (x : Dd) (u : Value) (w : World) (hF : FilesAt S w b D) (hu : Bts S w u x.b) (hb : ¬ S b) (hS : ∀ k, S k → k < w.heap.size) (ok : OkDeed D x) :
    Calls Try.prog 51 #[.map (some b), .agg (ddAgg x u)] w fun e w' => DoesOut w w' e S b (doesM D x) := by
  obtain ⟨kind, name, dest, bs, size⟩ := x
  unfold ddAgg doesM
  rcases ok.kind with ⟨h, h2⟩ | ⟨h, h2, h3⟩ | h | h <;> simp only at h <;> subst h
  · rw [if_pos rfl]
    exact does_append S b D name dest bs u size w hF hu ok.name hb hS (by simp only at h2; omega) ok.size
  · rw [if_neg (by simp), if_pos rfl]
    simp only at h2 h3
    obtain ⟨n, rfl⟩ : ∃ n : Nat, size = n := ⟨size.toNat, by omega⟩
    exact does_truncate S b D name dest u n w hF ok.name hb hS ok.size (by omega)
  · rw [if_neg (by simp), if_neg (by simp), if_pos rfl]
    exact does_rename S b D name dest u size w hF ok.name ok.dest hb hS ok.size
  · rw [if_neg (by simp), if_neg (by simp), if_neg (by simp)]
    exact does_remove S b D name dest u size w hF ok.name hb hS

theorem replay_take (D : Fs) (l : List Dd) (k : Nat) (x : Dd) (h : l[k]? = some x) : replay D (l.take (k + 1)) = doesM (replay D (l.take k)) x := by
  have hlt : k < l.length := (List.getElem?_eq_some_iff.1 h).1
  have hx : l[k] = x := (List.getElem?_eq_some_iff.1 h).2
  unfold replay
  rw [List.take_succ_eq_append_getElem hlt, List.foldl_append, hx]; rfl
theorem OkAll.at : ∀ {D : Fs} {l : List Dd}, OkAll D l → ∀ k x, l[k]? = some x → OkDeed (replay D (l.take k)) x
  | _, [], _, _, _, h => by simp at h
  | D, y :: l, h, 0, x, hx => by simp at hx; subst hx; exact h.1
  | D, y :: l, h, k + 1, x, hx => by
    have := OkAll.at h.2 k x (by simpa using hx)
    simpa [replay] using this

def crashD (d : Dk) (k : Nat) (torn : Int) : Fs :=
  match d.pend[k]? with
  | some x => if x.kind = 0 ∧ 0 < x.b.length ∧ 0 < pickV torn x.b.length then doesM (replay d.syn (d.pend.take k)) { x with b := x.b.take (pickV torn x.b.length).toNat } else replay d.syn (d.pend.take k)
  | none => replay d.syn (d.pend.take k)
def crashed (d : Dk) (k : Nat) (torn : Int) : Dk := { d with syn := crashD d k torn, now := crashD d k torn, pend := [], fuse := -1, down := false }

/-- under way in a crash: files of block bs, in a world behind W1 -/
structure Way (S : Nat → Prop) (w W1 wr : World) (bs : Nat) (D : Fs) : Prop where
  files : FilesAt (More S w wr) wr bs D
  mod : Mod (fun k => k = bs) W1 wr
theorem Way.below {S : Nat → Prop} {w W1 wr W : World} {bs : Nat} {D : Fs} (h : Way S w W1 wr bs D) (hB : Below wr.heap.size wr W) : Way S w W1 W bs D := by
  refine ⟨h.files.move (hB.block bs h.files.lt) fun v c hv => ?_, h.mod.trans (Mod.of_below hB)⟩
  by_cases h0 : 0 < c.length
  · refine ⟨hv.ex, hv.src.below hB, hv.byte, fun h0 k hk => ?_⟩
    rcases hv.own h0 k hk with e | e
    · exact .inl e
    · exact .inr ⟨e.1, Nat.lt_of_lt_of_le e.2 hB.size⟩
  · exact ⟨hv.ex, hv.src.below hB, hv.byte, fun h1 => absurd h1 h0⟩
theorem Way.does {S : Nat → Prop} {w W1 W w5 : World} {bs : Nat} {D D' : Fs} (h : Way S w W1 W bs D) (h1 : w.heap.size ≤ W1.heap.size) (hF : FilesAt (More (More S w W) W w5) w5 bs D') (hM : Mod (fun k => k = bs) W w5) : Way S w W1 w5 bs D' := by
  have s1 := h.mod.size
  have s2 := hM.size
  refine ⟨hF.move rfl fun _ _ hv => hv.move (fun _ _ => rfl) fun k hk => ?_, h.mod.trans hM⟩
  rcases hk with (e | e) | e
  · exact .inl e
  · exact .inr ⟨e.1, by omega⟩
  · exact .inr ⟨by omega, e.2⟩
theorem Way.call {S : Nat → Prop} {w W1 W : World} {bs : Nat} {D : Fs} {x : Dd} {u : Value} (h : Way S w W1 W bs D) (h1 : w.heap.size ≤ W1.heap.size) (hu : Bts (More S w W) W u x.b) (hb : ¬ S bs) (hbl : bs < w.heap.size) (hS : ∀ k, S k → k < w.heap.size) (ok : OkDeed D x) :
    Calls Try.prog 51 #[.map (some bs), .agg (ddAgg x u)] W fun e w' => e = .returned (.tuple #[]) ∧ Way S w W1 w' bs (doesM D x) := by
  have s1 := h.mod.size
  refine (does_any (More S w W) bs D x u W h.files hu ?_ ?_ ok).mono fun e w' ⟨he, hF, hM⟩ => ⟨he, h.does h1 hF hM⟩
  · rintro (e | e)
    · exact hb e
    · omega
  · rintro k (e | e)
    · have := hS k e; omega
    · exact e.2

set_option maxRecDepth 100000 in
set_option maxHeartbeats 4000000 in
theorem crash_own (X : Nat → Prop) (p : Nat) (d : Dk) (keep torn : Int) (w : World) (h : DiskOwn X w p d) (hok : OkAll d.syn d.pend) (hpd : d.pend.length ≤ 1000000) (hszs : ∀ k, Maps.size (crashD d k torn) ≤ 1000000)
    (k : Nat) (hk : pickV keep (d.pend.length + 1) = k) (hkl : k ≤ d.pend.length) :
    Calls Try.prog 19 #[.pointer (some ⟨p, 0, none⟩), .int .i64 keep, .int .i64 torn] w fun e w' => e = .returned (.int .i64 k) ∧ DiskOwn X w' p (crashed d k torn) ∧ Keep X w w' := by
  obtain ⟨hX, S, bs, bn, vp, us, hD, hf⟩ := h
  obtain ⟨i0, hi0, hz0, hz1, hz2⟩ := info_parts infoD
  obtain ⟨-, c1, c2, c3, -, -, hfz⟩ := hD.head.cells
  obtain ⟨a, cap, rfl, hnc, hml, hcm⟩ := hD.pend.form
  have f2 := hfz 2
  have hw := within_any keep (d.pend.length + 1) (by omega) (by omega) w
  rw [hk] at hw
  have HW := Lib.hid hw
  have hsl := fun w => run_slice_to (P := Try.prog) w 82 88 i0 Try.underlying82 hi0 a d.pend.length cap k (by omega) .i64
  have HX := Lib.hid hX
  have HF := Lib.hid hf
  have HD := Lib.hid hD
  have HOk := Lib.hid hok
  have HSz := Lib.hid hszs
  clear hw hk hX hf hD hfz hok hszs
  go_enter Try.func19, Try.ntmps19
  go_wp2_with fail
  refine HW.out.mono ?_
  rintro e w1 ⟨rfl, hw1⟩
  obtain rfl : w = w1 := hw1.symm
  clear HW hw1
  go_wp2_with fail
  have hH1 : HeadAt (w.setCell ⟨p, 2, none⟩ (.map (some bs))) p d.room bs bs (.slice a d.pend.length cap) d.fuse d.down := HD.out.head.set2 bs
  have hoth : ∀ i, i ≠ p → (w.setCell ⟨p, 2, none⟩ (.map (some bs))).heap[i]? = w.heap[i]? := fun i hi => heap_setCell_other _ _ _ _ (show i ≠ (⟨p, 2, none⟩ : Addr).block from hi)
  have hSo : ∀ i, S i → (w.setCell ⟨p, 2, none⟩ (.map (some bs))).heap[i]? = w.heap[i]? := fun i hi => hoth i (fun e => HD.out.out.1 (e ▸ hi))
  have hF1 : FilesAt S (w.setCell ⟨p, 2, none⟩ (.map (some bs))) bs d.syn := HD.out.syn.same (hoth bs HD.out.nep.1) hSo
  have hR1 : Row (w.setCell ⟨p, 2, none⟩ (.map (some bs))) 88 5 (.slice a d.pend.length cap) d.pend.length (dcells d.pend us) := HD.out.pend.of_block fun i hi => hoth i (HD.out.notp i hi)
  have hb1 : ∀ (i : Nat) x u, d.pend[i]? = some x → us[i]? = some u → Bts S (w.setCell ⟨p, 2, none⟩ (.map (some bs))) u x.b := fun i x u hx hu => (HD.out.bts i x u hx hu).move hSo fun _ h => h
  have hs1 : (w.setCell ⟨p, 2, none⟩ (.map (some bs))).heap.size = w.heap.size := by simp [World.setCell]
  have hM1 : Mod (fun k => k = p) w (w.setCell ⟨p, 2, none⟩ (.map (some bs))) := mod_p _ _
  have hlS : ∀ i, S i → i < (w.setCell ⟨p, 2, none⟩ (.map (some bs))).heap.size := fun i hi => by rw [hs1]; exact HD.out.lt i hi
  clear hoth hSo c1 c2 c3 f2 hsl
  generalize w.setCell ⟨p, 2, none⟩ (.map (some bs)) = W1 at *
  have HH1 := Lib.hid hH1
  have HR1 := Lib.hid hR1
  have Hb1 := Lib.hid hb1
  have HM1 := Lib.hid hM1
  have HlS := Lib.hid hlS
  have Hs1 := Lib.hid hs1
  clear hH1 hR1 hb1 hM1 hlS hs1
  -- what is known of a world behind deeds that were done to the files of block bs
  have hlater : ∀ wr, Mod (fun k => k = bs) W1 wr → HeadAt wr p d.room bs bs (.slice a d.pend.length cap) d.fuse d.down ∧ Row wr 88 5 (.slice a d.pend.length cap) d.pend.length (dcells d.pend us) ∧ ∀ (i : Nat) x u, d.pend[i]? = some x → us[i]? = some u → Bts (More S w wr) wr u x.b := fun wr hM =>
    ⟨HH1.out.same (hM.block p HH1.out.lt HD.out.nep.1.symm), HR1.out.of_block fun i hi => hM.block i (HR1.out.lt hi) (fun e => HD.out.pend.not_map HD.out.syn (e ▸ hi)),
      fun i x u hx hu => (Hb1.out i x u hx hu).move (fun i hi => hM.block i (HlS.out i hi) (fun e => HD.out.out.2.1 (e ▸ hi))) fun _ h => .inl h⟩
  have HLater := Lib.hid hlater
  clear hlater
  have hF1' : FilesAt (More S w W1) W1 bs (replay d.syn (d.pend.take 0)) := hF1.move rfl fun _ _ hv => hv.move (fun _ _ => rfl) fun _ h => .inl h
  clear hF1
  go_loopw [9, 33] (fun _ i wr => ∃ j : Nat, i = .int .i64 j ∧ j ≤ k ∧ Way S w W1 wr bs (replay d.syn (d.pend.take j))) (fun _ i _ => k - (intOf i).toNat)
  case atStart => exact ⟨0, rfl, Nat.zero_le _, hF1', Mod.refl _ _⟩
  case round =>
    obtain ⟨j, rfl, hj, hWay⟩ := hrel
    clear hF1'
    obtain ⟨hH, hR, hb⟩ := HLater.out wr hWay.mod
    by_cases hjk : j < k
    · as_aux_lemma =>
      obtain ⟨x, hx⟩ : ∃ x, d.pend[j]? = some x := ⟨_, List.getElem?_eq_getElem (by omega)⟩
      obtain ⟨u, hu⟩ : ∃ u, us[j]? = some u := ⟨_, List.getElem?_eq_getElem (by rw [HD.out.len]; omega)⟩
      have hux := hb j x u hx hu
      obtain ⟨au, cu, rfl, hcu1, hcu2⟩ := hux.ex
      obtain ⟨g, rfl, hgl, hc, -⟩ := hR.view (by omega)
      obtain ⟨d0, d1, d2, d3, d4⟩ := dcells_at d.pend us j x _ hx hu
      have e0 := (hc (j * 5) (by omega)).trans d0
      have e1 := (hc (j * 5 + 1) (by omega)).trans d1
      have e2 := (hc (j * 5 + 2) (by omega)).trans d2
      have e3 := (hc (j * 5 + 3) (by omega)).trans d3
      have e4 := (hc (j * 5 + 4) (by omega)).trans d4
      have hrep := replay_take d.syn d.pend j x hx
      have hdk := HOk.out.at j x hx
      have HRep := Lib.hid hrep
      have HDk := Lib.hid hdk
      have HWay := Lib.hid hWay
      have HUx := Lib.hid hux
      have HHr := Lib.hid hH
      have ij0 : (0 : Int) ≤ (j : Int) := by omega
      have ij1 : (j : Int) < (k : Int) := by omega
      clear d0 d1 d2 d3 d4 hc hx hu hux hrep hdk hWay hH hR hb
      go_wp2_with fail
      have hBW := (Below.refl wr.heap.size wr).alloc (Nat.le_refl _) (.cells #[.int .i64 x.kind, .string x.name, .string x.«to», .slice au x.b.length cu, .int .i64 x.size] 88)
      have hbx : (wr.alloc (.cells #[.int .i64 x.kind, .string x.name, .string x.«to», .slice au x.b.length cu, .int .i64 x.size] 88)).heap[wr.heap.size]? = some (.cells #[.int .i64 x.kind, .string x.name, .string x.«to», .slice au x.b.length cu, .int .i64 x.size] 88 (0, 0)) := heap_alloc_new wr _
      have hW2 := HWay.out.below hBW
      have hu2 : Bts (More S w (wr.alloc (.cells #[.int .i64 x.kind, .string x.name, .string x.«to», .slice au x.b.length cu, .int .i64 x.size] 88))) (wr.alloc (.cells #[.int .i64 x.kind, .string x.name, .string x.«to», .slice au x.b.length cu, .int .i64 x.size] 88)) (.slice au x.b.length cu) x.b := by
        refine ⟨HUx.out.ex, HUx.out.src.below hBW, HUx.out.byte, fun h0 i hi => ?_⟩
        rcases HUx.out.own h0 i hi with e | e
        · exact .inl e
        · exact .inr ⟨e.1, Nat.lt_of_lt_of_le e.2 hBW.size⟩
      have hH2 := HHr.out.same (hBW.block p HHr.out.lt)
      clear hBW e0 e1 e2 e3 e4
      generalize wr.alloc (.cells #[.int .i64 x.kind, .string x.name, .string x.«to», .slice au x.b.length cu, .int .i64 x.size] 88) = W at *
      obtain ⟨-, -, r2, -⟩ := hH2.cells
      have b0 : W.cell? ⟨wr.heap.size, 0, none⟩ = some (.int .i64 x.kind) := by rw [cell_of_row _ _ _ _ _ _ hbx]; rfl
      have b1 : W.cell? ⟨wr.heap.size, 1, none⟩ = some (.string x.name) := by rw [cell_of_row _ _ _ _ _ _ hbx]; rfl
      have b2 : W.cell? ⟨wr.heap.size, 2, none⟩ = some (.string x.«to») := by rw [cell_of_row _ _ _ _ _ _ hbx]; rfl
      have b3 : W.cell? ⟨wr.heap.size, 3, none⟩ = some (.slice au x.b.length cu) := by rw [cell_of_row _ _ _ _ _ _ hbx]; rfl
      have b4 : W.cell? ⟨wr.heap.size, 4, none⟩ = some (.int .i64 x.size) := by rw [cell_of_row _ _ _ _ _ _ hbx]; rfl
      have hcall := Way.call (hW2.below (Below.refl _ _).drew) (by rw [Hs1.out]; exact Nat.le_refl _) (hu2.move (w' := W.drew) (fun _ _ => rfl) fun _ h => h) HD.out.out.2.1 HD.out.syn.lt HD.out.lt HDk.out
      rw [← HRep.out] at hcall
      have HCall := Lib.hid hcall
      clear hcall hW2 hu2 hH2 hbx
      go_wp2_with fail
      go_region_with (go_at_call 51; refine HCall.out.mono ?_; rintro e w5 ⟨rfl, hW5⟩)
      all_goals
        have HW5 := Lib.hid hW5
        clear hW5 b0 b1 b2 b3 b4 r2
        go_wp2_with fail
        go_roundw
        case rel => exact ⟨j + 1, by go_num, by omega, HW5.out⟩
        case measure => simp [intOf]; omega
    · obtain rfl : j = k := by omega
      clear hjk hj
      have HWay := Lib.hid hWay
      have HHr := Lib.hid hH
      have HR := Lib.hid hR
      have Hb := Lib.hid hb
      obtain ⟨-, -, r2, r3, -⟩ := hH.cells
      clear hWay hH hR hb
      go_upto_if 50 with (fail)
      go_cut [] (fun wx => Way S w W1 wx bs (crashD d j torn))
      case first =>
        by_cases hjl : j < d.pend.length
        · obtain ⟨x, hx⟩ : ∃ x, d.pend[j]? = some x := ⟨_, List.getElem?_eq_getElem (by omega)⟩
          obtain ⟨u, hu⟩ : ∃ u, us[j]? = some u := ⟨_, List.getElem?_eq_getElem (by rw [HD.out.len]; omega)⟩
          have hux := Hb.out j x u hx hu
          obtain ⟨au, cu, rfl, hcu1, hcu2⟩ := hux.ex
          obtain ⟨g, rfl, hgl, hc, -⟩ := HR.out.view (by omega)
          obtain ⟨d0, d1, d2, d3, d4⟩ := dcells_at d.pend us j x _ hx hu
          have e0 := (hc (j * 5) (by omega)).trans d0
          have e1 := (hc (j * 5 + 1) (by omega)).trans d1
          have e2 := (hc (j * 5 + 2) (by omega)).trans d2
          have e3 := (hc (j * 5 + 3) (by omega)).trans d3
          have e4 := (hc (j * 5 + 4) (by omega)).trans d4
          have hdk := HOk.out.at j x hx
          have hcr : crashD d j torn = if x.kind = 0 ∧ 0 < x.b.length ∧ 0 < pickV torn x.b.length then doesM (replay d.syn (d.pend.take j)) { x with b := x.b.take (pickV torn x.b.length).toNat } else replay d.syn (d.pend.take j) := by unfold crashD; rw [hx]
          have HCr := Lib.hid hcr
          have HDk := Lib.hid hdk
          have HUx := Lib.hid hux
          have ij0 : (0 : Int) ≤ (j : Int) := by omega
          have ij1 : (j : Int) < (d.pend.length : Int) := by omega
          clear d0 d1 d2 d3 d4 hc hx hu hux hdk hcr
          by_cases hcond : x.kind = 0 ∧ 0 < x.b.length
          · obtain ⟨hk0, hl0⟩ := hcond
            have hxl : x.b.length ≤ 1000000000000 := by
              rcases HDk.out.kind with ⟨_, h⟩ | ⟨h, _⟩ | h | h <;> omega
            obtain ⟨m, hm, hml⟩ := pickV_at torn x.b.length (by omega)
            have hwt := fun w => within_any torn x.b.length (by omega) (by omega) w
            rw [hm] at hwt
            have HWt := Lib.hid hwt
            have HM := Lib.hid hm
            have hslu := fun w => run_slice_to (P := Try.prog) w 25 5 (Classical.choose (info_parts infoB)) Try.underlying25 (Classical.choose_spec (info_parts infoB)).1 au x.b.length cu m (by omega) .i64
            have hl0' : (0 : Int) < (x.b.length : Int) := by omega
            rw [hk0] at e0
            have HK0 := Lib.hid hk0
            clear hwt hm hk0
            go_wp2_with fail
            go_region_with (go_at_call 50; refine (HWt.out _).mono ?_; rintro e w9 ⟨rfl, rfl⟩)
            all_goals
              have hBb : Below wr.heap.size wr (wr.alloc (.cells #[.int .i64 0, .string x.name, .string x.«to», .slice au m cu, .int .i64 x.size] 88)).drew := ((Below.refl wr.heap.size wr).alloc (Nat.le_refl _) (.cells #[.int .i64 0, .string x.name, .string x.«to», .slice au m cu, .int .i64 x.size] 88)).drew
              have hWb := HWay.out.below hBb
              have HWb := Lib.hid hWb
              have r2' := (hBb.cell (p := ⟨p, 2, none⟩) HHr.out.lt).trans r2
              have HBb := Lib.hid hBb
              clear hWb hBb
              by_cases hm0 : m = 0
              · subst hm0
                go_wp2_with fail
                go_meet
                rw [HCr.out, HM.out, if_neg (by omega)]
                exact HWb.out
              · have hm1 : (0 : Int) < (m : Int) := by omega
                have heq : ({ x with b := x.b.take m } : Dd) = ⟨0, x.name, x.«to», x.b.take m, x.size⟩ := by rw [← HK0.out]
                have hux2 : Bts (More S w (wr.alloc (.cells #[.int .i64 0, .string x.name, .string x.«to», .slice au m cu, .int .i64 x.size] 88)).drew.drew) (wr.alloc (.cells #[.int .i64 0, .string x.name, .string x.«to», .slice au m cu, .int .i64 x.size] 88)).drew.drew (.slice au m cu) (x.b.take m) := by
                  have h1 := HUx.out.take m (by omega) rfl
                  have hB2 := HBb.out.drew
                  refine ⟨h1.ex, h1.src.below hB2, h1.byte, fun h0 i hi => ?_⟩
                  rcases h1.own h0 i hi with e | e
                  · exact .inl e
                  · exact .inr ⟨e.1, Nat.lt_of_lt_of_le e.2 hB2.size⟩
                have hok2 : OkDeed (replay d.syn (d.pend.take j)) ⟨0, x.name, x.«to», x.b.take m, x.size⟩ := ⟨HDk.out.name, HDk.out.dest, HDk.out.size, .inl ⟨rfl, by
                  have h1 : (x.b.take m).length ≤ x.b.length := by rw [List.length_take]; omega
                  simp only
                  rcases HDk.out.kind with ⟨_, h⟩ | ⟨h, _⟩ | h | h
                  · omega
                  · have := HK0.out; omega
                  · have := HK0.out; omega
                  · have := HK0.out; omega⟩⟩
                have hcall := Way.call (HWb.out.below (Below.refl _ _).drew) (by rw [Hs1.out]; exact Nat.le_refl _) hux2 HD.out.out.2.1 HD.out.syn.lt HD.out.lt hok2
                have hfin : crashD d j torn = doesM (replay d.syn (d.pend.take j)) ⟨0, x.name, x.«to», x.b.take m, x.size⟩ := by
                  rw [HCr.out, HM.out, if_pos ⟨HK0.out, by omega, by omega⟩, Int.toNat_natCast, heq]
                rw [← hfin] at hcall
                have HCall := Lib.hid hcall
                clear hcall hux2 hok2 hfin heq
                go_wp2_with fail
                go_region_with (go_at_call 51; refine HCall.out.mono ?_; rintro e w5 ⟨rfl, hW5⟩)
                all_goals
                  have HW5 := Lib.hid hW5
                  clear hW5
                  go_wp2_with fail
                  go_meet
                  exact HW5.out
          · have hBb : Below wr.heap.size wr (wr.alloc (.cells #[.int .i64 x.kind, .string x.name, .string x.«to», .slice au x.b.length cu, .int .i64 x.size] 88)) := (Below.refl wr.heap.size wr).alloc (Nat.le_refl _) (.cells #[.int .i64 x.kind, .string x.name, .string x.«to», .slice au x.b.length cu, .int .i64 x.size] 88)
            have hWb := HWay.out.below hBb
            have hfin : crashD d j torn = replay d.syn (d.pend.take j) := by
              rw [HCr.out, if_neg (fun h => hcond ⟨h.1, h.2.1⟩)]
            rw [← hfin] at hWb
            have HWb := Lib.hid hWb
            clear hfin hWb hBb
            by_cases hk0 : x.kind = 0
            · have hl0 : x.b.length = 0 := by
                by_cases hx : x.b.length = 0
                · exact hx
                · exact absurd ⟨hk0, by omega⟩ hcond
              have tk : (x.kind == 0) = true := by simp [hk0]
              have hnl : ¬ (0 : Int) < (x.b.length : Int) := by omega
              have HHL := Lib.hid hl0
              clear hk0 hl0 hcond
              go_wp2_with fail
              go_meet
              exact HWb.out
            · have tk : (x.kind == 0) = false := by simp [hk0]
              clear hk0 hcond
              go_wp2_with fail
              go_meet
              exact HWb.out
        · have hn : crashD d j torn = replay d.syn (d.pend.take j) := by
            unfold crashD; rw [List.getElem?_eq_none (by omega)]
          have HN := Lib.hid hn
          clear hn
          go_wp2_with fail
          go_meet
          rw [HN.out]
          exact HWay.out
      case rest =>
        have hH := HHr.out
        clear r2 r3
        have hHc : HeadAt wc p d.room bs bs (.slice a d.pend.length cap) d.fuse d.down := (HLater.out wc hcut.mod).1
        have hnm : ∀ i, i < w.heap.size → ¬ S i → ¬ More S w wc i := fun i h1 h2 h3 => by
          rcases h3 with e | e
          · exact h2 e
          · omega
        have hpl := HD.out.head.lt
        have hbl := HD.out.syn.lt
        have hsm : w.heap.size ≤ wc.heap.size := by have := hcut.mod.size; rw [Hs1.out] at this; exact this
        have hlt : ∀ i, More S w wc i → i < wc.heap.size := fun i hi => by
          rcases hi with e | e
          · have := HD.out.lt i e; omega
          · exact e.2
        have hset := settle_any (More S w wc) p d.room bs bs (.slice a d.pend.length cap) d.fuse d.down (crashD d j torn) wc hHc hcut.files hlt (hnm p hpl HD.out.out.1) (HSz.out j)
        have HSet := Lib.hid hset
        have HCut := Lib.hid hcut
        have HNm := Lib.hid hnm
        have HLt := Lib.hid hlt
        clear hset hcut hHc hH hnm hlt
        go_wp2_with fail
        refine HSet.out.mono ?_
        rintro e w6 ⟨rfl, hH6, hF6, hN6, hM6⟩
        obtain ⟨-, -, -, -, q4, q5, hfz6⟩ := hH6.cells
        have g4 := hfz6 4
        have g5 := hfz6 5
        have hD6 : DiskAt (More S w wc) w6 p wc.heap.size bs (.slice none 0 0) [] { d with syn := crashD d j torn, now := crashD d j torn, pend := [] } :=
          ⟨hH6, hF6, hN6, Row.nil _ _ _, rfl, by intro i x u h; simp at h, by omega, by intro i h; simp [Value.ownBlock] at h,
            ⟨HNm.out p hpl HD.out.out.1, fun e => by have := HLt.out _ e; omega, HNm.out bs hbl HD.out.out.2.1, by intro i h; simp [Value.ownBlock] at h⟩, fun i e => Nat.lt_of_lt_of_le (HLt.out i e) hM6.size⟩
        have HD6 := Lib.hid hD6
        have HM6 := Lib.hid hM6
        have HH6 := Lib.hid hH6
        clear hfz6 hH6 hF6 hN6 hM6 hD6
        go_wp2_with fail
        go_ret
        have hMh : Mod (fun k => k = p) w6 ((w6.setCell ⟨p, 4, none⟩ (.int .i64 (-1))).setCell ⟨p, 5, none⟩ (.bool false)) := (mod_p 4 _).trans (mod_p 5 _)
        have hsz6 := HM6.out.size
        refine ⟨rfl, ⟨fun i hi => ?_, More S w wc, wc.heap.size, bs, .slice none 0 0, [], HD6.out.rehead hMh _ _ _ ((HH6.out.set4 (-1)).set5 false), fun i hi => ?_⟩, ?_⟩
        · have := HX.out i hi; have := hMh.size; omega
        · obtain ⟨h1, h2, h3, h4, h5⟩ := HF.out i hi
          have := HX.out i hi
          exact ⟨HNm.out i (HX.out i hi) h1, h2, by omega, h3, by simp [Value.ownBlock]⟩
        · refine (((HM1.out.mono ?_).trans (HCut.out.mod.mono ?_)).trans (HM6.out.mono ?_)).trans (hMh.mono ?_)
          · exact fun i _ e hx => (HF.out i hx).2.1 e
          · exact fun i _ e hx => (HF.out i hx).2.2.1 e
          · exact fun i _ e hx => (HF.out i hx).2.1 e
          · exact fun i _ e hx => (HF.out i hx).2.1 e
end Go.Proofs.Ytpkmnfpbcakflaa
