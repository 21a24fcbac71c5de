/- The walk of the law's same: a disk and the reference's, alike, are found the same. No condition. -/
import Derived.Test.YtpkmnfpbcakflaaDoorPair
import Derived.Deep.RegionHeld3
namespace Go.Proofs.YtpkmnfpbcakflaaDoor
open Go.ChangeShapes Go.WideShapes Go.ChangeAt Go.RowKit

def nameNo : ByteArray := ⟨#[116, 104, 101, 114, 101, 32, 105, 115, 32, 110, 111, 110, 101, 32, 115, 117, 99, 104]⟩
/-- a key of the files is there -/
theorem key_there {D : Fs} (hD : Maps.IsMap D) {j : Nat} {x : List UInt8} (h : (strKeys D)[j]? = some x) (hs : ∀ es, D = .map es → ∀ p ∈ es, ∃ x, p.1 = .string x) : hasF D ⟨x.toArray⟩ = true := by
  obtain ⟨es, rfl⟩ := hD
  have h2 : (es.map fun p => strOf p.1)[j]? = some x := h
  rw [List.getElem?_map] at h2
  obtain ⟨p, hp, rfl⟩ := Option.map_eq_some_iff.1 h2
  have hm := List.mem_of_getElem? hp
  obtain ⟨y, hy⟩ := hs es rfl p hm
  unfold hasF strKey
  rw [Maps.has_eq, List.any_eq_true]
  refine ⟨p, hm, ?_⟩
  rw [hy]
  simp [strOf, Lit.sameKey]
theorem PairAt.strs {w0 w : World} {E : Nat → Prop} {p q : Nat} {dp dq : Dk} (h : PairAt w0 w E p q dp dq) : ∀ es, dp.now = .map es → ∀ p ∈ es, ∃ x, p.1 = .string x := by
  obtain ⟨X, ⟨-, S, bs, bn, vp, us, hD, -⟩, -⟩ := h.left
  intro es e p hp
  have hown : w.ownsMap Tryd.prog 9 (RB S w) bn (Maps.size dp.now) dp.now := hD.now
  obtain ⟨es', hD', hko⟩ := hown.keysOf
  rw [e] at hD'; cases hD'
  obtain ⟨v, hv⟩ := hko p hp
  obtain ⟨x, _, hx, _⟩ := Maps.keyOf_str Tryd.underlying9 hv
  exact ⟨x, hx⟩

set_option maxRecDepth 100000 in
set_option maxHeartbeats 8000000 in
theorem same_any {w0 w : World} {E : Nat → Prop} {p q C : Nat} {d : Dk} (h : PairAt w0 w E p q d d) (hI : Inv C d) (_ : C ≤ 1000000) :
    Calls Tryd.prog 13 #[.pointer (some ⟨p, 0, none⟩), .pointer (some ⟨q, 0, none⟩)] w fun e w' => e = .returned (.bool true) ∧ Below w.heap.size w w' := by
  obtain ⟨ss, hss⟩ : ∃ ss, (if d.down then [] else strKeys d.now) = ss := ⟨_, rfl⟩
  have HN := Lib.hid (h.names hI)
  have HN2 := fun w1 (hB : Below w.heap.size w w1) => (h.below hB).names2 hI
  rw [hss] at HN HN2
  have HN2 := Lib.hid HN2
  have HP := Lib.hid h
  have HI := Lib.hid hI
  have HSs : Hid (ss.length ≤ 64 ∧ ∀ (j : Nat) x, ss[j]? = some x → d.down = false ∧ hasF d.now ⟨x.toArray⟩ = true ∧ x.length ≤ 16) := by
    have hz := hI.fine.size
    obtain ⟨es, he⟩ := hI.fine.isMap
    have hl : (strKeys d.now).length = Maps.size d.now := by rw [he]; simp [strKeys, Maps.size]
    cases hdn : d.down with
    | true =>
      rw [hdn] at hss
      simp only [if_true] at hss
      subst hss
      exact ⟨by simp, fun j x hx => by simp at hx⟩
    | false =>
      rw [hdn] at hss
      simp only [Bool.false_eq_true, if_false] at hss
      subst hss
      refine ⟨by omega, fun j x hx => ?_⟩
      have hh := key_there hI.fine.isMap hx h.strs
      exact ⟨rfl, hh, by have := hI.fine.names _ hh; simpa [ByteArray.size] using this⟩
  have hpn := hI.pend
  have hbig : (usedV d.now d.down : Int) ≤ 1000000000 := by
    have := hI.fine.total
    unfold usedV nV
    split <;> omega
  obtain ⟨uv, huv⟩ : ∃ uv, usedV d.now d.down = uv := ⟨_, rfl⟩
  have HU := Lib.hid huv
  rw [huv] at hbig
  clear h hI hss huv
  go_enter Tryd.func13, Tryd.ntmps13
  go_wp2_with fail
  refine HN.out.mono ?_
  rintro e w1 ⟨v1, rfl, hr1, -, hB1⟩
  obtain ⟨a1, k1, rfl, -⟩ := hr1.form
  have HR1 := Lib.hid (And.intro hr1 hB1)
  clear hr1 hB1 HN
  go_wp2_with fail
  refine (HN2.out _ HR1.out.2).mono ?_
  rintro e w2 ⟨v2, rfl, hr2, -, hB2⟩
  obtain ⟨a2, k2, rfl, -⟩ := hr2.form
  have hr1 := HR1.out.1.of_block fun b hb => hB2.block b (HR1.out.1.lt hb)
  have HR := Lib.hid (And.intro hr1 (And.intro hr2 (HR1.out.2.trans (hB2.mono HR1.out.2.size))))
  clear hr1 hr2 hB2 HN2 HR1
  obtain ⟨n, hn⟩ : ∃ n, ss.length = n := ⟨_, rfl⟩
  have HNn := Lib.hid hn
  rw [hn] at HR ⊢
  clear hn
  have HP2 := Lib.hid (HP.out.below HR.out.2.2)
  have hU1 := fun w3 (hB : Below w2.heap.size w2 w3) => (HP2.out.below hB).used HI.out
  have hU2 := fun w3 (hB : Below w2.heap.size w2 w3) => (HP2.out.below hB).used2 HI.out
  rw [HU.out] at hU1 hU2
  have HU1 := Lib.hid hU1
  have HU2 := Lib.hid hU2
  have HPd := Lib.hid (fun w3 (hB : Below w2.heap.size w2 w3) => (HP2.out.below hB).pending)
  have HDn := Lib.hid (fun w3 (hB : Below w2.heap.size w2 w3) => (HP2.out.below hB).down)
  obtain ⟨⟨ae, ce, c3⟩, c6, -, -, lq⟩ := HP2.out.cells2
  clear hU1 hU2
  go_wp2_with fail
  go_region_held3 (fun w' => w'.cell? ⟨q, 3, none⟩ = some (.slice ae d.pend.length ce) ∧ w'.cell? ⟨q, 6, none⟩ = some (.bool d.down))
    (first | go_keep | exact ⟨p1, p2⟩)
    (first
      | (go_at_call 8; refine (HU1.out _ (Below.refl _ _).drew).mono ?_; rintro e w3 ⟨rfl, hB3⟩; have hB3' : Below w2.heap.size w2 w3 := (Below.refl _ _).drew.trans hB3; have p1 := (hB3'.cell (p := ⟨q, 3, none⟩) lq).trans c3; have p2 := (hB3'.cell (p := ⟨q, 6, none⟩) lq).trans c6)
      | (go_at_call 34; refine (HU2.out _ hB3').mono ?_; rintro e w4 ⟨rfl, rfl⟩)
      | (go_at_call 9; refine (HPd.out _ hB3').mono ?_; rintro e w5 ⟨rfl, rfl⟩)
      | (go_at_call 35; refine (HDn.out _ hB3').mono ?_; rintro e w6 ⟨rfl, rfl⟩))
  all_goals
    as_aux_lemma =>
    have HP3 := Lib.hid (HP2.out.below hB3')
    have HR3 := Lib.hid (And.intro (HR.out.1.of_block fun b hb => hB3'.block b (HR.out.1.lt hb)) (And.intro (HR.out.2.1.of_block fun b hb => hB3'.block b (HR.out.2.1.lt hb)) (HR.out.2.2.trans (hB3'.mono HR.out.2.2.size))))
    have hnl : n ≤ 64 := by have := HSs.out.1; have := HNn.out; omega
    clear hB3 hB3' HU1 HU2 HPd HDn HP2 HR c3 c6 p1 p2
    go_wp2_with fail
    go_loopw [7] (fun i wr => ∃ j : Nat, i = .int .i64 j ∧ j ≤ n ∧ Below w3.heap.size w3 wr) (fun i _ => n - (intOf i).toNat)
    case atStart => exact ⟨0, rfl, Nat.zero_le _, Below.refl _ _⟩
    case round =>
      obtain ⟨j, rfl, hj, hB⟩ := hrel
      have HB := Lib.hid hB
      clear hB
      by_cases hjn : j < n
      · as_aux_lemma =>
        obtain ⟨x, hx⟩ : ∃ x, ss[j]? = some x := ⟨_, List.getElem?_eq_getElem (by have := HNn.out; omega)⟩
        obtain ⟨hdn, hh, hxl⟩ := HSs.out.2 j x hx
        obtain ⟨g1, rfl, hg1, hc1, -⟩ := HR3.out.1.view (by omega)
        obtain ⟨g2, rfl, hg2, hc2, -⟩ := HR3.out.2.1.view (by omega)
        obtain ⟨s, hs⟩ : ∃ s : ByteArray, (⟨x.toArray⟩ : ByteArray) = s := ⟨_, rfl⟩
        have hcell : (ss.map encStr)[j]? = some (.string s) := by rw [List.getElem?_map, hx, ← hs]; rfl
        have e1 := ((HB.out.cell (p := ⟨g1, j, none⟩) hg1).trans (hc1 j (by omega))).trans hcell
        have e2 := ((HB.out.cell (p := ⟨g2, j, none⟩) hg2).trans (hc2 j (by omega))).trans hcell
        rw [hs] at hh
        have hsl : s.size ≤ maxLen := by rw [← hs]; unfold maxLen; simp [ByteArray.size]; omega
        have hrd := (HP3.out.below HB.out).read HI.out s hsl
        rw [hh, hdn] at hrd
        have HRd := Lib.hid (show Calls _ _ _ _ fun e w' => ReadYes wr w' e (getF d.now s) from hrd)
        have conv : ∀ (w : World) (a : Option Addr) (n c : Nat) (b : List Int), Src w 1 (.slice a n c) n (byteCells b) → ∀ m, (convert 32 9 (.slice a n c)).run Tryd.prog (w.drewN m) = .ok (.string (strOfNums b)) (w.drewN m) := fun w a n c b h m => run_string_src (P := Tryd.prog) (h.below (w' := w.drewN m) ⟨rfl, rfl, rfl, Nat.le_refl _, fun _ _ => rfl⟩) 32 5 9 Tryd.underlying32 Tryd.underlying5 Tryd.underlying9
        have HCv := Lib.hid conv
        have HH := Lib.hid (And.intro hdn hh)
        obtain ⟨bb, hbb⟩ : ∃ bb, getF d.now s = bb := ⟨_, rfl⟩
        have HBb := Lib.hid hbb
        rw [hbb] at HRd
        have hgl : bb.length ≤ 9223372036854775807 := by have := HI.out.fine.get_le s; rw [hbb] at this; omega
        clear hx hcell hc1 hc2 hs hrd conv hbb hdn hh hxl
        go_wp2_with fail
        refine HRd.out.mono ?_
        rintro e w7 ⟨v7, rfl, hrow7, -, -, hB7⟩
        obtain ⟨a7, k7, rfl, -⟩ := hrow7.form
        have cA := HCv.out w7 a7 _ k7 _ (Src.of_row hrow7 (byteCells_one _))
        have HB7 := Lib.hid (HB.out.trans (hB7.mono HB.out.size))
        obtain ⟨T7, hrd2⟩ := (HP3.out.below HB7.out).read2 s
        rw [HH.out.1, HH.out.2, HBb.out] at hrd2
        have HRd2 := Lib.hid hrd2
        have f1 := (hB7.cell (p := ⟨g1, j, none⟩) (Nat.lt_of_lt_of_le hg1 HB.out.size)).trans e1
        have f2 := (hB7.cell (p := ⟨g2, j, none⟩) (Nat.lt_of_lt_of_le hg2 HB.out.size)).trans e2
        clear hrow7 hB7 HRd hrd2 e1 e2
        go_wp2_with fail
        refine HRd2.out.mono ?_
        rintro e w8 ⟨rfl, a8, k8, rfl, hb8⟩
        have cB := HCv.out w7 a8 _ k8 _ hb8.src
        clear HRd2 hb8 HCv
        go_wp2_with fail
        go_quiet (fail)
        go_wp2_with fail
        go_roundw
        case rel => exact ⟨j + 1, by go_num, by omega, HB7.out.os, HB7.out.tape, HB7.out.output, HB7.out.size, HB7.out.block⟩
        case measure => simp [intOf]; omega
      · as_aux_lemma =>
        have hno : hasF d.now nameNo = false := by
          cases hh : hasF d.now nameNo with
          | false => rfl
          | true => exact absurd (HI.out.fine.names _ hh) (by decide)
        have hrd := (HP3.out.below HB.out).read HI.out nameNo (by decide)
        rw [hno, Bool.false_and] at hrd
        have HRd := Lib.hid (show Calls _ _ _ _ fun e w' => ReadNo wr w' e from hrd)
        clear hno hrd
        unfold nameNo at HRd
        go_wp2_with fail
        refine HRd.out.mono ?_
        rintro e w9 ⟨rfl, hB9⟩
        have HB9 := Lib.hid (HB.out.trans (hB9.mono HB.out.size))
        clear hB9
        go_wp2_with fail
        go_ret
        exact ⟨rfl, HR3.out.2.2.trans (HB9.out.mono HR3.out.2.2.size)⟩
end Go.Proofs.YtpkmnfpbcakflaaDoor
