/- The walk of DiskRooms. No condition. -/
import Derived.Test.YtpkmnfpbcakflaaDoorSteps2
import Derived.Test.YtpkmnfpbcakflaaDoorPick
import Derived.Test.YtpkmnfpbcakflaaDoorTotal
import Derived.Test.YtpkmnfpbcakflaaDoorRemove
import Derived.Test.YtpkmnfpbcakflaaDoorAppend
import Derived.Test.YtpkmnfpbcakflaaDoorKnown
import Derived.StillTailTactics
namespace Go.Proofs.YtpkmnfpbcakflaaDoor
open Go.ChangeShapes Go.WideShapes Go.ChangeAt Go.RowKit

def nm : Nat → ByteArray
  | 0 => ⟨#[97]⟩
  | 1 => ⟨#[98]⟩
  | 2 => ⟨#[115, 48, 48, 48, 48, 48, 48, 48, 48, 48, 48, 48, 48, 48, 48, 49]⟩
  | _ => ⟨#[115, 110, 97, 112]⟩
def K4 : List Lit := [strKey (nm 0), strKey (nm 1), strKey (nm 2), strKey (nm 3)]
theorem nm_ok {A : Nat} (h : A < 4) : (nm A).size ≤ maxLen ∧ namedB (nm A) = true ∧ strKey (nm A) ∈ K4 := by
  match A, h with
  | 0, _ => exact ⟨by decide, by decide, by simp [K4]⟩
  | 1, _ => exact ⟨by decide, by decide, by simp [K4]⟩
  | 2, _ => exact ⟨by decide, by decide, by simp [K4]⟩
  | 3, _ => exact ⟨by decide, by decide, by simp [K4]⟩

/-- a disk of the four names, up, within its room -/
structure Roomy (R n : Nat) (d : Dk) : Prop where
  room : d.room = R
  fuse : d.fuse = -1
  up : d.down = false
  names : NamesIn K4 d.now
  tot : total d.now ≤ R
  pend : d.pend.length ≤ n
theorem Roomy.more {R n m : Nat} {d : Dk} (h : Roomy R n d) (hm : n ≤ m) : Roomy R m d := ⟨h.1, h.2, h.3, h.4, h.5, Nat.le_trans h.6 hm⟩
theorem Roomy.counts {R n : Nat} {d : Dk} (h : Roomy R n d) : countsM d = (true, d) := by
  obtain ⟨room, syn, now, pend, fuse, down⟩ := d
  have h2 := h.fuse
  have h3 := h.up
  simp only at h2 h3
  subst h2; subst h3
  simp [countsM]
theorem roomy_empty (R : Nat) : Roomy R 0 (emptyDk R) := ⟨rfl, rfl, rfl, (by intro es e; cases e; simp), Nat.zero_le _, Nat.le_refl _⟩

section
variable {w0 w : World} {p : Nat} {d : Dk} {R n : Nat}
theorem St.tidy (h : St w0 w p d) : Maps.Tidy d.now := by
  obtain ⟨⟨-, S, bs, bn, vp, us, hD, -⟩, -⟩ := h
  exact hD.now.tidy
theorem St.used (h : St w0 w p d) (hr : Roomy R n d) (hR : R ≤ 400) : Calls Tryd.prog 8 #[.pointer (some ⟨p, 0, none⟩)] w fun e w' => e = .returned (.int .i64 (total d.now : Nat)) ∧ St w0 w' p d := by
  have h' := h
  obtain ⟨⟨-, S, bs, bn, vp, us, hD, -⟩, -⟩ := h
  have ht := hr.tot
  refine (used_any S p d.room bs bn vp d.fuse d.down d.now w hD.head hD.now (by omega)).mono ?_
  rintro e w' ⟨he, hB⟩
  have hu := hr.up
  exact ⟨by rw [he]; simp [usedV, nV, hu], h'.below hB⟩
theorem St.pending (h : St w0 w p d) : Calls Tryd.prog 9 #[.pointer (some ⟨p, 0, none⟩)] w fun e w' => e = .returned (.int .i64 (d.pend.length : Nat)) ∧ w = w' := pending_own _ p d w h.1
theorem St.rooms_size (h : St w0 w p d) (hr : Roomy R n d) : Maps.size d.now ≤ 4 := size_le hr.names h.tidy
theorem St.roomNo {A : Nat} (hA : A < 4) (ay : Option Addr) (m cy : Nat) (h : St w0 w p d) (hr : Roomy R n d) (hR : R ≤ 400) (hm : m ≤ 140737488355328) (hno : R < total d.now + m) :
    Calls Tryd.prog 10 #[.pointer (some ⟨p, 0, none⟩), .string (nm A), .slice ay m cy] w fun e w' => e = .returned (.int .i64 2) ∧ St w0 w' p d := by
  obtain ⟨n1, n2, -⟩ := nm_ok hA
  have ht := hr.tot
  have hc := hr.counts
  refine (append_full _ p d (nm A) w ay m cy h.1 n1 (by rw [hr.fuse]; decide) (by rw [hr.fuse]; decide) (by rw [hc]) n2 (by omega) hm (.inl (by rw [hr.room]; omega))).mono ?_
  rintro e w' ⟨he, hD, hK⟩
  rw [hc] at hD
  exact ⟨he, St.keep h.2 hD hK⟩
theorem St.roomYes {A : Nat} (hA : A < 4) {ay : Option Addr} {m cy : Nat} {bs : List Int} (h : St w0 w p d) (hr : Roomy R n d) (hR : R ≤ 400) (hn : n ≤ 1000) (hm : bs.length = m) (hyes : total d.now + m ≤ R)
    (hsrc : Src w0 1 (.slice ay m cy) m (byteCells bs)) (hbs : ∀ n ∈ bs, 0 ≤ n ∧ n < 256) :
    Calls Tryd.prog 10 #[.pointer (some ⟨p, 0, none⟩), .string (nm A), .slice ay m cy] w fun e w' => e = .returned (.int .i64 0) ∧ ∃ d', St w0 w' p d' ∧ Roomy R (n + 1) d' := by
  obtain ⟨n1, n2, n3⟩ := nm_ok hA
  have ht := hr.tot
  have hpd := hr.pend
  have hc := hr.counts
  have hsz := h.rooms_size hr
  have hgl := get_le d.now (nm A)
  refine (append_ok _ p d (nm A) w ay m cy bs h.1 n1 (by rw [hr.fuse]; decide) (by rw [hr.fuse]; decide) (by rw [hc]) n2 (by omega) (by omega) (by omega) (by omega) (by rw [hr.room]; omega) hm (by
    rintro (h1 | ⟨-, h1⟩)
    · rw [hr.room] at h1; omega
    · omega) (hsrc.below h.2) (fun h0 k hk => hsrc.lt h0 k hk) hbs).mono ?_
  rintro e w' ⟨he, hD, hK⟩
  rw [hc] at hD
  refine ⟨he, _, St.keep h.2 hD hK, ?_⟩
  have hta := total_app_le h.tidy.isMap (nm A) bs
  exact ⟨hr.room, hr.fuse, hr.up, hr.names.put _ n3 _, by simp only [appended]; omega, by simp only [appended, List.length_append, List.length_cons, List.length_nil]; omega⟩
theorem St.roomDel {A : Nat} (hA : A < 4) (h : St w0 w p d) (hr : Roomy R n d) (hn : n ≤ 1000) :
    Calls Tryd.prog 11 #[.pointer (some ⟨p, 0, none⟩), .string (nm A)] w fun e w' => ∃ c d', e = .returned (.int .i64 c) ∧ St w0 w' p d' ∧ Roomy R (n + 1) d' := by
  obtain ⟨n1, -, -⟩ := nm_ok hA
  have hpd := hr.pend
  have hc := hr.counts
  refine (remove_own _ p d (nm A) w h.1 n1 (by rw [hr.fuse]; decide) (by rw [hr.fuse]; decide) (by omega)).mono ?_
  rintro e w' ⟨he, hD, hK⟩
  refine ⟨_, _, he, St.keep h.2 hD hK, ?_⟩
  unfold removeM
  rw [hc]
  simp only [if_true]
  split
  · have := total_del_le d.now (nm A)
    have ht := hr.tot
    exact ⟨hr.room, hr.fuse, hr.up, hr.names.del _, by simp only [removed]; omega, by simp only [removed, List.length_append, List.length_cons, List.length_nil]; omega⟩
  · exact hr.more (by omega)
end

set_option maxRecDepth 100000 in
set_option maxHeartbeats 4000000 in
theorem rooms_law (room : Int) (qa : Option Addr) (qlen qcap : Nat) (xs : List S2) (w : World) (hN : ∀ i, i < 4 → w.cell? ⟨0, i, none⟩ = some (.string (nm i))) (hq : S2In w qa qlen xs) :
    Calls Tryd.prog 3 #[.int .i64 room, .slice qa qlen qcap] w fun e w' => e = .returned (.bool true) ∧ Below w.heap.size w w' := by
  have HQ := Lib.hid hq
  have hxl : xs.length = qlen := hq.1
  have hw0 : 0 < w.heap.size := World.block_lt_of_cell? _ _ (hN 0 (by omega))
  have HN := Lib.hid (show ∀ w' i, Below w.heap.size w w' → i < 4 → w'.cell? ⟨0, i, none⟩ = some (.string (nm i)) from fun w' i hB hi => (hB.cell (p := ⟨0, i, none⟩) hw0).trans (hN i hi))
  clear hq hN hw0
  obtain ⟨R, hR0, hR1⟩ := pickV_at room 400 (by omega)
  have hpk := fun w => pick_any room 400 (by omega) (by omega) w
  rw [hR0] at hpk
  have HPk := Lib.hid hpk
  clear hpk hR0
  go_enter Tryd.func3, Tryd.ntmps3
  go_wp2_with fail
  refine (HPk.out _).mono ?_
  rintro e w1 ⟨rfl, rfl⟩
  clear HPk
  go_wp2_with fail
  refine (new_ok R (by omega) (by omega) w1).mono ?_
  rintro e w2 hNw
  obtain ⟨p, rfl, S2, -⟩ := St.of_new (Below.refl _ w1) hNw
  clear hNw
  have H2 := Lib.hid S2
  clear S2
  go_wp2_with fail
  refine (known_any w2).mono ?_
  rintro e w3 ⟨rfl, hBk⟩
  have H3 := Lib.hid (H2.out.below hBk)
  clear H2 hBk
  go_wp2_with fail
  go_loopw [7] (fun i wr => ∃ (k : Nat) (d : Dk), i = .int .i64 k ∧ k ≤ qlen ∧ k ≤ 100 ∧ St w1 wr p d ∧ Roomy R (2 * k) d) (fun i _ => 100 - (intOf i).toNat)
  case atStart => exact ⟨0, _, rfl, Nat.zero_le _, Nat.zero_le _, H3.out, roomy_empty R⟩
  case round =>
    obtain ⟨k, d, rfl, hk, hk100, hS, hRm⟩ := hrel
    have HS := Lib.hid hS
    have HR := Lib.hid hRm
    clear hS H3 hRm
    by_cases hgo : k < qlen ∧ k < 100
    · as_aux_lemma =>
      obtain ⟨hlt, hlt4⟩ := hgo
      obtain ⟨x, hx⟩ : ∃ x, xs[k]? = some x := ⟨_, List.getElem?_eq_getElem (by omega)⟩
      obtain ⟨⟨bk, off, rfl, hbl, q0, q1, q2, q3, q4, q6, ab, cb, q5, hlc, hcm, hsrc⟩, hsm, hbytes, -⟩ := HQ.out.2 k x hx
      have cAt : ∀ (w' : World) (j : Nat) (v : Value), w1.cell? ⟨bk, j, none⟩ = some v → Below w1.heap.size w1 w' → w'.cell? ⟨bk, j, none⟩ = some v := fun w' j v h hB => (hB.cell (p := ⟨bk, j, none⟩) hbl).trans h
      have HCat := Lib.hid cAt
      have HSr := Lib.hid (And.intro hsrc hbytes)
      have HQ1 := Lib.hid q1
      have HQ2 := Lib.hid q2
      have HQ5 := Lib.hid q5
      obtain ⟨A, hA0, hA1⟩ := pickV_at x.a 4 (by omega)
      have hpk := fun w => pick_any x.a 4 (by omega) (by omega) w
      rw [hA0] at hpk
      have HPk := Lib.hid hpk
      have HU := Lib.hid (HS.out.used HR.out (by omega))
      obtain ⟨T, hT⟩ : ∃ T, total d.now = T := ⟨_, rfl⟩
      have hTR : T ≤ R := by have := HR.out.tot; omega
      have HT := Lib.hid hT
      rw [hT] at HU
      have hAI : A < 4 := by omega
      clear hpk hA0 hsrc hbytes q0 q1 q2 q3 q4 q5 q6 cAt HQ hx HS hT
      go_wp2_with fail
      refine HU.out.mono ?_
      rintro e w4 ⟨rfl, S4⟩
      have HP4 := Lib.hid S4.pending
      have H4 := Lib.hid S4
      clear S4 HU
      go_wp2_with fail
      refine HP4.out.mono ?_
      rintro e w5 ⟨rfl, rfl⟩
      clear HP4
      have r1 := HCat.out w4 _ _ HQ1.out H4.out.2
      have r5 := HCat.out w4 _ _ HQ5.out H4.out.2
      have rn := HN.out w4 A H4.out.2 hAI
      obtain ⟨m, hm⟩ : ∃ m, x.bytes.length = m := ⟨_, rfl⟩
      rw [hm] at r5 hlc HSr hsm HQ5
      have hmx : m ≤ 140737488355328 := by omega
      have HM := Lib.hid hm
      clear hm
      by_cases hfit : T + m ≤ R
      case' pos =>
        have HAp := Lib.hid ((H4.out.below (Below.refl _ w4).drew).roomYes hAI HR.out (by omega) (by omega) HM.out (by have := HT.out; omega) HSr.out.1 HSr.out.2)
        clear H4
        go_wp2_with fail
        go_still_tail 14, (by kernel_rfl)
        still_call (HPk.out _)
        repeat still_step
        refine wpStill_nil ?_
        change wpList _ _ _ _ _ w4.drew
        generalize w4.drew = w4b at HAp ⊢
        clear r1 r5 rn
        go_wp2_with fail
        refine HAp.out.mono ?_
        rintro e w5 ⟨rfl, d', S5, hR5⟩
        have hT5 := hR5.tot
        have HU := Lib.hid (S5.used hR5 (by omega))
        obtain ⟨T', hT'⟩ : ∃ T', total d'.now = T' := ⟨_, rfl⟩
        rw [hT'] at HU hT5
        have HR5 := Lib.hid hR5
        have hd5 : decide ((R : Int) < (T' : Int)) = false := by simp; omega
        have hd6 : decide ((T : Int) + (m : Int) ≤ (R : Int)) = true := by simp; omega
        have r5 := HCat.out w5 _ _ HQ5.out S5.2
        clear S5 hR5 HAp hT'
        go_wp2_with fail
        refine HU.out.mono ?_
        rintro e w6 ⟨rfl, S6⟩
        clear HU r5
      case' neg =>
        have HAp := Lib.hid ((H4.out.below (Below.refl _ w4).drew).roomNo hAI ab m cb HR.out (by omega) hmx (by have := HT.out; omega))
        clear H4
        go_wp2_with fail
        go_still_tail 14, (by kernel_rfl)
        still_call (HPk.out _)
        repeat still_step
        refine wpStill_nil ?_
        change wpList _ _ _ _ _ w4.drew
        generalize w4.drew = w4b at HAp ⊢
        clear r1 r5 rn
        go_wp2_with fail
        refine HAp.out.mono ?_
        rintro e w5 ⟨rfl, S5⟩
        have HU := Lib.hid (S5.used HR.out (by omega))
        rw [HT.out] at HU
        have hd5 : decide ((R : Int) < (T : Int)) = false := by simp; omega
        have hd6 : decide ((T : Int) + (m : Int) ≤ (R : Int)) = false := by simp; omega
        have r5 := HCat.out w5 _ _ HQ5.out S5.2
        clear S5 HAp
        go_wp2_with fail
        refine HU.out.mono ?_
        rintro e w5b ⟨rfl, S5⟩
        have HP5 := Lib.hid S5.pending
        have HU := Lib.hid (S5.used HR.out (by omega))
        rw [HT.out] at HU
        clear r5 S5
        go_wp2_with fail
        refine HP5.out.mono ?_
        rintro e w5c ⟨rfl, rfl⟩
        clear HP5
        go_wp2_with fail
        refine HU.out.mono ?_
        rintro e w6 ⟨rfl, S6⟩
        clear HU
        have HR5 := Lib.hid (HR.out.more (Nat.le_succ _))
        obtain ⟨d', hd'⟩ : ∃ d', d = d' := ⟨_, rfl⟩
        rw [hd'] at S6 HR5
      all_goals
        as_aux_lemma =>
        have r2 := HCat.out w6 _ _ HQ2.out S6.2
        have H6 := Lib.hid S6
        clear S6
        by_cases h5 : x.b.tmod 5 = 0
        · as_aux_lemma =>
          obtain ⟨Bn, hB0, hB1⟩ := pickV_at x.b 4 (by omega)
          have hpk := fun w => pick_any x.b 4 (by omega) (by omega) w
          rw [hB0] at hpk
          have HPk := Lib.hid hpk
          have hBI : Bn < 4 := by omega
          have rn := HN.out w6 Bn H6.out.2 hBI
          have HD := Lib.hid (H6.out.roomDel hBI HR5.out (by omega))
          clear hpk hB0 hB1 H6
          go_wp2_with fail
          refine (HPk.out _).mono ?_
          rintro e w7 ⟨rfl, rfl⟩
          clear HPk r2
          go_wp2_with fail
          refine HD.out.mono ?_
          rintro e w8 ⟨c8, d8, rfl, S8, hR8⟩
          have H8 := Lib.hid (And.intro S8 hR8)
          clear S8 hR8 HD rn
          go_wp2_with fail
          go_roundw
          case rel => exact ⟨k + 1, d8, by go_num, by omega, by omega, H8.out.1, H8.out.2.more (by omega)⟩
          case measure => simp [intOf]; omega
        · as_aux_lemma =>
          go_wp2_with fail
          go_roundw
          case rel => exact ⟨k + 1, d', by go_num, by omega, by omega, H6.out, HR5.out.more (by omega)⟩
          case measure => simp [intOf]; omega
    · as_aux_lemma =>
      have hB := HS.out.2
      by_cases hl2 : k < qlen
      · have h40 : ¬ k < 100 := fun h => hgo ⟨hl2, h⟩
        go_wp2_with fail
        go_ret
        exact ⟨rfl, hB⟩
      · go_wp2_with fail
        go_ret
        exact ⟨rfl, hB⟩
end Go.Proofs.YtpkmnfpbcakflaaDoor
