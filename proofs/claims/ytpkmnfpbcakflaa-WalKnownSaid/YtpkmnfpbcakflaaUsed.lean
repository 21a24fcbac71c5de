/- The walks of disk's small functions: Used, counts, named, within. No condition. -/
import Derived.Test.YtpkmnfpbcakflaaSettle
namespace Go.Proofs.Ytpkmnfpbcakflaa
open Go.ChangeShapes Go.WideShapes Go.ChangeAt Go.RowKit

def lenOf : Fs → Nat | .held b => b.length | _ => 0
def totL (left : Lit → Bool) (es : List (Lit × Fs)) : Nat := (es.map (fun p => if left p.1 then 0 else lenOf p.2)).sum
/-- the bytes of all files -/
def total : Fs → Nat | .map es => totL (fun _ => false) es | _ => 0
theorem totL_none {left : Lit → Bool} (h : ∀ kl, left kl = false) (es : List (Lit × Fs)) : totL left es = totL (fun _ => false) es := by
  unfold totL; simp [h]
theorem totL_all {left : Lit → Bool} {es : List (Lit × Fs)} (h : ∀ p ∈ es, left p.1 = true) : totL left es = 0 := by
  induction es with
  | nil => rfl
  | cons y es ih =>
    have h1 := h y (by simp)
    have h2 := ih fun p hp => h p (List.mem_cons_of_mem _ hp)
    unfold totL at h2 ⊢
    simp [h1, h2]
theorem totL_le (f : Lit → Bool) : ∀ l : List (Lit × Fs), totL f l ≤ totL (fun _ => false) l
  | [] => Nat.le_refl _
  | y :: l => by
    have ih := totL_le f l
    unfold totL at ih ⊢
    simp only [List.map_cons, List.sum_cons]
    simp only [Bool.false_eq_true, if_false] at ih ⊢
    split <;> omega
theorem totL_same {left left' : Lit → Bool} {es : List (Lit × Fs)} (h : ∀ p ∈ es, left p.1 = left' p.1) : totL left es = totL left' es := by
  unfold totL
  congr 1
  refine List.map_congr_left fun p hp => by rw [h p hp]
theorem totL_step {left : Lit → Bool} {kl : Lit} {d : Fs} : ∀ {es : List (Lit × Fs)}, es.Pairwise (fun p q => p.1 ≠ q.1) → left kl = true → WideAt.IsKeyLit kl → (kl, d) ∈ es → totL (fun z => left z && !z.sameKey kl) es = totL left es + lenOf d
  | [], _, _, _, h => by simp at h
  | y :: es, hp, hl, hk, hm => by
    obtain ⟨h1, h2⟩ := List.pairwise_cons.1 hp
    rcases List.mem_cons.1 hm with rfl | hm
    · have hs : totL (fun z => left z && !z.sameKey kl) es = totL left es := totL_same fun p hp => by
        have : p.1.sameKey kl = false := by
          cases hx : p.1.sameKey kl with
          | false => rfl
          | true => exact absurd (WideAt.sameKey_eq hx).symm (h1 p hp)
        simp [this]
      unfold totL at hs ⊢
      simp only [List.map_cons, List.sum_cons, hs, hl, WideAt.sameKey_self hk]
      simp; omega
    · have ih := totL_step h2 hl hk hm
      have hne : y.1.sameKey kl = false := by
        cases hx : y.1.sameKey kl with
        | false => rfl
        | true => exact absurd (WideAt.sameKey_eq hx) (h1 _ hm)
      unfold totL at ih ⊢
      simp only [List.map_cons, List.sum_cons, hne, Bool.not_false, Bool.and_true]
      have e : (List.map (fun p => if (left p.1 && !p.1.sameKey kl) = true then 0 else lenOf p.2) es).sum = (List.map (fun p => if left p.1 = true then 0 else lenOf p.2) es).sum + lenOf d := ih
      omega

theorem entry_mem {D : Fs} {es : List (Lit × Fs)} (hD : D = .map es) (hp : es.Pairwise (fun p q => p.1 ≠ q.1)) {kl : Lit} {d : Fs} (hat : ∀ zd, D.atKey kl zd = d) : (kl, d) ∈ es := by
  have hh := Maps.has_true_of_atKey hat
  rw [hD, Maps.has_eq, List.any_eq_true] at hh
  obtain ⟨q, hq, hs⟩ := hh
  have e := WideAt.sameKey_eq hs
  have hkey : WideAt.IsKeyLit kl := by
    cases kl <;> (revert hs; cases q.1 <;> simp [Lit.sameKey, WideAt.IsKeyLit])
  have := WideAt.atKey_mem (.nil : Fs) hkey hp (by rw [← e]; exact hq : (kl, q.2) ∈ es)
  rw [← hD, hat] at this
  rw [this, ← e]; exact hq

def nV (down : Bool) (n : Nat) : Nat := if down then 0 else n
def usedV (D : Fs) (down : Bool) : Nat := nV down (total D)
set_option maxRecDepth 100000 in
set_option maxHeartbeats 2000000 in
theorem used_any (S : Nat → Prop) (p : Nat) (room : Int) (bs bn : Nat) (vp : Value) (fuse : Int) (down : Bool) (D : Fs) (w : World) (hH : HeadAt w p room bs bn vp fuse down) (hF : FilesAt S w bn D) (ht : total D ≤ 1000000000000) :
    Calls Try.prog 48 #[.pointer (some ⟨p, 0, none⟩)] w fun e w' => e = .returned (.int .i64 (usedV D down)) ∧ Below w.heap.size w w' := by
  obtain ⟨-, -, c2, -, -, c5, -⟩ := hH.cells
  have hpl := hH.lt
  have hown : w.ownsMap Try.prog 9 (RB S w) bn (Maps.size D) D := hF
  obtain ⟨es, hD, hpw⟩ := hF.tidy
  go_enter Try.func48, Try.ntmps48
  go_wp2_with (first
    | (at_range; refine wpList_range_own _ rfl _ 81 rfl 9 25 keyed Try.underlying81 _ bn (Maps.size D) _ rfl hown ?_; intro w0 hrg0 hg0 hs0))
  go_frame
  have hB0 : Below w.heap.size w w0 := (Below.refl _ w).grown hg0 (Nat.le_refl _) (by simp)
  have hst : totL (Maps.has D) es = 0 := totL_all fun q hq => by
    rw [hD, Maps.has_eq, List.any_eq_true]
    refine ⟨q, hq, ?_⟩
    obtain ⟨es', hD', -, hkey⟩ := hown.entries keyed
    obtain rfl : es = es' := by rw [hD] at hD'; cases hD'; rfl
    exact WideAt.sameKey_self (hkey q hq)
  have hkeys : ∀ q ∈ es, WideAt.IsKeyLit q.1 := by
    obtain ⟨es', hD', -, hkey⟩ := hown.entries keyed
    obtain rfl : es = es' := by rw [hD] at hD'; cases hD'; rfl
    exact hkey
  have htot : total D = totL (fun _ => false) es := by rw [hD]; rfl
  have HST := Lib.hid hst
  have HPW := Lib.hid hpw
  have HD := Lib.hid hD
  have HTot := Lib.hid htot
  clear hst hpw hown hg0 hs0 hD htot
  go_loopw [3, 5] (fun n _ wr => ∃ (left : Lit → Bool) (cnt : Nat), wr.ranges Try.prog 9 (RB S w) bn w.heap.size (Maps.size D) D left cnt ∧ n = .int .i64 (nV down (totL left es)) ∧ Below w.heap.size w wr)
    (fun _ _ wr => wr.rangeLeft bn w.heap.size)
  case atStart => exact ⟨_, _, hrg0, by rw [HST.out]; cases down <;> rfl, hB0⟩
  case round =>
    obtain ⟨left, cnt, hrg, rfl, hB⟩ := hrel
    clear hrg0 hB0
    go_wp2_with (at_next; refine wpList_next_ranges _ rfl _ rfl 9 keyed (RB S w) Value.string mkSl key_inv val_inv bn w.heap.size (Maps.size D) _ _ _ rfl hrg ?_ ?_)
    · intro hc0 hl0
      have e : nV down (totL left es) = usedV D down := by unfold usedV; rw [HTot.out, totL_none hl0]
      rw [e]
      clear hl0 hc0 hrg
      go_wp2_with fail
      go_ret
      exact ⟨rfl, hB⟩
    · intro x ca cn cc kl d ps w1 cnt1 hkey hlx hRv hat hrg1 hlt hg1 hs1 hen
      obtain ⟨bb, hz, hbb⟩ := RB_inv hRv
      obtain ⟨rfl, rfl⟩ : d = .held bb ∧ ps = [] := by simpa using hz
      have hcn : cn = bb.length := by
        obtain ⟨a', c', e, _⟩ := hbb.ex
        simp [mkSl] at e; exact e.2.1
      subst hcn
      have hk : WideAt.IsKeyLit kl := by obtain ⟨s, _, _, rfl⟩ := key_form hkey; exact isKey s
      have hstep := totL_step HPW.out hlx hk (entry_mem HD.out HPW.out hat)
      have hle : totL (fun z => left z && !z.sameKey kl) es ≤ 1000000000000 := by
        have := totL_le (fun z => left z && !z.sameKey kl) es
        have := HTot.out
        omega
      have hB1 := hB.grown hg1 hB.size (by intro k hk; simp at hk; omega)
      have c5' := (hB1.cell (p := ⟨p, 5, none⟩) hpl).trans c5
      have HRL := Lib.hid hrg.left_eq
      have HG := Lib.hid hrg1
      have HS := Lib.hid hstep
      have hb2 : bb.length ≤ 1000000000000 := by simp [lenOf] at hstep; omega
      have hb3 : totL left es + bb.length ≤ 1000000000000 := by simp [lenOf] at hstep; omega
      clear hz hbb hkey hk hat hlx hrg hrg1 hg1 hs1 hstep hRv hle
      have hm : mkSl (ca, bb.length, cc) = .slice ca bb.length cc := rfl
      cases down with
      | true =>
        rw [show nV true (totL left es) = 0 from rfl]
        go_wp2_with fail
        go_roundw
        case rel => exact ⟨_, cnt1, HG.out, rfl, hB1⟩
        case measure => rw [HG.out.left_eq, HRL.out]; exact hlt
      | false =>
        rw [show nV false (totL left es) = totL left es from rfl]
        go_wp2_with fail
        go_roundw
        case rel => exact ⟨_, cnt1, HG.out, by rw [HS.out]; rfl, hB1⟩
        case measure => rw [HG.out.left_eq, HRL.out]; exact hlt
end Go.Proofs.Ytpkmnfpbcakflaa
