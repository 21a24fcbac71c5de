/- The walks of disk's Append and Remove. No condition. -/
import Derived.Test.YtpkmnfpbcakflaaCalls
namespace Go.Proofs.Ytpkmnfpbcakflaa
open Go.ChangeShapes Go.WideShapes Go.ChangeAt Go.RowKit

theorem DiskAt.toMore {S : Nat → Prop} {w w1 : World} {p bs bn : Nat} {vp : Value} {us : List Value} {d : Dk} (h : DiskAt S w p bs bn vp us d) (hB : Below w.heap.size w w1) : DiskAt (More S w w1) w1 p bs bn vp us d := by
  have hall := h.below_all
  refine (h.below hB).widen (fun k hk => .inl hk) (fun k hk => ?_) (fun k hk => ?_)
  · rcases hk with hk | hk
    · exact .inl hk
    · refine .inr ⟨?_, ?_, ?_, ?_⟩
      · rintro rfl; have := hall k (.inl rfl); omega
      · rintro rfl; have := hall k (.inr (.inl rfl)); omega
      · rintro rfl; have := hall k (.inr (.inr (.inl rfl))); omega
      · intro e; have := hall k (.inr (.inr (.inr (.inl e)))); omega
  · rcases hk with hk | hk
    · exact Nat.lt_of_lt_of_le (h.lt k hk) hB.size
    · exact hk.2

/-- what stays free of a disk's blocks behind a put -/
def Free (X S : Nat → Prop) (p bs bn : Nat) (vp : Value) : Prop := ∀ k, X k → ¬ S k ∧ k ≠ p ∧ k ≠ bs ∧ k ≠ bn ∧ vp.ownBlock ≠ some k
theorem own_of_put {X S : Nat → Prop} {w w0 w1 w' : World} {e : Ending} {p bs bn : Nat} {vp : Value} {d' : Dk} (hX : ∀ k, X k → k < w.heap.size) (hf : Free X S p bs bn vp) (hM : Mod (fun k => k = p) w w0) (hB : Below w0.heap.size w0 w1) (ho : PutOut w1 w' e (More S w0 w1) p bs bn vp d') :
    e = .returned (.int .i64 0) ∧ DiskOwn X w' p d' ∧ Keep X w w' := by
  obtain ⟨he, S', vp', us', hD, hS', hvp', hM'⟩ := ho
  have hs0 := hM.size
  have hs1 := hB.size
  refine ⟨he, ⟨fun k hk => ?_, S', bs, bn, vp', us', hD, fun k hk => ?_⟩, ?_⟩
  · have := hX k hk; have := hM'.size; omega
  · obtain ⟨h1, h2, h3, h4, h5⟩ := hf k hk
    have hkl := hX k hk
    refine ⟨fun e => ?_, h2, h3, h4, fun e => ?_⟩
    · rcases hS' k e with e | e
      · rcases e with e | e
        · exact h1 e
        · omega
      · omega
    · rcases hvp' k e with e | e
      · exact h5 e
      · omega
  · refine Mod.trans' (T := fun k => ¬ X k) ((hM.mono ?_).trans (Mod.of_below hB)) (hM'.mono ?_) (fun _ _ h => h)
    · exact fun k _ hk hx => (hf k hx).2.1 hk
    · rintro k - hk hx
      obtain ⟨h1, h2, h3, h4, h5⟩ := hf k hx
      rcases hk with e | e | e
      · exact h2 e
      · exact h4 e
      · exact h5 e
theorem own_of_head {X S : Nat → Prop} {w w0 w1 : World} {p bs bn : Nat} {vp : Value} {us : List Value} {d' : Dk} (hX : ∀ k, X k → k < w.heap.size) (hf : Free X S p bs bn vp) (hM : Mod (fun k => k = p) w w0) (hB : Below w0.heap.size w0 w1) (hD : DiskAt S w0 p bs bn vp us d') :
    DiskOwn X w1 p d' ∧ Keep X w w1 :=
  ⟨⟨fun k hk => Nat.lt_of_lt_of_le (hX k hk) (Nat.le_trans hM.size hB.size), S, bs, bn, vp, us, hD.below hB, hf⟩, (hM.mono fun k _ hk hx => (hf k hx).2.1 hk).trans (Mod.of_below hB)⟩

/-- Append's two ways past its fuse -/
def AppendFull (d : Dk) (name : ByteArray) (n : Nat) : Prop := d.room < total d.now + n ∨ (hasF d.now name = false ∧ 64 ≤ Maps.size d.now)
def appended (d : Dk) (name : ByteArray) (bs : List Int) : Dk := { d with now := putF d.now name (getF d.now name ++ bs), pend := d.pend ++ [⟨0, name, ⟨#[]⟩, bs, 0⟩] }

theorem counts_down {d : Dk} {d1 : Dk} (h : countsM d = (true, d1)) : d1.down = false := by
  unfold countsM at h
  split at h
  · simp at h
  · rename_i hn
    simp at h
    rw [← h]; simp at hn; simpa using hn.1

section
variable (X : Nat → Prop) (p : Nat) (d : Dk) (name : ByteArray) (w : World)

theorem append_down (ay : Option Addr) (m cy : Nat) (h : DiskOwn X w p d) (hf0 : -1 ≤ d.fuse) (hf1 : d.fuse ≤ 1000000000000) (hc : (countsM d).1 = false) :
    Calls Try.prog 18 #[.pointer (some ⟨p, 0, none⟩), .string name, .slice ay m cy] w fun e w' => e = .returned (.int .i64 3) ∧ DiskOwn X w' p (countsM d).2 ∧ Keep X w w' := by
  obtain ⟨hX, S, bs, bn, vp, us, hD, hf⟩ := h
  have hc0 := counts_any S p bs bn vp us d w hD hf0 hf1
  rw [hc] at hc0
  have HC := Lib.hid hc0
  have HX := Lib.hid hX
  have HF := Lib.hid hf
  clear hc0 hc hX hf hD
  go_enter Try.func18, Try.ntmps18
  go_wp2_with fail
  refine HC.out.mono ?_
  rintro e w1 ⟨rfl, hD1, hM1⟩
  have HD1 := Lib.hid hD1
  clear hD1
  go_wp2_with fail
  go_ret
  exact ⟨rfl, own_of_head HX.out HF.out hM1 (Below.refl _ _) HD1.out⟩

theorem append_arg (ay : Option Addr) (m cy : Nat) (h : DiskOwn X w p d) (hn : name.size ≤ maxLen) (hf0 : -1 ≤ d.fuse) (hf1 : d.fuse ≤ 1000000000000) (hc : (countsM d).1 = true) (hnm : namedB name = false) :
    Calls Try.prog 18 #[.pointer (some ⟨p, 0, none⟩), .string name, .slice ay m cy] w fun e w' => e = .returned (.int .i64 1) ∧ DiskOwn X w' p (countsM d).2 ∧ Keep X w w' := by
  obtain ⟨hX, S, bs, bn, vp, us, hD, hf⟩ := h
  have hc0 := counts_any S p bs bn vp us d w hD hf0 hf1
  rw [hc] at hc0
  have hnd := fun w => named_any name w
  rw [hnm] at hnd
  have HN := Lib.hid hnd
  have HC := Lib.hid hc0
  have HX := Lib.hid hX
  have HF := Lib.hid hf
  clear hc0 hc hX hf hD hnm hnd
  go_enter Try.func18, Try.ntmps18
  go_wp2_with fail
  refine HC.out.mono ?_
  rintro e w1 ⟨rfl, hD1, hM1⟩
  obtain ⟨-, -, c2, -⟩ := hD1.head.cells
  obtain ⟨v0, -, hlook⟩ := hD1.now.look name hn
  have l0 := (hlook w1 rfl).2
  have HD1 := Lib.hid hD1
  clear hD1 hlook
  go_wp2_with fail
  refine (HN.out _).mono ?_
  rintro e w2 ⟨rfl, rfl⟩
  go_wp2_with fail
  go_ret
  exact ⟨rfl, own_of_head HX.out HF.out hM1 (Below.refl _ _) HD1.out⟩

set_option maxRecDepth 100000 in
set_option maxHeartbeats 2000000 in
theorem append_full (ay : Option Addr) (m cy : Nat) (h : DiskOwn X w p d) (hn : name.size ≤ maxLen) (hf0 : -1 ≤ d.fuse) (hf1 : d.fuse ≤ 1000000000000) (hc : (countsM d).1 = true) (hnm : namedB name = true) (ht : total d.now ≤ 1000000000000) (hm : m ≤ 281474976710656) (hfull : AppendFull d name m) :
    Calls Try.prog 18 #[.pointer (some ⟨p, 0, none⟩), .string name, .slice ay m cy] w fun e w' => e = .returned (.int .i64 2) ∧ DiskOwn X w' p (countsM d).2 ∧ Keep X w w' := by
  obtain ⟨hX, S, bs, bn, vp, us, hD, hf⟩ := h
  have hc0 := counts_any S p bs bn vp us d w hD hf0 hf1
  have hsame := countsM_same d
  obtain ⟨ok, d1, hcm⟩ : ∃ ok d1, countsM d = (ok, d1) := ⟨_, _, rfl⟩
  rw [hcm] at hc0 hsame hc ⊢
  simp only at hc hc0 hsame ⊢
  subst hc
  have hdn := counts_down hcm
  have hnd := fun w => named_any name w
  rw [hnm] at hnd
  unfold AppendFull at hfull
  rw [← hsame.1, ← hsame.2.2.2] at hfull
  rw [← hsame.1] at ht
  have HSame := Lib.hid hsame
  have HN := Lib.hid hnd
  have HC := Lib.hid hc0
  have HX := Lib.hid hX
  have HF := Lib.hid hf
  have HFull := Lib.hid hfull
  have HT := Lib.hid ht
  have HDn := Lib.hid hdn
  clear hc0 hX hf hD hnm hnd hcm hsame hfull ht hdn
  go_enter Try.func18, Try.ntmps18
  go_wp2_with fail
  refine HC.out.mono ?_
  rintro e w1 ⟨rfl, hD1, hM1⟩
  obtain ⟨c0, -, c2, -⟩ := hD1.head.cells
  obtain ⟨v0, -, hlook⟩ := hD1.now.look name hn
  have l0 := (hlook w1 rfl).2
  have HD1 := Lib.hid hD1
  clear hD1 hlook
  go_wp2_with fail
  refine (HN.out _).mono ?_
  rintro e w2 ⟨rfl, rfl⟩
  have hused : ∀ W, Below w1.heap.size w1 W → Calls Try.prog 48 #[.pointer (some ⟨p, 0, none⟩)] W fun e w' => e = .returned (.int .i64 (total d1.now)) ∧ Below W.heap.size W w' := fun W hW => by
    have hD := HD1.out.below hW
    have := used_any S p d1.room bs bn vp d1.fuse d1.down d1.now W hD.head hD.now HT.out
    rw [HDn.out] at this; exact this
  have HUsed := Lib.hid hused
  have hsum : IntKind.i64.wrap ((total d1.now : Nat) + (m : Int)) = (total d1.now : Nat) + (m : Int) := by have := HT.out; exact IntWalk.i64_in _ (by omega)
  have htb : (total d1.now : Int) ≤ 1000000000000 := by have := HT.out; omega
  have hpl := HD1.out.head.lt
  have hfl := HFull.out
  have HLen := Lib.hid (fun (W : World) (hW : Below w1.heap.size w1 W) (ty : TypeId) => (HD1.out.below hW).now.lenRun ty)
  have HC2 := Lib.hid (fun (W : World) (hW : Below w1.heap.size w1 W) => (hW.cell (p := ⟨p, 2, none⟩) hpl).trans c2)
  generalize total d1.now = tn at *
  generalize hasF d1.now name = there at *
  generalize Maps.size d1.now = sz at *
  clear hused
  by_cases hbig : d1.room < tn + m
  · clear hfl
    go_wp2_with fail
    go_region_held3 (fun w' => w'.cell? ⟨p, 0, none⟩ = some (.int .i64 d1.room))
      (first | go_keep | exact p0)
      (first
        | (go_at_call 48; refine (HUsed.out _ (Below.refl _ _).drew).mono ?_; rintro e w3 ⟨rfl, hB3⟩; have p0 := ((hB3.cell (p := ⟨p, 0, none⟩) hpl).trans c0 : w3.cell? ⟨p, 0, none⟩ = some (.int .i64 d1.room))))
    all_goals
      go_wp2_with fail
      go_ret
      exact ⟨rfl, own_of_head HX.out HF.out hM1 ((Below.refl _ _).drew.trans hB3) HD1.out⟩
  · have hfl2 : there = false ∧ 64 ≤ sz := by
      rcases hfl with h | h
      · exact absurd h hbig
      · exact h
    obtain ⟨rfl, hsz⟩ := hfl2
    have hbig2 : ¬ d1.room < (tn : Int) + (m : Int) := by omega
    have hsz2 : (64 : Int) ≤ (sz : Int) := by omega
    clear hfl hbig
    go_wp2_with fail
    go_region_held3 (fun w' => w'.cell? ⟨p, 0, none⟩ = some (.int .i64 d1.room))
      (first | go_keep | exact p0)
      (first
        | (go_at_call 48; refine (HUsed.out _ (Below.refl _ _).drew).mono ?_; rintro e w3 ⟨rfl, hB3⟩; have p0 := ((hB3.cell (p := ⟨p, 0, none⟩) hpl).trans c0 : w3.cell? ⟨p, 0, none⟩ = some (.int .i64 d1.room))))
    all_goals
      have hB4 : Below w1.heap.size w1 w3 := (Below.refl _ _).drew.trans hB3
      have q2 := HC2.out _ hB4
      have ql := HLen.out _ hB4
      clear hB3
      go_wp2_with fail
      go_ret
      exact ⟨rfl, own_of_head HX.out HF.out hM1 hB4 HD1.out⟩

set_option maxRecDepth 100000 in
set_option maxHeartbeats 4000000 in
theorem append_ok (ay : Option Addr) (m cy : Nat) (bs : List Int) (h : DiskOwn X w p d) (hn : name.size ≤ maxLen) (hf0 : -1 ≤ d.fuse) (hf1 : d.fuse ≤ 1000000000000) (hc : (countsM d).1 = true) (hnm : namedB name = true) (ht : total d.now ≤ 1000000000000)
    (hpd : d.pend.length ≤ 1000000) (hsz : Maps.size d.now ≤ 1000000) (hgl : (getF d.now name).length ≤ 1000000000000) (hroom : d.room ≤ 1000000000000) (hm : bs.length = m) (hfull : ¬ AppendFull d name m)
    (hsrc : Src w 1 (.slice ay m cy) m (byteCells bs)) (hy : 0 < m → ∀ k, (Value.slice ay m cy).ownBlock = some k → X k) (hbs : ∀ n ∈ bs, 0 ≤ n ∧ n < 256) :
    Calls Try.prog 18 #[.pointer (some ⟨p, 0, none⟩), .string name, .slice ay m cy] w fun e w' => e = .returned (.int .i64 0) ∧ DiskOwn X w' p (appended (countsM d).2 name bs) ∧ Keep X w w' := by
  subst hm
  obtain ⟨hX, S, bs1, bn, vp, us, hD, hf⟩ := h
  obtain ⟨i0, hi0, hz0, hz1, hz2⟩ := info_parts infoB
  have hc0 := counts_any S p bs1 bn vp us d w hD hf0 hf1
  have hsame := countsM_same d
  obtain ⟨ok, d1, hcm⟩ : ∃ ok d1, countsM d = (ok, d1) := ⟨_, _, rfl⟩
  rw [hcm] at hc0 hsame hc ⊢
  simp only at hc hc0 hsame ⊢
  subst hc
  have hdn := counts_down hcm
  have hnd := fun w => named_any name w
  rw [hnm] at hnd
  unfold AppendFull at hfull
  rw [← hsame.1, ← hsame.2.2.2] at hfull
  rw [← hsame.1] at ht hsz hgl
  rw [← hsame.2.2.1] at hpd
  rw [← hsame.2.2.2] at hroom
  have hm47 : bs.length ≤ 1000000000000 := by
    by_cases hx : d1.room < total d1.now + bs.length
    · exact absurd (.inl hx) hfull
    · omega
  have HN := Lib.hid hnd
  have HC := Lib.hid hc0
  have HX := Lib.hid hX
  have HF := Lib.hid hf
  have HFull := Lib.hid hfull
  have HT := Lib.hid ht
  have HDn := Lib.hid hdn
  have HSrc := Lib.hid hsrc
  have HY := Lib.hid hy
  have HBS := Lib.hid hbs
  clear hc0 hX hf hD hnm hnd hcm hsame hfull ht hdn hsrc hy hbs
  go_enter Try.func18, Try.ntmps18
  go_wp2_with fail
  refine HC.out.mono ?_
  rintro e w1 ⟨rfl, hD1, hM1⟩
  obtain ⟨c0, -, c2, -⟩ := hD1.head.cells
  obtain ⟨v0, -, hlook⟩ := hD1.now.look name hn
  have l0 := (hlook w1 rfl).2
  have HD1 := Lib.hid hD1
  have hsrc1 : Src w1 1 (.slice ay bs.length cy) bs.length (byteCells bs) := HSrc.out.mod hM1 fun h0 k hk e => (HF.out k (HY.out h0 k hk)).2.1 e
  have HSrc1 := Lib.hid hsrc1
  clear hD1 hlook hsrc1
  go_wp2_with fail
  refine (HN.out _).mono ?_
  rintro e w2 ⟨rfl, rfl⟩
  have hused : ∀ W, Below w1.heap.size w1 W → Calls Try.prog 48 #[.pointer (some ⟨p, 0, none⟩)] W fun e w' => e = .returned (.int .i64 (total d1.now)) ∧ Below W.heap.size W w' := fun W hW => by
    have hD := HD1.out.below hW
    have := used_any S p d1.room bs1 bn vp d1.fuse d1.down d1.now W hD.head hD.now HT.out
    rw [HDn.out] at this; exact this
  have HUsed := Lib.hid hused
  have hsum : IntKind.i64.wrap ((total d1.now : Nat) + (bs.length : Int)) = (total d1.now : Nat) + (bs.length : Int) := by have := HT.out; exact IntWalk.i64_in _ (by omega)
  have htb : (total d1.now : Int) ≤ 1000000000000 := by have := HT.out; omega
  have hpl := HD1.out.head.lt
  have hfl := HFull.out
  have HLen := Lib.hid (fun (W : World) (hW : Below w1.heap.size w1 W) (ty : TypeId) => (HD1.out.below hW).now.lenRun ty)
  have HC2 := Lib.hid (fun (W : World) (hW : Below w1.heap.size w1 W) => (hW.cell (p := ⟨p, 2, none⟩) hpl).trans c2)
  have hput := fun (w5 : World) (a' : Option Addr) (c' : Nat) (hB : Below w1.heap.size w1 w5) (R : Row w5 5 1 (.slice a' bs.length c') bs.length (byteCells bs)) (hat : ∀ k, (Value.slice a' bs.length c').ownBlock = some k → w1.heap.size ≤ k) =>
    put_any (More S w1 w5) p bs1 bn vp us d1 ⟨0, name, ⟨#[]⟩, bs, 0⟩ (.slice a' bs.length c') w5 (HD1.out.toMore hB) (Bts.of_row R HBS.out fun k hk => .inr ⟨hat k hk, R.lt hk⟩) hpd (putF d1.now name (getF d1.now name ++ bs)) fun S2 w2 h1 h2 h3 h4 => does_append S2 bn d1.now name ⟨#[]⟩ bs (.slice a' bs.length c') 0 w2 h1 h2 hn h3 h4 (by omega) hsz
  have HPut := Lib.hid hput
  generalize htn : total d1.now = tn at *
  generalize hth : hasF d1.now name = there at *
  generalize hsn : Maps.size d1.now = sz at *
  clear htn hth hsn hused hput
  have hroom2 : (tn : Int) + (bs.length : Int) ≤ d1.room := by
    by_cases hx : d1.room < tn + bs.length
    · exact absurd (.inl hx) hfl
    · omega
  have hts : there = false → sz < 64 := fun h => by
    by_cases hx : 64 ≤ sz
    · exact absurd (.inr ⟨h, hx⟩) hfl
    · omega
  clear hfl
  cases there with
  | true =>
    clear hts
    go_wp2_with fail
    go_region_held3 (fun w' => w'.cell? ⟨p, 0, none⟩ = some (.int .i64 d1.room))
      (first | go_keep | exact p0)
      (first
        | (go_at_call 48; refine (HUsed.out _ (Below.refl _ _).drew).mono ?_; rintro e w3 ⟨rfl, hB3⟩; have p0 := ((hB3.cell (p := ⟨p, 0, none⟩) hpl).trans c0 : w3.cell? ⟨p, 0, none⟩ = some (.int .i64 d1.room))))
    all_goals
      have hB4 : Below w1.heap.size w1 w3 := (Below.refl _ _).drew.trans hB3
      clear hB3
      have hsrc3 : Src (w3.alloc (.cells #[] 5)) 1 (.slice ay bs.length cy) bs.length (byteCells bs) := (HSrc1.out.below hB4).below ((Below.refl _ w3).alloc (Nat.le_refl _) _)
      have hdst := Row.lit_at w3 5 1 #[] 0 w3.heap.size rfl (Nat.zero_le _) rfl
      go_wp2_with (at_builtin; refine wpList_append_row _ rfl _ _ 25 rfl 5 i0 _ 1 1 Try.underlying25 hi0 hz0 hz1 hz2 rfl (.slice (some ⟨w3.heap.size, 0, none⟩) 0 0) 0 [] rfl hdst _ _ _ rfl hsrc3 (by unfold maxLen; omega) (by omega) (w3.heap.size + 1) (by simp) ?_; intro a' cap' w5 hown2 hgrow hat)
      have hB5 : Below w1.heap.size w1 w5 := (hB4.alloc hB4.size (.cells #[] 5)).grown hgrow (by have := hB4.size; simp; omega) (by intro k hk; have := hB4.size; simp [Value.ownBlock] at hk; omega)
      have hown3 := hown2
      simp only [Nat.zero_add, List.nil_append] at hown3
      refine (HPut.out w5 a' cap' hB5 hown3 (fun k hk => by
        rcases hat k (by rw [own_slice a' (0 + bs.length) cap' bs.length cap']; exact hk) with e | e
        · have := hB4.size; simp [Value.ownBlock] at e; omega
        · have := hB4.size; omega)).mono ?_
      intro e w6 ho
      obtain ⟨rfl, hownX, hkX⟩ := own_of_put HX.out HF.out hM1 hB5 ho
      have HO := Lib.hid hownX
      have HK := Lib.hid hkX
      clear ho hownX hkX hown2 hown3 hgrow hat hdst hsrc3
      go_wp2_with fail
      go_ret
      exact ⟨rfl, HO.out, HK.out⟩
  | false =>
    have hsz64 : (sz : Int) < 64 := by have := hts rfl; omega
    clear hts
    go_wp2_with fail
    go_region_held3 (fun w' => w'.cell? ⟨p, 0, none⟩ = some (.int .i64 d1.room))
      (first | go_keep | exact p0)
      (first
        | (go_at_call 48; refine (HUsed.out _ (Below.refl _ _).drew).mono ?_; rintro e w3 ⟨rfl, hB3⟩; have p0 := ((hB3.cell (p := ⟨p, 0, none⟩) hpl).trans c0 : w3.cell? ⟨p, 0, none⟩ = some (.int .i64 d1.room))))
    all_goals
      have hB4 : Below w1.heap.size w1 w3 := (Below.refl _ _).drew.trans hB3
      have q2 := HC2.out _ hB4
      have ql := HLen.out _ hB4
      clear hB3
      have hsrc3 : Src (w3.alloc (.cells #[] 5)) 1 (.slice ay bs.length cy) bs.length (byteCells bs) := (HSrc1.out.below hB4).below ((Below.refl _ w3).alloc (Nat.le_refl _) _)
      have hdst := Row.lit_at w3 5 1 #[] 0 w3.heap.size rfl (Nat.zero_le _) rfl
      go_wp2_with (at_builtin; refine wpList_append_row _ rfl _ _ 25 rfl 5 i0 _ 1 1 Try.underlying25 hi0 hz0 hz1 hz2 rfl (.slice (some ⟨w3.heap.size, 0, none⟩) 0 0) 0 [] rfl hdst _ _ _ rfl hsrc3 (by unfold maxLen; omega) (by omega) (w3.heap.size + 1) (by simp) ?_; intro a' cap' w5 hown2 hgrow hat)
      have hB5 : Below w1.heap.size w1 w5 := (hB4.alloc hB4.size (.cells #[] 5)).grown hgrow (by have := hB4.size; simp; omega) (by intro k hk; have := hB4.size; simp [Value.ownBlock] at hk; omega)
      have hown3 := hown2
      simp only [Nat.zero_add, List.nil_append] at hown3
      refine (HPut.out w5 a' cap' hB5 hown3 (fun k hk => by
        rcases hat k (by rw [own_slice a' (0 + bs.length) cap' bs.length cap']; exact hk) with e | e
        · have := hB4.size; simp [Value.ownBlock] at e; omega
        · have := hB4.size; omega)).mono ?_
      intro e w6 ho
      obtain ⟨rfl, hownX, hkX⟩ := own_of_put HX.out HF.out hM1 hB5 ho
      have HO := Lib.hid hownX
      have HK := Lib.hid hkX
      clear ho hownX hkX hown2 hown3 hgrow hat hdst hsrc3
      go_wp2_with fail
      go_ret
      exact ⟨rfl, HO.out, HK.out⟩
end
end Go.Proofs.Ytpkmnfpbcakflaa
