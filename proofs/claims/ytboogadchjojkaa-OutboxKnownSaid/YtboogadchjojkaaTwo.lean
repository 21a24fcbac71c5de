/- A box and a sink side by side; the walk of Send. No condition. -/
import Derived.Test.YtboogadchjojkaaSend
namespace Go.Proofs.Ytboogadchjojkaa
open Go.ChangeShapes Go.WideShapes Go.ChangeAt Go.RowKit

/-- a box and a sink of blocks made behind w0, that share none -/
def Two (w0 w : World) (pb : Nat) (b : Bx) (ps : Nat) (s : Sk) : Prop :=
  Below w0.heap.size w0 w ∧ ∃ v u, BoxAt w pb v b ∧ SinkAt w ps u s ∧ (∀ k, (k = pb ∨ v.ownBlock = some k) → w0.heap.size ≤ k ∧ ¬ (k = ps ∨ u.ownBlock = some k)) ∧ (∀ k, (k = ps ∨ u.ownBlock = some k) → w0.heap.size ≤ k)
def takes (s : Sk) (l : List Tg) : Sk := l.foldl took s
section
variable {w0 w w' : World} {pb ps : Nat} {b b' : Bx} {s s' : Sk} {v u : Value}
theorem Two.below (h : Two w0 w pb b ps s) (hB : Below w.heap.size w w') : Two w0 w' pb b ps s := by
  obtain ⟨h0, v, u, hb, hs, h1, h2⟩ := h
  exact ⟨h0.trans (hB.mono h0.size), v, u, hb.below hB, hs.below hB, h1, h2⟩
theorem two_of_box (h0 : Below w0.heap.size w0 w) (hs : SinkAt w ps u s) (h2 : ∀ k, (k = ps ∨ u.ownBlock = some k) → w0.heap.size ≤ k) (hO : BoxOwn (fun k => k < w0.heap.size ∨ k = ps ∨ u.ownBlock = some k) w' pb b') (hK : Keep (fun k => k < w0.heap.size ∨ k = ps ∨ u.ownBlock = some k) w w') : Two w0 w' pb b' ps s := by
  obtain ⟨hX, v', hb', hf'⟩ := hO
  refine ⟨h0.trans (hK.below (fun k hk => .inl hk) h0.size), v', u, hb', hs.move fun k hk => hK.block k (hs.foot k hk) fun e => e (.inr hk), fun k hk => ⟨?_, fun e => hf' k hk (.inr e)⟩, h2⟩
  by_cases hlt : k < w0.heap.size
  · exact absurd (Or.inl hlt) (hf' k hk)
  · omega
theorem two_of_sink (h0 : Below w0.heap.size w0 w) (hb : BoxAt w pb v b) (h1 : ∀ k, (k = pb ∨ v.ownBlock = some k) → w0.heap.size ≤ k) (hO : SinkOwn (fun k => k < w0.heap.size ∨ k = pb ∨ v.ownBlock = some k) w' ps s') (hK : Keep (fun k => k < w0.heap.size ∨ k = pb ∨ v.ownBlock = some k) w w') : Two w0 w' pb b ps s' := by
  obtain ⟨hX, u', hs', hf'⟩ := hO
  refine ⟨h0.trans (hK.below (fun k hk => .inl hk) h0.size), v, u', hb.move fun k hk => hK.block k (hb.foot k hk) fun e => e (.inr hk), hs', fun k hk => ⟨h1 k hk, fun e => hf' k e (.inr hk)⟩, fun k hk => ?_⟩
  by_cases hlt : k < w0.heap.size
  · exact absurd (Or.inl hlt) (hf' k hk)
  · omega
theorem Two.boxOwn (h : Two w0 w pb b ps s) : ∃ u, SinkAt w ps u s ∧ (∀ k, (k = ps ∨ u.ownBlock = some k) → w0.heap.size ≤ k) ∧ BoxOwn (fun k => k < w0.heap.size ∨ k = ps ∨ u.ownBlock = some k) w pb b := by
  obtain ⟨h0, v, u, hb, hs, h1, h2⟩ := h
  refine ⟨u, hs, h2, ⟨fun k hk => ?_, v, hb, fun k hk e => ?_⟩⟩
  · rcases hk with hk | hk
    · exact Nat.lt_of_lt_of_le hk h0.size
    · exact hs.foot k hk
  · rcases e with e | e
    · have := (h1 k hk).1; omega
    · exact (h1 k hk).2 e
theorem Two.sinkOwn (h : Two w0 w pb b ps s) : ∃ v, BoxAt w pb v b ∧ (∀ k, (k = pb ∨ v.ownBlock = some k) → w0.heap.size ≤ k) ∧ SinkOwn (fun k => k < w0.heap.size ∨ k = pb ∨ v.ownBlock = some k) w ps s := by
  obtain ⟨h0, v, u, hb, hs, h1, h2⟩ := h
  refine ⟨v, hb, fun k hk => (h1 k hk).1, ⟨fun k hk => ?_, u, hs, fun k hk e => ?_⟩⟩
  · rcases hk with hk | hk
    · exact Nat.lt_of_lt_of_le hk h0.size
    · exact hb.foot k hk
  · rcases e with e | e
    · have := h2 k hk; omega
    · exact (h1 k e).2 hk
theorem Two.again (h : Two w0 w pb b ps s) : Calls Try.prog 18 #[.pointer (some ⟨pb, 0, none⟩)] w fun e w' => e = .returned (.tuple #[]) ∧ Two w0 w' pb { b with sent := 0 } ps s := by
  obtain ⟨u, hs, h2, hO⟩ := h.boxOwn
  exact (again_own _ pb b w hO).mono fun _ _ ⟨he, hO', hK⟩ => ⟨he, two_of_box h.1 hs h2 hO' hK⟩
end
theorem takes_snoc (s : Sk) (l : List Tg) (x : Tg) : takes s (l ++ [x]) = took (takes s l) x := by simp [takes]
theorem takes_ok : ∀ (l : List Tg) (s : Sk), Low l → s.ma ≤ 1099511627776 → s.mb ≤ 1099511627776 → (takes s l).ma ≤ 1099511627776 ∧ (takes s l).mb ≤ 1099511627776 ∧ (takes s l).rf = s.rf ∧ (takes s l).all.length = s.all.length + l.length
  | [], s, _, h1, h2 => ⟨h1, h2, rfl, rfl⟩
  | x :: l, s, hl, h1, h2 => by
    have hx := hl x (List.mem_cons_self ..)
    have := takes_ok l (took s x) (fun y hy => hl y (List.mem_cons_of_mem _ hy)) (by unfold took; simp only; split <;> omega) (by unfold took; simp only; split <;> omega)
    refine ⟨this.1, this.2.1, this.2.2.1, ?_⟩
    have e := this.2.2.2
    simp only [took, List.length_append, List.length_cons, List.length_nil] at e ⊢
    show (takes (took s x) l).all.length = _
    rw [show takes (took s x) l = takes { all := s.all ++ [x], ma := if lessB s.ma s.mb x.a x.b then x.a else s.ma, mb := if lessB s.ma s.mb x.a x.b then x.b else s.mb, ca := s.ca, cb := s.cb, rf := s.rf } l from rfl, e]; omega

theorem send_nil (X : Nat → Prop) (p : Nat) (b : Bx) (w : World) (h : BoxOwn X w p b) : Calls Try.prog 17 #[.pointer (some ⟨p, 0, none⟩), .pointer none] w fun e w' => e = .returned (.int .i64 0) ∧ ∃ n, w' = w.drewN n := by
  go_enter Try.func17, Try.ntmps17
  go_wp2_with fail
  go_loopw [5] (fun n wr => n = .int .i64 0 ∧ wr = w) (fun _ _ => 0)
  case atStart => exact ⟨rfl, rfl⟩
  case round =>
    obtain ⟨rfl, rfl⟩ := hrel
    go_wp2_with fail
    go_quiet (fail)
    go_wp2_with fail
    go_ret
    exact ⟨rfl, _, rfl⟩

set_option maxRecDepth 100000 in
set_option maxHeartbeats 4000000 in
theorem send_two {w0 w : World} {pb ps : Nat} {b : Bx} {s : Sk} (h : Two w0 w pb b ps s) (hr : s.rf = false) (hL : Low b.items) (hma : s.ma ≤ 1099511627776) (hmb : s.mb ≤ 1099511627776) (hl : b.items.length ≤ 1000) (hsl : s.all.length ≤ 1000) (hse : b.sent ≤ b.items.length) :
    Calls Try.prog 17 #[.pointer (some ⟨pb, 0, none⟩), .pointer (some ⟨ps, 0, none⟩)] w fun e w' => e = .returned (.int .i64 ((b.items.length - b.sent : Nat) : Int)) ∧ Two w0 w' pb { b with sent := b.items.length } ps (takes s (b.items.drop b.sent)) := by
  have H0 := Lib.hid h
  have HL := Lib.hid hL
  have HR := Lib.hid hr
  have HM := Lib.hid (And.intro hma hmb)
  clear h hL hr hma hmb
  go_enter Try.func17, Try.ntmps17
  go_wp2_with fail
  go_loopw [5] (fun n wr => ∃ k : Nat, n = .int .i64 k ∧ b.sent + k ≤ b.items.length ∧ Two w0 wr pb { b with sent := b.sent + k } ps (takes s ((b.items.drop b.sent).take k))) (fun n _ => b.items.length - (intOf n).toNat)
  case atStart => exact ⟨0, rfl, hse, by simpa [takes] using H0.out⟩
  case round =>
    obtain ⟨k, rfl, hk, hT⟩ := hrel
    obtain ⟨q, hq⟩ : ∃ q, b.sent + k = q := ⟨_, rfl⟩
    have hok := takes_ok ((b.items.drop b.sent).take k) s (fun x hx => HL.out x (List.mem_of_mem_drop (List.mem_of_mem_take hx))) HM.out.1 HM.out.2
    have htl : ((b.items.drop b.sent).take k).length ≤ 1000 := by rw [List.length_take, List.length_drop]; omega
    have hk1 : k ≤ q - b.sent := by omega
    have hk2 : q ≤ b.sent + k := by omega
    have hk3 : k ≤ 1000 := by omega
    have hk4 : b.sent ≤ q := by omega
    rw [hq] at hT hk
    obtain ⟨v, hb, h1, hO⟩ := hT.sinkOwn
    obtain ⟨-, c1, c2, hfz⟩ := hb.cells
    obtain ⟨a, cap, rfl, hnc, -, hcm⟩ := hb.row.form
    simp only at c1 c2 hnc
    have HT := Lib.hid hT
    have HB := Lib.hid (And.intro hb (And.intro h1 hO))
    have HQ := Lib.hid hq
    have hpl := hb.lt
    clear hT hb h1 hO hfz hq
    rcases Nat.lt_or_ge q b.items.length with hlt | hge
    · obtain ⟨x, hx⟩ : ∃ x, b.items[q]? = some x := ⟨_, List.getElem?_eq_getElem hlt⟩
      have hxl := HL.out x (List.mem_of_getElem? hx)
      obtain ⟨g, rfl, hgl, hgc, -⟩ := HB.out.1.row.view (by simp only; omega)
      have hxa := tcells_at b.items q x hx
      have e0 := (hgc (q * 3) (by simp only; omega)).trans hxa.1
      have e1 := (hgc (q * 3 + 1) (by simp only; omega)).trans hxa.2.1
      have e2 := (hgc (q * 3 + 2) (by simp only; omega)).trans hxa.2.2
      have hsn : takes s ((b.items.drop b.sent).take (k + 1)) = took (takes s ((b.items.drop b.sent).take k)) x := by
        have hd : (b.items.drop b.sent)[k]? = some x := by rw [List.getElem?_drop, HQ.out]; exact hx
        rw [List.take_succ_eq_append_getElem (List.getElem?_eq_some_iff.1 hd).1, (List.getElem?_eq_some_iff.1 hd).2, takes_snoc]
      have HSn := Lib.hid hsn
      generalize takes s ((b.items.drop b.sent).take k) = sk at *
      have HTk := Lib.hid (fun (w2 : World) (hw : Below wr.heap.size wr w2) => take_yes _ ps sk w2 x (HB.out.2.2.below hw) (hok.2.2.1.trans HR.out) hxl.1 hxl.2 hok.1 hok.2.1 (by omega))
      have i1 : (0 : Int) ≤ (q : Int) := by omega
      have i2 : (q : Int) < (b.items.length : Int) := by omega
      have kb : ∀ w3 : World, Keep (fun k => k < w0.heap.size ∨ k = pb ∨ (Value.slice (some ⟨g, 0, none⟩) b.items.length cap).ownBlock = some k) wr.drew w3 → (∀ j, w3.cell? ⟨pb, j, none⟩ = wr.cell? ⟨pb, j, none⟩) ∧ ∀ j, w3.cell? ⟨g, j, none⟩ = wr.cell? ⟨g, j, none⟩ := fun w3 hK =>
        ⟨fun j => World.cell?_of_block (a := ⟨pb, j, none⟩) (hK.block pb hpl fun e => e (.inr (.inl rfl))), fun j => World.cell?_of_block (a := ⟨g, j, none⟩) (hK.block g hgl fun e => e (.inr (.inr rfl)))⟩
      have KB := Lib.hid kb
      clear hgc hxa hx hsn hok htl kb
      go_wp2_with fail
      go_region_held3 (fun w' => w'.cell? ⟨pb, 1, none⟩ = some (.slice (some ⟨g, 0, none⟩) b.items.length cap) ∧ w'.cell? ⟨pb, 2, none⟩ = some (.int .i64 (q : Int)) ∧ w'.cell? ⟨g, q * 3, none⟩ = some (.complex .f64 (fl x.a) (fl x.b)) ∧ w'.cell? ⟨g, q * 3 + 1, none⟩ = some (.string x.s) ∧ w'.cell? ⟨g, q * 3 + 2, none⟩ = some (.int .i64 x.f))
        (first | go_keep | exact ⟨p1, p2, p3, p4, p5⟩)
        (first | (go_at_call 8; refine (HTk.out _ (Below.refl _ _).drew).mono ?_; rintro e w3 ⟨rfl, hS3, hK3⟩; have kk := KB.out w3 hK3; have p1 := (kk.1 1).trans c1; have p2 := (kk.1 2).trans c2; have p3 := (kk.2 (q * 3)).trans e0; have p4 := (kk.2 (q * 3 + 1)).trans e1; have p5 := (kk.2 (q * 3 + 2)).trans e2; clear kk))
      all_goals
        have hT3 : Two w0 w3 pb { b with sent := q } ps (took sk x) := two_of_sink (w := wr.drew) (HT.out.1.drew) (HB.out.1.below (Below.refl _ _).drew) HB.out.2.1 hS3 hK3
        obtain ⟨u3, hs3, h23, hO3⟩ := hT3.boxOwn
        obtain ⟨hX3, v3, hb3, hf3⟩ := hO3
        have c3 := hb3.cells.2.2.1
        have f3 := hb3.cells.2.2.2 2
        simp only at c3
        have hset := bown_set hX3 hb3 hf3 2 (.int .i64 ((q + 1 : Nat) : Int)) (b' := { b with sent := q + 1 }) rfl rfl
        have hT4 := two_of_box hT3.1 hs3 h23 hset.1 hset.2
        have HT4 := Lib.hid hT4
        clear p1 p2 p3 p4 p5 hS3 hK3 hT3 hs3 h23 hX3 hb3 hf3 hset hT4 c1 c2 e0 e1 e2
        go_wp2_with fail
        go_roundw
        case rel =>
          refine ⟨k + 1, by go_num, by omega, ?_⟩
          rw [HSn.out, show b.sent + (k + 1) = q + 1 from by omega]
          exact HT4.out
        case measure => simp [intOf]; omega
    · obtain rfl : q = b.items.length := by omega
      have t1 : decide (b.items.length < b.items.length) = false := by simp
      have hkk : k = b.items.length - b.sent := by omega
      have htk : (b.items.drop b.sent).take k = b.items.drop b.sent := List.take_of_length_le (by rw [List.length_drop]; omega)
      rw [htk] at HT
      have HK := Lib.hid hkk
      clear htk hkk hok htl hk
      go_wp2_with fail
      go_quiet (fail)
      go_wp2_with fail
      go_ret
      exact ⟨by rw [HK.out]; rfl, HT.out.below (below_drewN (Below.refl _ _) _)⟩
end Go.Proofs.Ytboogadchjojkaa
