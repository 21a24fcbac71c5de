/- Files in memory: a map from names to bytes that are never written into. No condition; no walk in sight. -/
import Derived.Test.YtpkmnfpbcakflaaRows
import Derived.Test.YtpkmnfpbcakflaaMem
import Derived.Maps.OwnSet
import Derived.Maps.RangeWalk
import Derived.Maps.Ext
namespace Go.Proofs.Ytpkmnfpbcakflaa
open Go.RowKit Go.WideElems
open Go.ChangeMaps Go.MapKept

/-- what a map of files reads as: bytes by names -/
abbrev Fs := DataW (List Int)

/-- bytes of blocks of S -/
structure Bts (S : Nat → Prop) (w : World) (v : Value) (b : List Int) : Prop where
  ex : ∃ a c, v = .slice a b.length c ∧ b.length ≤ c ∧ c ≤ maxLen
  src : Src w 1 v b.length (byteCells b)
  byte : ∀ n ∈ b, 0 ≤ n ∧ n < 256
  own : 0 < b.length → ∀ k, v.ownBlock = some k → S k

theorem Src.unique {w : World} {v : Value} {m : Nat} {xs ys : List Value} (h : Src w 1 v m xs) (h' : Src w 1 v m ys) : xs = ys := by
  have l1 := h.1
  have l2 := h'.1
  rw [Nat.mul_one] at l1 l2
  rcases h.2.2 with ⟨_, h0⟩ | ⟨ad, c, rfl, hr⟩
  · subst h0
    rw [List.eq_nil_of_length_eq_zero l1, List.eq_nil_of_length_eq_zero l2]
  · rcases h'.2.2 with ⟨e, h0⟩ | ⟨ad', c', e, hr'⟩
    · cases e
    · simp only [Value.slice.injEq, true_and, Option.some.injEq] at e
      obtain ⟨rfl, rfl⟩ := e
      refine List.ext_getElem? fun j => ?_
      by_cases hj : j < m
      · have e1 := hr j xs[j] (List.getElem?_eq_getElem (by omega))
        have e2 := hr' j ys[j] (List.getElem?_eq_getElem (by omega))
        rw [List.getElem?_eq_getElem (by omega), List.getElem?_eq_getElem (by omega)]
        rw [e1] at e2; exact e2
      · rw [List.getElem?_eq_none (by omega), List.getElem?_eq_none (by omega)]

theorem byteCells_inj : ∀ {a b : List Int}, byteCells a = byteCells b → a = b
  | [], [], _ => rfl
  | [], _ :: _, h => by simp [byteCells] at h
  | _ :: _, [], h => by simp [byteCells] at h
  | x :: a, y :: b, h => by
    simp only [byteCells, List.map_cons, List.cons.injEq, Value.int.injEq, true_and] at h
    rw [h.1, byteCells_inj h.2]

section
variable {S S' : Nat → Prop} {w w' : World} {v : Value} {b b' : List Int}
theorem Bts.unique (h : Bts S w v b) (h' : Bts S' w v b') : b = b' := by
  obtain ⟨a, c, rfl, _⟩ := h.ex
  obtain ⟨a', c', e, _⟩ := h'.ex
  simp only [Value.slice.injEq] at e
  have s1 := h.src
  have s2 := h'.src
  rw [e.2.1] at s1
  rw [← e.2.1] at s2
  rw [e.2.1] at s2
  exact byteCells_inj (Src.unique s1 s2)
theorem Bts.nil (S : Nat → Prop) (w : World) : Bts S w (.slice none 0 0) [] :=
  ⟨⟨none, 0, rfl, Nat.le_refl _, Nat.zero_le _⟩, ⟨by simp [byteCells], by simp [byteCells], .inl ⟨rfl, rfl⟩⟩, by simp, fun h => absurd h (by simp)⟩
theorem Bts.move (h : Bts S w v b) (hw : ∀ k, S k → w'.heap[k]? = w.heap[k]?) (hS : ∀ k, S k → S' k) : Bts S' w' v b := by
  refine ⟨h.ex, ?_, h.byte, fun h0 k hk => hS k (h.own h0 k hk)⟩
  refine ⟨h.src.1, h.src.2.1, ?_⟩
  rcases h.src.2.2 with hn | ⟨ad, c, rfl, hr⟩
  · exact .inl hn
  · refine .inr ⟨ad, c, rfl, fun j u hu => ?_⟩
    have h0 : 0 < b.length := by
      have := (List.getElem?_eq_some_iff.1 hu).1
      rw [byteCells_len] at this; omega
    have hb := hw (ad.add j).block (by rw [add_block]; exact h.own h0 _ rfl)
    exact (World.cell?_of_block hb).trans (hr j u hu)
/-- bytes written anew, in a block of S' -/
theorem Bts.of_row {E : TypeId} (h : Row w E 1 v b.length (byteCells b)) (hb : ∀ n ∈ b, 0 ≤ n ∧ n < 256) (hS : ∀ k, v.ownBlock = some k → S k) : Bts S w v b := by
  obtain ⟨a, c, rfl, h1, h2, h3⟩ := h.form
  exact ⟨⟨a, c, rfl, h1, h3⟩, Src.of_row h (byteCells_one _), hb, fun _ k hk => hS k hk⟩
theorem Bts.take (h : Bts S w v b) (n : Nat) (hn : n ≤ b.length) {a : Option Addr} {c : Nat} (hv : v = .slice a b.length c) : Bts S w (.slice a n c) (b.take n) := by
  subst hv
  obtain ⟨a', c', e, h1, h2⟩ := h.ex
  simp only [Value.slice.injEq] at e
  have hl : (b.take n).length = n := by rw [List.length_take]; omega
  refine ⟨⟨a, c, by rw [hl], by rw [hl]; omega, by omega⟩, ?_, fun m hm => h.byte m (List.mem_of_mem_take hm), fun h0 k hk => ?_⟩
  · rw [hl]; exact h.src.take n hn
  · refine h.own (by omega) k ?_
    rw [own_slice a b.length c n c]; exact hk
end

open Classical in
/-- how a file's value reads -/
noncomputable def RB (S : Nat → Prop) (w : World) (v : Value) : Option (Fs × List MemPlace) :=
  if h : ∃ b, Bts S w v b then some (.held h.choose, []) else none
theorem RB_eq {S : Nat → Prop} {w : World} {v : Value} {b : List Int} (h : Bts S w v b) : RB S w v = some (.held b, []) := by
  unfold RB
  have hex : ∃ b, Bts S w v b := ⟨b, h⟩
  rw [dif_pos hex, hex.choose_spec.unique h]
theorem RB_inv {S : Nat → Prop} {w : World} {v : Value} {z : Fs × List MemPlace} (h : RB S w v = some z) : ∃ b, z = (.held b, []) ∧ Bts S w v b := by
  unfold RB at h
  split at h
  · rename_i hex
    exact ⟨hex.choose, by simpa using h.symm, hex.choose_spec⟩
  · cases h

def strKey (s : ByteArray) : Lit := .string s.data.toList
/-- the files of block b -/
def FilesAt (S : Nat → Prop) (w : World) (b : Nat) (D : Fs) : Prop := w.ownsMap Try.prog 9 (RB S w) b (Maps.size D) D
/-- a file's bytes; none: no bytes -/
def getF (D : Fs) (s : ByteArray) : List Int := match D.atKey (strKey s) (.held []) with | .held c => c | _ => []
def hasF (D : Fs) (s : ByteArray) : Bool := Maps.has D (strKey s)
def putF (D : Fs) (s : ByteArray) (c : List Int) : Fs := D.put (strKey s) (.held c)
def delF (D : Fs) (s : ByteArray) : Fs := D.del (strKey s)

theorem keyed : Maps.Keyed Try.prog 9 := Maps.string_keyed Try.underlying9
theorem keyOf_str (s : ByteArray) (hs : s.size ≤ maxLen) : keyOf Try.prog 9 (.string s) = some (strKey s) := WideMaps.keyOf_string_mk Try.underlying9 hs
theorem zeroB (w : World) : (zeroValue 25).run Try.prog w = .ok (.slice none 0 0) w := by kernel_rfl
theorem isKey (s : ByteArray) : WideAt.IsKeyLit (strKey s) := trivial

section
variable {S S' : Nat → Prop} {w w' : World} {b : Nat} {D : Fs}
theorem FilesAt.of_owns {n : Nat} (h : w.ownsMap Try.prog 9 (RB S w) b n D) : FilesAt S w b D := by
  obtain ⟨es, clock, hb, F, hs, hD⟩ := h
  refine ⟨es, clock, hb, F, ?_, hD⟩
  rw [hD]; simp [Maps.size, length_sorted]
theorem FilesAt.lt (h : FilesAt S w b D) : b < w.heap.size := World.ownsMap.lt h
theorem FilesAt.move (h : FilesAt S w b D) (hb : w'.heap[b]? = w.heap[b]?) (hs : ∀ v c, Bts S w v c → Bts S' w' v c) : FilesAt S' w' b D := by
  obtain ⟨es, clock, hb0, F, hn, hD⟩ := h
  obtain ⟨F', hm, _⟩ := F.stay (R' := RB S' w') (fun x _ z hz => by
    obtain ⟨c, rfl, hc⟩ := RB_inv hz
    exact RB_eq (hs _ _ hc))
  exact ⟨es, clock, hb.trans hb0, F', hn, by rw [hm]; exact hD⟩
theorem FilesAt.same (h : FilesAt S w b D) (hb : w'.heap[b]? = w.heap[b]?) (hS : ∀ k, S k → w'.heap[k]? = w.heap[k]?) : FilesAt S w' b D := h.move hb fun _ _ hv => hv.move hS fun _ h => h
theorem FilesAt.tidy (h : FilesAt S w b D) : Maps.Tidy D := World.ownsMap.tidy h keyed
theorem FilesAt.isMap (h : FilesAt S w b D) : Maps.IsMap D := World.ownsMap.isMap h
theorem FilesAt.made (S : Nat → Prop) (w : World) : FilesAt S (w.alloc (.map #[] 0)) w.heap.size (.map []) := FilesAt.of_owns (World.ownsMap_made w _ _ _)

theorem entry_one {P : Program} {k : TypeId} {R : Value → Option (DataW (List Int) × List MemPlace)} {es : Array MapEntry} {clock : Nat} (K : Maps.Keyed P k) (F : Fit P k R es clock) {x y : MapEntry} (hx : x ∈ es.toList) (hy : y ∈ es.toList) (h : x.key = y.key) : x = y := by
  obtain ⟨i, hi, rfl⟩ := List.getElem_of_mem hx
  obtain ⟨j, hj, rfl⟩ := List.getElem_of_mem hy
  have hp := List.pairwise_iff_getElem.1 (Maps.fit_apart K F)
  obtain ⟨yi, hyi⟩ := F.reads _ hx
  obtain ⟨yj, hyj⟩ := F.reads _ hy
  have e : (rg P k R es.toList[i]).1 = (rg P k R es.toList[j]).1 := by
    rw [rg_of hyi, rg_of hyj]
    have m1 := rd_key hyi
    have m2 := rd_key hyj
    rw [h, m2] at m1
    exact (Option.some.inj m1).symm
  rcases Nat.lt_trichotomy i j with c | c | c
  · have := hp i j (by simpa using hi) (by simpa using hj) c
    rw [List.getElem_map, List.getElem_map] at this
    exact absurd e this
  · subst c; rfl
  · have := hp j i (by simpa using hj) (by simpa using hi) c
    rw [List.getElem_map, List.getElem_map] at this
    exact absurd e.symm this

/-- a file is looked up, in whatever world the map is as it was -/
theorem FilesAt.look (h : FilesAt S w b D) (s : ByteArray) (hs : s.size ≤ maxLen) :
    ∃ v, Bts S w v (getF D s) ∧ ∀ W, W.heap[b]? = w.heap[b]? → (Instr.lookup 81 (.map (some b)) (.string s) false).run Try.prog W = .ok v W ∧ (Instr.lookup 81 (.map (some b)) (.string s) true).run Try.prog W = .ok (.tuple #[v, .bool (hasF D s)]) W := by
  obtain ⟨es, clock, hb, F, _, rfl⟩ := h
  have hk := keyOf_str s hs
  rcases Maps.fit_look false keyed Try.underlying81 (zeroB w) hb F hk with ⟨_, hno, hat⟩ | ⟨e0, y, hm0, hk0, _, hRv, hat, _⟩
  · refine ⟨.slice none 0 0, ?_, fun W hW => ?_⟩
    · unfold getF; rw [hat]; exact Bts.nil S w
    · have hbW := hW.trans hb
      have key : ∀ c, (Instr.lookup 81 (.map (some b)) (.string s) c).run Try.prog W = .ok (if c then .tuple #[.slice none 0 0, .bool false] else .slice none 0 0) W := fun c => by
        rcases Maps.fit_look c keyed Try.underlying81 (zeroB W) hbW F hk with ⟨h1, _⟩ | ⟨e1, _, hm1, hk1, _⟩
        · exact h1
        · exact absurd hk1 (hno e1 hm1)
      refine ⟨key false, ?_⟩
      rw [show hasF _ s = false from Maps.has_false_of_atKey hat]
      exact key true
  · obtain ⟨c0, rfl, hB⟩ := RB_inv hRv
    refine ⟨e0.val, ?_, fun W hW => ?_⟩
    · unfold getF; rw [show strKey s = strKey s from rfl, hat]; exact hB
    · have hbW := hW.trans hb
      have key : ∀ c, (Instr.lookup 81 (.map (some b)) (.string s) c).run Try.prog W = .ok (if c then .tuple #[e0.val, .bool true] else e0.val) W := fun c => by
        rcases Maps.fit_look c keyed Try.underlying81 (zeroB W) hbW F hk with ⟨_, hno, _⟩ | ⟨e1, _, hm1, hk1, h1, _⟩
        · exact absurd hk0 (hno e0 hm0)
        · rw [entry_one keyed F hm0 hm1 (hk0.trans hk1.symm)]; exact h1
      refine ⟨key false, ?_⟩
      rw [show hasF _ s = true from Maps.has_true_of_atKey hat]
      exact key true

theorem turned_other {w w' : World} {b : Nat} (h : w.mapTurned w' b) : Mod (fun k => k = b) w w' := by
  have hg := h.grown
  exact ⟨hg.os, hg.tape, hg.output, hg.size, fun k hk hne => hg.block k hk (fun e => hne (by simpa using e))⟩

/-- may be stored -/
def PutOk (S : Nat → Prop) (b : Nat) (D : Fs) (c : List Int) (W : World) (v : Value) : Prop := FilesAt S W b D ∧ Bts S W v c ∧ ¬ S b ∧ Maps.size D < maxLen
theorem FilesAt.store {v : Value} {c : List Int} (h : PutOk S b D c w v) (s : ByteArray) (hs : s.size ≤ maxLen) :
    ∃ w', (Instr.mapUpdate 81 (.map (some b)) (.string s) v).run Try.prog w = .ok () w' ∧ FilesAt S w' b (putF D s c) ∧ w.mapTurned w' b := by
  obtain ⟨hF, hv, hb, hn⟩ := h
  obtain ⟨w', h1, h2, h3⟩ := World.ownsMap.store hF keyed Try.underlying81 hn (keyOf_str s hs) (RB_eq hv)
  refine ⟨w', h1, ?_, h3⟩
  have hm := turned_other h3
  have hlt : ∀ k, S k → w'.heap[k]? = w.heap[k]? := fun k hk => by
    by_cases hk2 : k < w.heap.size
    · exact hm.block k hk2 (fun e => hb (e ▸ hk))
    · obtain ⟨es, cl, es', cl', hh, rfl⟩ := h3
      exact heap_setBlock_other hh _ (fun e => hb (e ▸ hk))
  obtain ⟨es, clock, hb0, F, hn2, hD⟩ := h2
  obtain ⟨F', hmm, _⟩ := F.stay (R' := RB S w') (fun x _ z hz => by
    obtain ⟨c, rfl, hc⟩ := RB_inv hz
    exact RB_eq (hc.move hlt fun _ h => h))
  exact FilesAt.of_owns ⟨es, clock, hb0, F', hn2, by rw [hmm]; exact hD⟩
open Classical in
/-- the store, as a function of world and value -/
theorem exists_put (S : Nat → Prop) (b : Nat) (D : Fs) (c : List Int) (s : ByteArray) (hs : s.size ≤ maxLen) :
    ∃ upd : World → Value → World, ∀ W v, PutOk S b D c W v → (Instr.mapUpdate 81 (.map (some b)) (.string s) v).run Try.prog W = .ok () (upd W v) ∧ FilesAt S (upd W v) b (putF D s c) ∧ W.mapTurned (upd W v) b := by
  refine ⟨fun W v => if h : PutOk S b D c W v then (FilesAt.store h s hs).choose else W, fun W v h => ?_⟩
  simp only [dif_pos h]
  exact (FilesAt.store h s hs).choose_spec
theorem FilesAt.drop (h : FilesAt S w b D) (hb : ¬ S b) (s : ByteArray) (hs : s.size ≤ maxLen) (ty : TypeId) :
    ∃ w', (Builtin.delete_ #[81, 9] ty #[.map (some b), .string s]).run Try.prog w = .ok (.tuple #[]) w' ∧ FilesAt S w' b (delF D s) ∧ w.mapTurned w' b := by
  obtain ⟨w', h1, h2, h3⟩ := World.ownsMap.drop h keyed Try.underlying81 (keyOf_str s hs) ty
  refine ⟨w', h1, ?_, h3⟩
  have hlt : ∀ k, S k → w'.heap[k]? = w.heap[k]? := fun k hk => by
    obtain ⟨es, cl, es', cl', hh, rfl⟩ := h3
    exact heap_setBlock_other hh _ (fun e => hb (e ▸ hk))
  obtain ⟨es, clock, hb0, F, hn2, hD⟩ := h2
  obtain ⟨F', hmm, _⟩ := F.stay (R' := RB S w') (fun x _ z hz => by
    obtain ⟨c, rfl, hc⟩ := RB_inv hz
    exact RB_eq (hc.move hlt fun _ h => h))
  exact FilesAt.of_owns ⟨es, clock, hb0, F', hn2, by rw [hmm]; exact hD⟩
theorem FilesAt.lenRun (h : FilesAt S w b D) (ty : TypeId) : (Builtin.len_ #[81] ty #[.map (some b)]).run Try.prog w = .ok (.int .i64 (Maps.size D)) w := World.ownsMap.len h Try.underlying81 ty
end
end Go.Proofs.Ytpkmnfpbcakflaa
