/- A disk in memory, and the walk of disk.put. No condition. -/
import Derived.Test.YtpkmnfpbcakflaaUsed
import Derived.Deep.RegionLaw
import Derived.Deep.RegionWith
namespace Go.Proofs.Ytpkmnfpbcakflaa
open Go.ChangeShapes Go.WideShapes Go.ChangeAt Go.RowKit

/-- a deed -/
structure Dd where
  kind : Int
  name : ByteArray
  to : ByteArray
  b : List Int
  size : Int
def ddAgg (x : Dd) (u : Value) : Array Value := #[.int .i64 x.kind, .string x.name, .string x.to, u, .int .i64 x.size]
def dcells : List Dd → List Value → List Value
  | x :: ds, u :: us => .int .i64 x.kind :: .string x.name :: .string x.to :: u :: .int .i64 x.size :: dcells ds us
  | _, _ => []
/-- a disk's state -/
structure Dk where
  room : Int
  syn : Fs
  now : Fs
  pend : List Dd
  fuse : Int
  down : Bool

/-- a disk lies so: S are the blocks of bytes that are never written into -/
structure DiskAt (S : Nat → Prop) (w : World) (p bs bn : Nat) (vp : Value) (us : List Value) (d : Dk) : Prop where
  head : HeadAt w p d.room bs bn vp d.fuse d.down
  syn : FilesAt S w bs d.syn
  now : FilesAt S w bn d.now
  pend : Row w 88 5 vp d.pend.length (dcells d.pend us)
  len : us.length = d.pend.length
  bts : ∀ (i : Nat) x u, d.pend[i]? = some x → us[i]? = some u → Bts S w u x.b
  ne : bs ≠ bn
  notp : ∀ k, vp.ownBlock = some k → k ≠ p
  out : ¬ S p ∧ ¬ S bs ∧ ¬ S bn ∧ ∀ k, vp.ownBlock = some k → ¬ S k
  lt : ∀ k, S k → k < w.heap.size

theorem dcells_append : ∀ (ds : List Dd) (us : List Value) (ds2 : List Dd) (us2 : List Value), us.length = ds.length → dcells (ds ++ ds2) (us ++ us2) = dcells ds us ++ dcells ds2 us2
  | [], [], _, _, _ => rfl
  | [], _ :: _, _, _, h => by simp at h
  | _ :: _, [], _, _, h => by simp at h
  | a :: ds, b :: us, ds2, us2, h => by simp [dcells, dcells_append ds us ds2 us2 (by simpa using h)]
theorem dcells_at : ∀ (ds : List Dd) (us : List Value) (i : Nat) (x : Dd) (u : Value), ds[i]? = some x → us[i]? = some u →
    (dcells ds us)[i * 5]? = some (.int .i64 x.kind) ∧ (dcells ds us)[i * 5 + 1]? = some (.string x.name) ∧ (dcells ds us)[i * 5 + 2]? = some (.string x.to) ∧ (dcells ds us)[i * 5 + 3]? = some u ∧ (dcells ds us)[i * 5 + 4]? = some (.int .i64 x.size)
  | [], _, _, _, _, h, _ => by simp at h
  | _ :: _, [], _, _, _, _, h => by simp at h
  | a :: ds, b :: us, 0, x, u, h, h' => by simp at h h'; subst h h'; exact ⟨rfl, rfl, rfl, rfl, rfl⟩
  | a :: ds, b :: us, i + 1, x, u, h, h' => by
    have := dcells_at ds us i x u (by simpa using h) (by simpa using h')
    have e : ∀ j, (dcells (a :: ds) (b :: us))[j + 5]? = (dcells ds us)[j]? := fun j => by simp [dcells]
    refine ⟨?_, ?_, ?_, ?_, ?_⟩
    · rw [show (i + 1) * 5 = i * 5 + 5 by omega, e]; exact this.1
    · rw [show (i + 1) * 5 + 1 = (i * 5 + 1) + 5 by omega, e]; exact this.2.1
    · rw [show (i + 1) * 5 + 2 = (i * 5 + 2) + 5 by omega, e]; exact this.2.2.1
    · rw [show (i + 1) * 5 + 3 = (i * 5 + 3) + 5 by omega, e]; exact this.2.2.2.1
    · rw [show (i + 1) * 5 + 4 = (i * 5 + 4) + 5 by omega, e]; exact this.2.2.2.2

theorem Row.not_map {w : World} {e : TypeId} {size : Nat} {v : Value} {n : Nat} {xs : List Value} (h : Row w e size v n xs) {S : Nat → Prop} {b : Nat} {D : Fs} (hF : FilesAt S w b D) : v.ownBlock ≠ some b := by
  intro hk
  obtain ⟨es, cl, hb, _⟩ := hF
  rcases h.2 with ⟨rfl, _⟩ | ⟨g, cap, cur, rfl, hg, _⟩
  · simp [Value.ownBlock] at hk
  · simp [Value.ownBlock] at hk; subst hk
    rw [hg] at hb; cases hb

section
variable {S S' : Nat → Prop} {w w' : World} {p bs bn : Nat} {vp vp' : Value} {us : List Value} {d : Dk}
theorem DiskAt.nep (h : DiskAt S w p bs bn vp us d) : bs ≠ p ∧ bn ≠ p := ⟨h.syn.not_head h.head, h.now.not_head h.head⟩
theorem DiskAt.move (h : DiskAt S w p bs bn vp us d) (hs : w.heap.size ≤ w'.heap.size) (hw : ∀ k, (k = p ∨ k = bs ∨ k = bn ∨ vp.ownBlock = some k ∨ S k) → w'.heap[k]? = w.heap[k]?) : DiskAt S w' p bs bn vp us d where
  head := h.head.same (hw p (.inl rfl))
  syn := h.syn.same (hw bs (.inr (.inl rfl))) fun k hk => hw k (.inr (.inr (.inr (.inr hk))))
  now := h.now.same (hw bn (.inr (.inr (.inl rfl)))) fun k hk => hw k (.inr (.inr (.inr (.inr hk))))
  pend := h.pend.of_block fun k hk => hw k (.inr (.inr (.inr (.inl hk))))
  len := h.len
  bts := fun i x u hx hu => (h.bts i x u hx hu).move (fun k hk => hw k (.inr (.inr (.inr (.inr hk))))) fun _ h => h
  ne := h.ne
  notp := h.notp
  out := h.out
  lt := fun k hk => Nat.lt_of_lt_of_le (h.lt k hk) hs
theorem DiskAt.below_all (h : DiskAt S w p bs bn vp us d) : ∀ k, (k = p ∨ k = bs ∨ k = bn ∨ vp.ownBlock = some k ∨ S k) → k < w.heap.size := by
  rintro k (rfl | rfl | rfl | h' | h')
  · exact h.head.lt
  · exact h.syn.lt
  · exact h.now.lt
  · exact h.pend.lt h'
  · exact h.lt k h'
theorem DiskAt.below (h : DiskAt S w p bs bn vp us d) (hB : Below w.heap.size w w') : DiskAt S w' p bs bn vp us d := h.move hB.size fun k hk => hB.block k (h.below_all k hk)
/-- more blocks of bytes -/
theorem DiskAt.widen (h : DiskAt S w p bs bn vp us d) (hS : ∀ k, S k → S' k) (hn : ∀ k, S' k → S k ∨ (k ≠ p ∧ k ≠ bs ∧ k ≠ bn ∧ vp.ownBlock ≠ some k)) (hlt : ∀ k, S' k → k < w.heap.size) : DiskAt S' w p bs bn vp us d where
  head := h.head
  syn := h.syn.move rfl fun _ _ hv => hv.move (fun _ _ => rfl) hS
  now := h.now.move rfl fun _ _ hv => hv.move (fun _ _ => rfl) hS
  pend := h.pend
  len := h.len
  bts := fun i x u hx hu => (h.bts i x u hx hu).move (fun _ _ => rfl) hS
  ne := h.ne
  notp := h.notp
  out := by
    refine ⟨fun hp => ?_, fun hp => ?_, fun hp => ?_, fun k hk hp => ?_⟩
    · rcases hn _ hp with h' | h'
      · exact h.out.1 h'
      · exact h'.1 rfl
    · rcases hn _ hp with h' | h'
      · exact h.out.2.1 h'
      · exact h'.2.1 rfl
    · rcases hn _ hp with h' | h'
      · exact h.out.2.2.1 h'
      · exact h'.2.2.1 rfl
    · rcases hn _ hp with h' | h'
      · exact h.out.2.2.2 k hk h'
      · exact h'.2.2.2 hk
  lt := hlt
end

theorem infoD : (Try.prog.info? 88).map (fun i => (i.zero, i.size, i.bytes)) = some (some (.agg #[.int .i64 0, .string ⟨#[]⟩, .string ⟨#[]⟩, .slice none 0 0, .int .i64 0]), 5, 72) := by kernel_rfl

/-- what put leaves -/
def PutOut (w w' : World) (e : Ending) (S : Nat → Prop) (p bs bn : Nat) (vp : Value) (d' : Dk) : Prop :=
  e = .returned (.int .i64 0) ∧ ∃ S' vp' us', DiskAt S' w' p bs bn vp' us' d' ∧ (∀ k, S' k → S k ∨ w.heap.size ≤ k) ∧ (∀ k, vp'.ownBlock = some k → vp.ownBlock = some k ∨ w.heap.size ≤ k) ∧ Mod (fun k => k = p ∨ k = bn ∨ vp.ownBlock = some k) w w'

theorem put_mid {S : Nat → Prop} {w W1 w2 : World} {p bs bn : Nat} {a a' : Option Addr} {n cap n' cap' H : Nat} {us : List Value} {d : Dk} {x : Dd} {u : Value} {cells : List Value} (h : DiskAt S w p bs bn (.slice a n cap) us d) (hu : Bts S w u x.b) (hB : Below w.heap.size w W1)
    (hg : W1.grownBy w2 (Value.slice a n cap).ownBlock) (R : Row w2 88 5 (.slice a' n' cap') n' cells) (hn' : n' = d.pend.length + 1) (hc : cells = dcells d.pend us ++ (ddAgg x u).toList) (hat : ∀ k, (Value.slice a' n' cap').ownBlock = some k → (Value.slice a n cap).ownBlock = some k ∨ k = H) (hH : w.heap.size ≤ H) :
    DiskAt S (w2.setCell ⟨p, 3, none⟩ (.slice a' n' cap')) p bs bn (.slice a' n' cap') (us ++ [u]) { d with pend := d.pend ++ [x] } ∧ Mod (fun k => k = p ∨ (Value.slice a n cap).ownBlock = some k) w (w2.setCell ⟨p, 3, none⟩ (.slice a' n' cap')) := by
  have hpl := h.head.lt
  have hkeep : ∀ k, k < w.heap.size → (Value.slice a n cap).ownBlock ≠ some k → w2.heap[k]? = w.heap[k]? := fun k hk hne =>
    (hg.block k (Nat.lt_of_lt_of_le hk hB.size) (fun e => hne e.symm)).trans (hB.block k hk)
  have hoth : ∀ k, k < w.heap.size → k ≠ p → (Value.slice a n cap).ownBlock ≠ some k → (w2.setCell ⟨p, 3, none⟩ (.slice a' n' cap')).heap[k]? = w.heap[k]? := fun k hk hkp hne => by
    rw [heap_setCell_other _ _ _ _ (show k ≠ (⟨p, 3, none⟩ : Addr).block from hkp)]; exact hkeep k hk hne
  have hS : ∀ k, S k → (w2.setCell ⟨p, 3, none⟩ (.slice a' n' cap')).heap[k]? = w.heap[k]? := fun k hk =>
    hoth k (h.lt k hk) (fun e => h.out.1 (e ▸ hk)) (fun e => h.out.2.2.2 k e hk)
  have hsz : w.heap.size ≤ (w2.setCell ⟨p, 3, none⟩ (.slice a' n' cap')).heap.size := by
    have h1 := hB.size
    have h2 := hg.size
    simp [World.setCell]; omega
  have hvp : ∀ k, (Value.slice a' n' cap').ownBlock = some k → k ≠ p ∧ k ≠ bs ∧ k ≠ bn ∧ ¬ S k := fun k hk => by
    rcases hat k hk with e | e
    · refine ⟨h.notp k e, ?_, ?_, h.out.2.2.2 k e⟩
      · rintro rfl; exact h.pend.not_map h.syn e
      · rintro rfl; exact h.pend.not_map h.now e
    · have h1 := h.syn.lt
      have h2 := h.now.lt
      exact ⟨by omega, by omega, by omega, fun e2 => by have := h.lt k e2; omega⟩
  have hall : ∀ (i : Nat) y v, (d.pend ++ [x])[i]? = some y → (us ++ [u])[i]? = some v → Bts S w v y.b := fun i y v hy hv => by
    by_cases hi : i < d.pend.length
    · rw [List.getElem?_append_left hi] at hy
      rw [List.getElem?_append_left (by rw [h.len]; exact hi)] at hv
      exact h.bts i y v hy hv
    · have hi2 : i = d.pend.length := by
        have := (List.getElem?_eq_some_iff.1 hy).1
        simp at this; omega
      subst hi2
      simp at hy
      rw [← h.len] at hv
      simp at hv
      subst hy hv; exact hu
  refine ⟨⟨?_, ?_, ?_, ?_, ?_, ?_, h.ne, fun k hk => (hvp k hk).1, ⟨h.out.1, h.out.2.1, h.out.2.2.1, fun k hk => (hvp k hk).2.2.2⟩, fun k hk => Nat.lt_of_lt_of_le (h.lt k hk) hsz⟩, ?_⟩
  · exact (h.head.same (hkeep p hpl (fun e => h.notp p e rfl))).set3 _
  · exact h.syn.same (hoth bs h.syn.lt h.nep.1 (h.pend.not_map h.syn)) hS
  · exact h.now.same (hoth bn h.now.lt h.nep.2 (h.pend.not_map h.now)) hS
  · subst hn'
    have e : dcells (d.pend ++ [x]) (us ++ [u]) = cells := by
      rw [dcells_append _ _ _ _ h.len, hc]; rfl
    show Row _ _ _ _ (d.pend ++ [x]).length (dcells (d.pend ++ [x]) (us ++ [u]))
    rw [e, List.length_append]
    exact R.of_block fun k hk => heap_setCell_other _ _ _ _ (show k ≠ (⟨p, 3, none⟩ : Addr).block from (hvp k hk).1)
  · simp [h.len]
  · exact fun i y v hy hv => (hall i y v hy hv).move hS fun _ h => h
  · exact Mod.setCell (S := fun k => k = p ∨ (Value.slice a n cap).ownBlock = some k) (p := ⟨p, 3, none⟩) (Mod.grown (Mod.of_below hB) hg fun k hk => .inr (.inr hk)) (.inr (.inl rfl)) _

theorem DiskAt.doneNow {S : Nat → Prop} {w w' : World} {p bs bn : Nat} {vp : Value} {us : List Value} {d : Dk} (h : DiskAt S w p bs bn vp us d) {D' : Fs} (hF : FilesAt (More S w w') w' bn D') (hM : Mod (fun k => k = bn) w w') :
    DiskAt (More S w w') w' p bs bn vp us { d with now := D' } := by
  have hk : ∀ k, k < w.heap.size → k ≠ bn → w'.heap[k]? = w.heap[k]? := fun k h1 h2 => hM.block k h1 h2
  have hS : ∀ k, S k → w'.heap[k]? = w.heap[k]? := fun k h1 => hk k (h.lt k h1) (fun e => h.out.2.2.1 (e ▸ h1))
  have hlt := h.below_all
  refine ⟨h.head.same (hk p h.head.lt h.nep.2.symm), h.syn.move (hk bs h.syn.lt h.ne) fun _ _ hv => hv.move hS fun _ h => .inl h, hF, h.pend.of_block fun k hk2 => hk k (h.pend.lt hk2) (fun e => h.pend.not_map h.now (e ▸ hk2)), h.len,
    fun i x u hx hu => (h.bts i x u hx hu).move hS fun _ h => .inl h, h.ne, h.notp, ?_, ?_⟩
  · refine ⟨?_, ?_, ?_, ?_⟩
    · rintro (h1 | h1)
      · exact h.out.1 h1
      · have := h.head.lt; omega
    · rintro (h1 | h1)
      · exact h.out.2.1 h1
      · have := h.syn.lt; omega
    · rintro (h1 | h1)
      · exact h.out.2.2.1 h1
      · have := h.now.lt; omega
    · intro k hk2
      rintro (h1 | h1)
      · exact h.out.2.2.2 k hk2 h1
      · have := h.pend.lt hk2; omega
  · rintro k (h1 | h1)
    · exact Nat.lt_of_lt_of_le (h.lt k h1) hM.size
    · exact h1.2

set_option maxRecDepth 100000 in
set_option maxHeartbeats 4000000 in
theorem put_any (S : Nat → Prop) (p bs bn : Nat) (vp : Value) (us : List Value) (d : Dk) (x : Dd) (u : Value) (w : World) (h : DiskAt S w p bs bn vp us d) (hu : Bts S w u x.b) (hl : d.pend.length ≤ 1000000) (D' : Fs)
    (hdoes : ∀ (S2 : Nat → Prop) (w2 : World), FilesAt S2 w2 bn d.now → Bts S2 w2 u x.b → ¬ S2 bn → (∀ k, S2 k → k < w2.heap.size) → Calls Try.prog 51 #[.map (some bn), .agg (ddAgg x u)] w2 fun e w' => DoesOut w2 w' e S2 bn D') :
    Calls Try.prog 49 #[.pointer (some ⟨p, 0, none⟩), .agg (ddAgg x u)] w fun e w' => PutOut w w' e S p bs bn vp { d with now := D', pend := d.pend ++ [x] } := by
  obtain ⟨i0, hi0, hz0, hz1, hz2⟩ := info_parts infoD
  obtain ⟨-, -, c2, c3, -, -, hf⟩ := h.head.cells
  obtain ⟨a, cap, rfl, hnc, -, hcm⟩ := h.pend.form
  obtain ⟨au, cu, rfl, hcu1, hcu2⟩ := hu.ex
  have f3 := hf 3
  have hpl := h.head.lt
  have HX := Lib.hid h
  have HU := Lib.hid hu
  have HDoes := Lib.hid hdoes
  have hpend := h.pend
  have hnp : (Value.slice a d.pend.length cap).ownBlock ≠ some p := fun e => h.notp p e rfl
  clear h hu hdoes hf
  unfold ddAgg
  go_enter Try.func49, Try.ntmps49
  go_wp2_with fail
  have hB := (Below.refl w.heap.size w).alloc (Nat.le_refl _) (.cells #[.int .i64 x.kind, .string x.name, .string x.to, .slice au x.b.length cu, .int .i64 x.size] 88)
  have hbx : (w.alloc (.cells #[.int .i64 x.kind, .string x.name, .string x.to, .slice au x.b.length cu, .int .i64 x.size] 88)).heap[w.heap.size]? = some (.cells #[.int .i64 x.kind, .string x.name, .string x.to, .slice au x.b.length cu, .int .i64 x.size] 88 (0, 0)) := heap_alloc_new w _
  have hsW : (w.alloc (.cells #[.int .i64 x.kind, .string x.name, .string x.to, .slice au x.b.length cu, .int .i64 x.size] 88)).heap.size = w.heap.size + 1 := by simp
  generalize w.alloc (.cells #[.int .i64 x.kind, .string x.name, .string x.to, .slice au x.b.length cu, .int .i64 x.size] 88) = W at *
  have q3 := (World.cell?_of_block (a := ⟨p, 3, none⟩) (hB.block p hpl)).trans c3
  have qf := (World.frozen?_of_block (a := ⟨p, 3, none⟩) (hB.block p hpl)).trans f3
  have b0 : W.cell? ⟨w.heap.size, 0, none⟩ = some (.int .i64 x.kind) := by rw [cell_of_row _ _ _ _ _ _ hbx]; rfl
  have b1 : W.cell? ⟨w.heap.size, 1, none⟩ = some (.string x.name) := by rw [cell_of_row _ _ _ _ _ _ hbx]; rfl
  have b2 : W.cell? ⟨w.heap.size, 2, none⟩ = some (.string x.to) := by rw [cell_of_row _ _ _ _ _ _ hbx]; rfl
  have b3 : W.cell? ⟨w.heap.size, 3, none⟩ = some (.slice au x.b.length cu) := by rw [cell_of_row _ _ _ _ _ _ hbx]; rfl
  have b4 : W.cell? ⟨w.heap.size, 4, none⟩ = some (.int .i64 x.size) := by rw [cell_of_row _ _ _ _ _ _ hbx]; rfl
  have hB1 : Below w.heap.size w (W.alloc (.cells #[.int .i64 x.kind, .string x.name, .string x.to, .slice au x.b.length cu, .int .i64 x.size] 88)).drew := (hB.alloc hB.size _).drew
  have hdst : Row (W.alloc (.cells #[.int .i64 x.kind, .string x.name, .string x.to, .slice au x.b.length cu, .int .i64 x.size] 88)).drew 88 5 (.slice a d.pend.length cap) d.pend.length (dcells d.pend us) := hpend.of_block fun k hk => hB1.block k (hpend.lt hk)
  have hsrc : Src (W.alloc (.cells #[.int .i64 x.kind, .string x.name, .string x.to, .slice au x.b.length cu, .int .i64 x.size] 88)).drew 5 (.slice (some ⟨W.heap.size, 0, none⟩) 1 1) 1 [.int .i64 x.kind, .string x.name, .string x.to, .slice au x.b.length cu, .int .i64 x.size] :=
    (Src.of_block (heap_alloc_new W (.cells #[.int .i64 x.kind, .string x.name, .string x.to, .slice au x.b.length cu, .int .i64 x.size] 88)) 1 1 rfl (by simp [Value.oneCell'])).below (Below.refl _ _).drew
  rw [hsW] at hsrc
  have hszd : (W.alloc (.cells #[.int .i64 x.kind, .string x.name, .string x.to, .slice au x.b.length cu, .int .i64 x.size] 88)).drew.heap.size = w.heap.size + 2 := by show (W.alloc _).heap.size = _; simp [hsW]
  have HB1 := Lib.hid hB1
  have HDst := Lib.hid hdst
  have HSrc := Lib.hid hsrc
  have HSZ := Lib.hid hszd
  have HBX := Lib.hid hbx
  have HP := Lib.hid hpend
  clear hB1 hdst hsrc hszd hbx hpend hB
  go_region_law
    (refine step_append_row _ (by rfl) _ _ _ (by rfl) 88 i0 _ 5 72 Try.underlying82 hi0 hz0 hz1 hz2 rfl (.slice a d.pend.length cap) d.pend.length _ (by rfl) HDst.out
        (.slice (some ⟨w.heap.size + 1, 0, none⟩) 1 1) 1 _ (by rfl) HSrc.out (by unfold maxLen; omega) (by omega) (w.heap.size + 2) HSZ.out ?_; intro a' cap' w2 hrow2 hgrow hat; have hz1' := HSZ.out; have hpb : w2.heap[p]? = W.heap[p]? := (hgrow.block p (by omega) (fun e => hnp e.symm)).trans (Below.heap_alloc W _ _ (by omega)); have q3' := (World.cell?_of_block (a := ⟨p, 3, none⟩) hpb).trans q3; have qf' := (World.frozen?_of_block (a := ⟨p, 3, none⟩) hpb).trans qf; clear hpb hz1')
  all_goals
    obtain ⟨hD3, hM3⟩ := put_mid HX.out HU.out HB1.out hgrow hrow2 rfl rfl hat (by omega)
    have hsz3 := hM3.size
    have hbx3 : (w2.setCell ⟨p, 3, none⟩ (.slice a' (d.pend.length + 1) cap')).heap[w.heap.size]? = some (.cells #[.int .i64 x.kind, .string x.name, .string x.to, .slice au x.b.length cu, .int .i64 x.size] 88 (0, 0)) := by
      rw [heap_setCell_other _ _ _ _ (show w.heap.size ≠ (⟨p, 3, none⟩ : Addr).block from by show w.heap.size ≠ p; omega)]
      exact ((hgrow.block w.heap.size (by have := HSZ.out; omega) (fun e => by have := HP.out.lt e.symm; omega)).trans (Below.heap_alloc W _ _ (by omega))).trans HBX.out
    have hvp3 : ∀ k, (Value.slice a' (d.pend.length + 1) cap').ownBlock = some k → (Value.slice a d.pend.length cap).ownBlock = some k ∨ w.heap.size ≤ k := fun k hk => by
      rcases hat k hk with e | e
      · exact .inl e
      · right; omega
    have hu3 : Bts S (w2.setCell ⟨p, 3, none⟩ (.slice a' (d.pend.length + 1) cap')) (.slice au x.b.length cu) x.b := HU.out.move (fun k hk => hM3.block k (HX.out.lt k hk) (by
      rintro (e | e)
      · exact HX.out.out.1 (e ▸ hk)
      · exact HX.out.out.2.2.2 k e hk)) fun _ h => h
    clear hgrow hrow2 hat q3' qf' b0 b1 b2 b3 b4
    generalize w2.setCell ⟨p, 3, none⟩ (.slice a' (d.pend.length + 1) cap') = W3 at *
    obtain ⟨-, -, r2, -⟩ := hD3.head.cells
    have b0 : W3.cell? ⟨w.heap.size, 0, none⟩ = some (.int .i64 x.kind) := by rw [cell_of_row _ _ _ _ _ _ hbx3]; rfl
    have b1 : W3.cell? ⟨w.heap.size, 1, none⟩ = some (.string x.name) := by rw [cell_of_row _ _ _ _ _ _ hbx3]; rfl
    have b2 : W3.cell? ⟨w.heap.size, 2, none⟩ = some (.string x.to) := by rw [cell_of_row _ _ _ _ _ _ hbx3]; rfl
    have b3 : W3.cell? ⟨w.heap.size, 3, none⟩ = some (.slice au x.b.length cu) := by rw [cell_of_row _ _ _ _ _ _ hbx3]; rfl
    have b4 : W3.cell? ⟨w.heap.size, 4, none⟩ = some (.int .i64 x.size) := by rw [cell_of_row _ _ _ _ _ _ hbx3]; rfl
    have HD3 := Lib.hid hD3
    have HM3 := Lib.hid hM3
    have HU3 := Lib.hid hu3
    have HV3 := Lib.hid hvp3
    clear hD3 hM3 hu3 hvp3 hbx3
    go_wp2_with fail
    go_region_with (go_at_call 51; refine (HDoes.out S _ (HD3.out.now.same (w' := W3.drew) rfl fun _ _ => rfl) (HU3.out.move (w' := W3.drew) (fun _ _ => rfl) fun _ h => h) HD3.out.out.2.2.1 HD3.out.lt).mono ?_; rintro e w5 ⟨rfl, F5, M5⟩)
    all_goals
      have hD5 := DiskAt.doneNow (w := W3.drew) (HD3.out.move (w' := W3.drew) (Nat.le_refl _) fun _ _ => rfl) F5 M5
      have HD5 := Lib.hid hD5
      have HM5 := Lib.hid M5
      clear hD5 F5 M5 b0 b1 b2 b3 b4
      go_wp2_with fail
      go_ret
      refine ⟨rfl, More S W3.drew w5, _, _, HD5.out, ?_, HV3.out, ?_⟩
      · rintro k (hk | hk)
        · exact .inl hk
        · exact .inr (Nat.le_trans hsz3 hk.1)
      · refine Mod.trans (S := fun k => k = p ∨ k = bn ∨ (Value.slice a d.pend.length cap).ownBlock = some k) ((HM3.out.mono ?_).drew) (HM5.out.mono ?_)
        · rintro k - (hk | hk)
          · exact .inl hk
          · exact .inr (.inr hk)
        · rintro k - rfl
          exact .inr (.inl rfl)
end Go.Proofs.Ytpkmnfpbcakflaa
