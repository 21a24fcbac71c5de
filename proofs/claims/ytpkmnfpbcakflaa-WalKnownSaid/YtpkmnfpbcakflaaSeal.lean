/- The walks of pack's Seal and Unseal. No condition. -/
import Derived.Test.YtpkmnfpbcakflaaSum
import Derived.Test.YtpkmnfpbcakflaaCalls
namespace Go.Proofs.Ytpkmnfpbcakflaa
open Go.ChangeShapes Go.WideShapes Go.ChangeAt Go.RowKit

theorem u8w (z : Int) : IntKind.u8.wrap z = z % 256 := rfl
/-- the three bytes of a part -/
def le3 (z : Int) : List Int := [z % 256, z / 256 % 256, z / 65536 % 256]
/-- bytes with their sum behind -/
def sealL (b : List Int) : List Int := b ++ (le3 (sumZ b).1 ++ le3 (sumZ b).2)
theorem sealL_len (b : List Int) : (sealL b).length = b.length + 6 := by simp [sealL, le3]
def partsL (p q : Int) : Nat → List Int
  | 0 => []
  | 1 => le3 p
  | _ => le3 p ++ le3 q
theorem le3_range (z : Int) : ∀ x ∈ le3 z, 0 ≤ x ∧ x < 256 := by
  intro x hx
  simp only [le3, List.mem_cons, List.not_mem_nil, or_false] at hx
  rcases hx with rfl | rfl | rfl <;> omega
theorem sealL_range (b : List Int) (hb : ∀ x ∈ b, 0 ≤ x ∧ x < 256) : ∀ x ∈ sealL b, 0 ≤ x ∧ x < 256 := by
  intro x hx
  unfold sealL at hx
  rcases List.mem_append.1 hx with hx | hx
  · exact hb x hx
  · rcases List.mem_append.1 hx with hx | hx
    · exact le3_range _ x hx
    · exact le3_range _ x hx

/-- bytes in new memory -/
def NewBytes (w w' : World) (e : Ending) (b : List Int) : Prop := ∃ a c, e = .returned (.slice a b.length c) ∧ Row w' 5 1 (.slice a b.length c) b.length (byteCells b) ∧ (∀ k, (Value.slice a b.length c).ownBlock = some k → w.heap.size ≤ k) ∧ Below w.heap.size w w'

set_option maxRecDepth 100000 in
set_option maxHeartbeats 1000000 in
theorem seal_any (a : Option Addr) (n c : Nat) (b : List Int) (w : World) (h : Src w 1 (.slice a n c) n (byteCells b)) (hb : ∀ x ∈ b, 0 ≤ x ∧ x < 256) (hn : n ≤ 1000000000) :
    Calls Try.prog 81 #[.slice a n c] w fun e w' => NewBytes w w' e (sealL b) := by
  obtain ⟨i0, hi0, hz0, hz1, hz2⟩ := info_parts infoB
  have hl : b.length = n := by have := h.1; rw [byteCells_len] at this; omega
  have hsrc : Src (w.alloc (.cells #[] 5)) 1 (.slice a n c) n (byteCells b) := h.below ((Below.refl _ w).alloc (Nat.le_refl _) _)
  have hdst := Row.lit_at w 5 1 #[] 0 w.heap.size rfl (Nat.zero_le _) rfl
  have HSum := Lib.hid (fun (w2 : World) (hw : Below w.heap.size w w2) => sum_any a n c b w2 (h.below hw) hb hn)
  have hr := sumZ_range b
  have HL := Lib.hid hl
  obtain ⟨p, hp⟩ : ∃ p, (sumZ b).1 = p := ⟨_, rfl⟩
  obtain ⟨q, hq⟩ : ∃ q, (sumZ b).2 = q := ⟨_, rfl⟩
  rw [hp, hq] at hr HSum
  have HPQ := Lib.hid (And.intro hp hq)
  clear h hl hp hq
  go_enter Try.func81, Try.ntmps81
  go_wp2_with (at_builtin; refine wpList_append_row _ rfl _ _ 25 rfl 5 i0 _ 1 1 Try.underlying25 hi0 hz0 hz1 hz2 rfl (.slice (some ⟨w.heap.size, 0, none⟩) 0 0) 0 [] rfl hdst _ _ _ rfl hsrc (by unfold maxLen; omega) (by omega) (w.heap.size + 1) (by simp) ?_; intro a' cap' w2 hown2 hgrow hat)
  simp only [Nat.zero_add, List.nil_append] at hown2 hat
  have hB2 : Below w.heap.size w w2 := ((Below.refl _ w).alloc (Nat.le_refl _) _).grown hgrow (by simp) (by intro k hk; simp [Value.ownBlock] at hk; omega)
  have hf2 : ∀ k, (Value.slice a' n cap').ownBlock = some k → w.heap.size ≤ k := fun k hk => by
    rcases hat k hk with e | e
    · simp [Value.ownBlock] at e; omega
    · omega
  have HB2 := Lib.hid hB2
  have HR2 := Lib.hid hown2
  have HF2 := Lib.hid hf2
  clear hown2 hgrow hat hB2 hf2 hsrc hdst
  go_wp2_with fail
  refine (HSum.out _ HB2.out).mono ?_
  rintro e w' ⟨rfl, rfl⟩
  clear HSum
  go_wp2_with fail
  have hbF : (w2.alloc (.cells #[.float .f64 (fi p), .float .f64 (fi q)] 134)).heap[w2.heap.size]? = some (.cells #[.float .f64 (fi p), .float .f64 (fi q)] 134 (0, 0)) := heap_alloc_new w2 _
  have hB3 : Below w2.heap.size w2 (w2.alloc (.cells #[.float .f64 (fi p), .float .f64 (fi q)] 134)) := (Below.refl _ w2).alloc (Nat.le_refl _) _
  have hsz3 : (w2.alloc (.cells #[.float .f64 (fi p), .float .f64 (fi q)] 134)).heap.size = w2.heap.size + 1 := by simp
  have hR3 := HR2.out.of_block fun k hk => hB3.block k (HR2.out.lt hk)
  generalize w2.alloc (.cells #[.float .f64 (fi p), .float .f64 (fi q)] 134) = w3 at *
  have hnb : (Value.slice a' n cap').ownBlock ≠ some w2.heap.size := fun e => by have := HR2.out.lt e; omega
  have HBF := Lib.hid hbF
  have HB3 := Lib.hid hB3
  have HZ3 := Lib.hid hsz3
  have HR3 := Lib.hid hR3
  have HNB := Lib.hid hnb
  clear hbF hB3 hsz3 hR3 hnb
  go_loopw [3, 19] (fun out i wr => ∃ k : Nat, i = .int .i64 k ∧ k ≤ 2 ∧ Row wr 5 1 out (b ++ partsL p q k).length (byteCells (b ++ partsL p q k)) ∧ (∀ j, out.ownBlock = some j → w.heap.size ≤ j ∧ j ≠ w2.heap.size) ∧ wr.heap[w2.heap.size]? = w3.heap[w2.heap.size]? ∧ Below w.heap.size w wr ∧ w3.heap.size ≤ wr.heap.size) (fun _ i _ => 2 - (intOf i).toNat)
  case atStart =>
    refine ⟨0, rfl, by omega, ?_, fun j hj => ⟨HF2.out j hj, fun e => HNB.out (e ▸ hj)⟩, rfl, HB2.out.trans (HB3.out.mono HB2.out.size), Nat.le_refl _⟩
    have := HR3.out
    simp only [partsL, List.append_nil, HL.out] at this ⊢
    exact this
  case round =>
    obtain ⟨k, rfl, hk, hR, hfr, hbk, hB, hsz⟩ := hrel
    obtain ⟨ao, co, rfl, hco, hmo, hmc⟩ := hR.form
    have HR := Lib.hid hR
    have HFr := Lib.hid hfr
    have HB := Lib.hid hB
    have HBk := Lib.hid (hbk.trans HBF.out)
    have hplen : (b ++ partsL p q k).length ≤ 1000000010 := by
      rw [List.length_append, HL.out]
      have : (partsL p q k).length ≤ 6 := by match k with
        | 0 => simp [partsL]
        | 1 => simp [partsL, le3]
        | k + 2 => simp [partsL, le3]
      omega
    have hu8 := u8w
    clear hR hfr hB hbk
    by_cases hlt : k < 2
    · have step : ∀ (z : Int), 0 ≤ z → z < 16777199 → wr.cell? ⟨w2.heap.size, k, none⟩ = some (.float .f64 (fi z)) → partsL p q (k + 1) = partsL p q k ++ le3 z → Hid True → Hid True := fun _ _ _ _ _ h => h
      obtain ⟨z, hz0', hz1', hcz, hpz⟩ : ∃ z : Int, 0 ≤ z ∧ z < 16777199 ∧ wr.cell? ⟨w2.heap.size, k, none⟩ = some (.float .f64 (fi z)) ∧ partsL p q (k + 1) = partsL p q k ++ le3 z := by
        rcases (show k = 0 ∨ k = 1 by omega) with rfl | rfl
        · exact ⟨p, hr.1, hr.2.1, by rw [cell_of_row _ _ _ _ _ _ HBk.out]; rfl, by simp [partsL]⟩
        · exact ⟨q, hr.2.2.1, hr.2.2.2, by rw [cell_of_row _ _ _ _ _ _ HBk.out]; rfl, by simp [partsL]⟩
      clear step
      have hpz2 : byteCells (b ++ partsL p q (k + 1)) = byteCells (b ++ partsL p q k) ++ [.int .u8 (z % 256), .int .u8 (z / 256 % 256), .int .u8 (z / 65536 % 256)] := by
        rw [hpz, ← List.append_assoc, byteCells_append]; rfl
      have hpl : (b ++ partsL p q (k + 1)).length = (b ++ partsL p q k).length + 3 := by rw [hpz]; simp [le3]; omega
      have cv : ∀ w, (convert 134 114 (.float .f64 (fi z))).run Try.prog w = .ok (.int .u32 z) w := fun w => run_convert_float_int w 134 114 .f64 .u32 _ _ (by rw [Try.underlying134]; rfl) Try.underlying114 (toInt_fi z (by omega) .u32 (by have : IntKind.u32.min = 0 := rfl; omega) (by have : IntKind.u32.max = 4294967295 := rfl; omega))
      obtain ⟨L, hL⟩ : ∃ L, (b ++ partsL p q k).length = L := ⟨_, rfl⟩
      obtain ⟨cells, hcl⟩ : ∃ cells, byteCells (b ++ partsL p q k) = cells := ⟨_, rfl⟩
      rw [hL] at HR hplen hco hpl HFr ⊢
      rw [hcl] at HR hpz2
      have hdst : Row (wr.alloc (.cells #[.int .u8 (z % 256), .int .u8 (z / 256 % 256), .int .u8 (z / 65536 % 256)] 5)) 5 1 (.slice ao L co) L cells := HR.out.of_block fun j hj => Below.heap_alloc wr _ j (HR.out.lt hj)
      have hsrc : Src (wr.alloc (.cells #[.int .u8 (z % 256), .int .u8 (z / 256 % 256), .int .u8 (z / 65536 % 256)] 5)) 1 (.slice (some ⟨wr.heap.size, 0, none⟩) 3 3) 3 [.int .u8 (z % 256), .int .u8 (z / 256 % 256), .int .u8 (z / 65536 % 256)] := Src.of_block (heap_alloc_new wr _) 3 3 rfl (by simp [Value.oneCell'])
      have HD := Lib.hid hdst
      have HSr := Lib.hid hsrc
      have HPZ := Lib.hid (And.intro hpz2 hpl)
      have hzk : w3.heap.size ≤ wr.heap.size := hsz
      have HZK := Lib.hid hzk
      clear hdst hsrc hpz hpz2 hpl hL hcl hzk hsz
      go_wp2_with (at_builtin; refine wpList_append_row _ rfl _ _ 25 rfl 5 i0 _ 1 1 Try.underlying25 hi0 hz0 hz1 hz2 rfl (.slice ao L co) L _ rfl HD.out (.slice (some ⟨wr.heap.size, 0, none⟩) 3 3) 3 [.int .u8 (z % 256), .int .u8 (z / 256 % 256), .int .u8 (z / 65536 % 256)] rfl HSr.out (by unfold maxLen; omega) (by omega) (wr.heap.size + 1) (by simp) ?_; intro a5 cap5 w5 hown5 hgrow5 hat5)
      go_roundw
      case rel =>
        have hsz5 := hgrow5.size
        have hlt2 : w2.heap.size < wr.heap.size := by have := HZ3.out; have := HZK.out; omega
        refine ⟨k + 1, by go_num, by omega, ?_, fun j hj => ?_, ?_, (HB.out.alloc HB.out.size _).grown hgrow5 (by have := HB.out.size; simp; omega) fun j hj => (HFr.out j hj).1, ?_⟩
        · rw [HPZ.out.1, HPZ.out.2]; exact hown5
        · rcases hat5 j hj with h | h
          · exact HFr.out j h
          · have := HB.out.size; exact ⟨by omega, by omega⟩
        · exact (hgrow5.block w2.heap.size (by simp; omega) (fun e => (HFr.out _ e.symm).2 rfl)).trans ((Below.heap_alloc wr _ _ hlt2).trans (HBk.out.trans HBF.out.symm))
        · simp at hsz5; have := HZK.out; omega
      case measure => simp [intOf]; omega
    · obtain rfl : k = 2 := by omega
      have hse : b ++ partsL p q 2 = sealL b := by unfold sealL; rw [HPQ.out.1, HPQ.out.2]; rfl
      rw [hse] at HR HFr ⊢
      clear hse hplen
      go_wp2_with fail
      go_ret
      exact ⟨ao, co, rfl, HR.out, fun j hj => (HFr.out j hj).1, HB.out⟩
end Go.Proofs.Ytpkmnfpbcakflaa
