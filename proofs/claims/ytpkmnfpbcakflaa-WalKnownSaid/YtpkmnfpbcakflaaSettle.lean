/- The walks of disk.settle and disk.Used: ranges over files. No condition. -/
import Derived.Test.YtpkmnfpbcakflaaDoes
namespace Go.Proofs.Ytpkmnfpbcakflaa
open Go.ChangeShapes Go.WideShapes Go.ChangeAt Go.RowKit

/-- a disk's variables -/
def headOf (room : Int) (bs bn : Nat) (vp : Value) (fuse : Int) (down : Bool) : Array Value := #[.int .i64 room, .map (some bs), .map (some bn), vp, .int .i64 fuse, .bool down]
def HeadAt (w : World) (p : Nat) (room : Int) (bs bn : Nat) (vp : Value) (fuse : Int) (down : Bool) : Prop := w.heap[p]? = some (.cells (headOf room bs bn vp fuse down) 84 (0, 0))

theorem HeadAt.cells {w : World} {p : Nat} {room : Int} {bs bn : Nat} {vp : Value} {fuse : Int} {down : Bool} (h : HeadAt w p room bs bn vp fuse down) :
    w.cell? ⟨p, 0, none⟩ = some (.int .i64 room) ∧ w.cell? ⟨p, 1, none⟩ = some (.map (some bs)) ∧ w.cell? ⟨p, 2, none⟩ = some (.map (some bn)) ∧ w.cell? ⟨p, 3, none⟩ = some vp ∧ w.cell? ⟨p, 4, none⟩ = some (.int .i64 fuse) ∧ w.cell? ⟨p, 5, none⟩ = some (.bool down) ∧
      ∀ j, w.frozen? ⟨p, j, none⟩ = false := by
  unfold HeadAt at h
  refine ⟨?_, ?_, ?_, ?_, ?_, ?_, fun j => frozen_of_row w p j _ _ h⟩ <;> (rw [cell_of_row _ _ _ _ _ _ h]; rfl)
theorem HeadAt.lt {w : World} {p : Nat} {room : Int} {bs bn : Nat} {vp : Value} {fuse : Int} {down : Bool} (h : HeadAt w p room bs bn vp fuse down) : p < w.heap.size := heap_lt h
theorem HeadAt.same {w w' : World} {p : Nat} {room : Int} {bs bn : Nat} {vp : Value} {fuse : Int} {down : Bool} (h : HeadAt w p room bs bn vp fuse down) (hs : w'.heap[p]? = w.heap[p]?) : HeadAt w' p room bs bn vp fuse down := hs.trans h
theorem HeadAt.set1 {w : World} {p : Nat} {room : Int} {bs bn : Nat} {vp : Value} {fuse : Int} {down : Bool} (h : HeadAt w p room bs bn vp fuse down) (b : Nat) : HeadAt (w.setCell ⟨p, 1, none⟩ (.map (some b))) p room b bn vp fuse down := heap_setCell_same w p 1 _ _ _ h
theorem HeadAt.set2 {w : World} {p : Nat} {room : Int} {bs bn : Nat} {vp : Value} {fuse : Int} {down : Bool} (h : HeadAt w p room bs bn vp fuse down) (b : Nat) : HeadAt (w.setCell ⟨p, 2, none⟩ (.map (some b))) p room bs b vp fuse down := heap_setCell_same w p 2 _ _ _ h
theorem HeadAt.set3 {w : World} {p : Nat} {room : Int} {bs bn : Nat} {vp : Value} {fuse : Int} {down : Bool} (h : HeadAt w p room bs bn vp fuse down) (v : Value) : HeadAt (w.setCell ⟨p, 3, none⟩ v) p room bs bn v fuse down := heap_setCell_same w p 3 _ _ _ h
theorem HeadAt.set4 {w : World} {p : Nat} {room : Int} {bs bn : Nat} {vp : Value} {fuse : Int} {down : Bool} (h : HeadAt w p room bs bn vp fuse down) (n : Int) : HeadAt (w.setCell ⟨p, 4, none⟩ (.int .i64 n)) p room bs bn vp n down := heap_setCell_same w p 4 _ _ _ h
theorem HeadAt.set5 {w : World} {p : Nat} {room : Int} {bs bn : Nat} {vp : Value} {fuse : Int} {down : Bool} (h : HeadAt w p room bs bn vp fuse down) (x : Bool) : HeadAt (w.setCell ⟨p, 5, none⟩ (.bool x)) p room bs bn vp fuse x := heap_setCell_same w p 5 _ _ _ h
theorem HeadAt.set0 {w : World} {p : Nat} {room : Int} {bs bn : Nat} {vp : Value} {fuse : Int} {down : Bool} (h : HeadAt w p room bs bn vp fuse down) (n : Int) : HeadAt (w.setCell ⟨p, 0, none⟩ (.int .i64 n)) p n bs bn vp fuse down := heap_setCell_same w p 0 _ _ _ h
theorem FilesAt.not_head {S : Nat → Prop} {w : World} {b : Nat} {D : Fs} (h : FilesAt S w b D) {p : Nat} {room : Int} {bs bn : Nat} {vp : Value} {fuse : Int} {down : Bool} (hp : HeadAt w p room bs bn vp fuse down) : b ≠ p := by
  rintro rfl
  obtain ⟨es, cl, hb, _⟩ := h
  unfold HeadAt at hp
  rw [hb] at hp; cases hp

/-- a slice's parts -/
abbrev Sl := Option Addr × Nat × Nat
def mkSl (x : Sl) : Value := .slice x.1 x.2.1 x.2.2
theorem key_form {key : Value} {kl : Lit} (h : keyOf Try.prog 9 key = some kl) : ∃ s : ByteArray, key = .string s ∧ s.size ≤ maxLen ∧ kl = strKey s := by
  rw [keyOf_string Try.underlying9] at h
  unfold mapKey at h
  rw [Try.underlying9] at h
  cases key <;> simp at h
  rename_i s
  exact ⟨s, rfl, h.1, h.2.symm⟩
theorem key_inv : ∀ key kl, keyOf Try.prog 9 key = some kl → ∃ s : ByteArray, key = .string s := fun key kl h => by
  obtain ⟨s, h, _⟩ := key_form h
  exact ⟨s, h⟩
theorem val_inv {S : Nat → Prop} {w : World} : ∀ v y, RB S w v = some y → ∃ c, v = mkSl c := fun v y h => by
  obtain ⟨b, _, hb⟩ := RB_inv h
  obtain ⟨a, c, rfl, _⟩ := hb.ex
  exact ⟨(a, b.length, c), rfl⟩

/-- what settle leaves: a new block with the same files -/
def SettleOut (w w' : World) (e : Ending) (S : Nat → Prop) (p : Nat) (room : Int) (bn : Nat) (fuse : Int) (down : Bool) (D : Fs) : Prop :=
  e = .returned (.tuple #[]) ∧ HeadAt w' p room w.heap.size bn (.slice none 0 0) fuse down ∧ FilesAt S w' w.heap.size D ∧ FilesAt S w' bn D ∧ Mod (fun k => k = p) w w'

set_option maxRecDepth 100000 in
set_option maxHeartbeats 2000000 in
theorem settle_any (S : Nat → Prop) (p : Nat) (room : Int) (bs bn : Nat) (vp : Value) (fuse : Int) (down : Bool) (D : Fs) (w : World) (hH : HeadAt w p room bs bn vp fuse down) (hF : FilesAt S w bn D) (hS : ∀ k, S k → k < w.heap.size) (hSp : ¬ S p) (hsz : Maps.size D ≤ 1000000) :
    Calls Try.prog 52 #[.pointer (some ⟨p, 0, none⟩)] w fun e w' => SettleOut w w' e S p room bn fuse down D := by
  have hmm := @run_makeMap Try.prog
  obtain ⟨c0, c1, c2, c3, -, -, hf⟩ := hH.cells
  have hpl := hH.lt
  have hbl := hF.lt
  have hbp := hF.not_head hH
  have es : (w.setCell ⟨p, 1, none⟩ (.map (some w.heap.size))).heap.size = w.heap.size := by simp [World.setCell]
  have e1 : ((w.setCell ⟨p, 1, none⟩ (.map (some w.heap.size))).alloc (.map #[] 0)).heap.size = w.heap.size + 1 := by simp [World.setCell]
  have hM1 : Mod (fun k => k = p) w ((w.setCell ⟨p, 1, none⟩ (.map (some w.heap.size))).alloc (.map #[] 0)) := (Mod.setCell (S := fun k => k = p) (p := ⟨p, 1, none⟩) (Mod.refl _ w) (.inr rfl) _).alloc _
  have hH1 : HeadAt ((w.setCell ⟨p, 1, none⟩ (.map (some w.heap.size))).alloc (.map #[] 0)) p room w.heap.size bn vp fuse down := (hH.set1 _).same (Below.heap_alloc _ _ _ (by rw [es]; exact hpl))
  have hown : ((w.setCell ⟨p, 1, none⟩ (.map (some w.heap.size))).alloc (.map #[] 0)).ownsMap Try.prog 9 (RB S w) bn (Maps.size D) D := World.ownsMap.alloc (World.ownsMap.setCell hF hbp _) _
  have hnew : ((w.setCell ⟨p, 1, none⟩ (.map (some w.heap.size))).alloc (.map #[] 0)).ownsMap Try.prog 9 (RB S w) w.heap.size 0 (.map []) := by
    have := World.ownsMap_made (H := List Int) (w.setCell ⟨p, 1, none⟩ (.map (some w.heap.size))) Try.prog 9 (RB S w)
    rwa [es] at this
  have f1 := hf 1
  go_enter Try.func52, Try.ntmps52
  go_wp2_with (first
    | (at_range; refine wpList_range_own _ rfl _ 81 rfl 9 25 keyed Try.underlying81 _ bn (Maps.size D) _ rfl hown ?_; intro w0 hrg0 hg0 hs0))
  go_frame
  have hH0 := hH1.same (hg0.block p (by rw [e1]; omega) (by simp))
  have hM0 : Mod (fun k => k = p) w w0 := hM1.trans (Mod.grown (Mod.refl _ _) hg0 (by simp))
  have hnew0 := hnew.kept hg0 (by simp)
  rw [e1] at hrg0 hs0 ⊢
  clear hH1 hM1 hown hnew c0 c1 c2 c3 hf f1 hH e1 es hmm hg0 hs0
  go_loopw [2, 3] (fun _ _ wr => ∃ (left : Lit → Bool) (cnt : Nat) (Dout : Fs), wr.ranges Try.prog 9 (RB S w) bn (w.heap.size + 1) (Maps.size D) D left cnt ∧ cnt ≤ Maps.size D ∧
      wr.ownsMap Try.prog 9 (RB S w) w.heap.size (Maps.size D - cnt) Dout ∧ Maps.Agree Dout D left ∧ HeadAt wr p room w.heap.size bn vp fuse down ∧ Mod (fun k => k = p) w wr)
    (fun _ _ wr => wr.rangeLeft bn (w.heap.size + 1))
  case atStart => exact ⟨_, _, .map [], hrg0, Nat.le_refl _, hnew0.mono (Nat.zero_le _), Maps.agree_start D, hH0, hM0⟩
  case round =>
    obtain ⟨left, cnt, Dout, hrg, hcs, hout, hA, hH, hM⟩ := hrel
    clear hrg0 hnew0 hH0 hM0
    go_wp2_with (at_next; refine wpList_next_ranges _ rfl _ rfl 9 keyed (RB S w) Value.string mkSl key_inv val_inv bn (w.heap.size + 1) (Maps.size D) _ _ _ rfl hrg ?_ ?_)
    · intro hc0 hl0
      obtain ⟨-, -, -, c3, -, -, hf⟩ := hH.cells
      have f3 := hf 3
      subst hc0
      have e := Maps.agree_end hA hl0 (hout.canon keyed) (World.ownsMap.canon hF keyed)
      subst e
      have HO := Lib.hid hout
      have HH := Lib.hid hH
      have HM := Lib.hid hM
      have HR := Lib.hid hrg.owns
      clear hout hH hM hrg hA hl0 hf
      go_wp2_with fail
      go_end0
      have hmm : ∀ k, S k → (wr.setCell ⟨p, 3, none⟩ (.slice none 0 0)).heap[k]? = w.heap[k]? := fun k hk => by
        rw [heap_setCell_other _ _ _ _ (show k ≠ (⟨p, 3, none⟩ : Addr).block from fun e => hSp ((show k = p from e) ▸ hk))]
        exact HM.out.block k (hS k hk) (fun e => hSp (e ▸ hk))
      have key : ∀ b n, wr.ownsMap Try.prog 9 (RB S w) b n Dout → b ≠ p → FilesAt S (wr.setCell ⟨p, 3, none⟩ (.slice none 0 0)) b Dout := fun b n h hb => by
        obtain ⟨es, clock, hb0, F, hn2, hD⟩ := h
        obtain ⟨F', hmp, _⟩ := F.stay (R' := RB S (wr.setCell ⟨p, 3, none⟩ (.slice none 0 0))) (fun x _ z hz => by
          obtain ⟨c, rfl, hc⟩ := RB_inv hz
          exact RB_eq (hc.move hmm fun _ h => h))
        exact FilesAt.of_owns ⟨es, clock, by rw [heap_setCell_other _ _ _ _ (show b ≠ (⟨p, 3, none⟩ : Addr).block from hb)]; exact hb0, F', hn2, by rw [hmp]; exact hD⟩
      exact ⟨rfl, HH.out.set3 _, key _ _ HO.out (by omega), key _ _ HR.out hbp, Mod.setCell (S := fun k => k = p) (p := ⟨p, 3, none⟩) HM.out (.inr rfl) _⟩
    · intro x ca cn cc kl d ps w1 cnt1 hkey hlx hRv hat hrg1 hlt hg1 hs1 hen
      obtain ⟨s, -, -, -⟩ := key_form hkey
      obtain ⟨bb, hz, -⟩ := RB_inv hRv
      obtain ⟨rfl, rfl⟩ : d = .held bb ∧ ps = [] := by simpa using hz
      clear hz
      have hH1 := hH.same (hg1.block p hH.lt (by simp; omega))
      have hM1 : Mod (fun k => k = p) w w1 := hM.grown hg1 (by simp)
      have hout1 := hout.kept hg1 (by simp)
      obtain ⟨-, c1, -, -, -, -, -⟩ := hH1.cells
      have hsz1 := hM1.size
      have HH1 := Lib.hid hH1
      have HM1 := Lib.hid hM1
      have HAt := Lib.hid hat
      have HA := Lib.hid hA
      have HL := Lib.hid hlx
      have HOM := Lib.hid hout.isMap
      have HRL := Lib.hid hrg.left_eq
      have HKey := Lib.hid hkey
      clear hH1 hM1 hat hA hlx hout hrg hH hM hg1 hs1
      go_wp2_with (at_mapUpdate; refine wpList_mapUpdate_own _ rfl _ _ _ 81 rfl 9 25 keyed Try.underlying81 _ w.heap.size _ _ rfl hout1 (by unfold maxLen; omega) _ _ _ rfl rfl hkey _ [] hRv ?_; intro w2 hout2 hg2; go_frame)
      have hrg2 := hrg1.kept hg2 (fun e => by have := Option.some.inj e; omega) (fun e => by have := Option.some.inj e; omega)
      have hH2 := HH1.out.same (hg2.block p HH1.out.lt (by simp; omega))
      have hM2 : Mod (fun k => k = p) w w2 := HM1.out.grown hg2 (by intro k hk; simp at hk; omega)
      have HG := Lib.hid hrg2
      have HO2 := Lib.hid hout2
      clear hrg1 hout1 hrg2 hout2 hg2 c1
      go_roundw
      case rel =>
        exact ⟨_, cnt1, _, HG.out, by omega, HO2.out.mono (by omega), Maps.agree_step HA.out HOM.out (by obtain ⟨s, _, _, rfl⟩ := key_form HKey.out; exact isKey s) HAt.out, hH2, hM2⟩
      case measure => rw [HG.out.left_eq, HRL.out]; exact hlt
end Go.Proofs.Ytpkmnfpbcakflaa
