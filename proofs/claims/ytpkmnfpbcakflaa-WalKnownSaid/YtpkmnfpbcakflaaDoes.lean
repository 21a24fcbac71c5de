/- The walk of disk.does: a deed is done to files. No condition. -/
import Derived.Test.YtpkmnfpbcakflaaFiles
import Derived.WalkKit
import Derived.ProofKit
import Derived.OpenShut
import Derived.OwnWalk
import Derived.Deep.RegionHeld3
import Derived.Deep.AppendLies
import Derived.Deep.QuietTactic
import Derived.BigQuiet
import Derived.RegionTactic
import Derived.Outline
namespace Go.Proofs.Ytpkmnfpbcakflaa
open Go.ChangeShapes Go.WideShapes Go.ChangeAt Go.RowKit

theorem infoB : (Try.prog.info? 5).map (fun i => (i.zero, i.size, i.bytes)) = some (some (.int .u8 0), 1, 1) := by kernel_rfl

/-- the blocks of S and the new ones -/
def More (S : Nat → Prop) (w w' : World) (k : Nat) : Prop := S k ∨ (w.heap.size ≤ k ∧ k < w'.heap.size)
theorem Bts.lt {S : Nat → Prop} {w : World} {v : Value} {b : List Int} (h : Bts S w v b) (h0 : 0 < b.length) : ∀ k, v.ownBlock = some k → k < w.heap.size := h.src.lt h0
/-- of the new blocks those alone that are there -/
theorem FilesAt.cutDown {S : Nat → Prop} {w w' : World} {b : Nat} {D : Fs} (h : FilesAt (fun k => S k ∨ w.heap.size ≤ k) w' b D) : FilesAt (More S w w') w' b D :=
  h.move rfl fun _ _ hv => ⟨hv.ex, hv.src, hv.byte, fun h0 k hk => by
    rcases hv.own h0 k hk with h | h
    · exact .inl h
    · exact .inr ⟨h, hv.lt h0 k hk⟩⟩

/-- what a deed leaves -/
def DoesOut (w w' : World) (e : Ending) (S : Nat → Prop) (b : Nat) (D' : Fs) : Prop := e = .returned (.tuple #[]) ∧ FilesAt (More S w w') w' b D' ∧ Mod (fun k => k = b) w w'

theorem put_ok {S : Nat → Prop} {b : Nat} {D : Fs} {w w2 : World} {c : List Int} {a2 : Option Addr} {n2 c2 : Nat} {cells : List Value} (hF : FilesAt S w b D) (hb : ¬ S b) (hS : ∀ k, S k → k < w.heap.size) (hsz : Maps.size D ≤ 1000000) (hB : Below w.heap.size w w2)
    (R : Row w2 5 1 (.slice a2 n2 c2) n2 cells) (hn : n2 = c.length) (hcells : cells = byteCells c) (hbyte : ∀ n ∈ c, 0 ≤ n ∧ n < 256) (hown : ∀ k, (Value.slice a2 n2 c2).ownBlock = some k → w.heap.size ≤ k) :
    PutOk (fun k => S k ∨ w.heap.size ≤ k) b D c w2 (.slice a2 n2 c2) := by
  subst hn hcells
  have hbl := hF.lt
  refine ⟨hF.move (hB.block b hbl) fun v c h => h.move (fun k hk => hB.block k (hS k hk)) fun _ h => .inl h, Bts.of_row R hbyte fun k hk => .inr (hown k hk), ?_, by unfold maxLen; omega⟩
  rintro (h | h)
  · exact hb h
  · omega

set_option maxRecDepth 100000 in
set_option maxHeartbeats 2000000 in
theorem does_append (S : Nat → Prop) (b : Nat) (D : Fs) (name to : ByteArray) (bs : List Int) (u : Value) (size : Int) (w : World) (hF : FilesAt S w b D) (hu : Bts S w u bs) (hn : name.size ≤ maxLen) (hb : ¬ S b) (hS : ∀ k, S k → k < w.heap.size)
    (hlen : (getF D name).length + bs.length ≤ 70368744177664) (hsz : Maps.size D ≤ 1000000) :
    Calls Try.prog 51 #[.map (some b), .agg #[.int .i64 0, .string name, .string to, u, .int .i64 size]] w fun e w' => DoesOut w w' e S b (putF D name (getF D name ++ bs)) := by
  obtain ⟨i0, hi0, hz0, hz1, hz2⟩ := info_parts infoB
  obtain ⟨v0, hv0, hlook⟩ := hF.look name hn
  obtain ⟨upd, hupd⟩ := exists_put (fun k => S k ∨ w.heap.size ≤ k) b D (getF D name ++ bs) name hn
  have hrun := fun W v h => (hupd W v h).1
  have HUpd := Lib.hid hupd
  have hbl := hF.lt
  obtain ⟨au, cu, rfl, hcu1, hcu2⟩ := hu.ex
  obtain ⟨a0, c0, rfl, hc01, hc02⟩ := hv0.ex
  have hbyte : ∀ n ∈ getF D name ++ bs, 0 ≤ n ∧ n < 256 := fun n hn => by
    rcases List.mem_append.1 hn with h | h
    · exact hv0.byte n h
    · exact hu.byte n h
  have HOK := Lib.hid (fun (w2 : World) (a2 : Option Addr) (n2 c2 : Nat) (cells : List Value) => put_ok (w2 := w2) (c := getF D name ++ bs) (a2 := a2) (n2 := n2) (c2 := c2) (cells := cells) hF hb hS hsz)
  have HB0 := Lib.hid hbyte
  have hsu := hu.src
  have hs0 := hv0.src
  generalize hg : getF D name = g0 at *
  clear hg hupd hu hv0 hbyte hF hS
  go_enter Try.func51, Try.ntmps51
  go_wp2_with fail
  have hB := (Below.refl w.heap.size w).alloc (Nat.le_refl _) (.cells #[.int .i64 0, .string name, .string to, .slice au bs.length cu, .int .i64 size] 88)
  have q1 : (w.alloc (.cells #[.int .i64 0, .string name, .string to, .slice au bs.length cu, .int .i64 size] 88)).cell? ⟨w.heap.size, 1, none⟩ = some (.string name) := by simp
  have q3 : (w.alloc (.cells #[.int .i64 0, .string name, .string to, .slice au bs.length cu, .int .i64 size] 88)).cell? ⟨w.heap.size, 3, none⟩ = some (.slice au bs.length cu) := by simp
  have hsW : (w.alloc (.cells #[.int .i64 0, .string name, .string to, .slice au bs.length cu, .int .i64 size] 88)).heap.size = w.heap.size + 1 := by simp
  generalize w.alloc (.cells #[.int .i64 0, .string name, .string to, .slice au bs.length cu, .int .i64 size] 88) = W at *
  have hBe := (hB.alloc hB.size (.cells #[] 5))
  have l1 := (hlook W.drew (hB.block b hbl)).1
  have l2 := (hlook (W.alloc (.cells #[] 5)).drew (hBe.block b hbl)).1
  have hs0e : Src (W.alloc (.cells #[] 5)).drew 1 (.slice a0 g0.length c0) g0.length (byteCells g0) := hs0.below (hBe.drew)
  have hde : Row (W.alloc (.cells #[] 5)).drew 5 1 (.slice (some ⟨w.heap.size + 1, 0, none⟩) 0 0) 0 (#[] : Array Value).toList := (Row.lit_at W 5 1 #[] 0 (w.heap.size + 1) hsW (Nat.zero_le _) rfl).of_block (fun _ _ => rfl)
  have hBd : Below w.heap.size w (W.alloc (.cells #[] 5)).drew := hBe.drew
  have hszd : (W.alloc (.cells #[] 5)).drew.heap.size = w.heap.size + 2 := by show (W.alloc (.cells #[] 5)).heap.size = _; simp [hsW]
  have hr1 : (W.alloc (.cells #[] 5)).drew.cell? ⟨w.heap.size, 1, none⟩ = some (.string name) := (World.cell?_of_block (a := ⟨w.heap.size, 1, none⟩) (Below.heap_alloc W _ _ (show w.heap.size < W.heap.size by omega))).trans q1
  have hr3 : (W.alloc (.cells #[] 5)).drew.cell? ⟨w.heap.size, 3, none⟩ = some (.slice au bs.length cu) := (World.cell?_of_block (a := ⟨w.heap.size, 3, none⟩) (Below.heap_alloc W _ _ (show w.heap.size < W.heap.size by omega))).trans q3
  have HR1 := Lib.hid hr1
  have HR3 := Lib.hid hr3
  have HLook := Lib.hid hlook
  have HSU := Lib.hid hsu
  have HDE := Lib.hid hde
  have HS0E := Lib.hid hs0e
  have HBD := Lib.hid hBd
  have HSZ := Lib.hid hszd
  clear hlook hsu hs0 hde hs0e hBe hBd hszd hB hr1 hr3
  go_region_held3 (fun w' => w'.cell? ⟨w.heap.size, 1, none⟩ = some (.string name) ∧ w'.cell? ⟨w.heap.size, 3, none⟩ = some (.slice au bs.length cu))
    (first | go_keep | exact ⟨p5, p6⟩ | exact ⟨p3, p4⟩ | exact ⟨p1, p2⟩)
    (first
      | (refine step_append_row _ (by rfl) _ _ _ (by rfl) 5 i0 _ 1 1 Try.underlying25 hi0 hz0 hz1 hz2 rfl (.slice (some ⟨w.heap.size + 1, 0, none⟩) 0 0) 0 _ (by rfl) HDE.out
          (.slice a0 g0.length c0) g0.length _ (by rfl) HS0E.out (by unfold maxLen; omega) (by omega) (w.heap.size + 2) HSZ.out ?_; intro a1 c1 w1 hrow1 hgrow1 hat1
         have hB1 := HBD.out.grown hgrow1 (by have := HSZ.out; omega) (by intro k hk; simp [Value.ownBlock] at hk; omega)
         have hz1 := HSZ.out
         have p1 : w1.cell? ⟨w.heap.size, 1, none⟩ = some (.string name) := (World.cell?_of_block (a := ⟨w.heap.size, 1, none⟩) (hgrow1.block w.heap.size (by omega) (by simp [Value.ownBlock]))).trans HR1.out
         have p2 : w1.cell? ⟨w.heap.size, 3, none⟩ = some (.slice au bs.length cu) := (World.cell?_of_block (a := ⟨w.heap.size, 3, none⟩) (hgrow1.block w.heap.size (by omega) (by simp [Value.ownBlock]))).trans HR3.out
         have hat1' : ∀ k, (Value.slice a1 (0 + g0.length) c1).ownBlock = some k → w.heap.size < k := fun k hk => by
           rcases hat1 k hk with h | h
           · simp [Value.ownBlock] at h; omega
           · omega
         have hs1 : w.heap.size + 1 < w1.heap.size := by have := hgrow1.size; omega
         clear hat1 hgrow1 hz1)
      | (refine step_append_row _ (by rfl) _ _ _ (by rfl) 5 i0 _ 1 1 Try.underlying25 hi0 hz0 hz1 hz2 rfl _ _ _ (by rfl) hrow1
          (.slice au bs.length cu) bs.length _ (by rfl) (HSU.out.below hB1) (by unfold maxLen; omega) (by omega) w1.heap.size rfl ?_; intro a2 c2 w2 hrow2 hgrow2 hat2
         have hB2 := hB1.grown hgrow2 (by omega) (by intro k hk; have := hat1' k hk; omega)
         have p3 : w2.cell? ⟨w.heap.size, 1, none⟩ = some (.string name) := (World.cell?_of_block (a := ⟨w.heap.size, 1, none⟩) (hgrow2.block w.heap.size (by omega) (fun e => by have := hat1' _ e.symm; omega))).trans p1
         have p4 : w2.cell? ⟨w.heap.size, 3, none⟩ = some (.slice au bs.length cu) := (World.cell?_of_block (a := ⟨w.heap.size, 3, none⟩) (hgrow2.block w.heap.size (by omega) (fun e => by have := hat1' _ e.symm; omega))).trans p2
         have hrow3 := hrow2
         rw [Nat.zero_add] at hrow3
         have hok := HOK.out w2 a2 (g0.length + bs.length) c2 _ hB2 hrow3 (by rw [List.length_append]) (by simp [byteCells]) HB0.out (fun k hk => by
           rw [own_slice a2 _ c2 (0 + g0.length + bs.length) c2] at hk
           rcases hat2 k hk with h | h
           · have := hat1' k h; omega
           · omega)
         have HRest := HUpd.out _ _ hok
         have hm2 := turned_other HRest.2.2
         have p5 : (upd w2 (.slice a2 (g0.length + bs.length) c2)).cell? ⟨w.heap.size, 1, none⟩ = some (.string name) := (World.cell?_of_block (a := ⟨w.heap.size, 1, none⟩) (hm2.block w.heap.size (by have := hgrow2.size; omega) (by omega))).trans p3
         have p6 : (upd w2 (.slice a2 (g0.length + bs.length) c2)).cell? ⟨w.heap.size, 3, none⟩ = some (.slice au bs.length cu) := (World.cell?_of_block (a := ⟨w.heap.size, 3, none⟩) (hm2.block w.heap.size (by have := hgrow2.size; omega) (by omega))).trans p4
         have HB2 := Lib.hid hB2
         have HM2 := Lib.hid hm2
         have HF2 := Lib.hid HRest.2.1
         clear hat1' hat2 hgrow2 hrow1 hrow2 hrow3 hB1 hB2 hm2 HRest p1 p2))
  all_goals
    go_wp2_with fail
    go_end0
    exact ⟨rfl, HF2.out.cutDown, (Mod.of_below HB2.out).trans HM2.out⟩

/-! the laws at the operations of a plain region -/
section
variable {S : Nat → Prop} {w : World} {b : Nat} {D : Fs} {ops : Array Oper} {rest : List Oper} {o : Oper} {a : Act} {Q : Exit → Act → World → Prop}
theorem wpList_dropF (hg : o.guard = none) (m x : Operand) (hop : o.op = Op.call { callee := Callee.builtin Builtin.delete, args := #[m, x], argTypes := #[81, 9] }) (hm : a.eval m = .map (some b)) (hF : FilesAt S w b D) (hb : ¬ S b)
    (s : ByteArray) (hs : s.size ≤ maxLen) (hx : a.eval x = .string s) (hK : ∀ w', FilesAt S w' b (delF D s) → w.mapTurned w' b → wpList Try.prog ops Q rest (a.put o.dst (.tuple #[])) w') : wpList Try.prog ops Q (o :: rest) a w := by
  refine wpList_plain hg fun K' hK' => ?_
  obtain ⟨w', hrun, r1, r2⟩ := hF.drop hb s hs o.type
  unfold Oper.wp
  simp [execOp, hop, resolve, invoke, builtin, hm, hx, hrun, Result.andThen]
  exact hK' _ _ (hK w' r1 r2)
theorem wpList_putF (hg : o.guard = none) (m x v : Operand) (hop : o.op = Op.mapUpdate 81 m x v) (hm : a.eval m = .map (some b)) (c : List Int) (u : Value) (hok : PutOk S b D c w u)
    (s : ByteArray) (hs : s.size ≤ maxLen) (hx : a.eval x = .string s) (hv : a.eval v = u) (hK : ∀ w', FilesAt S w' b (putF D s c) → w.mapTurned w' b → wpList Try.prog ops Q rest (a.put o.dst undef) w') : wpList Try.prog ops Q (o :: rest) a w := by
  refine wpList_plain hg fun K' hK' => ?_
  obtain ⟨w', hrun, r1, r2⟩ := FilesAt.store hok s hs
  unfold Oper.wp
  simp [execOp, hop, hm, hx, hv, hrun, Result.andThen]
  exact hK' _ _ (hK w' r1 r2)
end
theorem FilesAt.more {S : Nat → Prop} {w w' : World} {b : Nat} {D : Fs} (h : FilesAt S w' b D) : FilesAt (More S w w') w' b D := h.move rfl fun _ _ hv => hv.move (fun _ _ => rfl) fun _ h => .inl h
theorem size_put_le {S : Nat → Prop} {w : World} {b : Nat} {D : Fs} (h : FilesAt S w b D) (s : ByteArray) (c : List Int) : Maps.size (putF D s c) ≤ Maps.size D + 1 := by
  unfold putF; rw [Maps.size_put h.tidy]; split <;> omega
theorem size_del_le {S : Nat → Prop} {w : World} {b : Nat} {D : Fs} (h : FilesAt S w b D) (s : ByteArray) : Maps.size (delF D s) ≤ Maps.size D := by
  have := Maps.size_del h.tidy (k := strKey s); unfold delF; omega

set_option maxRecDepth 100000 in
set_option maxHeartbeats 1000000 in
theorem does_remove (S : Nat → Prop) (b : Nat) (D : Fs) (name to : ByteArray) (u : Value) (size : Int) (w : World) (hF : FilesAt S w b D) (hn : name.size ≤ maxLen) (hb : ¬ S b) (hS : ∀ k, S k → k < w.heap.size) :
    Calls Try.prog 51 #[.map (some b), .agg #[.int .i64 3, .string name, .string to, u, .int .i64 size]] w fun e w' => DoesOut w w' e S b (delF D name) := by
  have hbl := hF.lt
  go_enter Try.func51, Try.ntmps51
  have hB := (Below.refl w.heap.size w).alloc (Nat.le_refl _) (.cells #[.int .i64 3, .string name, .string to, u, .int .i64 size] 88)
  have hW : FilesAt S (w.alloc (.cells #[.int .i64 3, .string name, .string to, u, .int .i64 size] 88)) b D := hF.same (hB.block b hbl) (fun k hk => hB.block k (hS k hk))
  go_wp2_with (at_delete; refine wpList_dropF rfl _ _ rfl rfl hW hb name hn rfl ?_; intro w2 hF2 ht2)
  go_end0
  exact ⟨rfl, hF2.more, (Mod.of_below hB).trans (turned_other ht2)⟩

theorem kept_S {S : Nat → Prop} {w w' : World} {b : Nat} (h : w.mapTurned w' b) (hb : ¬ S b) : ∀ k, S k → w'.heap[k]? = w.heap[k]? := fun k hk => by
  obtain ⟨es, cl, es', cl', hh, rfl⟩ := h
  exact Go.ChangeMaps.heap_setBlock_other hh _ (fun e => hb (e ▸ hk))

set_option maxRecDepth 100000 in
set_option maxHeartbeats 1000000 in
theorem does_rename (S : Nat → Prop) (b : Nat) (D : Fs) (name to : ByteArray) (u : Value) (size : Int) (w : World) (hF : FilesAt S w b D) (hn : name.size ≤ maxLen) (ht : to.size ≤ maxLen) (hb : ¬ S b) (hS : ∀ k, S k → k < w.heap.size) (hsz : Maps.size D ≤ 1000000) :
    Calls Try.prog 51 #[.map (some b), .agg #[.int .i64 2, .string name, .string to, u, .int .i64 size]] w fun e w' => DoesOut w w' e S b (putF (delF D name) to (getF D name)) := by
  have hbl := hF.lt
  obtain ⟨v0, hv0, hlook⟩ := hF.look name hn
  have hB := (Below.refl w.heap.size w).alloc (Nat.le_refl _) (.cells #[.int .i64 2, .string name, .string to, u, .int .i64 size] 88)
  have hW : FilesAt S (w.alloc (.cells #[.int .i64 2, .string name, .string to, u, .int .i64 size] 88)) b D := hF.same (hB.block b hbl) (fun k hk => hB.block k (hS k hk))
  have hvW : Bts S (w.alloc (.cells #[.int .i64 2, .string name, .string to, u, .int .i64 size] 88)) v0 (getF D name) := hv0.move (fun k hk => hB.block k (hS k hk)) fun _ h => h
  have l0 := (hlook (w.alloc (.cells #[.int .i64 2, .string name, .string to, u, .int .i64 size] 88)) (hB.block b hbl)).1
  have q2W : (w.alloc (.cells #[.int .i64 2, .string name, .string to, u, .int .i64 size] 88)).cell? ⟨w.heap.size, 2, none⟩ = some (.string to) := by simp
  have hltW : w.heap.size < (w.alloc (.cells #[.int .i64 2, .string name, .string to, u, .int .i64 size] 88)).heap.size := by simp
  have hneb : ¬ w.heap.size = b := by omega
  have hszl : Maps.size (delF D name) < maxLen := by have := size_del_le hF name; unfold maxLen; omega
  clear hlook
  go_enter Try.func51, Try.ntmps51
  go_wp2_with (first | (at_delete; refine wpList_dropF rfl _ _ rfl rfl hW hb name hn rfl ?_; intro w2 hF2 ht2; have q2 : w2.cell? ⟨w.heap.size, 2, none⟩ = some (.string to) := (World.cell?_of_block (a := ⟨w.heap.size, 2, none⟩) ((turned_other ht2).block w.heap.size hltW hneb)).trans q2W; have hok : PutOk S b (delF D name) (getF D name) w2 v0 := ⟨hF2, hvW.move (kept_S ht2 hb) fun _ h => h, hb, hszl⟩; have hm2 := (Mod.of_below (S := fun k => k = b) hB).trans (turned_other ht2); clear ht2 hF2 l0) | (at_mapUpdate; refine wpList_putF rfl _ _ _ rfl rfl _ _ hok to ht rfl rfl ?_; intro w3 hF3 ht3))
  go_end0
  exact ⟨rfl, hF3.more, hm2.trans (turned_other ht3)⟩

set_option maxRecDepth 100000 in
set_option maxHeartbeats 2000000 in
theorem does_truncate (S : Nat → Prop) (b : Nat) (D : Fs) (name to : ByteArray) (u : Value) (n : Nat) (w : World) (hF : FilesAt S w b D) (hn : name.size ≤ maxLen) (hb : ¬ S b) (hS : ∀ k, S k → k < w.heap.size) (hsz : Maps.size D ≤ 1000000) (hnl : n ≤ (getF D name).length) :
    Calls Try.prog 51 #[.map (some b), .agg #[.int .i64 1, .string name, .string to, u, .int .i64 n]] w fun e w' => DoesOut w w' e S b (putF D name ((getF D name).take n)) := by
  have hbl := hF.lt
  obtain ⟨i0, hi0, hz0, hz1, hz2⟩ := info_parts infoB
  obtain ⟨v0, hv0, hlook⟩ := hF.look name hn
  obtain ⟨upd, hupd⟩ := exists_put S b D ((getF D name).take n) name hn
  have hrun := fun W v h => (hupd W v h).1
  have HUpd := Lib.hid hupd
  obtain ⟨a0, c0, rfl, hc01, hc02⟩ := hv0.ex
  go_enter Try.func51, Try.ntmps51
  go_wp2_with fail
  have hB := (Below.refl w.heap.size w).alloc (Nat.le_refl _) (.cells #[.int .i64 1, .string name, .string to, u, .int .i64 n] 88)
  have q1 : (w.alloc (.cells #[.int .i64 1, .string name, .string to, u, .int .i64 n] 88)).cell? ⟨w.heap.size, 1, none⟩ = some (.string name) := by simp
  have q3 : (w.alloc (.cells #[.int .i64 1, .string name, .string to, u, .int .i64 n] 88)).cell? ⟨w.heap.size, 4, none⟩ = some (.int .i64 n) := by simp
  have hsW : (w.alloc (.cells #[.int .i64 1, .string name, .string to, u, .int .i64 n] 88)).heap.size = w.heap.size + 1 := by simp
  generalize w.alloc (.cells #[.int .i64 1, .string name, .string to, u, .int .i64 n] 88) = W at *
  have l1 := (hlook W.drew (hB.block b hbl)).1
  have hok : PutOk S b D ((getF D name).take n) W.drew (.slice a0 n c0) := ⟨hF.same (w' := W.drew) (hB.block b hbl) (fun k hk => hB.block k (hS k hk)), (hv0.take n hnl rfl).move (fun k hk => hB.block k (hS k hk)) fun _ h => h, hb, by unfold maxLen; omega⟩
  have hsl := fun w => run_slice_to (P := Try.prog) w 25 5 i0 Try.underlying25 hi0 a0 (getF D name).length c0 n (by omega) .i64
  have HRest := HUpd.out _ _ hok
  have hm2 := turned_other HRest.2.2
  have p5 : (upd W.drew (.slice a0 n c0)).cell? ⟨w.heap.size, 1, none⟩ = some (.string name) := (World.cell?_of_block (a := ⟨w.heap.size, 1, none⟩) (hm2.block w.heap.size (show w.heap.size < W.heap.size by omega) (by omega))).trans q1
  have p6 : (upd W.drew (.slice a0 n c0)).cell? ⟨w.heap.size, 4, none⟩ = some (.int .i64 n) := (World.cell?_of_block (a := ⟨w.heap.size, 4, none⟩) (hm2.block w.heap.size (show w.heap.size < W.heap.size by omega) (by omega))).trans q3
  have HM2 := Lib.hid hm2
  have HF2 := Lib.hid HRest.2.1
  have HB := Lib.hid hB
  clear hlook hF hv0 hupd HRest hm2 hB hS
  go_region_held3 (fun w' => w'.cell? ⟨w.heap.size, 1, none⟩ = some (.string name) ∧ w'.cell? ⟨w.heap.size, 4, none⟩ = some (.int .i64 n))
    (first | go_keep | exact ⟨p5, p6⟩)
    (fail)
  all_goals
    go_wp2_with fail
    go_end0
    exact ⟨rfl, HF2.out.more, (Mod.of_below HB.out.drew).trans HM2.out⟩
end Go.Proofs.Ytpkmnfpbcakflaa
