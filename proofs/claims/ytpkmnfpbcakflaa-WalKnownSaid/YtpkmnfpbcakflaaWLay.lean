/- The walks of wal's Right and Lay on one batch. No condition. -/
import Derived.Test.YtpkmnfpbcakflaaWPack
import Derived.Test.YtpkmnfpbcakflaaMark
import Derived.Lib.SlBytesConst
namespace Go.Proofs.Ytpkmnfpbcakflaa
open Go.ChangeShapes Go.WideShapes Go.ChangeAt Go.RowKit

@[go_sem] theorem run_store_complex {P : Program} {w : World} {a : Addr} {m : Mode} (k : FloatKind) (x y : Nat) : (store a (.complex k x y) m).run P w = stored P w a (.complex k x y) m := run_store P w a _ m rfl
theorem fl1 : fl 1 = 4607182418800017408 := by kernel_rfl
theorem fl2 : fl 2 = 4611686018427387904 := by kernel_rfl
/-- the statement's batch -/
def bat (e : Int) (u : Value) : Array Value := #[.int .u64 e, .int .u64 3, .complex .f64 4607182418800017408 0, .complex .f64 4607182418800017408 4611686018427387904, .bool false, u, .bool false]
theorem mright1 (w : World) : Calls Try.prog 76 #[.complex .f64 4607182418800017408 0] w fun e w' => e = .returned (.bool true) ∧ w = w' := by
  have := right_yes 1 0 (by decide) (by decide) w
  rw [fl1, fl_zero] at this; exact this
theorem mright2 (w : World) : Calls Try.prog 76 #[.complex .f64 4607182418800017408 4611686018427387904] w fun e w' => e = .returned (.bool true) ∧ w = w' := by
  have := right_yes 1 2 (by decide) (by decide) w
  rw [fl1, fl2] at this; exact this
theorem mless21 (w : World) : Calls Try.prog 77 #[.complex .f64 4607182418800017408 4611686018427387904, .complex .f64 4607182418800017408 0] w fun e w' => e = .returned (.bool false) ∧ w = w' := by
  have := less_yes 1 2 1 0 (by decide) (by decide) (by decide) (by decide) w
  rw [fl1, fl2, fl_zero] at this; exact this
theorem mparts1 (w : World) : Calls Try.prog 120 #[.complex .f64 4607182418800017408 0] w fun e w' => e = .returned (.tuple #[.int .u64 1, .int .u64 0]) ∧ w = w' := by
  have := parts_yes 1 0 (by decide) (by decide) w
  rw [fl1, fl_zero] at this; exact this
theorem mparts2 (w : World) : Calls Try.prog 120 #[.complex .f64 4607182418800017408 4611686018427387904] w fun e w' => e = .returned (.tuple #[.int .u64 1, .int .u64 2]) ∧ w = w' := by
  have := parts_yes 1 2 (by decide) (by decide) w
  rw [fl1, fl2] at this; exact this
section
variable {w0 w : World} {p : Nat} {b : List Int}
theorem mlay1 (h : Wr w0 w p b) (hl : b.length ≤ 1000) : Calls Try.prog 94 #[.pointer (some ⟨p, 0, none⟩), .complex .f64 4607182418800017408 0] w fun e w' => e = .returned (.tuple #[]) ∧ Wr w0 w' p (b ++ [1, 0]) := by
  have H1 := Lib.hid (num_small 1 (by decide) h (by omega))
  have HL := Lib.hid hl
  clear h hl
  go_enter Try.func94, Try.ntmps94
  go_wp2_with fail
  refine (mparts1 w).mono ?_
  rintro e w1 ⟨rfl, rfl⟩
  go_wp2_with fail
  refine H1.out.mono ?_
  rintro e w2 ⟨rfl, S2⟩
  have H2 := Lib.hid (num_small 0 (by decide) S2 (by have := HL.out; simp; omega))
  clear S2 H1
  go_wp2_with fail
  refine H2.out.mono ?_
  rintro e w3 ⟨rfl, S3⟩
  rw [List.append_assoc] at S3
  have H3 := Lib.hid S3
  clear S3 H2
  go_wp2_with fail
  go_end0
  exact ⟨rfl, H3.out⟩
theorem mlay2 (h : Wr w0 w p b) (hl : b.length ≤ 1000) : Calls Try.prog 94 #[.pointer (some ⟨p, 0, none⟩), .complex .f64 4607182418800017408 4611686018427387904] w fun e w' => e = .returned (.tuple #[]) ∧ Wr w0 w' p (b ++ [1, 2]) := by
  have H1 := Lib.hid (num_small 1 (by decide) h (by omega))
  have HL := Lib.hid hl
  clear h hl
  go_enter Try.func94, Try.ntmps94
  go_wp2_with fail
  refine (mparts2 w).mono ?_
  rintro e w1 ⟨rfl, rfl⟩
  go_wp2_with fail
  refine H1.out.mono ?_
  rintro e w2 ⟨rfl, S2⟩
  have H2 := Lib.hid (num_small 2 (by decide) S2 (by have := HL.out; simp; omega))
  clear S2 H1
  go_wp2_with fail
  refine H2.out.mono ?_
  rintro e w3 ⟨rfl, S3⟩
  rw [List.append_assoc] at S3
  have H3 := Lib.hid S3
  clear S3 H2
  go_wp2_with fail
  go_end0
  exact ⟨rfl, H3.out⟩
end
set_option maxRecDepth 100000 in
set_option maxHeartbeats 1000000 in
theorem wright_yes (e0 : Int) (he : 1 ≤ e0 ∧ e0 ≤ 1099511627776) (a : Option Addr) (c : Nat) (w : World) : Calls Try.prog 45 #[.agg (bat e0 (.slice a 2 c))] w fun e w' => e = .returned (.bool true) ∧ Below w.heap.size w w' := by
  obtain ⟨he0, he1⟩ := he
  have hB := (Below.refl w.heap.size w).alloc (Nat.le_refl _) (.cells (bat e0 (.slice a 2 c)) 76)
  have HB := Lib.hid hB
  clear hB
  unfold bat at *
  go_enter Try.func45, Try.ntmps45
  go_wp2_with fail
  refine (mright1 _).mono ?_
  rintro e w1 ⟨rfl, rfl⟩
  go_wp2_with fail
  refine (mright2 _).mono ?_
  rintro e w1 ⟨rfl, rfl⟩
  go_wp2_with fail
  refine (mless21 _).mono ?_
  rintro e w1 ⟨rfl, rfl⟩
  go_wp2_with fail
  go_ret
  exact ⟨rfl, HB.out⟩
/-- what batch tells -/
def BatchNew (w w' : World) (e : Ending) (e0 : Int) : Prop := ∃ g, e = .returned (.agg (bat e0 (.slice (some ⟨g, 0, none⟩) 2 2))) ∧ w.heap.size ≤ g ∧ Src w' 1 (.slice (some ⟨g, 0, none⟩) 2 2) 2 (byteCells [97, 98]) ∧ Below w.heap.size w w'
set_option maxRecDepth 100000 in
set_option maxHeartbeats 1000000 in
theorem batch_any (e0 : Int) (w : World) : Calls Try.prog 41 #[.int .u64 e0] w fun e w' => BatchNew w w' e e0 := by
  have kc := Lib.run_convert_bytes_const (P := Try.prog) (w.alloc (.cells #[.int .u64 0, .int .u64 0, .complex .f64 0 0, .complex .f64 0 0, .bool false, .slice none 0 0, .bool false] 76)) 25 5 #[.int .u8 97, .int .u8 98] 2 2 Try.underlying25 Try.underlying5
  have hs : (w.alloc (.cells #[.int .u64 0, .int .u64 0, .complex .f64 0 0, .complex .f64 0 0, .bool false, .slice none 0 0, .bool false] 76)).heap.size = w.heap.size + 1 := by simp
  rw [hs] at kc
  clear hs
  go_enter Try.func41, Try.ntmps41
  go_wp2_with fail
  have hB := ((Below.refl w.heap.size w).alloc (Nat.le_refl _) (.cells (bat e0 (.slice (some ⟨w.heap.size + 1, 0, none⟩) 2 2)) 76)).alloc (by simp) (.cells #[.int .u8 97, .int .u8 98] 5 (2, 3))
  refine bodyPost_ret (results_cell_row rfl _ _ w.heap.size 76 _ (0, 0) _ rfl (heap_alloc2_old _ _ _) Try.underlying76 rfl (by kernel_rfl)) rfl ⟨w.heap.size + 1, rfl, Nat.le_succ _, ?_, hB⟩
  exact Src.of_block (cs := #[.int .u8 97, .int .u8 98]) (heap_alloc2_new _ _ _) 2 2 rfl (by simp [Value.oneCell'])
end Go.Proofs.Ytpkmnfpbcakflaa
