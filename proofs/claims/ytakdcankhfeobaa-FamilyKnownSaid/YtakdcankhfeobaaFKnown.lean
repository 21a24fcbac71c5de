/- The walk of the law FamilyKnown. No condition. -/
import Derived.Test.YtakdcankhfeobaaKnown
namespace Go.Proofs.Ytakdcankhfeobaa
open Go.ChangeShapes Go.WideShapes Go.ChangeAt Go.RowKit

theorem big_append (bs : List Int) (h : 65536 < bs.length) : (appendM [⟨1, 0, []⟩] 1 bs).1 = 2 := by
  have h1 : findSuf [⟨1, 0, []⟩] 0 = 0 := rfl
  unfold appendM
  rw [h1, if_pos (by omega)]
  show (if 65536 < bs.length + 0 then ((2 : Int), [(⟨1, 0, []⟩ : Gn)], (1 : Int)) else _).1 = 2
  rw [if_pos (by omega)]

set_option maxHeartbeats 1000000 in
theorem familyKnown_any (w : World) : Calls Try.prog 3 #[] w fun e w' => e = .returned (.bool true) ∧ Below w.heap.size w w' := by
  obtain ⟨i0, hi0, hz0, hz1, hz2⟩ := info_parts info5
  have hmk : ∀ w, (Instr.makeSlice 27 (.int .i64 65537) (.int .i64 65537)).run Try.prog w = .ok (.slice (some ⟨w.heap.size, 0, none⟩) 65537 65537) (w.alloc (.cells (bytesMade 65537) 5)) :=
    fun w => run_make_bytes w 27 5 i0 Try.underlying27 hi0 hz0 hz1 hz2 65537 (by omega)
  go_enter Try.func3, Try.ntmps3
  go_wp2_with fail
  refine (new_any _).mono ?_
  rintro e w1 ⟨p, rfl, hA1, hp, hB1⟩
  have F1 := FamOwn.new w w1 p hA1 hp hB1
  clear hA1 hp
  go_wp2_with fail
  refine (known_any _).mono ?_
  rintro e w2 ⟨rfl, hB2⟩
  have F2 := F1.below hB2
  have hB := hB1.trans (hB2.mono hB1.size)
  clear F1 hB1 hB2
  go_wp2_with fail
  refine (rename_own _ p _ _ 0 _ F2 Good.nil (by omega)).mono ?_
  rintro e w3 ⟨rfl, F3, hK3⟩
  have hB3 := hB.trans (hK3.below (B := w.heap.size) (fun k hk => hk) hB.size)
  have e3 : renameM [] = (4, []) := by rfl
  rw [e3] at F3 ⊢
  dsimp only at F3 ⊢
  clear F2 hK3 hB e3
  go_wp2_with fail
  refine (create_own _ p _ _ 0 _ F3 Good.nil (by omega)).mono ?_
  rintro e w4 ⟨rfl, F4, hK4⟩
  have hB4 := hB3.trans (hK4.below (B := w.heap.size) (fun k hk => hk) hB3.size)
  have e4 : createM [] 0 = (0, [⟨1, 0, []⟩], 1) := by rfl
  rw [e4] at F4 ⊢
  dsimp only at F4 ⊢
  clear F3 hK4 hB3 e4
  have G : Good 1 [⟨1, 0, []⟩] 1 := ⟨by simp, by simp, by omega⟩
  go_wp2_with fail
  refine (create_own _ p _ _ 1 _ F4 G (by omega)).mono ?_
  rintro e w5 ⟨rfl, F5, hK5⟩
  have hB5 := hB4.trans (hK5.below (B := w.heap.size) (fun k hk => hk) hB4.size)
  have e5 : createM [⟨1, 0, []⟩] 1 = (5, [⟨1, 0, []⟩], 1) := by rfl
  rw [e5] at F5 ⊢
  dsimp only at F5 ⊢
  clear F4 hK5 hB4 e5
  go_wp2_with fail
  refine (read_own _ p _ _ 1 3 0 1 _ F5 G).mono ?_
  rintro e w6 hr
  obtain ⟨rfl, hB6⟩ : e = .returned (.tuple #[.slice none 0 0, .bool false]) ∧ Below w5.heap.size w5 w6 := hr
  have F6 := F5.below hB6
  have hB := hB5.trans (hB6.mono hB5.size)
  clear F5 hB5 hB6
  go_wp2_with fail
  refine (remove_own _ p _ _ 1 0 _ F6 G).mono ?_
  rintro e w7 ⟨rfl, F7, hK7⟩
  have hB7 := hB.trans (hK7.below (B := w.heap.size) (fun k hk => hk) hB.size)
  have e7 : removeM [⟨1, 0, []⟩] 0 = (1, [⟨1, 0, []⟩]) := by rfl
  rw [e7] at F7 ⊢
  dsimp only at F7 ⊢
  clear F6 hK7 hB e7
  go_wp2_with fail
  refine (remove_own _ p _ _ 1 1 _ F7 G).mono ?_
  rintro e w8 ⟨rfl, F8, hK8⟩
  have hB8 := hB7.trans (hK8.below (B := w.heap.size) (fun k hk => hk) hB7.size)
  have e8 : removeM [⟨1, 0, []⟩] 1 = (4, [⟨1, 0, []⟩]) := by rfl
  rw [e8] at F8 ⊢
  dsimp only at F8 ⊢
  clear F7 hK8 hB7 e8
  have S1 : Src (w8.alloc (.cells (bytesMade 65537) 5)) 1 (.slice (some ⟨w8.heap.size, 0, none⟩) 65537 65537) 65537 (byteCells (List.replicate 65537 0)) := by
    rw [← bytesMade_list]
    exact Src.of_block (heap_alloc_new w8 _) 65537 65537 (by rw [Nat.mul_one]; exact size_madeCells _ _) (by rw [bytesMade_list]; exact byteCells_one _)
  have F8' := F8.more ((Below.refl _ w8).alloc (Nat.le_refl _) (.cells (bytesMade 65537) 5))
  have hA := append_own _ p _ _ 1 _ F8' G (by omega) _ _ _ _ S1 (by intro k hk; simp [Value.ownBlock] at hk; subst hk; exact .inr ⟨Nat.le_refl _, by simp⟩) (by intro n hn; rw [List.mem_replicate] at hn; omega) (by omega)
  rw [big_append _ (by rw [List.length_replicate]; omega)] at hA
  have HA := Lib.hid hA
  clear S1 hA F8 F8'
  go_wp2_with fail
  refine HA.out.mono ?_
  rintro e w9 ⟨rfl, -, hK9⟩
  have hB9 := hB8.trans (((Below.refl _ w8).alloc (Nat.le_refl _) (.cells (bytesMade 65537) 5)).mono hB8.size |>.trans (hK9.below (B := w.heap.size) (fun k hk => .inl hk) (by have := hB8.size; simp; omega)))
  clear HA hK9
  go_wp2_with fail
  go_ret
  exact ⟨rfl, hB9⟩
end Go.Proofs.Ytakdcankhfeobaa
