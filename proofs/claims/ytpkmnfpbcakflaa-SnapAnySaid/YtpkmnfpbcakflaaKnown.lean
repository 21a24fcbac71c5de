/- The walk of the closed sentence of chapter 2's example. No condition. -/
import Derived.Test.YtpkmnfpbcakflaaSt
namespace Go.Proofs.Ytpkmnfpbcakflaa
open Go.ChangeShapes Go.WideShapes Go.ChangeAt Go.RowKit

abbrev nameA : ByteArray := ⟨#[97]⟩
/-- a synced "xyz", an append of "12", a removal -/
theorem rem_one (room : Int) (o : Option (List Int)) (l : List (List Int)) (hs : (grown o l).isSome = true) : removeM (oneDk nameA room o l (-1) false) nameA = (0, removed (oneDk nameA room o l (-1) false) nameA) := by
  unfold removeM
  rw [counts_one _ _ _ _ _ (by omega), nf_minus]
  simp only [if_true]
  rw [if_pos (by show hasF (oneF nameA (grown o l)) nameA = true; rw [one_has]; exact hs)]
abbrev dR : Dk := removed (oneDk nameA 9 (some [120, 121, 122]) [[49, 50]] (-1) false) nameA
theorem dR_take (k : Nat) : ∃ o : Option (List Int), replay dR.syn (dR.pend.take k) = oneF nameA o := by
  show ∃ o, replay (oneF nameA (some [120, 121, 122])) ((apps nameA [[49, 50]] ++ [(⟨3, nameA, ⟨#[]⟩, [], 0⟩ : Dd)]).take k) = oneF nameA o
  rcases k with _ | _ | k
  · exact ⟨some [120, 121, 122], rfl⟩
  · exact ⟨_, replay_apps nameA [[49, 50]] _⟩
  · refine ⟨none, ?_⟩
    simp only [apps, List.map_cons, List.map_nil, List.cons_append, List.nil_append, List.take_succ_cons, List.take_nil, replay, List.foldl_cons, List.foldl_nil, does_app]
    unfold doesM
    simp [one_del]
theorem crashD_dR (k : Nat) (torn : Int) : ∃ o : Option (List Int), crashD dR k torn = oneF nameA o := by
  unfold crashD
  obtain ⟨o, ho⟩ := dR_take k
  rw [ho]
  rcases k with _ | _ | k
  · simp only [removed, oneDk, apps, List.map_cons, List.map_nil, List.cons_append, List.nil_append, List.getElem?_cons_zero]
    split
    · exact ⟨_, does_app _ _ _⟩
    · exact ⟨_, rfl⟩
  · simp only [removed, oneDk, apps, List.map_cons, List.map_nil, List.cons_append, List.nil_append, List.getElem?_cons_zero, List.getElem?_cons_succ, Nat.zero_add]
    rw [if_neg (by simp)]
    exact ⟨_, rfl⟩
  · simp only [removed, oneDk, apps, List.map_cons, List.map_nil, List.cons_append, List.nil_append, List.getElem?_cons_succ, List.getElem?_nil]
    exact ⟨_, rfl⟩
theorem crashed_10 : crashed dR 1 0 = oneDk nameA 9 (some [120, 121, 122, 49, 50]) [] (-1) false := by
  have : crashD dR 1 0 = oneF nameA (some [120, 121, 122, 49, 50]) := by
    unfold crashD
    simp only [removed, oneDk, apps, List.map_cons, List.map_nil, List.cons_append, List.nil_append, List.getElem?_cons_zero, List.getElem?_cons_succ]
    rw [if_neg (by simp)]
    exact replay_apps nameA [[49, 50]] _
  unfold crashed
  rw [this]; rfl
theorem crashed_01 : crashed dR 0 1 = oneDk nameA 9 (some [120, 121, 122, 49]) [] (-1) false := by
  have : crashD dR 0 1 = oneF nameA (some [120, 121, 122, 49]) := by
    unfold crashD
    simp only [removed, oneDk, apps, List.map_cons, List.map_nil, List.cons_append, List.nil_append, List.getElem?_cons_zero]
    rw [if_pos ⟨trivial, by decide, by decide⟩]
    show doesM (oneF nameA (some [120, 121, 122])) ⟨0, nameA, ⟨#[]⟩, [49], 0⟩ = _
    rw [does_app]; rfl
  unfold crashed
  rw [this]; rfl
theorem ok_dR : OkAll dR.syn dR.pend := by
  refine ⟨⟨(by decide : (1 : Nat) ≤ maxLen), (Nat.zero_le _ : 0 ≤ maxLen), ?_, .inl ⟨rfl, ?_⟩⟩, ⟨⟨(by decide : (1 : Nat) ≤ maxLen), (Nat.zero_le _ : 0 ≤ maxLen), ?_, .inr (.inr (.inr rfl))⟩, trivial⟩⟩
  · have := one_size nameA (some [120, 121, 122]); show Maps.size (oneF nameA (some [120, 121, 122])) ≤ 1000000; omega
  · show (getF (oneF nameA (some [120, 121, 122])) nameA).length + 2 ≤ _
    rw [one_get]; decide
  · show Maps.size (doesM (oneF nameA (some [120, 121, 122])) ⟨0, nameA, ⟨#[]⟩, [49, 50], 0⟩) ≤ _
    rw [does_app]
    exact Nat.le_trans (one_size _ _) (by omega)
theorem St.crashR {w0 w : World} {p : Nat} (keep torn : Int) (k : Nat) (o : List Int) (h : St w0 w p dR) (hk : pickV keep 3 = k) (hkl : k ≤ 2) (hc : crashed dR k torn = oneDk nameA 9 (some o) [] (-1) false) :
    Calls Try.prog 19 #[.pointer (some ⟨p, 0, none⟩), .int .i64 keep, .int .i64 torn] w fun e w' => e = .returned (.int .i64 k) ∧ St w0 w' p (oneDk nameA 9 (some o) [] (-1) false) := by
  have := crash_own _ p dR keep torn w h.1 ok_dR (show 2 ≤ 1000000 by omega) (fun k => by obtain ⟨o, ho⟩ := crashD_dR k torn; rw [ho]; have := one_size nameA o; omega) k hk hkl
  rw [hc] at this
  exact this.mono fun _ _ ⟨he, hD, hK⟩ => ⟨he, St.keep h.2 hD hK⟩
theorem St.remR {w0 w : World} {p : Nat} (h : St w0 w p (oneDk nameA 9 (some [120, 121, 122]) [[49, 50]] (-1) false)) :
    Calls Try.prog 25 #[.pointer (some ⟨p, 0, none⟩), .string nameA] w fun e w' => e = .returned (.int .i64 0) ∧ St w0 w' p dR := by
  have := remove_own _ p _ nameA w h.1 (by decide) (by decide) (by decide) (show 1 ≤ 1000000 by omega)
  rw [rem_one _ _ _ rfl] at this
  exact this.mono fun _ _ ⟨he, hD, hK⟩ => ⟨he, St.keep h.2 hD hK⟩

set_option maxRecDepth 100000 in
set_option maxHeartbeats 1000000 in
theorem known_any (w : World) : Calls Try.prog 17 #[] w fun e w' => e = .returned (.bool true) ∧ Below w.heap.size w w' := by
  have kc := fun (w : World) (C : Array Value) (n c : Nat) => Lib.run_convert_bytes_const (P := Try.prog) w 25 5 C n c Try.underlying25 Try.underlying5
  go_enter Try.func17, Try.ntmps17
  go_wp2_with fail
  refine (new_ok 9 (by omega) (by omega) w).mono ?_
  rintro e w1 hN
  obtain ⟨p, rfl, S1, -⟩ := St.of_new (Below.refl _ w) hN
  rw [empty_one nameA] at S1
  clear hN
  have H1 := Lib.hid S1
  clear S1
  go_wp2_with fail
  refine (H1.out.appC #[.int .u8 120, .int .u8 121, .int .u8 122] _ 3 [120, 121, 122] rfl rfl rfl (by decide) (.inl rfl) (by omega) (by omega) (by decide) (by decide) (by decide)).mono ?_
  rintro e w2 ⟨rfl, S2⟩
  have H2 := Lib.hid S2
  clear S2 H1
  go_wp2_with fail
  refine (H2.out.sync (.inl rfl) (by decide)).mono ?_
  rintro e w3 ⟨rfl, S3⟩
  have H3 := Lib.hid (show St w w3 p (oneDk nameA 9 (some [120, 121, 122]) [] (-1) false) from S3)
  clear S3 H2
  go_wp2_with fail
  refine (H3.out.appC #[.int .u8 49, .int .u8 50] _ 2 [49, 50] rfl rfl rfl (by decide) (.inl rfl) (by omega) (by omega) (by decide) (by decide) (by decide)).mono ?_
  rintro e w4 ⟨rfl, S4⟩
  have H4 := Lib.hid (show St w w4 p (oneDk nameA 9 (some [120, 121, 122]) [[49, 50]] (-1) false) from S4)
  clear S4 H3
  go_wp2_with fail
  refine H4.out.remR.mono ?_
  rintro e w5 ⟨rfl, S5⟩
  have H5 := Lib.hid S5
  clear S5 H4
  go_wp2_with fail
  refine (H5.out.crashR 1 0 1 _ (by decide) (by omega) crashed_10).mono ?_
  rintro e w6 ⟨rfl, S6⟩
  have H6 := Lib.hid S6
  clear S6 H5
  go_wp2_with fail
  refine (H6.out.read (by decide) (by decide)).mono ?_
  rintro e w7 hr
  obtain ⟨vr, rfl, Rr, -, -, hB7⟩ : ReadYes w6 w7 e [120, 121, 122, 49, 50] := hr
  obtain ⟨ar, cr, rfl, -⟩ := Rr.form
  have hst : (convert 25 9 (.slice ar 5 cr)).run Try.prog w7 = .ok (.string ⟨#[120, 121, 122, 49, 50]⟩) w7 := run_string_src (P := Try.prog) (Src.of_row Rr (byteCells_one _)) 25 5 9 Try.underlying25 Try.underlying5 Try.underlying9
  have hB := (H6.out.below hB7).2
  clear Rr hB7 H6
  go_wp2_with fail
  go_ret
  exact ⟨rfl, hB⟩
end Go.Proofs.Ytpkmnfpbcakflaa
