/- The walk of follow.Next. No condition. -/
import Derived.Test.YtakdcankhfeobaaFollowPlain
import Derived.Test.YtakdcankhfeobaaOwn
import Derived.Test.YtakdcankhfeobaaMark
import Derived.Test.YtakdcankhfeobaaJumps
import Derived.BigQuiet
import Derived.Deep.QuietTactic
import Derived.Lib.Hide
import Derived.OwnWalk
namespace Go.Proofs.Ytakdcankhfeobaa
open Go.ChangeShapes Go.WideShapes Go.ChangeAt Go.RowKit

theorem find_id' {gs : List Gn} (h : gs.Pairwise (fun a b => a.id < b.id)) (j : Nat) (y : Gn) (hy : gs[j]? = some y) : gs.find? (fun g => g.id == y.id) = some y := by
  have hlt : j < gs.length := (List.getElem?_eq_some_iff.1 hy).1
  have hye : gs[j] = y := (List.getElem?_eq_some_iff.1 hy).2
  have hp := List.pairwise_iff_getElem.1 h
  rw [List.find?_eq_some_iff_getElem]
  refine ⟨by simp, j, hlt, hye, fun i hi => ?_⟩
  have := hp i j (by omega) hlt hi
  rw [hye] at this
  simp; omega
def look (p id0 p0 : Nat) (m : Int) (gs : List Gn) (w0 : World) (n : Nat) (a : Act) (w : World) : Prop :=
  ∃ (u13 u14 u15 u16 u17 u18 u19 u20 u21 u22 u23 u24 u25 u26 u27 u28 u29 u30 u31 u32 u33 u34 u35 u36 u37 u38 u39 u40 u41 u42 u43 u44 u45 u46 u47 u48 u49 u50 u51 u52 u53 u54 u55 u56 u57 u58 u59 u60 u61 u62 u63 u64 u65 u66 u67 u68 u69 u70 u71 u72 u73 u74 u75 u76 u77 u78 u79 u80 u81 u82 u83 u84 u85 u86 u87 u88 u89 vl : Value) (i : Nat), (i ≤ gs.length ∧ n = gs.length - i ∧ seek id0 p0 gs = seek id0 p0 (gs.drop i) ∧ Row w 45 3 vl gs.length (lcells gs) ∧ Below w0.heap.size w0 w) ∧
  a = { tmps := #[.pointer (some ⟨p, 0, none⟩), .complex .f64 (fl id0) (fl p0), .int .i64 m, undef, undef, undef, .slice none 0 0, .complex .f64 0 0, .bool false, vl, .int .u64 id0, .int .u64 p0, .int .i64 i, u13, u14, u15, u16, u17, u18, u19, u20, u21, u22, u23, u24, u25, u26, u27, u28, u29, u30, u31, u32, u33, u34, u35, u36, u37, u38, u39, u40, u41, u42, u43, u44, u45, u46, u47, u48, u49, u50, u51, u52, u53, u54, u55, u56, u57, u58, u59, u60, u61, u62, u63, u64, u65, u66, u67, u68, u69, u70, u71, u72, u73, u74, u75, u76, u77, u78, u79, u80, u81, u82, u83, u84, u85, u86, u87, u88, u89], defers := [] }
def more (p id0 p0 : Nat) (m : Int) (gs : List Gn) (w0 : World) (n : Nat) (a : Act) (w : World) : Prop :=
  ∃ (u13 u14 u15 u16 u17 u18 u19 u20 u21 u22 u23 u24 u25 u26 u27 u28 u29 u30 u31 u32 u33 u34 u35 u36 u37 u38 u39 u40 u41 u42 u43 u44 u45 u46 u47 u48 u49 u50 u51 u52 u53 u54 u55 u56 u57 u58 u59 u60 u61 u62 u63 u64 u65 u66 u67 u68 u69 u70 u71 u72 u73 u74 u75 u76 u77 u78 u79 u80 u81 u82 u83 u84 u85 u86 u87 u88 u89 vl : Value) (i pl : Nat) (gap : Bool), (i < gs.length ∧ n = gs.length - i ∧ pl ≤ 1099511627776 ∧ (∀ y, gs[i]? = some y → seek id0 p0 gs = some (hops pl y (gs.drop (i + 1)), gap)) ∧ Row w 45 3 vl gs.length (lcells gs) ∧ Below w0.heap.size w0 w) ∧
  a = { tmps := #[.pointer (some ⟨p, 0, none⟩), .complex .f64 (fl id0) (fl p0), .int .i64 m, undef, undef, undef, .slice none 0 0, .complex .f64 0 0, .bool gap, vl, .int .u64 id0, .int .u64 pl, .int .i64 i, u13, u14, u15, u16, u17, u18, u19, u20, u21, u22, u23, u24, u25, u26, u27, u28, u29, u30, u31, u32, u33, u34, u35, u36, u37, u38, u39, u40, u41, u42, u43, u44, u45, u46, u47, u48, u49, u50, u51, u52, u53, u54, u55, u56, u57, u58, u59, u60, u61, u62, u63, u64, u65, u66, u67, u68, u69, u70, u71, u72, u73, u74, u75, u76, u77, u78, u79, u80, u81, u82, u83, u84, u85, u86, u87, u88, u89], defers := [] }
theorem lrow_at : ∀ (gs : List Gn) (i : Nat) (g : Gn), gs[i]? = some g → (lcells gs)[i * 3]? = some (.int .u64 g.id) ∧ (lcells gs)[i * 3 + 1]? = some (.int .i64 g.suf) ∧ (lcells gs)[i * 3 + 2]? = some (.int .i64 g.b.length)
  | [], _, _, h => by simp at h
  | a :: gs, 0, g, h => by simp at h; subst h; exact ⟨rfl, rfl, rfl⟩
  | a :: gs, i + 1, g, h => by
    have := lrow_at gs i g (by simpa using h)
    have e : lcells (a :: gs) = .int .u64 a.id :: .int .i64 a.suf :: .int .i64 a.b.length :: lcells gs := rfl
    rw [e]
    refine ⟨?_, ?_, ?_⟩
    · rw [show (i + 1) * 3 = i * 3 + 1 + 1 + 1 from by omega]; simpa using this.1
    · rw [show (i + 1) * 3 + 1 = (i * 3 + 1) + 1 + 1 + 1 from by omega]; simpa using this.2.1
    · rw [show (i + 1) * 3 + 2 = (i * 3 + 2) + 1 + 1 + 1 from by omega]; simpa using this.2.2

def NextOut (w w' : World) (e : Ending) (gs : List Gn) (id0 p0 : Nat) (m : Int) : Prop :=
  match seek id0 p0 gs with
  | none => e = .returned (.tuple #[.slice none 0 0, .complex .f64 (fl id0) (fl p0), .bool false]) ∧ Below w.heap.size w w'
  | some ((y, q), gap) => ∃ v, e = .returned (.tuple #[v, .complex .f64 (fl y.id.toNat) (fl (q + (cutB y.b q (max m 0).toNat).length)), .bool gap]) ∧
      Row w' 5 1 v (cutB y.b q (max m 0).toNat).length (byteCells (cutB y.b q (max m 0).toNat)) ∧ (∀ b, v.ownBlock = some b → w.heap.size ≤ b) ∧ Below w.heap.size w w'

theorem next_some {w w' : World} {gs : List Gn} {id0 p0 : Nat} {m : Int} {y : Gn} {q : Nat} {gap : Bool} {ax : Option Addr} {cx nn yn : Nat} (hs : seek id0 p0 gs = some ((y, q), gap)) (hyn : y.id = yn) (hnn : (cutB y.b q (max m 0).toNat).length = nn)
    (R : Row w' 5 1 (.slice ax nn cx) nn (byteCells (cutB y.b q (max m 0).toNat))) (hf : ∀ b, (Value.slice ax nn cx).ownBlock = some b → w.heap.size ≤ b) (hB : Below w.heap.size w w') :
    NextOut w w' (.returned (.tuple #[.slice ax nn cx, .complex .f64 (fl yn) (fl (q + nn)), .bool gap])) gs id0 p0 m := by
  unfold NextOut
  rw [hs]
  subst hnn
  exact ⟨_, by rw [hyn, Int.toNat_natCast], R, hf, hB⟩
theorem next_none {w w' : World} {gs : List Gn} {id0 p0 : Nat} {m : Int} (hs : seek id0 p0 gs = none) (hB : Below w.heap.size w w') :
    NextOut w w' (.returned (.tuple #[.slice none 0 0, .complex .f64 (fl id0) (fl p0), .bool false])) gs id0 p0 m := by
  unfold NextOut
  rw [hs]
  exact ⟨rfl, hB⟩

set_option maxRecDepth 100000 in
set_option maxHeartbeats 2000000 in
theorem next_own (X : Nat → Prop) (p : Nat) (gs : List Gn) (l C : Int) (w : World) (hF : FamOwn 64 67 X w p gs l) (hG : Good C gs l) (hids : gs.Pairwise (fun a b => a.id < b.id)) (hidl : ∀ g ∈ gs, 0 ≤ g.id ∧ g.id ≤ 1099511627776) (id0 p0 : Nat) (h1 : id0 ≤ 1099511627776) (h2 : p0 ≤ 1099511627776) (m : Int) :
    Calls Try.prog 24 #[.pointer (some ⟨p, 0, none⟩), .complex .f64 (fl id0) (fl p0), .int .i64 m] w fun e w' => NextOut w w' e gs id0 p0 m := by
  have hlen := hG.len
  go_enter Try.func24, Try.ntmps24
  go_wp2_with fail
  apply wp_scope_two (look p id0 p0 m gs w) (more p id0 p0 m gs w) ?h0 ?h1 ?first ?pass1 ?pass0
  case h0 => repeat (first | exact fl_head | refine fl_right (by kernel_rfl) ?_)
  case h1 => repeat (first | exact fl_head | refine fl_right (by kernel_rfl) ?_)
  case first =>
    intro S R hR hret hp0
    rw [← hR]
    clear hR
    go_wp2_with fail
    refine (list_own _ p _ _ _ _ hF hG).mono ?_
    rintro e w1 ⟨vl, rfl, Rl, hfr, hB1⟩
    go_wp2_with fail
    refine (parts_yes _ _ h1 h2 _).mono ?_
    rintro e w2 ⟨rfl, rfl⟩
    go_wp2_with fail
    go_step3
    go_wp2_with fail
    refine hp0 gs.length _ _ ?_
    unfold look
    repeat apply Exists.intro
    refine ⟨?_, rfl⟩
    exact ⟨Nat.zero_le _, rfl, rfl, Rl, hB1⟩
  case pass1 =>
    intro n a wr hinv S hret hg
    unfold more at hinv
    obtain ⟨u13, hinv⟩ := hinv; obtain ⟨u14, hinv⟩ := hinv; obtain ⟨u15, hinv⟩ := hinv; obtain ⟨u16, hinv⟩ := hinv; obtain ⟨u17, hinv⟩ := hinv; obtain ⟨u18, hinv⟩ := hinv; obtain ⟨u19, hinv⟩ := hinv; obtain ⟨u20, hinv⟩ := hinv; obtain ⟨u21, hinv⟩ := hinv; obtain ⟨u22, hinv⟩ := hinv; obtain ⟨u23, hinv⟩ := hinv; obtain ⟨u24, hinv⟩ := hinv; obtain ⟨u25, hinv⟩ := hinv; obtain ⟨u26, hinv⟩ := hinv; obtain ⟨u27, hinv⟩ := hinv; obtain ⟨u28, hinv⟩ := hinv; obtain ⟨u29, hinv⟩ := hinv; obtain ⟨u30, hinv⟩ := hinv; obtain ⟨u31, hinv⟩ := hinv; obtain ⟨u32, hinv⟩ := hinv; obtain ⟨u33, hinv⟩ := hinv; obtain ⟨u34, hinv⟩ := hinv; obtain ⟨u35, hinv⟩ := hinv; obtain ⟨u36, hinv⟩ := hinv; obtain ⟨u37, hinv⟩ := hinv; obtain ⟨u38, hinv⟩ := hinv; obtain ⟨u39, hinv⟩ := hinv; obtain ⟨u40, hinv⟩ := hinv; obtain ⟨u41, hinv⟩ := hinv; obtain ⟨u42, hinv⟩ := hinv; obtain ⟨u43, hinv⟩ := hinv; obtain ⟨u44, hinv⟩ := hinv; obtain ⟨u45, hinv⟩ := hinv; obtain ⟨u46, hinv⟩ := hinv; obtain ⟨u47, hinv⟩ := hinv; obtain ⟨u48, hinv⟩ := hinv; obtain ⟨u49, hinv⟩ := hinv; obtain ⟨u50, hinv⟩ := hinv; obtain ⟨u51, hinv⟩ := hinv; obtain ⟨u52, hinv⟩ := hinv; obtain ⟨u53, hinv⟩ := hinv; obtain ⟨u54, hinv⟩ := hinv; obtain ⟨u55, hinv⟩ := hinv; obtain ⟨u56, hinv⟩ := hinv; obtain ⟨u57, hinv⟩ := hinv; obtain ⟨u58, hinv⟩ := hinv; obtain ⟨u59, hinv⟩ := hinv; obtain ⟨u60, hinv⟩ := hinv; obtain ⟨u61, hinv⟩ := hinv; obtain ⟨u62, hinv⟩ := hinv; obtain ⟨u63, hinv⟩ := hinv; obtain ⟨u64, hinv⟩ := hinv; obtain ⟨u65, hinv⟩ := hinv; obtain ⟨u66, hinv⟩ := hinv; obtain ⟨u67, hinv⟩ := hinv; obtain ⟨u68, hinv⟩ := hinv; obtain ⟨u69, hinv⟩ := hinv; obtain ⟨u70, hinv⟩ := hinv; obtain ⟨u71, hinv⟩ := hinv; obtain ⟨u72, hinv⟩ := hinv; obtain ⟨u73, hinv⟩ := hinv; obtain ⟨u74, hinv⟩ := hinv; obtain ⟨u75, hinv⟩ := hinv; obtain ⟨u76, hinv⟩ := hinv; obtain ⟨u77, hinv⟩ := hinv; obtain ⟨u78, hinv⟩ := hinv; obtain ⟨u79, hinv⟩ := hinv; obtain ⟨u80, hinv⟩ := hinv; obtain ⟨u81, hinv⟩ := hinv; obtain ⟨u82, hinv⟩ := hinv; obtain ⟨u83, hinv⟩ := hinv; obtain ⟨u84, hinv⟩ := hinv; obtain ⟨u85, hinv⟩ := hinv; obtain ⟨u86, hinv⟩ := hinv; obtain ⟨u87, hinv⟩ := hinv; obtain ⟨u88, hinv⟩ := hinv; obtain ⟨u89, hinv⟩ := hinv
    obtain ⟨vl, i, pl, gap, ⟨hi, rfl, hpl, hy, Rl, hB⟩, ha⟩ := hinv
    subst ha
    obtain ⟨y, hyi⟩ : ∃ y, gs[i]? = some y := ⟨_, List.getElem?_eq_getElem hi⟩
    have hseek := Lib.hid (hy y hyi)
    have hym := List.mem_of_getElem? hyi
    have hb := (hG.each y hym).1
    obtain ⟨al, cl, rfl, -, hn5, -⟩ := Rl.form
    unfold maxLen at hn5
    obtain ⟨gl, rfl, hgl, hlc, -⟩ := Rl.view (by omega)
    have l0 := (hlc (i * 3) (by omega)).trans (lrow_at gs i y hyi).1
    have l2 := (hlc (i * 3 + 2) (by omega)).trans (lrow_at gs i y hyi).2.2
    have i0 : (0 : Int) ≤ (i : Int) := by omega
    have i1 : (i : Int) < (gs.length : Int) := by omega
    have RL := Lib.hid Rl
    have HFind := Lib.hid (find_id' hids i y hyi)
    obtain ⟨yn, hyn⟩ : ∃ n : Nat, y.id = n := ⟨y.id.toNat, by have := (hidl y hym).1; omega⟩
    have hyn2 : yn ≤ 1099511627776 := by have := (hidl y hym).2; omega
    have HYN := Lib.hid hyn
    clear hyn hids hidl
    have HYI := Lib.hid hyi
    clear hlc Rl hy hyi hym
    have hF1 := hF.below hB
    have HF1 := Lib.hid hF1
    clear hF hF1
    go_wp2_with fail
    · go_step3
      refine hg (gs.length - (i + 1)) _ _ (by omega) ?_
      refine ⟨_, _, _, _, _, _, _, _, _, _, _, _, _, _, _, _, _, _, _, _, _, _, _, _, _, _, _, _, _, _, _, _, _, _, _, _, _, _, _, _, _, _, _, _, _, _, _, _, _, _, _, _, _, _, _, _, _, _, _, _, _, _, _, _, _, _, _, _, _, _, _, _, _, _, _, _, _, _, i + 1, 0, gap, ⟨by omega, rfl, by omega, fun z hz => ?_, RL.out, hB⟩, rfl⟩
      have hs := hseek.out
      rw [List.drop_eq_getElem_cons (by omega)] at hs
      have hz' : gs[i + 1] = z := (List.getElem?_eq_some_iff.1 hz).2
      rw [hz'] at hs
      rw [hs]
      simp only [hops]
      rw [if_pos (by omega)]
    all_goals
      have hst : gs.drop (i + 1) = [] ∨ pl < y.b.length := by
        by_cases hle : gs.length ≤ i + 1
        · exact .inl (List.drop_eq_nil_of_le hle)
        · exact .inr (by omega)
      have hs := hseek.out
      rw [hops_stop pl y _ hst] at hs
      have HS := Lib.hid hs
      clear hs hst
      have hr := read_own _ p _ _ _ y.id pl m _ HF1.out hG
      unfold ReadOut at hr
      rw [HFind.out] at hr
      refine hr.mono ?_
      rintro e w8 ⟨vx, rfl, Rx, hfx, hB9⟩
      rw [show (max (pl : Int) 0).toNat = pl by omega] at Rx
      have R8 := RL.out.of_block (fun k hk => hB9.block k (RL.out.lt hk))
      obtain ⟨gl', hgl', -, hlc, -⟩ := R8.view (by omega)
      obtain rfl : gl = gl' := by simpa using hgl'
      have l0' := (hlc (i * 3) (by omega)).trans (lrow_at gs i y HYI.out).1
      rw [HYN.out] at l0'
      have hcl := cutB_len y.b pl (max m 0).toNat
      obtain ⟨ax, cx, rfl, -⟩ := Rx.form
      have hn : (cutB y.b pl (max m 0).toNat).length ≤ 65536 := by omega
      have hsum := add_fl2 pl (cutB y.b pl (max m 0).toNat).length (by omega)
      have hadd : ∀ w, (binOp .add 70 (.float .f64 (fl pl)) (.float .f64 (fl (cutB y.b pl (max m 0).toNat).length))).run Try.prog w = .ok (.float .f64 (fl (pl + (cutB y.b pl (max m 0).toNat).length))) w := fun w => run_float_arith (P := Try.prog) w .add 70 .f64 _ _ _ hsum
      have hf := fl_eq
      have RX := Lib.hid Rx
      have HB9 := Lib.hid hB9
      have HFX := Lib.hid hfx
      generalize hnn : (cutB y.b pl (max m 0).toNat).length = nn at *
      have HNN := Lib.hid hnn
      clear hlc hgl' R8 Rx hB9 hfx hcl l0 l2 hnn
      go_wp2_with fail
      go_quiet (fail)
      go_wp2_with fail
      refine hret.out _ _ ?_
      go_ret3
      show NextOut w _ (.returned (.tuple #[.slice ax nn cx, .complex .f64 (fl yn) (fl (pl + nn)), .bool gap])) gs id0 p0 m
      exact next_some HS.out HYN.out HNN.out (RX.out.of_block (fun _ _ => rfl)) (fun b hb => Nat.le_trans hB.size (HFX.out b hb)) (below_drewN (hB.trans (HB9.out.mono hB.size)) nq)
  case pass0 =>
    intro n a wr hinv S R hR hret hg hp1
    rw [← hR]
    clear hR
    unfold look at hinv
    obtain ⟨u13, hinv⟩ := hinv; obtain ⟨u14, hinv⟩ := hinv; obtain ⟨u15, hinv⟩ := hinv; obtain ⟨u16, hinv⟩ := hinv; obtain ⟨u17, hinv⟩ := hinv; obtain ⟨u18, hinv⟩ := hinv; obtain ⟨u19, hinv⟩ := hinv; obtain ⟨u20, hinv⟩ := hinv; obtain ⟨u21, hinv⟩ := hinv; obtain ⟨u22, hinv⟩ := hinv; obtain ⟨u23, hinv⟩ := hinv; obtain ⟨u24, hinv⟩ := hinv; obtain ⟨u25, hinv⟩ := hinv; obtain ⟨u26, hinv⟩ := hinv; obtain ⟨u27, hinv⟩ := hinv; obtain ⟨u28, hinv⟩ := hinv; obtain ⟨u29, hinv⟩ := hinv; obtain ⟨u30, hinv⟩ := hinv; obtain ⟨u31, hinv⟩ := hinv; obtain ⟨u32, hinv⟩ := hinv; obtain ⟨u33, hinv⟩ := hinv; obtain ⟨u34, hinv⟩ := hinv; obtain ⟨u35, hinv⟩ := hinv; obtain ⟨u36, hinv⟩ := hinv; obtain ⟨u37, hinv⟩ := hinv; obtain ⟨u38, hinv⟩ := hinv; obtain ⟨u39, hinv⟩ := hinv; obtain ⟨u40, hinv⟩ := hinv; obtain ⟨u41, hinv⟩ := hinv; obtain ⟨u42, hinv⟩ := hinv; obtain ⟨u43, hinv⟩ := hinv; obtain ⟨u44, hinv⟩ := hinv; obtain ⟨u45, hinv⟩ := hinv; obtain ⟨u46, hinv⟩ := hinv; obtain ⟨u47, hinv⟩ := hinv; obtain ⟨u48, hinv⟩ := hinv; obtain ⟨u49, hinv⟩ := hinv; obtain ⟨u50, hinv⟩ := hinv; obtain ⟨u51, hinv⟩ := hinv; obtain ⟨u52, hinv⟩ := hinv; obtain ⟨u53, hinv⟩ := hinv; obtain ⟨u54, hinv⟩ := hinv; obtain ⟨u55, hinv⟩ := hinv; obtain ⟨u56, hinv⟩ := hinv; obtain ⟨u57, hinv⟩ := hinv; obtain ⟨u58, hinv⟩ := hinv; obtain ⟨u59, hinv⟩ := hinv; obtain ⟨u60, hinv⟩ := hinv; obtain ⟨u61, hinv⟩ := hinv; obtain ⟨u62, hinv⟩ := hinv; obtain ⟨u63, hinv⟩ := hinv; obtain ⟨u64, hinv⟩ := hinv; obtain ⟨u65, hinv⟩ := hinv; obtain ⟨u66, hinv⟩ := hinv; obtain ⟨u67, hinv⟩ := hinv; obtain ⟨u68, hinv⟩ := hinv; obtain ⟨u69, hinv⟩ := hinv; obtain ⟨u70, hinv⟩ := hinv; obtain ⟨u71, hinv⟩ := hinv; obtain ⟨u72, hinv⟩ := hinv; obtain ⟨u73, hinv⟩ := hinv; obtain ⟨u74, hinv⟩ := hinv; obtain ⟨u75, hinv⟩ := hinv; obtain ⟨u76, hinv⟩ := hinv; obtain ⟨u77, hinv⟩ := hinv; obtain ⟨u78, hinv⟩ := hinv; obtain ⟨u79, hinv⟩ := hinv; obtain ⟨u80, hinv⟩ := hinv; obtain ⟨u81, hinv⟩ := hinv; obtain ⟨u82, hinv⟩ := hinv; obtain ⟨u83, hinv⟩ := hinv; obtain ⟨u84, hinv⟩ := hinv; obtain ⟨u85, hinv⟩ := hinv; obtain ⟨u86, hinv⟩ := hinv; obtain ⟨u87, hinv⟩ := hinv; obtain ⟨u88, hinv⟩ := hinv; obtain ⟨u89, hinv⟩ := hinv
    obtain ⟨vl, i, ⟨hi, rfl, hs, Rl, hB⟩, ha⟩ := hinv
    subst ha
    have HS := Lib.hid hs
    clear hs
    obtain ⟨al, cl, rfl, -, hn5, -⟩ := Rl.form
    unfold maxLen at hn5
    by_cases hlt : i < gs.length
    · obtain ⟨y, hyi⟩ : ∃ y, gs[i]? = some y := ⟨_, List.getElem?_eq_getElem hlt⟩
      have hye : gs[i] = y := (List.getElem?_eq_some_iff.1 hyi).2
      have hym := List.mem_of_getElem? hyi
      obtain ⟨gl, rfl, hgl, hlc, -⟩ := Rl.view (by omega)
      have l0 := (hlc (i * 3) (by omega)).trans (lrow_at gs i y hyi).1
      have i0 : (0 : Int) ≤ (i : Int) := by omega
      have i1 : (i : Int) < (gs.length : Int) := by omega
      have RL := Lib.hid Rl
      obtain ⟨yn, hyn⟩ : ∃ n : Nat, y.id = n := ⟨y.id.toNat, by have := (hidl y hym).1; omega⟩
      rw [hyn] at l0
      have hs := HS.out
      rw [List.drop_eq_getElem_cons hlt, hye] at hs
      simp only [seek, hyn] at hs
      have hne : ((i : Int) == (gs.length : Int)) = false := by simp; omega
      clear hlc Rl hidl hids
      rcases Nat.lt_trichotomy yn id0 with h3 | h3 | h3
      · rw [if_pos (by omega)] at hs
        have HS := Lib.hid hs
        have HYN := Lib.hid hyn
        have HYI := Lib.hid hyi
        have HYE := Lib.hid hye
        clear hs hyn hyi hye
        go_wp2_with fail
        go_step3
        refine hg (gs.length - (i + 1)) _ _ (by omega) ?_
        exact ⟨_, _, _, _, _, _, _, _, _, _, _, _, _, _, _, _, _, _, _, _, _, _, _, _, _, _, _, _, _, _, _, _, _, _, _, _, _, _, _, _, _, _, _, _, _, _, _, _, _, _, _, _, _, _, _, _, _, _, _, _, _, _, _, _, _, _, _, _, _, _, _, _, _, _, _, _, _, _, i + 1, ⟨by omega, rfl, HS.out, RL.out, hB⟩, rfl⟩
      · subst h3
        rw [if_neg (by omega), if_neg (by omega)] at hs
        have HS := Lib.hid hs
        have HYN := Lib.hid hyn
        have HYI := Lib.hid hyi
        have HYE := Lib.hid hye
        clear hs hyn hyi hye
        go_wp2_with fail
        go_step3
        go_wp2_with fail
        refine hp1 _ _ ?_
        refine ⟨_, _, _, _, _, _, _, _, _, _, _, _, _, _, _, _, _, _, _, _, _, _, _, _, _, _, _, _, _, _, _, _, _, _, _, _, _, _, _, _, _, _, _, _, _, _, _, _, _, _, _, _, _, _, _, _, _, _, _, _, _, _, _, _, _, _, _, _, _, _, _, _, _, _, _, _, _, _, i, p0, false, ⟨hlt, rfl, h2, fun z hz => ?_, RL.out, hB⟩, rfl⟩
        have := HYI.out; rw [hz] at this; cases this
        exact HS.out
      · rw [if_neg (by omega), if_pos (by omega)] at hs
        have HS := Lib.hid hs
        have HYN := Lib.hid hyn
        have HYI := Lib.hid hyi
        have HYE := Lib.hid hye
        have hd : ∀ b : Bool, decide (0 < id0) = b → decide ((0 : Int) < (id0 : Int)) = b := fun b h => by rw [← h]; simp
        clear hs hyn hyi hye
        go_wp2_with fail
        go_step3
        go_wp2_with fail
        refine hp1 _ _ ?_
        refine ⟨_, _, _, _, _, _, _, _, _, _, _, _, _, _, _, _, _, _, _, _, _, _, _, _, _, _, _, _, _, _, _, _, _, _, _, _, _, _, _, _, _, _, _, _, _, _, _, _, _, _, _, _, _, _, _, _, _, _, _, _, _, _, _, _, _, _, _, _, _, _, _, _, _, _, _, _, _, _, i, 0, decide (0 < id0), ⟨hlt, rfl, by omega, fun z hz => ?_, RL.out, hB⟩, rfl⟩
        have := HYI.out; rw [hz] at this; cases this
        exact HS.out
    · have hn : seek id0 p0 gs = none := by
        rw [HS.out, List.drop_eq_nil_of_le (by omega)]; rfl
      have HN := Lib.hid hn
      have heq : ((i : Int) == (gs.length : Int)) = true := by simp; omega
      clear hn hids hidl
      go_wp2_with fail
      refine hret.out _ _ ?_
      go_ret3
      show NextOut w _ (.returned (.tuple #[.slice none 0 0, .complex .f64 (fl id0) (fl p0), .bool false])) gs id0 p0 m
      exact next_none HN.out hB
end Go.Proofs.Ytakdcankhfeobaa
