/- The walks of the laws of chapter 14 and of what they call, and the plain laws behind them. No condition. -/
import Derived.Test.YtlmpobnbnicjfaaRows
import Derived.Test.YtlmpobnbnicjfaaFloat
import Derived.WalkKit
import Derived.ProofKit
import Derived.OpenShut
import Derived.WalkLawsBesides
import Derived.Laws.FloatArith
namespace Go.Proofs.Ytlmpobnbnicjfaa
open Go.ChangeShapes Go.WideShapes Go.ChangeAt Go.RowKit

def step1 (s : Int) : Int := IntKind.u64.wrap (s + 11400714819323198485)
def mix2 (z : Int) : Int := IntKind.u64.wrap (bits BinOp.xor IntKind.u64 z (z / 1073741824) * 13787848793156543929)
def mix3 (z : Int) : Int := IntKind.u64.wrap (bits BinOp.xor IntKind.u64 z (z / 134217728) * 10723151780598845931)
def mix4 (z : Int) : Int := bits BinOp.xor IntKind.u64 z (z / 2147483648)
def numOf (s : Int) : Nat := q53 (mix4 (mix3 (mix2 (step1 s))) / 2048)

theorem run_quo (n : Int) (w : World) : (binOp .quo 23 (.float .f64 (floatOfInt .f64 n)) (.float .f64 4845873199050653696)).run Try.prog w = .ok (.float .f64 (q53 n)) w :=
  run_float_arith w .quo 23 .f64 _ _ _ (q53_eq n)

theorem next_any (s : Int) (w : World) :
    Calls Try.prog 7 #[.int .u64 s] w fun e w' => e = .returned (.tuple #[.int .u64 (step1 s), .float .f64 (numOf s)]) ∧ w = w' := by
  have hq := run_quo
  go_enter Try.func7, Try.ntmps7
  go_wp2
  go_ret2
  exact ⟨rfl, rfl⟩

theorem random_any (s : Int) (w : World) :
    Calls Try.prog 8 #[.int .u64 s] w fun e w' => e = .returned (.tuple #[.int .u64 (step1 s), .float .f64 (numOf s)]) ∧ w = w' := by
  have hq := run_quo
  go_enter Try.func8, Try.ntmps8
  go_wp2
  go_ret2
  exact ⟨rfl, rfl⟩

@[go_sem] theorem call17 (b : Nat) (w : World) : (callFunc 17 #[.float .f64 b]).run Try.prog w = .ok (.value (.int .u64 b)) w :=
  run_callFunc_extern Try.func17 (by kernel_rfl) (by kernel_rfl) (by kernel_rfl) (e := Extern.MathFloatBits.float64bits) (by kernel_rfl) _ w
@[go_sem] theorem call18 (n : Int) (w : World) : (callFunc 18 #[.int .u64 n]).run Try.prog w = .ok (.value (.float .f64 n.toNat)) w :=
  run_callFunc_extern Try.func18 (by kernel_rfl) (by kernel_rfl) (by kernel_rfl) (e := Extern.MathFloatBits.float64frombits) (by kernel_rfl) _ w
def nan? (x : Nat) : Bool := FloatKind.f64.format.order x x != some .eq
def zero? (x : Nat) : Bool := FloatKind.f64.format.order x 0 == some .eq
def seedOf (x : Nat) : Int := if nan? x || zero? x then 0 else x

theorem seed_any (x : Nat) (w : World) :
    Calls Try.prog 10 #[.float .f64 x] w fun e w' => e = .returned (.int .u64 (seedOf x)) ∧ w = w' := by
  cases h1 : nan? x
  · cases h2 : zero? x
    · have es : seedOf x = x := by simp [seedOf, h1, h2]
      rw [es]
      unfold nan? at h1; unfold zero? at h2
      go_enter Try.func10, Try.ntmps10
      go_wp2
      go_ret
      exact ⟨rfl, rfl⟩
    · have es : seedOf x = 0 := by simp [seedOf, h1, h2]
      rw [es]
      unfold nan? at h1; unfold zero? at h2
      go_enter Try.func10, Try.ntmps10
      go_wp2
      go_ret
      exact ⟨rfl, rfl⟩
  · have es : seedOf x = 0 := by simp [seedOf, h1]
    rw [es]
    unfold nan? at h1
    go_enter Try.func10, Try.ntmps10
    go_wp2
    go_ret
    exact ⟨rfl, rfl⟩
theorem seedr_any (x : Nat) (w : World) :
    Calls Try.prog 11 #[.float .f64 x] w fun e w' => e = .returned (.int .u64 (seedOf x)) ∧ w = w' := by
  cases h1 : nan? x
  · cases h2 : zero? x
    · have es : seedOf x = x := by simp [seedOf, h1, h2]
      rw [es]
      unfold nan? at h1; unfold zero? at h2
      go_enter Try.func11, Try.ntmps11
      go_wp2
      go_ret
      exact ⟨rfl, rfl⟩
    · have es : seedOf x = 0 := by simp [seedOf, h1, h2]
      rw [es]
      unfold nan? at h1; unfold zero? at h2
      go_enter Try.func11, Try.ntmps11
      go_wp2
      go_ret
      exact ⟨rfl, rfl⟩
  · have es : seedOf x = 0 := by simp [seedOf, h1]
    rw [es]
    unfold nan? at h1
    go_enter Try.func11, Try.ntmps11
    go_wp2
    go_ret
    exact ⟨rfl, rfl⟩

theorem step1_0 : step1 0 = 11400714819323198485 := by kernel_rfl
theorem seed_0 : seedOf 0 = 0 := by kernel_rfl
theorem seed_1 : seedOf 4607182418800017408 = 4607182418800017408 := by kernel_rfl

theorem known_any (w : World) : Calls Try.prog 9 #[] w fun e w' => e = .returned (.bool true) ∧ w = w' := by
  go_enter Try.func9, Try.ntmps9
  go_wp2_with fail
  refine (next_any _ _).mono ?_
  rintro e w' ⟨rfl, rfl⟩
  rw [step1_0]
  go_wp2_with (go_at_call 10; refine (seed_any _ _).mono ?_; rintro e w' ⟨rfl, rfl⟩; first | rw [seed_0] | rw [seed_1])
  go_ret
  exact ⟨rfl, rfl⟩
end Go.Proofs.Ytlmpobnbnicjfaa
