/- The walk of tailracehand's Pick. No condition. -/
import Derived.Test.YtpkmnfpbcakflaaDoorOps
import Derived.Deep.DeepCutAuto
namespace Go.Proofs.YtpkmnfpbcakflaaDoor
open Go.ChangeShapes Go.WideShapes Go.ChangeAt Go.RowKit

theorem pick_any (n k : Int) (hk0 : 1 ≤ k) (hk : k ≤ 1000000000000) (w : World) :
    Calls Tryd.prog 5 #[.int .i64 n, .int .i64 k] w fun e w' => e = .returned (.int .i64 (pickV n k)) ∧ w' = w := by
  have b1 : -k < n.tmod k := by
    have := Int.lt_tmod_of_pos n (show 0 < k by omega); omega
  have b2 : n.tmod k < k := Int.tmod_lt_of_pos n (by omega)
  have hd : (k == 0) = false := by simp; omega
  unfold pickV
  by_cases hlt : n.tmod k < 0
  · rw [if_pos hlt]
    go_enter Tryd.func5, Tryd.ntmps5
    go_wp2
    go_ret
    exact ⟨rfl, rfl⟩
  · rw [if_neg hlt]
    go_enter Tryd.func5, Tryd.ntmps5
    go_wp2
    go_ret
    exact ⟨rfl, rfl⟩
end Go.Proofs.YtpkmnfpbcakflaaDoor
