/-
  The range test of the program and of the reference, as a Lean function. No conditions.
-/
import Derived.Test.YtcicoplmpinnmaaDoorRows
import Derived.WalkKit
import Derived.WalkSpells
import Derived.WalkLawsBesides
import Derived.ProofKit
import Derived.OpenShut
import Derived.Handy
import Derived.Deep.QuietTactic
import Derived.BigQuiet
import Derived.Lib.Hide
namespace Go.Proofs.YtcicoplmpinnmaaDoor
open Go.RowKit

/-- Whether a number is within two others. Not reducible: the walk splits on it whole. -/
def wi (n lo hi : Int) : Bool := decide (lo ≤ n ∧ n ≤ hi)
theorem wi_yes {n lo hi : Int} (h : wi n lo hi = true) : lo ≤ n ∧ n ≤ hi := by simpa [wi] using h
theorem wi_no {n lo hi : Int} (h : wi n lo hi = false) : ¬ (lo ≤ n ∧ n ≤ hi) := by simpa [wi] using h
theorem wi_mk {n lo hi : Int} (h1 : lo ≤ n) (h2 : n ≤ hi) : wi n lo hi = true := by simp [wi, h1, h2]
theorem wi_not {n lo hi : Int} (h : n < lo ∨ hi < n) : wi n lo hi = false := by simp [wi]; omega

theorem ret_int {k : IntKind} {a b : Int} (h : a = b) : Ending.returned (.int k a) = .returned (.int k b) := by rw [h]
theorem ret_bool {a b : Bool} (h : a = b) : Ending.returned (.bool a) = .returned (.bool b) := by rw [h]

theorem ret_sb {p q : List UInt8 × Bool} (h : p = q) : Ending.returned (.tuple #[.string ⟨p.1.toArray⟩, .bool p.2]) = .returned (.tuple #[.string ⟨q.1.toArray⟩, .bool q.2]) := by rw [h]
theorem ret_str {p q : List UInt8} (h : p = q) : Ending.returned (.string ⟨p.toArray⟩) = .returned (.string ⟨q.toArray⟩) := by rw [h]

set_option maxHeartbeats 400000 in
theorem within_any (n lo hi : Int) (w : World) : Calls Tryd.prog 21 #[.int .i64 n, .int .i64 lo, .int .i64 hi] w fun e w' => e = .returned (.bool (wi n lo hi)) ∧ w = w' := by
  by_cases h1 : lo ≤ n <;> by_cases h2 : n ≤ hi
  all_goals
    go_enter Tryd.func21, Tryd.ntmps21
    go_wp2
    go_ret
    exact ⟨by simp [wi, h1, h2], rfl⟩

set_option maxHeartbeats 400000 in
theorem l01In_any (n lo hi : Int) (w : World) : Calls Tryd.prog 54 #[.int .i64 n, .int .i64 lo, .int .i64 hi] w fun e w' => e = .returned (.bool (wi n lo hi)) ∧ w = w' := by
  by_cases h1 : lo ≤ n <;> by_cases h2 : n ≤ hi
  all_goals
    go_enter Tryd.func54, Tryd.ntmps54
    go_wp2
    go_ret
    exact ⟨by simp [wi, h1, h2], rfl⟩

end Go.Proofs.YtcicoplmpinnmaaDoor
