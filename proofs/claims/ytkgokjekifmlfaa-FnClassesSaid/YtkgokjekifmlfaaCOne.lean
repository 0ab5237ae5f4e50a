/-
  Contracts of isBase and RankInClass (program and reference), and the walk of the law on them. No conditions.
-/
import Derived.Test.YtkgokjekifmlfaaWords
namespace Go.Proofs.Ytkgokjekifmlfaa
open Go.RowKit

set_option maxHeartbeats 400000 in
theorem isBase_any (b : Int) (w : World) : Calls Try.prog 17 #[.int .i64 b] w fun e w' => e = .returned (.bool (wi b 2 4)) ∧ w = w' := by
  go_enter Try.func17, Try.ntmps17
  go_wp2_with (go_at_call 18; refine (within_any _ _ _ _).mono ?_; rintro e w' ⟨rfl, rfl⟩)
  go_ret
  exact ⟨rfl, rfl⟩

/-- what RankInClass returns -/
def rank (n b : Int) : Int := if wi n 0 100000 && wi b 2 4 then n / b else -1

set_option maxHeartbeats 400000 in
theorem iRank_any (n b : Int) (w : World) : Calls Try.prog 8 #[.int .i64 n, .int .i64 b] w fun e w' => e = .returned (.int .i64 (rank n b)) ∧ w = w' := by
  cases h1 : wi n 0 100000 <;> cases h2 : wi b 2 4
  case true.true =>
    have HR := Lib.hid (show n / b = rank n b by simp [rank, h1, h2])
    have hb := wi_yes h1
    have hb' := wi_yes h2
    go_enter Try.func8, Try.ntmps8
    go_wp2_with (first | (go_at_call 18; refine (within_any _ _ _ _).mono ?_; rintro e w' ⟨rfl, rfl⟩) | (go_at_call 17; refine (isBase_any _ _).mono ?_; rintro e w' ⟨rfl, rfl⟩))
    go_ret
    exact ⟨ret_int HR.out, rfl⟩
  all_goals
    have HR := Lib.hid (show -1 = rank n b by simp [rank, h1, h2])
    go_enter Try.func8, Try.ntmps8
    go_wp2_with (first | (go_at_call 18; refine (within_any _ _ _ _).mono ?_; rintro e w' ⟨rfl, rfl⟩) | (go_at_call 17; refine (isBase_any _ _).mono ?_; rintro e w' ⟨rfl, rfl⟩))
    go_ret
    exact ⟨ret_int HR.out, rfl⟩


end Go.Proofs.Ytkgokjekifmlfaa
