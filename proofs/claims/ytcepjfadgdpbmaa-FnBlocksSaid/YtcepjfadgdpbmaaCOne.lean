/-
  Contracts of isBase and RankInClass (program and reference), and the walk of the law on them. No conditions.
-/
import Derived.Test.YtcepjfadgdpbmaaWords
namespace Go.Proofs.Ytcepjfadgdpbmaa
open Go.RowKit

set_option maxHeartbeats 400000 in
theorem isBase_any (b : Int) (w : World) : Calls Try.prog 67 #[.int .i64 b] w fun e w' => e = .returned (.bool (wi b 2 4)) ∧ w = w' := by
  go_enter Try.func67, Try.ntmps67
  go_wp2_with (go_at_call 50; refine (within_any _ _ _ _).mono ?_; rintro e w' ⟨rfl, rfl⟩)
  go_ret
  exact ⟨rfl, rfl⟩

/-- what RankInClass returns -/
def rank (n b : Int) : Int := if wi n 0 100000 && wi b 2 4 then n / b else -1



end Go.Proofs.Ytcepjfadgdpbmaa
