/-
  The walks of the laws on patterns with holes. Condition: internal/bytealg's variable MaxLen holds some number.
-/
import Derived.Test.YtfjehlmknbhghaaDoorHWith
import Derived.Test.YtfjehlmknbhghaaDoorFrame
namespace Go.Proofs.YtfjehlmknbhghaaDoor
open Go.RowKit

set_option maxHeartbeats 800000 in
theorem walk_FnExactPatternOk (l0 : List UInt8) (w : World) (h0 : StrArg l0) (hm : MaxAt w) : Calls Tryd.prog 3 #[.string ⟨l0.toArray⟩] w fun e w' => e = .returned (.bool true) ∧ Below w.heap.size w w' := by
  unfold StrArg at h0
  by_cases hbig : l0.length ≤ 1048576
  case neg =>
    go_enter Tryd.func3, Tryd.ntmps3
    go_wp2_with fail
    go_ret
    exact ⟨rfl, Below.refl _ _⟩
  go_enter Tryd.func3, Tryd.ntmps3
  go_wp2_with fail
  refine (sPatternOk_any l0 hbig _).mono ?_
  rintro e w' ⟨rfl, rfl⟩
  have HM := hm
  go_wp2_with fail
  refine (iPatternOk_any l0 hbig _ HM).mono ?_
  rintro e w2 ⟨rfl, hb2⟩
  go_wp2_with fail
  go_ret
  exact ⟨rfl, hb2⟩
set_option maxHeartbeats 800000 in
theorem walk_FnExactHolesOf (l0 : List UInt8) (w : World) (h0 : StrArg l0) (hm : MaxAt w) : Calls Tryd.prog 4 #[.string ⟨l0.toArray⟩] w fun e w' => e = .returned (.bool true) ∧ Below w.heap.size w w' := by
  unfold StrArg at h0
  by_cases hbig : l0.length ≤ 1048576
  case neg =>
    go_enter Tryd.func4, Tryd.ntmps4
    go_wp2_with fail
    go_ret
    exact ⟨rfl, Below.refl _ _⟩
  go_enter Tryd.func4, Tryd.ntmps4
  go_wp2_with fail
  refine (sHolesOf_any l0 hbig _).mono ?_
  rintro e w1 ⟨rfl, hb1⟩
  have HM := hm.later hb1
  go_wp2_with fail
  refine (iHolesOf_any l0 hbig _ HM).mono ?_
  rintro e w2 ⟨rfl, hb2⟩
  go_wp2_with fail
  go_ret
  exact ⟨rfl, hb1.trans (hb2.mono hb1.size)⟩
set_option maxHeartbeats 800000 in
theorem walk_FnExactDepthOf (l0 : List UInt8) (a1 : Int) (w : World) (h0 : StrArg l0) (_h1 : I64 a1) (hm : MaxAt w) : Calls Tryd.prog 5 #[.string ⟨l0.toArray⟩, .int .i64 a1] w fun e w' => e = .returned (.bool true) ∧ Below w.heap.size w w' := by
  unfold StrArg at h0
  by_cases hbig : l0.length ≤ 1048576
  case neg =>
    go_enter Tryd.func5, Tryd.ntmps5
    go_wp2_with fail
    go_ret
    exact ⟨rfl, Below.refl _ _⟩
  go_enter Tryd.func5, Tryd.ntmps5
  go_wp2_with fail
  refine (sDepthOf_any l0 hbig _ a1).mono ?_
  rintro e w1 ⟨rfl, hb1⟩
  have HM := hm.later hb1
  go_wp2_with fail
  refine (iDepthOf_any l0 hbig _ a1 HM).mono ?_
  rintro e w2 ⟨rfl, hb2⟩
  go_wp2_with fail
  go_ret
  exact ⟨rfl, hb1.trans (hb2.mono hb1.size)⟩
set_option maxHeartbeats 800000 in
theorem walk_FnExactLetterOfPattern (l0 : List UInt8) (a1 : Int) (w : World) (h0 : StrArg l0) (_h1 : I64 a1) (hm : MaxAt w) : Calls Tryd.prog 6 #[.string ⟨l0.toArray⟩, .int .i64 a1] w fun e w' => e = .returned (.bool true) ∧ Below w.heap.size w w' := by
  unfold StrArg at h0
  by_cases hbig : l0.length ≤ 1048576
  case neg =>
    go_enter Tryd.func6, Tryd.ntmps6
    go_wp2_with fail
    go_ret
    exact ⟨rfl, Below.refl _ _⟩
  go_enter Tryd.func6, Tryd.ntmps6
  go_wp2_with fail
  refine (sLetterOf_any l0 hbig _ a1).mono ?_
  rintro e w1 ⟨rfl, hb1⟩
  have HM := hm.later hb1
  go_wp2_with fail
  refine (iLetterOf_any l0 hbig _ a1 HM).mono ?_
  rintro e w2 ⟨rfl, hb2⟩
  go_wp2_with fail
  go_ret
  exact ⟨rfl, hb1.trans (hb2.mono hb1.size)⟩
set_option maxHeartbeats 800000 in
theorem walk_FnExactFillPattern (l0 : List UInt8) (a1 : Int) (w : World) (h0 : StrArg l0) (_h1 : I64 a1) (hm : MaxAt w) : Calls Tryd.prog 7 #[.string ⟨l0.toArray⟩, .int .i64 a1] w fun e w' => e = .returned (.bool true) ∧ Below w.heap.size w w' := by
  unfold StrArg at h0
  by_cases hbig : l0.length ≤ 1048576
  case neg =>
    go_enter Tryd.func7, Tryd.ntmps7
    go_wp2_with fail
    go_ret
    exact ⟨rfl, Below.refl _ _⟩
  go_enter Tryd.func7, Tryd.ntmps7
  go_wp2_with fail
  refine (sFillPattern_any l0 hbig _ a1).mono ?_
  rintro e w1 ⟨rfl, hb1⟩
  have HM := hm.later hb1
  go_wp2_with fail
  refine (iFillPattern_any l0 hbig _ a1 HM).mono ?_
  rintro e w2 ⟨rfl, hb2⟩
  go_wp2_with fail
  go_ret
  exact ⟨rfl, hb1.trans (hb2.mono hb1.size)⟩
set_option maxHeartbeats 800000 in
theorem walk_FnExactFoldPattern (a0 : Int) (w : World) (_h0 : I64 a0) (hm : MaxAt w) : Calls Tryd.prog 8 #[.int .i64 a0] w fun e w' => e = .returned (.bool true) ∧ Below w.heap.size w w' := by
  go_enter Tryd.func8, Tryd.ntmps8
  go_wp2_with fail
  refine (sFold_any a0 _).mono ?_
  rintro e w1 ⟨rfl, hb1⟩
  have HM := hm.later hb1
  go_wp2_with fail
  refine (iFold_any a0 _ HM).mono ?_
  rintro e w2 ⟨rfl, hb2⟩
  go_wp2_with fail
  go_ret
  exact ⟨rfl, hb1.trans (hb2.mono hb1.size)⟩
set_option maxHeartbeats 800000 in
theorem walk_FnExactFillWith (l0 : List UInt8) (l1 : List UInt8) (a2 : Int) (w : World) (h0 : StrArg l0) (h1 : StrArg l1) (_h2 : I64 a2) (hm : MaxAt w) : Calls Tryd.prog 9 #[.string ⟨l0.toArray⟩, .string ⟨l1.toArray⟩, .int .i64 a2] w fun e w' => e = .returned (.bool true) ∧ Below w.heap.size w w' := by
  unfold StrArg at h0
  by_cases hbig : l0.length ≤ 1048576
  case neg =>
    go_enter Tryd.func9, Tryd.ntmps9
    go_wp2_with fail
    go_ret
    exact ⟨rfl, Below.refl _ _⟩
  unfold StrArg at h1
  by_cases hbig1 : l1.length ≤ 1048576
  case neg =>
    go_enter Tryd.func9, Tryd.ntmps9
    go_wp2_with fail
    go_ret
    exact ⟨rfl, Below.refl _ _⟩
  go_enter Tryd.func9, Tryd.ntmps9
  go_wp2_with fail
  refine (sFillWith_any l0 l1 a2 hbig hbig1 _).mono ?_
  rintro e w1 ⟨rfl, hb1⟩
  have HM := hm.later hb1
  go_wp2_with fail
  refine (iFillWith_any l0 l1 a2 hbig hbig1 _ HM).mono ?_
  rintro e w2 ⟨rfl, hb2⟩
  go_wp2_with fail
  go_ret
  exact ⟨rfl, hb1.trans (hb2.mono hb1.size)⟩
end Go.Proofs.YtfjehlmknbhghaaDoor
