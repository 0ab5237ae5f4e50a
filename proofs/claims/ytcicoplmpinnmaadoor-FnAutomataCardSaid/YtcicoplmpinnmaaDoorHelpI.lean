/-
  Contracts of the laws' own helpers on slices of ints: copy, equality of equals, marks. No conditions beyond small lengths.
-/
import Derived.Test.YtcicoplmpinnmaaDoorRowW
namespace Go.Proofs.YtcicoplmpinnmaaDoor
open Go.RowKit

theorem infoI : (Tryd.prog.info? 3).map (fun i => (i.zero, i.size, i.bytes)) = some (some (.int .i64 0), 1, 8) := by kernel_rfl



/-- the marks: k, k + 1, .. -/
def mks (k : Int) (n : Nat) : List Int := (List.range n).map fun i : Nat => k + (i : Int)
theorem mks_len (k : Int) (n : Nat) : (mks k n).length = n := by simp [mks]
theorem mks_get (k : Int) {n i : Nat} (h : i < n) : (mks k n)[i]'(by rw [mks_len]; exact h) = k + (i : Int) := by simp [mks]


end Go.Proofs.YtcicoplmpinnmaaDoor
