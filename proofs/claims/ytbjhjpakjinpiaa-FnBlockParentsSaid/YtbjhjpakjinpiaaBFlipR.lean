/-
  Contracts of FlipRule (program and reference), and the walk of the law on it. No conditions.
-/
import Derived.Test.YtbjhjpakjinpiaaBLaws1
import Derived.Deep.RegionHeld3
namespace Go.Proofs.Ytbjhjpakjinpiaa
open Go.RowKit

def flipW (r : List UInt8) : List UInt8 := r.take 1 ++ (r.take 3).drop 2 ++ (r.take 2).drop 1 ++ r.drop 3
def flipRule (b : List (List UInt8)) : List (List UInt8) × Bool := if rOk b then (b.map flipW, true) else ([], false)
theorem flipRule_len (b : List (List UInt8)) : (flipRule b).1.length ≤ 4096 := by
  unfold flipRule
  split
  · rename_i h; have := rOk_len h; simp; omega
  · simp
theorem fourR {r : List UInt8} (h : r.length = 4) : ∃ x y z u, r = [x, y, z, u] := by
  match r, h with
  | [x, y, z, u], _ => exact ⟨x, y, z, u, rfl⟩
theorem map_snoc' {α β : Type} (ss : List α) (f : α → β) {k : Nat} (h : k < ss.length) : (ss.map f).take (k + 1) = (ss.map f).take k ++ [f ss[k]] := by
  rw [take_snoc _ k (by simpa using h)]; simp

end Go.Proofs.Ytbjhjpakjinpiaa
