/-
  Contracts of the reference's l21Apply and ApplyBlocks. No conditions.
-/
import Derived.Test.YtbjhjpakjinpiaaBApply
namespace Go.Proofs.Ytbjhjpakjinpiaa
open Go.RowKit

theorem hasB_take {n : Nat} {l : List UInt8} (h : hasB n l = true) (j : Nat) : hasB n (l.take j) = true := by
  unfold hasB at h ⊢
  rw [List.all_eq_true] at h ⊢
  exact fun x hx => h x (List.mem_of_mem_take hx)


end Go.Proofs.Ytbjhjpakjinpiaa
