/-
  Contracts of the reference's l22Letter, l22Block, l22Ok. No conditions.
-/
import Derived.Test.YtbjhjpakjinpiaaPLaw
import Derived.Test.YtbjhjpakjinpiaaBLaws1
import Derived.Test.YtbjhjpakjinpiaaBytes
namespace Go.Proofs.Ytbjhjpakjinpiaa
open Go.RowKit

def FourW (b : Pch) : Prop := ∀ r ∈ b, r.length = 4
theorem rOk_four {b : Pch} (h : rOk b = true) : FourW b := fun r hr => (rOk_row h hr).2.1
theorem all_false_snoc {b : Pch} {bl : List UInt8} {k : Nat} (hk : k < b.length) (h : ∀ w ∈ b.take k, agr bl w = false) (h2 : agr bl b[k] = false) : ∀ w ∈ b.take (k + 1), agr bl w = false := by
  intro w hw
  rw [take_snoc b k hk, List.mem_append] at hw
  rcases hw with hw | hw
  · exact h w hw
  · simp at hw; subst hw; exact h2


theorem blk_snoc (p : Pch) (u v : Int) (k : Nat) (h : k < 4) : (blkP p u v).take (k + 1) = (blkP p u v).take k ++ [atP p (u + (k : Int) % 2) (v + (k : Int) / 2)] := by
  rw [take_snoc _ k (by rw [blkP_len]; exact h)]
  have := blkP_getD p u v h
  rw [List.getD, List.getElem?_eq_getElem (by rw [blkP_len]; exact h)] at this
  simp at this
  rw [this]


end Go.Proofs.Ytbjhjpakjinpiaa
