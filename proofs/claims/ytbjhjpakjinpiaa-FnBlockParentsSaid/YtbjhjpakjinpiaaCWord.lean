/-
  Contracts of ClassWord (program and reference), and the walk of the law on them. No conditions.
-/
import Derived.Test.YtbjhjpakjinpiaaCCls
import Derived.Test.YtbjhjpakjinpiaaBytes
namespace Go.Proofs.Ytbjhjpakjinpiaa
open Go.RowKit

def clsLetter (b i : Nat) : UInt8 := UInt8.ofNat (97 + cls b i)
def classW (b n : Nat) : List UInt8 := (List.range n).map (clsLetter b)
theorem clsLetter_nat {b i : Nat} (hb : 2 ≤ b) (hb2 : b ≤ 4) : ((clsLetter b i).toNat : Int) = 97 + (cls b i : Nat) := by
  have := cls_lt hb i
  simp [clsLetter]; omega
theorem classW_snoc (b n : Nat) : classW b (n + 1) = classW b n ++ [clsLetter b n] := by simp [classW, List.range_succ]
def classWord (b n : Int) : List UInt8 × Bool := if wi b 2 4 && wi n 0 400 then (classW b.toNat n.toNat, true) else ([], false)




end Go.Proofs.Ytbjhjpakjinpiaa
