/-
  Contracts of FormatPatch (program and reference). No conditions.
-/
import Derived.Test.YtbjhjpakjinpiaaBLaws1
import Derived.Test.YtbjhjpakjinpiaaJoin
namespace Go.Proofs.Ytbjhjpakjinpiaa
open Go.RowKit

def fmtP (p : List (List UInt8)) : List UInt8 := if pOk p then Lib.join p [47] else []
theorem pOk_join_len {p : List (List UInt8)} (h : pOk p = true) : (Lib.join p [47]).length ≤ 2048 := by
  have h1 := join_bound (ss := p) [47] (m := 32) (fun s hs => by have := pOk_row h hs; omega)
  have h2 := pOk_len h
  refine Nat.le_trans h1 (Nat.le_trans (Nat.mul_le_mul (show [47].length + 32 ≤ 33 by simp) h2.2) (by decide))


end Go.Proofs.Ytbjhjpakjinpiaa
