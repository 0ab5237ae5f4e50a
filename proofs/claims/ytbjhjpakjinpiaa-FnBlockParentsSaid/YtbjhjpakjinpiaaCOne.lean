/-
  Contracts of isBase and RankInClass (program and reference), and the walk of the law on them. No conditions.
-/
import Derived.Test.YtbjhjpakjinpiaaWords
namespace Go.Proofs.Ytbjhjpakjinpiaa
open Go.RowKit


/-- what RankInClass returns -/
def rank (n b : Int) : Int := if wi n 0 100000 && wi b 2 4 then n / b else -1



end Go.Proofs.Ytbjhjpakjinpiaa
