/-
  The walks of the laws on PatchOk and RuleOk. No conditions.
-/
import Derived.Test.YtkgokjekifmlfaaPat
import Derived.Test.YtkgokjekifmlfaaHelpS
namespace Go.Proofs.Ytkgokjekifmlfaa
open Go.RowKit


end Go.Proofs.Ytkgokjekifmlfaa
