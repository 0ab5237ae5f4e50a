/-
  The walks of the laws on PatchOk and RuleOk. No conditions.
-/
import Derived.Test.YtfjehlmknbhghaaDoorPat
import Derived.Test.YtfjehlmknbhghaaDoorHelpS
namespace Go.Proofs.YtfjehlmknbhghaaDoor
open Go.RowKit


end Go.Proofs.YtfjehlmknbhghaaDoor
