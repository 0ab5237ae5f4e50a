/-
  The walks of the laws on PatchOk and RuleOk. No conditions.
-/
import Derived.Test.YtcicoplmpinnmaaDoorPat
import Derived.Test.YtcicoplmpinnmaaDoorHelpS
namespace Go.Proofs.YtcicoplmpinnmaaDoor
open Go.RowKit


end Go.Proofs.YtcicoplmpinnmaaDoor
