/-
  The walks of the laws on PatchOk and RuleOk. No conditions.
-/
import Derived.Test.YtbjhjpakjinpiaaPat
import Derived.Test.YtbjhjpakjinpiaaHelpS
namespace Go.Proofs.Ytbjhjpakjinpiaa
open Go.RowKit

theorem cPatchOkI (A : Option Addr) (n c : Nat) (p : List (List UInt8)) (w : World) (h : SIn w A n c p) : Calls Try.prog 12 #[.slice A n c] w fun e w' => e = .returned (.bool (pOk p)) ∧ Below w.heap.size w w' :=
  (iPatchOk_any _ _ _ _ _ _ h.1 h.2.1 h.longs).mono fun _ _ ⟨he, hw⟩ => ⟨he, hw ▸ Below.same⟩
theorem cRuleOkI (A : Option Addr) (n c : Nat) (p : List (List UInt8)) (w : World) (h : SIn w A n c p) : Calls Try.prog 23 #[.slice A n c] w fun e w' => e = .returned (.bool (rOk p)) ∧ Below w.heap.size w w' :=
  (iRuleOk_any _ _ _ _ _ _ h.1 h.2.1 h.longs).mono fun _ _ ⟨he, hw⟩ => ⟨he, hw ▸ Below.same⟩

end Go.Proofs.Ytbjhjpakjinpiaa
