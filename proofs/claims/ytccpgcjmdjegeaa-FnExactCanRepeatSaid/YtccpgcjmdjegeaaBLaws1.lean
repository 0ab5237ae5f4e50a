/-
  The walks of the laws on PatchOk and RuleOk. No conditions.
-/
import Derived.Test.YtccpgcjmdjegeaaPat
import Derived.Test.YtccpgcjmdjegeaaHelpS
namespace Go.Proofs.Ytccpgcjmdjegeaa
open Go.RowKit

theorem cPatchOkS (A : Option Addr) (n c : Nat) (p : List (List UInt8)) (w : World) (h : SIn w A n c p) : Calls Try.prog 88 #[.slice A n c] w fun e w' => e = .returned (.bool (pOk p)) ∧ Below w.heap.size w w' :=
  (sPatchOk_any _ _ _ _ _ _ h.1 h.2.1 h.longs).mono fun _ _ ⟨he, hw⟩ => ⟨he, hw ▸ Below.same⟩
theorem cPatchOkI (A : Option Addr) (n c : Nat) (p : List (List UInt8)) (w : World) (h : SIn w A n c p) : Calls Try.prog 53 #[.slice A n c] w fun e w' => e = .returned (.bool (pOk p)) ∧ Below w.heap.size w w' :=
  (iPatchOk_any _ _ _ _ _ _ h.1 h.2.1 h.longs).mono fun _ _ ⟨he, hw⟩ => ⟨he, hw ▸ Below.same⟩
theorem cRuleOkS (A : Option Addr) (n c : Nat) (p : List (List UInt8)) (w : World) (h : SIn w A n c p) : Calls Try.prog 83 #[.slice A n c] w fun e w' => e = .returned (.bool (rOk p)) ∧ Below w.heap.size w w' :=
  (sRuleOk_any _ _ _ _ _ _ h.1 h.2.1 h.longs).mono fun _ _ ⟨he, hw⟩ => ⟨he, hw ▸ Below.same⟩

end Go.Proofs.Ytccpgcjmdjegeaa
