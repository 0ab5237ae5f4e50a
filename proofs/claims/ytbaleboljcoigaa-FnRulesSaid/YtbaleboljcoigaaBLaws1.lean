/-
  The walks of the laws on PatchOk and RuleOk. No conditions.
-/
import Derived.Test.YtbaleboljcoigaaPat
import Derived.Test.YtbaleboljcoigaaHelpS
namespace Go.Proofs.Ytbaleboljcoigaa
open Go.RowKit

theorem cPatchOkS (A : Option Addr) (n c : Nat) (p : List (List UInt8)) (w : World) (h : SIn w A n c p) : Calls Try.prog 65 #[.slice A n c] w fun e w' => e = .returned (.bool (pOk p)) ∧ Below w.heap.size w w' :=
  (sPatchOk_any _ _ _ _ _ _ h.1 h.2.1 h.longs).mono fun _ _ ⟨he, hw⟩ => ⟨he, hw ▸ Below.same⟩
theorem cPatchOkI (A : Option Addr) (n c : Nat) (p : List (List UInt8)) (w : World) (h : SIn w A n c p) : Calls Try.prog 20 #[.slice A n c] w fun e w' => e = .returned (.bool (pOk p)) ∧ Below w.heap.size w w' :=
  (iPatchOk_any _ _ _ _ _ _ h.1 h.2.1 h.longs).mono fun _ _ ⟨he, hw⟩ => ⟨he, hw ▸ Below.same⟩
theorem cRuleOkS (A : Option Addr) (n c : Nat) (p : List (List UInt8)) (w : World) (h : SIn w A n c p) : Calls Try.prog 58 #[.slice A n c] w fun e w' => e = .returned (.bool (rOk p)) ∧ Below w.heap.size w w' :=
  (sRuleOk_any _ _ _ _ _ _ h.1 h.2.1 h.longs).mono fun _ _ ⟨he, hw⟩ => ⟨he, hw ▸ Below.same⟩

end Go.Proofs.Ytbaleboljcoigaa
