/-
  No cell of these rows narrows 'for every input' (looked for: loops, veiled, ifaces, maps, wideKeys, modest, calm, conditions, laid).
  DERIVED. THE GIVEN ROWS OF THIS SEAT. 9 by the template 'for every input the law returns true; each argument reads behind the call as it read before'; 0 by the template 'total and deterministic' (their statements: YtldbgakfioggoaaTotals.lean).
  GIVEN WITH THE SEED: the statements are not yours to turn. If you find one false, say at which input.
  Laid BY PROGRAM, IN A SANDBOX (cutbox-rows.mjs): the forced cells as the released guide's own fill.sh prints them over the translation 2d66860bfe2afbc7… (all of the seat's roots in one cut). By AI agents, Wed Nov 11 2026. No macro, syntax, notation, axiom, sorry.
-/
import Derived.Test.YtldbgakfioggoaaChecked
import GoSem.Claim
import GoSem.ClaimJoined
import GoSem.ClaimMapViews
import Derived.JoinedTies
import Derived.KernelRfl
namespace Go.Proofs.Ytldbgakfioggoaa
/- THE CELL 'sum', in the pinned program and in every row, IS THE sha256 OF THE DUMP (.gsa) THAT YtldbgakfioggoaaProg.lean LOADS. Nothing in Lean hashes anything: it is a label: what it is worth is what the hold of that sum in a sandbox is worth. -/
noncomputable def Try.pinned : Pinned := { name := "ytldbgakfioggoaa", sum := "2d66860bfe2afbc79afc629b6e1308bc5dbaee68a8bfb4fce6c9d59690bd00bd", checked := Try.checked }
namespace Rows
def none {H : Type} : Left H := { results := [], args := [] }

/-- 'laws.FnExactRulesOk': WHATEVER THE INPUT: true; the input reads as it did. -/
def fnExactRulesOkSpec : ChangeSpec := { name := "fnExactRulesOk", fn := fun _ => fun
  | [d1, d2] => { results := [.lit (.bool true)], args := [d1, d2] }
  | _ => none }
def fnExactRulesOkRow : OpenClaim := { program := "ytldbgakfioggoaa", sum := "2d66860bfe2afbc79afc629b6e1308bc5dbaee68a8bfb4fce6c9d59690bd00bd", func := "loop.example/g03209/laws.FnExactRulesOk", spec := "fnExactRulesOk", apart := false }
def FnExactRulesOkSaid : Prop := fnExactRulesOkRow.holds Try.pinned (OpenSpec.ofChange fnExactRulesOkSpec)

/-- ITS FALSE NEIGHBOUR: 'it returns false'. Refute it at one input. -/
def fnExactRulesOkWrong : ChangeSpec := { name := "fnExactRulesOk", fn := fun _ => fun
  | [d1, d2] => { results := [.lit (.bool false)], args := [d1, d2] }
  | _ => none }
def FnExactRulesOkWrongFalsely : Prop := fnExactRulesOkRow.holds Try.pinned (OpenSpec.ofChange fnExactRulesOkWrong)

/-- 'laws.FnExactFaultsOf': WHATEVER THE INPUT: true; the input reads as it did. -/
def fnExactFaultsOfSpec : ChangeSpec := { name := "fnExactFaultsOf", fn := fun _ => fun
  | [d1, d2, d3] => { results := [.lit (.bool true)], args := [d1, d2, d3] }
  | _ => none }
def fnExactFaultsOfRow : OpenClaim := { program := "ytldbgakfioggoaa", sum := "2d66860bfe2afbc79afc629b6e1308bc5dbaee68a8bfb4fce6c9d59690bd00bd", func := "loop.example/g03209/laws.FnExactFaultsOf", spec := "fnExactFaultsOf", apart := false }
def FnExactFaultsOfSaid : Prop := fnExactFaultsOfRow.holds Try.pinned (OpenSpec.ofChange fnExactFaultsOfSpec)

/-- ITS FALSE NEIGHBOUR: 'it returns false'. Refute it at one input. -/
def fnExactFaultsOfWrong : ChangeSpec := { name := "fnExactFaultsOf", fn := fun _ => fun
  | [d1, d2, d3] => { results := [.lit (.bool false)], args := [d1, d2, d3] }
  | _ => none }
def FnExactFaultsOfWrongFalsely : Prop := fnExactFaultsOfRow.holds Try.pinned (OpenSpec.ofChange fnExactFaultsOfWrong)

/-- 'laws.FnExactObeys': WHATEVER THE INPUT: true; the input reads as it did. -/
def fnExactObeysSpec : ChangeSpec := { name := "fnExactObeys", fn := fun _ => fun
  | [d1, d2, d3] => { results := [.lit (.bool true)], args := [d1, d2, d3] }
  | _ => none }
def fnExactObeysRow : OpenClaim := { program := "ytldbgakfioggoaa", sum := "2d66860bfe2afbc79afc629b6e1308bc5dbaee68a8bfb4fce6c9d59690bd00bd", func := "loop.example/g03209/laws.FnExactObeys", spec := "fnExactObeys", apart := false }
def FnExactObeysSaid : Prop := fnExactObeysRow.holds Try.pinned (OpenSpec.ofChange fnExactObeysSpec)

/-- ITS FALSE NEIGHBOUR: 'it returns false'. Refute it at one input. -/
def fnExactObeysWrong : ChangeSpec := { name := "fnExactObeys", fn := fun _ => fun
  | [d1, d2, d3] => { results := [.lit (.bool false)], args := [d1, d2, d3] }
  | _ => none }
def FnExactObeysWrongFalsely : Prop := fnExactObeysRow.holds Try.pinned (OpenSpec.ofChange fnExactObeysWrong)

/-- 'laws.FnExactCanRepeat': WHATEVER THE INPUT: true; the input reads as it did. -/
def fnExactCanRepeatSpec : ChangeSpec := { name := "fnExactCanRepeat", fn := fun _ => fun
  | [d1, d2, d3] => { results := [.lit (.bool true)], args := [d1, d2, d3] }
  | _ => none }
def fnExactCanRepeatRow : OpenClaim := { program := "ytldbgakfioggoaa", sum := "2d66860bfe2afbc79afc629b6e1308bc5dbaee68a8bfb4fce6c9d59690bd00bd", func := "loop.example/g03209/laws.FnExactCanRepeat", spec := "fnExactCanRepeat", unfollowed := true, recurses := true, apart := false }
def FnExactCanRepeatSaid : Prop := fnExactCanRepeatRow.holds Try.pinned (OpenSpec.ofChange fnExactCanRepeatSpec)

/-- ITS FALSE NEIGHBOUR: 'it returns false'. Refute it at one input. -/
def fnExactCanRepeatWrong : ChangeSpec := { name := "fnExactCanRepeat", fn := fun _ => fun
  | [d1, d2, d3] => { results := [.lit (.bool false)], args := [d1, d2, d3] }
  | _ => none }
def FnExactCanRepeatWrongFalsely : Prop := fnExactCanRepeatRow.holds Try.pinned (OpenSpec.ofChange fnExactCanRepeatWrong)

/-- 'laws.FnExactCountObeying': WHATEVER THE INPUT: true; the input reads as it did. -/
def fnExactCountObeyingSpec : ChangeSpec := { name := "fnExactCountObeying", fn := fun _ => fun
  | [d1, d2, d3, d4] => { results := [.lit (.bool true)], args := [d1, d2, d3, d4] }
  | _ => none }
def fnExactCountObeyingRow : OpenClaim := { program := "ytldbgakfioggoaa", sum := "2d66860bfe2afbc79afc629b6e1308bc5dbaee68a8bfb4fce6c9d59690bd00bd", func := "loop.example/g03209/laws.FnExactCountObeying", spec := "fnExactCountObeying", apart := false }
def FnExactCountObeyingSaid : Prop := fnExactCountObeyingRow.holds Try.pinned (OpenSpec.ofChange fnExactCountObeyingSpec)

/-- ITS FALSE NEIGHBOUR: 'it returns false'. Refute it at one input. -/
def fnExactCountObeyingWrong : ChangeSpec := { name := "fnExactCountObeying", fn := fun _ => fun
  | [d1, d2, d3, d4] => { results := [.lit (.bool false)], args := [d1, d2, d3, d4] }
  | _ => none }
def FnExactCountObeyingWrongFalsely : Prop := fnExactCountObeyingRow.holds Try.pinned (OpenSpec.ofChange fnExactCountObeyingWrong)

/-- 'laws.FnExactFirstObeying': WHATEVER THE INPUT: true; the input reads as it did. -/
def fnExactFirstObeyingSpec : ChangeSpec := { name := "fnExactFirstObeying", fn := fun _ => fun
  | [d1, d2, d3, d4] => { results := [.lit (.bool true)], args := [d1, d2, d3, d4] }
  | _ => none }
def fnExactFirstObeyingRow : OpenClaim := { program := "ytldbgakfioggoaa", sum := "2d66860bfe2afbc79afc629b6e1308bc5dbaee68a8bfb4fce6c9d59690bd00bd", func := "loop.example/g03209/laws.FnExactFirstObeying", spec := "fnExactFirstObeying", unfollowed := true, recurses := true, apart := false }
def FnExactFirstObeyingSaid : Prop := fnExactFirstObeyingRow.holds Try.pinned (OpenSpec.ofChange fnExactFirstObeyingSpec)

/-- ITS FALSE NEIGHBOUR: 'it returns false'. Refute it at one input. -/
def fnExactFirstObeyingWrong : ChangeSpec := { name := "fnExactFirstObeying", fn := fun _ => fun
  | [d1, d2, d3, d4] => { results := [.lit (.bool false)], args := [d1, d2, d3, d4] }
  | _ => none }
def FnExactFirstObeyingWrongFalsely : Prop := fnExactFirstObeyingRow.holds Try.pinned (OpenSpec.ofChange fnExactFirstObeyingWrong)

/-- 'laws.FnExactJoinRules': WHATEVER THE INPUT: true; the input reads as it did. -/
def fnExactJoinRulesSpec : ChangeSpec := { name := "fnExactJoinRules", fn := fun _ => fun
  | [d1, d2] => { results := [.lit (.bool true)], args := [d1, d2] }
  | _ => none }
def fnExactJoinRulesRow : OpenClaim := { program := "ytldbgakfioggoaa", sum := "2d66860bfe2afbc79afc629b6e1308bc5dbaee68a8bfb4fce6c9d59690bd00bd", func := "loop.example/g03209/laws.FnExactJoinRules", spec := "fnExactJoinRules", recurses := true, apart := false }
def FnExactJoinRulesSaid : Prop := fnExactJoinRulesRow.holds Try.pinned (OpenSpec.ofChange fnExactJoinRulesSpec)

/-- ITS FALSE NEIGHBOUR: 'it returns false'. Refute it at one input. -/
def fnExactJoinRulesWrong : ChangeSpec := { name := "fnExactJoinRules", fn := fun _ => fun
  | [d1, d2] => { results := [.lit (.bool false)], args := [d1, d2] }
  | _ => none }
def FnExactJoinRulesWrongFalsely : Prop := fnExactJoinRulesRow.holds Try.pinned (OpenSpec.ofChange fnExactJoinRulesWrong)

/-- 'laws.FnExactRulesOf': WHATEVER THE INPUT: true; the input reads as it did. -/
def fnExactRulesOfSpec : ChangeSpec := { name := "fnExactRulesOf", fn := fun _ => fun
  | [d] => { results := [.lit (.bool true)], args := [d] }
  | _ => none }
def fnExactRulesOfRow : OpenClaim := { program := "ytldbgakfioggoaa", sum := "2d66860bfe2afbc79afc629b6e1308bc5dbaee68a8bfb4fce6c9d59690bd00bd", func := "loop.example/g03209/laws.FnExactRulesOf", spec := "fnExactRulesOf", recurses := true, apart := false }
def FnExactRulesOfSaid : Prop := fnExactRulesOfRow.holds Try.pinned (OpenSpec.ofChange fnExactRulesOfSpec)

/-- ITS FALSE NEIGHBOUR: 'it returns false'. Refute it at one input. -/
def fnExactRulesOfWrong : ChangeSpec := { name := "fnExactRulesOf", fn := fun _ => fun
  | [d] => { results := [.lit (.bool false)], args := [d] }
  | _ => none }
def FnExactRulesOfWrongFalsely : Prop := fnExactRulesOfRow.holds Try.pinned (OpenSpec.ofChange fnExactRulesOfWrong)

/-- 'laws.FnRules': WHATEVER THE INPUT: true; the input reads as it did. -/
def fnRulesSpec : ChangeSpec := { name := "fnRules", fn := fun _ => fun
  | [d] => { results := [.lit (.bool true)], args := [d] }
  | _ => none }
def fnRulesRow : OpenClaim := { program := "ytldbgakfioggoaa", sum := "2d66860bfe2afbc79afc629b6e1308bc5dbaee68a8bfb4fce6c9d59690bd00bd", func := "loop.example/g03209/laws.FnRules", spec := "fnRules", inPlace := ["internal/abi.NoEscape", "internal/bytealg.MakeNoZero"], unfollowed := true, recurses := true, apart := false }
def FnRulesSaid : Prop := fnRulesRow.holds Try.pinned (OpenSpec.ofChange fnRulesSpec)

/-- ITS FALSE NEIGHBOUR: 'it returns false'. Refute it at one input. -/
def fnRulesWrong : ChangeSpec := { name := "fnRules", fn := fun _ => fun
  | [d] => { results := [.lit (.bool false)], args := [d] }
  | _ => none }
def FnRulesWrongFalsely : Prop := fnRulesRow.holds Try.pinned (OpenSpec.ofChange fnRulesWrong)

/- THE SECOND FORM. 'bulk': how many values and letters a reading holds, each counted each time it is reached (what is shared counts as often as it is met; a slice's spare places count too). A statement '..UptoSaid' is the law's where the arguments, and the package variables that the reading takes, are together of bulk at most 1048576: NARROWER than '..Said'. Prove '..Said' where nothing that the law and all that it calls make is longer than what came in: it says more and counts as full. Else prove '..UptoSaid'. A law counts once. -/
mutual
def uptoBulk {H : Type} : DataW H → Nat
  | .lit (.string bytes) => bytes.length + 1
  | .lit _ => 1
  | .nil => 1
  | .ptr d => uptoBulk d + 1
  | .slice elems spare => uptoBulkAll elems + uptoBulkAll spare + 1
  | .agg parts => uptoBulkAll parts + 1
  | .iface _ d => uptoBulk d + 1
  | .map entries => uptoBulkEntries entries + 1
  | .held _ => 1
def uptoBulkAll {H : Type} : List (DataW H) → Nat
  | [] => 0
  | d :: r => uptoBulk d + uptoBulkAll r
def uptoBulkEntries {H : Type} : List (Lit × DataW H) → Nat
  | [] => 0
  | x :: r => uptoBulkEntry x + uptoBulkEntries r
def uptoBulkEntry {H : Type} : Lit × DataW H → Nat
  | (.string bytes, d) => bytes.length + uptoBulk d + 1
  | (_, d) => uptoBulk d + 1
 end
def uptoSmall : (H : Type) → List (DataW H) → Bool := fun _ ds => decide (uptoBulkAll ds ≤ 1048576)
def OpenSpec.upto (s : _root_.Go.ChangeSpec) : _root_.Go.OpenSpec := { _root_.Go.OpenSpec.ofChange s with cond := some uptoSmall }

/-- 'laws.FnExactRulesOk', WHERE WHAT IT READS IS OF BULK AT MOST 1048576: true; the input reads as it did. -/
def fnExactRulesOkUptoRow : OpenClaim := { program := "ytldbgakfioggoaa", sum := "2d66860bfe2afbc79afc629b6e1308bc5dbaee68a8bfb4fce6c9d59690bd00bd", func := "loop.example/g03209/laws.FnExactRulesOk", spec := "fnExactRulesOk", apart := false, narrowed := true }
def FnExactRulesOkUptoSaid : Prop := fnExactRulesOkUptoRow.holds Try.pinned (OpenSpec.upto fnExactRulesOkSpec)

/-- 'laws.FnExactFaultsOf', WHERE WHAT IT READS IS OF BULK AT MOST 1048576: true; the input reads as it did. -/
def fnExactFaultsOfUptoRow : OpenClaim := { program := "ytldbgakfioggoaa", sum := "2d66860bfe2afbc79afc629b6e1308bc5dbaee68a8bfb4fce6c9d59690bd00bd", func := "loop.example/g03209/laws.FnExactFaultsOf", spec := "fnExactFaultsOf", apart := false, narrowed := true }
def FnExactFaultsOfUptoSaid : Prop := fnExactFaultsOfUptoRow.holds Try.pinned (OpenSpec.upto fnExactFaultsOfSpec)

/-- 'laws.FnExactObeys', WHERE WHAT IT READS IS OF BULK AT MOST 1048576: true; the input reads as it did. -/
def fnExactObeysUptoRow : OpenClaim := { program := "ytldbgakfioggoaa", sum := "2d66860bfe2afbc79afc629b6e1308bc5dbaee68a8bfb4fce6c9d59690bd00bd", func := "loop.example/g03209/laws.FnExactObeys", spec := "fnExactObeys", apart := false, narrowed := true }
def FnExactObeysUptoSaid : Prop := fnExactObeysUptoRow.holds Try.pinned (OpenSpec.upto fnExactObeysSpec)

/-- 'laws.FnExactCanRepeat', WHERE WHAT IT READS IS OF BULK AT MOST 1048576: true; the input reads as it did. -/
def fnExactCanRepeatUptoRow : OpenClaim := { program := "ytldbgakfioggoaa", sum := "2d66860bfe2afbc79afc629b6e1308bc5dbaee68a8bfb4fce6c9d59690bd00bd", func := "loop.example/g03209/laws.FnExactCanRepeat", spec := "fnExactCanRepeat", unfollowed := true, recurses := true, apart := false, narrowed := true }
def FnExactCanRepeatUptoSaid : Prop := fnExactCanRepeatUptoRow.holds Try.pinned (OpenSpec.upto fnExactCanRepeatSpec)

/-- 'laws.FnExactCountObeying', WHERE WHAT IT READS IS OF BULK AT MOST 1048576: true; the input reads as it did. -/
def fnExactCountObeyingUptoRow : OpenClaim := { program := "ytldbgakfioggoaa", sum := "2d66860bfe2afbc79afc629b6e1308bc5dbaee68a8bfb4fce6c9d59690bd00bd", func := "loop.example/g03209/laws.FnExactCountObeying", spec := "fnExactCountObeying", apart := false, narrowed := true }
def FnExactCountObeyingUptoSaid : Prop := fnExactCountObeyingUptoRow.holds Try.pinned (OpenSpec.upto fnExactCountObeyingSpec)

/-- 'laws.FnExactFirstObeying', WHERE WHAT IT READS IS OF BULK AT MOST 1048576: true; the input reads as it did. -/
def fnExactFirstObeyingUptoRow : OpenClaim := { program := "ytldbgakfioggoaa", sum := "2d66860bfe2afbc79afc629b6e1308bc5dbaee68a8bfb4fce6c9d59690bd00bd", func := "loop.example/g03209/laws.FnExactFirstObeying", spec := "fnExactFirstObeying", unfollowed := true, recurses := true, apart := false, narrowed := true }
def FnExactFirstObeyingUptoSaid : Prop := fnExactFirstObeyingUptoRow.holds Try.pinned (OpenSpec.upto fnExactFirstObeyingSpec)

/-- 'laws.FnExactJoinRules', WHERE WHAT IT READS IS OF BULK AT MOST 1048576: true; the input reads as it did. -/
def fnExactJoinRulesUptoRow : OpenClaim := { program := "ytldbgakfioggoaa", sum := "2d66860bfe2afbc79afc629b6e1308bc5dbaee68a8bfb4fce6c9d59690bd00bd", func := "loop.example/g03209/laws.FnExactJoinRules", spec := "fnExactJoinRules", recurses := true, apart := false, narrowed := true }
def FnExactJoinRulesUptoSaid : Prop := fnExactJoinRulesUptoRow.holds Try.pinned (OpenSpec.upto fnExactJoinRulesSpec)

/-- 'laws.FnExactRulesOf', WHERE WHAT IT READS IS OF BULK AT MOST 1048576: true; the input reads as it did. -/
def fnExactRulesOfUptoRow : OpenClaim := { program := "ytldbgakfioggoaa", sum := "2d66860bfe2afbc79afc629b6e1308bc5dbaee68a8bfb4fce6c9d59690bd00bd", func := "loop.example/g03209/laws.FnExactRulesOf", spec := "fnExactRulesOf", recurses := true, apart := false, narrowed := true }
def FnExactRulesOfUptoSaid : Prop := fnExactRulesOfUptoRow.holds Try.pinned (OpenSpec.upto fnExactRulesOfSpec)

/-- 'laws.FnRules', WHERE WHAT IT READS IS OF BULK AT MOST 1048576: true; the input reads as it did. -/
def fnRulesUptoRow : OpenClaim := { program := "ytldbgakfioggoaa", sum := "2d66860bfe2afbc79afc629b6e1308bc5dbaee68a8bfb4fce6c9d59690bd00bd", func := "loop.example/g03209/laws.FnRules", spec := "fnRules", inPlace := ["internal/abi.NoEscape", "internal/bytealg.MakeNoZero"], unfollowed := true, recurses := true, apart := false, narrowed := true }
def FnRulesUptoSaid : Prop := fnRulesUptoRow.holds Try.pinned (OpenSpec.upto fnRulesSpec)

end Rows
end Go.Proofs.Ytldbgakfioggoaa
