/-
  No cell of these rows narrows 'for every input' (looked for: loops, veiled, ifaces, maps, wideKeys, modest, calm, conditions, laid).
  DERIVED. THE GIVEN ROWS OF THIS SEAT. 12 by the template 'for every input the law returns true; each argument reads behind the call as it read before'; 0 by the template 'total and deterministic' (their statements: YtcepjfadgdpbmaaTotals.lean).
  GIVEN WITH THE SEED: the statements are not yours to turn. If you find one false, say at which input.
  Laid BY PROGRAM, IN A SANDBOX (cutbox-rows.mjs): the forced cells as the released guide's own fill.sh prints them over the translation 28bc75a17d7a7ea3… (all of the seat's roots in one cut). By AI agents, Wed Nov 11 2026. No macro, syntax, notation, axiom, sorry.
-/
import Derived.Test.YtcepjfadgdpbmaaChecked
import GoSem.Claim
import GoSem.ClaimJoined
import GoSem.ClaimMapViews
import Derived.JoinedTies
import Derived.KernelRfl
namespace Go.Proofs.Ytcepjfadgdpbmaa
/- THE CELL 'sum', in the pinned program and in every row, IS THE sha256 OF THE DUMP (.gsa) THAT YtcepjfadgdpbmaaProg.lean LOADS. Nothing in Lean hashes anything: it is a label: what it is worth is what the hold of that sum in a sandbox is worth. -/
noncomputable def Try.pinned : Pinned := { name := "ytcepjfadgdpbmaa", sum := "28bc75a17d7a7ea35beb97c907905eef0441c14a7d7fdbb5543f63fdb0de4a3c", checked := Try.checked }
namespace Rows
def none {H : Type} : Left H := { results := [], args := [] }

/-- 'laws.FnExactPatchOk': WHATEVER THE INPUT: true; the input reads as it did. -/
def fnExactPatchOkSpec : ChangeSpec := { name := "fnExactPatchOk", fn := fun _ => fun
  | [d] => { results := [.lit (.bool true)], args := [d] }
  | _ => none }
def fnExactPatchOkRow : OpenClaim := { program := "ytcepjfadgdpbmaa", sum := "28bc75a17d7a7ea35beb97c907905eef0441c14a7d7fdbb5543f63fdb0de4a3c", func := "loop.example/g03209/laws.FnExactPatchOk", spec := "fnExactPatchOk", apart := false }
def FnExactPatchOkSaid : Prop := fnExactPatchOkRow.holds Try.pinned (OpenSpec.ofChange fnExactPatchOkSpec)

/-- ITS FALSE NEIGHBOUR: 'it returns false'. Refute it at one input. -/
def fnExactPatchOkWrong : ChangeSpec := { name := "fnExactPatchOk", fn := fun _ => fun
  | [d] => { results := [.lit (.bool false)], args := [d] }
  | _ => none }
def FnExactPatchOkWrongFalsely : Prop := fnExactPatchOkRow.holds Try.pinned (OpenSpec.ofChange fnExactPatchOkWrong)

/-- 'laws.FnExactRuleOk': WHATEVER THE INPUT: true; the input reads as it did. -/
def fnExactRuleOkSpec : ChangeSpec := { name := "fnExactRuleOk", fn := fun _ => fun
  | [d] => { results := [.lit (.bool true)], args := [d] }
  | _ => none }
def fnExactRuleOkRow : OpenClaim := { program := "ytcepjfadgdpbmaa", sum := "28bc75a17d7a7ea35beb97c907905eef0441c14a7d7fdbb5543f63fdb0de4a3c", func := "loop.example/g03209/laws.FnExactRuleOk", spec := "fnExactRuleOk", apart := false }
def FnExactRuleOkSaid : Prop := fnExactRuleOkRow.holds Try.pinned (OpenSpec.ofChange fnExactRuleOkSpec)

/-- ITS FALSE NEIGHBOUR: 'it returns false'. Refute it at one input. -/
def fnExactRuleOkWrong : ChangeSpec := { name := "fnExactRuleOk", fn := fun _ => fun
  | [d] => { results := [.lit (.bool false)], args := [d] }
  | _ => none }
def FnExactRuleOkWrongFalsely : Prop := fnExactRuleOkRow.holds Try.pinned (OpenSpec.ofChange fnExactRuleOkWrong)

/-- 'laws.FnExactNamedRule': WHATEVER THE INPUT: true; the input reads as it did. -/
def fnExactNamedRuleSpec : ChangeSpec := { name := "fnExactNamedRule", fn := fun _ => fun
  | [d] => { results := [.lit (.bool true)], args := [d] }
  | _ => none }
def fnExactNamedRuleRow : OpenClaim := { program := "ytcepjfadgdpbmaa", sum := "28bc75a17d7a7ea35beb97c907905eef0441c14a7d7fdbb5543f63fdb0de4a3c", func := "loop.example/g03209/laws.FnExactNamedRule", spec := "fnExactNamedRule", apart := false }
def FnExactNamedRuleSaid : Prop := fnExactNamedRuleRow.holds Try.pinned (OpenSpec.ofChange fnExactNamedRuleSpec)

/-- ITS FALSE NEIGHBOUR: 'it returns false'. Refute it at one input. -/
def fnExactNamedRuleWrong : ChangeSpec := { name := "fnExactNamedRule", fn := fun _ => fun
  | [d] => { results := [.lit (.bool false)], args := [d] }
  | _ => none }
def FnExactNamedRuleWrongFalsely : Prop := fnExactNamedRuleRow.holds Try.pinned (OpenSpec.ofChange fnExactNamedRuleWrong)

/-- 'laws.FnExactIsForced': WHATEVER THE INPUT: true; the input reads as it did. -/
def fnExactIsForcedSpec : ChangeSpec := { name := "fnExactIsForced", fn := fun _ => fun
  | [d] => { results := [.lit (.bool true)], args := [d] }
  | _ => none }
def fnExactIsForcedRow : OpenClaim := { program := "ytcepjfadgdpbmaa", sum := "28bc75a17d7a7ea35beb97c907905eef0441c14a7d7fdbb5543f63fdb0de4a3c", func := "loop.example/g03209/laws.FnExactIsForced", spec := "fnExactIsForced", apart := false }
def FnExactIsForcedSaid : Prop := fnExactIsForcedRow.holds Try.pinned (OpenSpec.ofChange fnExactIsForcedSpec)

/-- ITS FALSE NEIGHBOUR: 'it returns false'. Refute it at one input. -/
def fnExactIsForcedWrong : ChangeSpec := { name := "fnExactIsForced", fn := fun _ => fun
  | [d] => { results := [.lit (.bool false)], args := [d] }
  | _ => none }
def FnExactIsForcedWrongFalsely : Prop := fnExactIsForcedRow.holds Try.pinned (OpenSpec.ofChange fnExactIsForcedWrong)

/-- 'laws.FnExactPartOf': WHATEVER THE INPUT: true; the input reads as it did. -/
def fnExactPartOfSpec : ChangeSpec := { name := "fnExactPartOf", fn := fun _ => fun
  | [d1, d2, d3, d4, d5] => { results := [.lit (.bool true)], args := [d1, d2, d3, d4, d5] }
  | _ => none }
def fnExactPartOfRow : OpenClaim := { program := "ytcepjfadgdpbmaa", sum := "28bc75a17d7a7ea35beb97c907905eef0441c14a7d7fdbb5543f63fdb0de4a3c", func := "loop.example/g03209/laws.FnExactPartOf", spec := "fnExactPartOf", apart := false }
def FnExactPartOfSaid : Prop := fnExactPartOfRow.holds Try.pinned (OpenSpec.ofChange fnExactPartOfSpec)

/-- ITS FALSE NEIGHBOUR: 'it returns false'. Refute it at one input. -/
def fnExactPartOfWrong : ChangeSpec := { name := "fnExactPartOf", fn := fun _ => fun
  | [d1, d2, d3, d4, d5] => { results := [.lit (.bool false)], args := [d1, d2, d3, d4, d5] }
  | _ => none }
def FnExactPartOfWrongFalsely : Prop := fnExactPartOfRow.holds Try.pinned (OpenSpec.ofChange fnExactPartOfWrong)

/-- 'laws.FnExactFlipPatch': WHATEVER THE INPUT: true; the input reads as it did. -/
def fnExactFlipPatchSpec : ChangeSpec := { name := "fnExactFlipPatch", fn := fun _ => fun
  | [d] => { results := [.lit (.bool true)], args := [d] }
  | _ => none }
def fnExactFlipPatchRow : OpenClaim := { program := "ytcepjfadgdpbmaa", sum := "28bc75a17d7a7ea35beb97c907905eef0441c14a7d7fdbb5543f63fdb0de4a3c", func := "loop.example/g03209/laws.FnExactFlipPatch", spec := "fnExactFlipPatch", apart := false }
def FnExactFlipPatchSaid : Prop := fnExactFlipPatchRow.holds Try.pinned (OpenSpec.ofChange fnExactFlipPatchSpec)

/-- ITS FALSE NEIGHBOUR: 'it returns false'. Refute it at one input. -/
def fnExactFlipPatchWrong : ChangeSpec := { name := "fnExactFlipPatch", fn := fun _ => fun
  | [d] => { results := [.lit (.bool false)], args := [d] }
  | _ => none }
def FnExactFlipPatchWrongFalsely : Prop := fnExactFlipPatchRow.holds Try.pinned (OpenSpec.ofChange fnExactFlipPatchWrong)

/-- 'laws.FnExactFlipRule': WHATEVER THE INPUT: true; the input reads as it did. -/
def fnExactFlipRuleSpec : ChangeSpec := { name := "fnExactFlipRule", fn := fun _ => fun
  | [d] => { results := [.lit (.bool true)], args := [d] }
  | _ => none }
def fnExactFlipRuleRow : OpenClaim := { program := "ytcepjfadgdpbmaa", sum := "28bc75a17d7a7ea35beb97c907905eef0441c14a7d7fdbb5543f63fdb0de4a3c", func := "loop.example/g03209/laws.FnExactFlipRule", spec := "fnExactFlipRule", apart := false }
def FnExactFlipRuleSaid : Prop := fnExactFlipRuleRow.holds Try.pinned (OpenSpec.ofChange fnExactFlipRuleSpec)

/-- ITS FALSE NEIGHBOUR: 'it returns false'. Refute it at one input. -/
def fnExactFlipRuleWrong : ChangeSpec := { name := "fnExactFlipRule", fn := fun _ => fun
  | [d] => { results := [.lit (.bool false)], args := [d] }
  | _ => none }
def FnExactFlipRuleWrongFalsely : Prop := fnExactFlipRuleRow.holds Try.pinned (OpenSpec.ofChange fnExactFlipRuleWrong)

/-- 'laws.FnExactFormatPatch': WHATEVER THE INPUT: true; the input reads as it did. -/
def fnExactFormatPatchSpec : ChangeSpec := { name := "fnExactFormatPatch", fn := fun _ => fun
  | [d] => { results := [.lit (.bool true)], args := [d] }
  | _ => none }
def fnExactFormatPatchRow : OpenClaim := { program := "ytcepjfadgdpbmaa", sum := "28bc75a17d7a7ea35beb97c907905eef0441c14a7d7fdbb5543f63fdb0de4a3c", func := "loop.example/g03209/laws.FnExactFormatPatch", spec := "fnExactFormatPatch", inPlace := ["internal/abi.NoEscape", "internal/bytealg.MakeNoZero"], apart := false }
def FnExactFormatPatchSaid : Prop := fnExactFormatPatchRow.holds Try.pinned (OpenSpec.ofChange fnExactFormatPatchSpec)

/-- ITS FALSE NEIGHBOUR: 'it returns false'. Refute it at one input. -/
def fnExactFormatPatchWrong : ChangeSpec := { name := "fnExactFormatPatch", fn := fun _ => fun
  | [d] => { results := [.lit (.bool false)], args := [d] }
  | _ => none }
def FnExactFormatPatchWrongFalsely : Prop := fnExactFormatPatchRow.holds Try.pinned (OpenSpec.ofChange fnExactFormatPatchWrong)

/-- 'laws.FnExactApplyBlocks': WHATEVER THE INPUT: true; the input reads as it did. -/
def fnExactApplyBlocksSpec : ChangeSpec := { name := "fnExactApplyBlocks", fn := fun _ => fun
  | [d1, d2] => { results := [.lit (.bool true)], args := [d1, d2] }
  | _ => none }
def fnExactApplyBlocksRow : OpenClaim := { program := "ytcepjfadgdpbmaa", sum := "28bc75a17d7a7ea35beb97c907905eef0441c14a7d7fdbb5543f63fdb0de4a3c", func := "loop.example/g03209/laws.FnExactApplyBlocks", spec := "fnExactApplyBlocks", apart := false }
def FnExactApplyBlocksSaid : Prop := fnExactApplyBlocksRow.holds Try.pinned (OpenSpec.ofChange fnExactApplyBlocksSpec)

/-- ITS FALSE NEIGHBOUR: 'it returns false'. Refute it at one input. -/
def fnExactApplyBlocksWrong : ChangeSpec := { name := "fnExactApplyBlocks", fn := fun _ => fun
  | [d1, d2] => { results := [.lit (.bool false)], args := [d1, d2] }
  | _ => none }
def FnExactApplyBlocksWrongFalsely : Prop := fnExactApplyBlocksRow.holds Try.pinned (OpenSpec.ofChange fnExactApplyBlocksWrong)

/-- 'laws.FnExactGrowBlock': WHATEVER THE INPUT: true; the input reads as it did. -/
def fnExactGrowBlockSpec : ChangeSpec := { name := "fnExactGrowBlock", fn := fun _ => fun
  | [d1, d2, d3] => { results := [.lit (.bool true)], args := [d1, d2, d3] }
  | _ => none }
def fnExactGrowBlockRow : OpenClaim := { program := "ytcepjfadgdpbmaa", sum := "28bc75a17d7a7ea35beb97c907905eef0441c14a7d7fdbb5543f63fdb0de4a3c", func := "loop.example/g03209/laws.FnExactGrowBlock", spec := "fnExactGrowBlock", apart := false }
def FnExactGrowBlockSaid : Prop := fnExactGrowBlockRow.holds Try.pinned (OpenSpec.ofChange fnExactGrowBlockSpec)

/-- ITS FALSE NEIGHBOUR: 'it returns false'. Refute it at one input. -/
def fnExactGrowBlockWrong : ChangeSpec := { name := "fnExactGrowBlock", fn := fun _ => fun
  | [d1, d2, d3] => { results := [.lit (.bool false)], args := [d1, d2, d3] }
  | _ => none }
def FnExactGrowBlockWrongFalsely : Prop := fnExactGrowBlockRow.holds Try.pinned (OpenSpec.ofChange fnExactGrowBlockWrong)

/-- 'laws.FnExactCountParts': WHATEVER THE INPUT: true; the input reads as it did. -/
def fnExactCountPartsSpec : ChangeSpec := { name := "fnExactCountParts", fn := fun _ => fun
  | [d1, d2, d3] => { results := [.lit (.bool true)], args := [d1, d2, d3] }
  | _ => none }
def fnExactCountPartsRow : OpenClaim := { program := "ytcepjfadgdpbmaa", sum := "28bc75a17d7a7ea35beb97c907905eef0441c14a7d7fdbb5543f63fdb0de4a3c", func := "loop.example/g03209/laws.FnExactCountParts", spec := "fnExactCountParts", inPlace := ["internal/abi.NoEscape", "internal/bytealg.MakeNoZero"], apart := false }
def FnExactCountPartsSaid : Prop := fnExactCountPartsRow.holds Try.pinned (OpenSpec.ofChange fnExactCountPartsSpec)

/-- ITS FALSE NEIGHBOUR: 'it returns false'. Refute it at one input. -/
def fnExactCountPartsWrong : ChangeSpec := { name := "fnExactCountParts", fn := fun _ => fun
  | [d1, d2, d3] => { results := [.lit (.bool false)], args := [d1, d2, d3] }
  | _ => none }
def FnExactCountPartsWrongFalsely : Prop := fnExactCountPartsRow.holds Try.pinned (OpenSpec.ofChange fnExactCountPartsWrong)

/-- 'laws.FnBlocks': WHATEVER THE INPUT: true; the input reads as it did. -/
def fnBlocksSpec : ChangeSpec := { name := "fnBlocks", fn := fun _ => fun
  | [d] => { results := [.lit (.bool true)], args := [d] }
  | _ => none }
def fnBlocksRow : OpenClaim := { program := "ytcepjfadgdpbmaa", sum := "28bc75a17d7a7ea35beb97c907905eef0441c14a7d7fdbb5543f63fdb0de4a3c", func := "loop.example/g03209/laws.FnBlocks", spec := "fnBlocks", inPlace := ["internal/abi.NoEscape", "internal/bytealg.MakeNoZero"], apart := false }
def FnBlocksSaid : Prop := fnBlocksRow.holds Try.pinned (OpenSpec.ofChange fnBlocksSpec)

/-- ITS FALSE NEIGHBOUR: 'it returns false'. Refute it at one input. -/
def fnBlocksWrong : ChangeSpec := { name := "fnBlocks", fn := fun _ => fun
  | [d] => { results := [.lit (.bool false)], args := [d] }
  | _ => none }
def FnBlocksWrongFalsely : Prop := fnBlocksRow.holds Try.pinned (OpenSpec.ofChange fnBlocksWrong)

/- THE SECOND FORM. 'bulk': how many values and letters a reading holds, each counted each time it is reached (what is shared counts as often as it is met; a slice's spare places count too). A statement '..UptoSaid' is the law's where the arguments, and the package variables that the reading takes, are together of bulk at most 1048576: NARROWER than '..Said'. Prove '..Said' where nothing that the law and all that it calls make is longer than what came in: it says more and counts as full. Else prove '..UptoSaid'. A law counts once. -/
mutual
def uptoBulk {H : Type} : DataW H → Nat
  | .lit (.string bytes) => bytes.length + 1
  | .lit _ => 1
  | .nil => 1
  | .ptr d => uptoBulk d + 1
  | .slice elems spare => uptoBulkAll elems + uptoBulkAll spare + 1
  | .agg parts => uptoBulkAll parts + 1
  | .iface _ d => uptoBulk d + 1
  | .map entries => uptoBulkEntries entries + 1
  | .held _ => 1
def uptoBulkAll {H : Type} : List (DataW H) → Nat
  | [] => 0
  | d :: r => uptoBulk d + uptoBulkAll r
def uptoBulkEntries {H : Type} : List (Lit × DataW H) → Nat
  | [] => 0
  | x :: r => uptoBulkEntry x + uptoBulkEntries r
def uptoBulkEntry {H : Type} : Lit × DataW H → Nat
  | (.string bytes, d) => bytes.length + uptoBulk d + 1
  | (_, d) => uptoBulk d + 1
 end
def uptoSmall : (H : Type) → List (DataW H) → Bool := fun _ ds => decide (uptoBulkAll ds ≤ 1048576)
def OpenSpec.upto (s : _root_.Go.ChangeSpec) : _root_.Go.OpenSpec := { _root_.Go.OpenSpec.ofChange s with cond := some uptoSmall }

/-- 'laws.FnExactPatchOk', WHERE WHAT IT READS IS OF BULK AT MOST 1048576: true; the input reads as it did. -/
def fnExactPatchOkUptoRow : OpenClaim := { program := "ytcepjfadgdpbmaa", sum := "28bc75a17d7a7ea35beb97c907905eef0441c14a7d7fdbb5543f63fdb0de4a3c", func := "loop.example/g03209/laws.FnExactPatchOk", spec := "fnExactPatchOk", apart := false, narrowed := true }
def FnExactPatchOkUptoSaid : Prop := fnExactPatchOkUptoRow.holds Try.pinned (OpenSpec.upto fnExactPatchOkSpec)

/-- 'laws.FnExactRuleOk', WHERE WHAT IT READS IS OF BULK AT MOST 1048576: true; the input reads as it did. -/
def fnExactRuleOkUptoRow : OpenClaim := { program := "ytcepjfadgdpbmaa", sum := "28bc75a17d7a7ea35beb97c907905eef0441c14a7d7fdbb5543f63fdb0de4a3c", func := "loop.example/g03209/laws.FnExactRuleOk", spec := "fnExactRuleOk", apart := false, narrowed := true }
def FnExactRuleOkUptoSaid : Prop := fnExactRuleOkUptoRow.holds Try.pinned (OpenSpec.upto fnExactRuleOkSpec)

/-- 'laws.FnExactNamedRule', WHERE WHAT IT READS IS OF BULK AT MOST 1048576: true; the input reads as it did. -/
def fnExactNamedRuleUptoRow : OpenClaim := { program := "ytcepjfadgdpbmaa", sum := "28bc75a17d7a7ea35beb97c907905eef0441c14a7d7fdbb5543f63fdb0de4a3c", func := "loop.example/g03209/laws.FnExactNamedRule", spec := "fnExactNamedRule", apart := false, narrowed := true }
def FnExactNamedRuleUptoSaid : Prop := fnExactNamedRuleUptoRow.holds Try.pinned (OpenSpec.upto fnExactNamedRuleSpec)

/-- 'laws.FnExactIsForced', WHERE WHAT IT READS IS OF BULK AT MOST 1048576: true; the input reads as it did. -/
def fnExactIsForcedUptoRow : OpenClaim := { program := "ytcepjfadgdpbmaa", sum := "28bc75a17d7a7ea35beb97c907905eef0441c14a7d7fdbb5543f63fdb0de4a3c", func := "loop.example/g03209/laws.FnExactIsForced", spec := "fnExactIsForced", apart := false, narrowed := true }
def FnExactIsForcedUptoSaid : Prop := fnExactIsForcedUptoRow.holds Try.pinned (OpenSpec.upto fnExactIsForcedSpec)

/-- 'laws.FnExactPartOf', WHERE WHAT IT READS IS OF BULK AT MOST 1048576: true; the input reads as it did. -/
def fnExactPartOfUptoRow : OpenClaim := { program := "ytcepjfadgdpbmaa", sum := "28bc75a17d7a7ea35beb97c907905eef0441c14a7d7fdbb5543f63fdb0de4a3c", func := "loop.example/g03209/laws.FnExactPartOf", spec := "fnExactPartOf", apart := false, narrowed := true }
def FnExactPartOfUptoSaid : Prop := fnExactPartOfUptoRow.holds Try.pinned (OpenSpec.upto fnExactPartOfSpec)

/-- 'laws.FnExactFlipPatch', WHERE WHAT IT READS IS OF BULK AT MOST 1048576: true; the input reads as it did. -/
def fnExactFlipPatchUptoRow : OpenClaim := { program := "ytcepjfadgdpbmaa", sum := "28bc75a17d7a7ea35beb97c907905eef0441c14a7d7fdbb5543f63fdb0de4a3c", func := "loop.example/g03209/laws.FnExactFlipPatch", spec := "fnExactFlipPatch", apart := false, narrowed := true }
def FnExactFlipPatchUptoSaid : Prop := fnExactFlipPatchUptoRow.holds Try.pinned (OpenSpec.upto fnExactFlipPatchSpec)

/-- 'laws.FnExactFlipRule', WHERE WHAT IT READS IS OF BULK AT MOST 1048576: true; the input reads as it did. -/
def fnExactFlipRuleUptoRow : OpenClaim := { program := "ytcepjfadgdpbmaa", sum := "28bc75a17d7a7ea35beb97c907905eef0441c14a7d7fdbb5543f63fdb0de4a3c", func := "loop.example/g03209/laws.FnExactFlipRule", spec := "fnExactFlipRule", apart := false, narrowed := true }
def FnExactFlipRuleUptoSaid : Prop := fnExactFlipRuleUptoRow.holds Try.pinned (OpenSpec.upto fnExactFlipRuleSpec)

/-- 'laws.FnExactFormatPatch', WHERE WHAT IT READS IS OF BULK AT MOST 1048576: true; the input reads as it did. -/
def fnExactFormatPatchUptoRow : OpenClaim := { program := "ytcepjfadgdpbmaa", sum := "28bc75a17d7a7ea35beb97c907905eef0441c14a7d7fdbb5543f63fdb0de4a3c", func := "loop.example/g03209/laws.FnExactFormatPatch", spec := "fnExactFormatPatch", inPlace := ["internal/abi.NoEscape", "internal/bytealg.MakeNoZero"], apart := false, narrowed := true }
def FnExactFormatPatchUptoSaid : Prop := fnExactFormatPatchUptoRow.holds Try.pinned (OpenSpec.upto fnExactFormatPatchSpec)

/-- 'laws.FnExactApplyBlocks', WHERE WHAT IT READS IS OF BULK AT MOST 1048576: true; the input reads as it did. -/
def fnExactApplyBlocksUptoRow : OpenClaim := { program := "ytcepjfadgdpbmaa", sum := "28bc75a17d7a7ea35beb97c907905eef0441c14a7d7fdbb5543f63fdb0de4a3c", func := "loop.example/g03209/laws.FnExactApplyBlocks", spec := "fnExactApplyBlocks", apart := false, narrowed := true }
def FnExactApplyBlocksUptoSaid : Prop := fnExactApplyBlocksUptoRow.holds Try.pinned (OpenSpec.upto fnExactApplyBlocksSpec)

/-- 'laws.FnExactGrowBlock', WHERE WHAT IT READS IS OF BULK AT MOST 1048576: true; the input reads as it did. -/
def fnExactGrowBlockUptoRow : OpenClaim := { program := "ytcepjfadgdpbmaa", sum := "28bc75a17d7a7ea35beb97c907905eef0441c14a7d7fdbb5543f63fdb0de4a3c", func := "loop.example/g03209/laws.FnExactGrowBlock", spec := "fnExactGrowBlock", apart := false, narrowed := true }
def FnExactGrowBlockUptoSaid : Prop := fnExactGrowBlockUptoRow.holds Try.pinned (OpenSpec.upto fnExactGrowBlockSpec)

/-- 'laws.FnExactCountParts', WHERE WHAT IT READS IS OF BULK AT MOST 1048576: true; the input reads as it did. -/
def fnExactCountPartsUptoRow : OpenClaim := { program := "ytcepjfadgdpbmaa", sum := "28bc75a17d7a7ea35beb97c907905eef0441c14a7d7fdbb5543f63fdb0de4a3c", func := "loop.example/g03209/laws.FnExactCountParts", spec := "fnExactCountParts", inPlace := ["internal/abi.NoEscape", "internal/bytealg.MakeNoZero"], apart := false, narrowed := true }
def FnExactCountPartsUptoSaid : Prop := fnExactCountPartsUptoRow.holds Try.pinned (OpenSpec.upto fnExactCountPartsSpec)

/-- 'laws.FnBlocks', WHERE WHAT IT READS IS OF BULK AT MOST 1048576: true; the input reads as it did. -/
def fnBlocksUptoRow : OpenClaim := { program := "ytcepjfadgdpbmaa", sum := "28bc75a17d7a7ea35beb97c907905eef0441c14a7d7fdbb5543f63fdb0de4a3c", func := "loop.example/g03209/laws.FnBlocks", spec := "fnBlocks", inPlace := ["internal/abi.NoEscape", "internal/bytealg.MakeNoZero"], apart := false, narrowed := true }
def FnBlocksUptoSaid : Prop := fnBlocksUptoRow.holds Try.pinned (OpenSpec.upto fnBlocksSpec)

end Rows
end Go.Proofs.Ytcepjfadgdpbmaa
