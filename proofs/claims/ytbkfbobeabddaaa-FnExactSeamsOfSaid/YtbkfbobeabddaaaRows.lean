/-
  No cell of these rows narrows 'for every input' (looked for: loops, veiled, ifaces, maps, wideKeys, modest, calm, conditions, laid).
  DERIVED. THE GIVEN ROWS OF THIS SEAT. 7 by the template 'for every input the law returns true; each argument reads behind the call as it read before'; 0 by the template 'total and deterministic' (their statements: YtbkfbobeabddaaaTotals.lean).
  GIVEN WITH THE SEED: the statements are not yours to turn. If you find one false, say at which input.
  Laid BY PROGRAM, IN A SANDBOX (cutbox-rows.mjs): the forced cells as the released guide's own fill.sh prints them over the translation f425242ee5b888a6… (all of the seat's roots in one cut). By AI agents, Wed Nov 11 2026. No macro, syntax, notation, axiom, sorry.
-/
import Derived.Test.YtbkfbobeabddaaaChecked
import GoSem.Claim
import GoSem.ClaimJoined
import GoSem.ClaimMapViews
import Derived.JoinedTies
import Derived.KernelRfl
namespace Go.Proofs.Ytbkfbobeabddaaa
/- THE CELL 'sum', in the pinned program and in every row, IS THE sha256 OF THE DUMP (.gsa) THAT YtbkfbobeabddaaaProg.lean LOADS. Nothing in Lean hashes anything: it is a label: what it is worth is what the hold of that sum in a sandbox is worth. -/
noncomputable def Try.pinned : Pinned := { name := "ytbkfbobeabddaaa", sum := "f425242ee5b888a66d350d9b42ee30880398d799e81fb6e04c8168e177004528", checked := Try.checked }
namespace Rows
def none {H : Type} : Left H := { results := [], args := [] }

/-- 'laws.FnExactParentPatch': WHATEVER THE INPUT: true; the input reads as it did. -/
def fnExactParentPatchSpec : ChangeSpec := { name := "fnExactParentPatch", fn := fun _ => fun
  | [d1, d2, d3, d4] => { results := [.lit (.bool true)], args := [d1, d2, d3, d4] }
  | _ => none }
def fnExactParentPatchRow : OpenClaim := { program := "ytbkfbobeabddaaa", sum := "f425242ee5b888a66d350d9b42ee30880398d799e81fb6e04c8168e177004528", func := "loop.example/g03209/laws.FnExactParentPatch", spec := "fnExactParentPatch", unfollowed := true, recurses := true, apart := false }
def FnExactParentPatchSaid : Prop := fnExactParentPatchRow.holds Try.pinned (OpenSpec.ofChange fnExactParentPatchSpec)

/-- ITS FALSE NEIGHBOUR: 'it returns false'. Refute it at one input. -/
def fnExactParentPatchWrong : ChangeSpec := { name := "fnExactParentPatch", fn := fun _ => fun
  | [d1, d2, d3, d4] => { results := [.lit (.bool false)], args := [d1, d2, d3, d4] }
  | _ => none }
def FnExactParentPatchWrongFalsely : Prop := fnExactParentPatchRow.holds Try.pinned (OpenSpec.ofChange fnExactParentPatchWrong)

/-- 'laws.FnExactFitsAt': WHATEVER THE INPUT: true; the input reads as it did. -/
def fnExactFitsAtSpec : ChangeSpec := { name := "fnExactFitsAt", fn := fun _ => fun
  | [d1, d2, d3, d4] => { results := [.lit (.bool true)], args := [d1, d2, d3, d4] }
  | _ => none }
def fnExactFitsAtRow : OpenClaim := { program := "ytbkfbobeabddaaa", sum := "f425242ee5b888a66d350d9b42ee30880398d799e81fb6e04c8168e177004528", func := "loop.example/g03209/laws.FnExactFitsAt", spec := "fnExactFitsAt", unfollowed := true, recurses := true, apart := false }
def FnExactFitsAtSaid : Prop := fnExactFitsAtRow.holds Try.pinned (OpenSpec.ofChange fnExactFitsAtSpec)

/-- ITS FALSE NEIGHBOUR: 'it returns false'. Refute it at one input. -/
def fnExactFitsAtWrong : ChangeSpec := { name := "fnExactFitsAt", fn := fun _ => fun
  | [d1, d2, d3, d4] => { results := [.lit (.bool false)], args := [d1, d2, d3, d4] }
  | _ => none }
def FnExactFitsAtWrongFalsely : Prop := fnExactFitsAtRow.holds Try.pinned (OpenSpec.ofChange fnExactFitsAtWrong)

/-- 'laws.FnExactAncestorPatch': WHATEVER THE INPUT: true; the input reads as it did. -/
def fnExactAncestorPatchSpec : ChangeSpec := { name := "fnExactAncestorPatch", fn := fun _ => fun
  | [d1, d2] => { results := [.lit (.bool true)], args := [d1, d2] }
  | _ => none }
def fnExactAncestorPatchRow : OpenClaim := { program := "ytbkfbobeabddaaa", sum := "f425242ee5b888a66d350d9b42ee30880398d799e81fb6e04c8168e177004528", func := "loop.example/g03209/laws.FnExactAncestorPatch", spec := "fnExactAncestorPatch", unfollowed := true, recurses := true, apart := false }
def FnExactAncestorPatchSaid : Prop := fnExactAncestorPatchRow.holds Try.pinned (OpenSpec.ofChange fnExactAncestorPatchSpec)

/-- ITS FALSE NEIGHBOUR: 'it returns false'. Refute it at one input. -/
def fnExactAncestorPatchWrong : ChangeSpec := { name := "fnExactAncestorPatch", fn := fun _ => fun
  | [d1, d2] => { results := [.lit (.bool false)], args := [d1, d2] }
  | _ => none }
def FnExactAncestorPatchWrongFalsely : Prop := fnExactAncestorPatchRow.holds Try.pinned (OpenSpec.ofChange fnExactAncestorPatchWrong)

/-- 'laws.FnExactOffsetsOf': WHATEVER THE INPUT: true; the input reads as it did. -/
def fnExactOffsetsOfSpec : ChangeSpec := { name := "fnExactOffsetsOf", fn := fun _ => fun
  | [d1, d2] => { results := [.lit (.bool true)], args := [d1, d2] }
  | _ => none }
def fnExactOffsetsOfRow : OpenClaim := { program := "ytbkfbobeabddaaa", sum := "f425242ee5b888a66d350d9b42ee30880398d799e81fb6e04c8168e177004528", func := "loop.example/g03209/laws.FnExactOffsetsOf", spec := "fnExactOffsetsOf", unfollowed := true, recurses := true, apart := false }
def FnExactOffsetsOfSaid : Prop := fnExactOffsetsOfRow.holds Try.pinned (OpenSpec.ofChange fnExactOffsetsOfSpec)

/-- ITS FALSE NEIGHBOUR: 'it returns false'. Refute it at one input. -/
def fnExactOffsetsOfWrong : ChangeSpec := { name := "fnExactOffsetsOf", fn := fun _ => fun
  | [d1, d2] => { results := [.lit (.bool false)], args := [d1, d2] }
  | _ => none }
def FnExactOffsetsOfWrongFalsely : Prop := fnExactOffsetsOfRow.holds Try.pinned (OpenSpec.ofChange fnExactOffsetsOfWrong)

/-- 'laws.FnExactGrownFrom': WHATEVER THE INPUT: true; the input reads as it did. -/
def fnExactGrownFromSpec : ChangeSpec := { name := "fnExactGrownFrom", fn := fun _ => fun
  | [d1, d2] => { results := [.lit (.bool true)], args := [d1, d2] }
  | _ => none }
def fnExactGrownFromRow : OpenClaim := { program := "ytbkfbobeabddaaa", sum := "f425242ee5b888a66d350d9b42ee30880398d799e81fb6e04c8168e177004528", func := "loop.example/g03209/laws.FnExactGrownFrom", spec := "fnExactGrownFrom", unfollowed := true, recurses := true, apart := false }
def FnExactGrownFromSaid : Prop := fnExactGrownFromRow.holds Try.pinned (OpenSpec.ofChange fnExactGrownFromSpec)

/-- ITS FALSE NEIGHBOUR: 'it returns false'. Refute it at one input. -/
def fnExactGrownFromWrong : ChangeSpec := { name := "fnExactGrownFrom", fn := fun _ => fun
  | [d1, d2] => { results := [.lit (.bool false)], args := [d1, d2] }
  | _ => none }
def FnExactGrownFromWrongFalsely : Prop := fnExactGrownFromRow.holds Try.pinned (OpenSpec.ofChange fnExactGrownFromWrong)

/-- 'laws.FnExactSeamsOf': WHATEVER THE INPUT: true; the input reads as it did. -/
def fnExactSeamsOfSpec : ChangeSpec := { name := "fnExactSeamsOf", fn := fun _ => fun
  | [d1, d2, d3] => { results := [.lit (.bool true)], args := [d1, d2, d3] }
  | _ => none }
def fnExactSeamsOfRow : OpenClaim := { program := "ytbkfbobeabddaaa", sum := "f425242ee5b888a66d350d9b42ee30880398d799e81fb6e04c8168e177004528", func := "loop.example/g03209/laws.FnExactSeamsOf", spec := "fnExactSeamsOf", recurses := true, apart := false }
def FnExactSeamsOfSaid : Prop := fnExactSeamsOfRow.holds Try.pinned (OpenSpec.ofChange fnExactSeamsOfSpec)

/-- ITS FALSE NEIGHBOUR: 'it returns false'. Refute it at one input. -/
def fnExactSeamsOfWrong : ChangeSpec := { name := "fnExactSeamsOf", fn := fun _ => fun
  | [d1, d2, d3] => { results := [.lit (.bool false)], args := [d1, d2, d3] }
  | _ => none }
def FnExactSeamsOfWrongFalsely : Prop := fnExactSeamsOfRow.holds Try.pinned (OpenSpec.ofChange fnExactSeamsOfWrong)

/-- 'laws.FnBlockParents': WHATEVER THE INPUT: true; the input reads as it did. -/
def fnBlockParentsSpec : ChangeSpec := { name := "fnBlockParents", fn := fun _ => fun
  | [d] => { results := [.lit (.bool true)], args := [d] }
  | _ => none }
def fnBlockParentsRow : OpenClaim := { program := "ytbkfbobeabddaaa", sum := "f425242ee5b888a66d350d9b42ee30880398d799e81fb6e04c8168e177004528", func := "loop.example/g03209/laws.FnBlockParents", spec := "fnBlockParents", unfollowed := true, recurses := true, apart := false }
def FnBlockParentsSaid : Prop := fnBlockParentsRow.holds Try.pinned (OpenSpec.ofChange fnBlockParentsSpec)

/-- ITS FALSE NEIGHBOUR: 'it returns false'. Refute it at one input. -/
def fnBlockParentsWrong : ChangeSpec := { name := "fnBlockParents", fn := fun _ => fun
  | [d] => { results := [.lit (.bool false)], args := [d] }
  | _ => none }
def FnBlockParentsWrongFalsely : Prop := fnBlockParentsRow.holds Try.pinned (OpenSpec.ofChange fnBlockParentsWrong)

/- THE SECOND FORM. 'bulk': how many values and letters a reading holds, each counted each time it is reached (what is shared counts as often as it is met; a slice's spare places count too). A statement '..UptoSaid' is the law's where the arguments, and the package variables that the reading takes, are together of bulk at most 1048576: NARROWER than '..Said'. Prove '..Said' where nothing that the law and all that it calls make is longer than what came in: it says more and counts as full. Else prove '..UptoSaid'. A law counts once. -/
mutual
def uptoBulk {H : Type} : DataW H → Nat
  | .lit (.string bytes) => bytes.length + 1
  | .lit _ => 1
  | .nil => 1
  | .ptr d => uptoBulk d + 1
  | .slice elems spare => uptoBulkAll elems + uptoBulkAll spare + 1
  | .agg parts => uptoBulkAll parts + 1
  | .iface _ d => uptoBulk d + 1
  | .map entries => uptoBulkEntries entries + 1
  | .held _ => 1
def uptoBulkAll {H : Type} : List (DataW H) → Nat
  | [] => 0
  | d :: r => uptoBulk d + uptoBulkAll r
def uptoBulkEntries {H : Type} : List (Lit × DataW H) → Nat
  | [] => 0
  | x :: r => uptoBulkEntry x + uptoBulkEntries r
def uptoBulkEntry {H : Type} : Lit × DataW H → Nat
  | (.string bytes, d) => bytes.length + uptoBulk d + 1
  | (_, d) => uptoBulk d + 1
 end
def uptoSmall : (H : Type) → List (DataW H) → Bool := fun _ ds => decide (uptoBulkAll ds ≤ 1048576)
def OpenSpec.upto (s : _root_.Go.ChangeSpec) : _root_.Go.OpenSpec := { _root_.Go.OpenSpec.ofChange s with cond := some uptoSmall }

/-- 'laws.FnExactParentPatch', WHERE WHAT IT READS IS OF BULK AT MOST 1048576: true; the input reads as it did. -/
def fnExactParentPatchUptoRow : OpenClaim := { program := "ytbkfbobeabddaaa", sum := "f425242ee5b888a66d350d9b42ee30880398d799e81fb6e04c8168e177004528", func := "loop.example/g03209/laws.FnExactParentPatch", spec := "fnExactParentPatch", unfollowed := true, recurses := true, apart := false, narrowed := true }
def FnExactParentPatchUptoSaid : Prop := fnExactParentPatchUptoRow.holds Try.pinned (OpenSpec.upto fnExactParentPatchSpec)

/-- 'laws.FnExactFitsAt', WHERE WHAT IT READS IS OF BULK AT MOST 1048576: true; the input reads as it did. -/
def fnExactFitsAtUptoRow : OpenClaim := { program := "ytbkfbobeabddaaa", sum := "f425242ee5b888a66d350d9b42ee30880398d799e81fb6e04c8168e177004528", func := "loop.example/g03209/laws.FnExactFitsAt", spec := "fnExactFitsAt", unfollowed := true, recurses := true, apart := false, narrowed := true }
def FnExactFitsAtUptoSaid : Prop := fnExactFitsAtUptoRow.holds Try.pinned (OpenSpec.upto fnExactFitsAtSpec)

/-- 'laws.FnExactAncestorPatch', WHERE WHAT IT READS IS OF BULK AT MOST 1048576: true; the input reads as it did. -/
def fnExactAncestorPatchUptoRow : OpenClaim := { program := "ytbkfbobeabddaaa", sum := "f425242ee5b888a66d350d9b42ee30880398d799e81fb6e04c8168e177004528", func := "loop.example/g03209/laws.FnExactAncestorPatch", spec := "fnExactAncestorPatch", unfollowed := true, recurses := true, apart := false, narrowed := true }
def FnExactAncestorPatchUptoSaid : Prop := fnExactAncestorPatchUptoRow.holds Try.pinned (OpenSpec.upto fnExactAncestorPatchSpec)

/-- 'laws.FnExactOffsetsOf', WHERE WHAT IT READS IS OF BULK AT MOST 1048576: true; the input reads as it did. -/
def fnExactOffsetsOfUptoRow : OpenClaim := { program := "ytbkfbobeabddaaa", sum := "f425242ee5b888a66d350d9b42ee30880398d799e81fb6e04c8168e177004528", func := "loop.example/g03209/laws.FnExactOffsetsOf", spec := "fnExactOffsetsOf", unfollowed := true, recurses := true, apart := false, narrowed := true }
def FnExactOffsetsOfUptoSaid : Prop := fnExactOffsetsOfUptoRow.holds Try.pinned (OpenSpec.upto fnExactOffsetsOfSpec)

/-- 'laws.FnExactGrownFrom', WHERE WHAT IT READS IS OF BULK AT MOST 1048576: true; the input reads as it did. -/
def fnExactGrownFromUptoRow : OpenClaim := { program := "ytbkfbobeabddaaa", sum := "f425242ee5b888a66d350d9b42ee30880398d799e81fb6e04c8168e177004528", func := "loop.example/g03209/laws.FnExactGrownFrom", spec := "fnExactGrownFrom", unfollowed := true, recurses := true, apart := false, narrowed := true }
def FnExactGrownFromUptoSaid : Prop := fnExactGrownFromUptoRow.holds Try.pinned (OpenSpec.upto fnExactGrownFromSpec)

/-- 'laws.FnExactSeamsOf', WHERE WHAT IT READS IS OF BULK AT MOST 1048576: true; the input reads as it did. -/
def fnExactSeamsOfUptoRow : OpenClaim := { program := "ytbkfbobeabddaaa", sum := "f425242ee5b888a66d350d9b42ee30880398d799e81fb6e04c8168e177004528", func := "loop.example/g03209/laws.FnExactSeamsOf", spec := "fnExactSeamsOf", recurses := true, apart := false, narrowed := true }
def FnExactSeamsOfUptoSaid : Prop := fnExactSeamsOfUptoRow.holds Try.pinned (OpenSpec.upto fnExactSeamsOfSpec)

/-- 'laws.FnBlockParents', WHERE WHAT IT READS IS OF BULK AT MOST 1048576: true; the input reads as it did. -/
def fnBlockParentsUptoRow : OpenClaim := { program := "ytbkfbobeabddaaa", sum := "f425242ee5b888a66d350d9b42ee30880398d799e81fb6e04c8168e177004528", func := "loop.example/g03209/laws.FnBlockParents", spec := "fnBlockParents", unfollowed := true, recurses := true, apart := false, narrowed := true }
def FnBlockParentsUptoSaid : Prop := fnBlockParentsUptoRow.holds Try.pinned (OpenSpec.upto fnBlockParentsSpec)

end Rows
end Go.Proofs.Ytbkfbobeabddaaa
