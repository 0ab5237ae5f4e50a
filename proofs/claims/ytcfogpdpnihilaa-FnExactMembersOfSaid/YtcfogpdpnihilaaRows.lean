/-
  No cell of these rows narrows 'for every input' (looked for: loops, veiled, ifaces, maps, wideKeys, modest, calm, conditions, laid).
  DERIVED. THE GIVEN ROWS OF THIS SEAT. 8 by the template 'for every input the law returns true; each argument reads behind the call as it read before'; 0 by the template 'total and deterministic' (their statements: YtcfogpdpnihilaaTotals.lean).
  GIVEN WITH THE SEED: the statements are not yours to turn. If you find one false, say at which input.
  Laid BY PROGRAM, IN A SANDBOX (cutbox-rows.mjs): the forced cells as the released guide's own fill.sh prints them over the translation 4c19b0451acfb7bd… (all of the seat's roots in one cut). By AI agents, Wed Nov 11 2026. No macro, syntax, notation, axiom, sorry.
-/
import Derived.Test.YtcfogpdpnihilaaChecked
import GoSem.Claim
import GoSem.ClaimJoined
import GoSem.ClaimMapViews
import Derived.JoinedTies
import Derived.KernelRfl
namespace Go.Proofs.Ytcfogpdpnihilaa
/- THE CELL 'sum', in the pinned program and in every row, IS THE sha256 OF THE DUMP (.gsa) THAT YtcfogpdpnihilaaProg.lean LOADS. Nothing in Lean hashes anything: it is a label: what it is worth is what the hold of that sum in a sandbox is worth. -/
noncomputable def Try.pinned : Pinned := { name := "ytcfogpdpnihilaa", sum := "4c19b0451acfb7bd023132887fed8fc649f041b0678d058d42d2651708f22211", checked := Try.checked }
namespace Rows
def none {H : Type} : Left H := { results := [], args := [] }

/-- 'laws.FnExactRankInClass': WHATEVER THE INPUT: true; the input reads as it did. -/
def fnExactRankInClassSpec : ChangeSpec := { name := "fnExactRankInClass", fn := fun _ => fun
  | [d1, d2] => { results := [.lit (.bool true)], args := [d1, d2] }
  | _ => none }
def fnExactRankInClassRow : OpenClaim := { program := "ytcfogpdpnihilaa", sum := "4c19b0451acfb7bd023132887fed8fc649f041b0678d058d42d2651708f22211", func := "loop.example/g03209/laws.FnExactRankInClass", spec := "fnExactRankInClass", apart := false }
def FnExactRankInClassSaid : Prop := fnExactRankInClassRow.holds Try.pinned (OpenSpec.ofChange fnExactRankInClassSpec)

/-- ITS FALSE NEIGHBOUR: 'it returns false'. Refute it at one input. -/
def fnExactRankInClassWrong : ChangeSpec := { name := "fnExactRankInClass", fn := fun _ => fun
  | [d1, d2] => { results := [.lit (.bool false)], args := [d1, d2] }
  | _ => none }
def FnExactRankInClassWrongFalsely : Prop := fnExactRankInClassRow.holds Try.pinned (OpenSpec.ofChange fnExactRankInClassWrong)

/-- 'laws.FnExactClassOf': WHATEVER THE INPUT: true; the input reads as it did. -/
def fnExactClassOfSpec : ChangeSpec := { name := "fnExactClassOf", fn := fun _ => fun
  | [d1, d2] => { results := [.lit (.bool true)], args := [d1, d2] }
  | _ => none }
def fnExactClassOfRow : OpenClaim := { program := "ytcfogpdpnihilaa", sum := "4c19b0451acfb7bd023132887fed8fc649f041b0678d058d42d2651708f22211", func := "loop.example/g03209/laws.FnExactClassOf", spec := "fnExactClassOf", apart := false }
def FnExactClassOfSaid : Prop := fnExactClassOfRow.holds Try.pinned (OpenSpec.ofChange fnExactClassOfSpec)

/-- ITS FALSE NEIGHBOUR: 'it returns false'. Refute it at one input. -/
def fnExactClassOfWrong : ChangeSpec := { name := "fnExactClassOf", fn := fun _ => fun
  | [d1, d2] => { results := [.lit (.bool false)], args := [d1, d2] }
  | _ => none }
def FnExactClassOfWrongFalsely : Prop := fnExactClassOfRow.holds Try.pinned (OpenSpec.ofChange fnExactClassOfWrong)

/-- 'laws.FnExactClassWord': WHATEVER THE INPUT: true; the input reads as it did. -/
def fnExactClassWordSpec : ChangeSpec := { name := "fnExactClassWord", fn := fun _ => fun
  | [d1, d2] => { results := [.lit (.bool true)], args := [d1, d2] }
  | _ => none }
def fnExactClassWordRow : OpenClaim := { program := "ytcfogpdpnihilaa", sum := "4c19b0451acfb7bd023132887fed8fc649f041b0678d058d42d2651708f22211", func := "loop.example/g03209/laws.FnExactClassWord", spec := "fnExactClassWord", apart := false }
def FnExactClassWordSaid : Prop := fnExactClassWordRow.holds Try.pinned (OpenSpec.ofChange fnExactClassWordSpec)

/-- ITS FALSE NEIGHBOUR: 'it returns false'. Refute it at one input. -/
def fnExactClassWordWrong : ChangeSpec := { name := "fnExactClassWord", fn := fun _ => fun
  | [d1, d2] => { results := [.lit (.bool false)], args := [d1, d2] }
  | _ => none }
def FnExactClassWordWrongFalsely : Prop := fnExactClassWordRow.holds Try.pinned (OpenSpec.ofChange fnExactClassWordWrong)

/-- 'laws.FnExactNextOfClass': WHATEVER THE INPUT: true; the input reads as it did. -/
def fnExactNextOfClassSpec : ChangeSpec := { name := "fnExactNextOfClass", fn := fun _ => fun
  | [d1, d2] => { results := [.lit (.bool true)], args := [d1, d2] }
  | _ => none }
def fnExactNextOfClassRow : OpenClaim := { program := "ytcfogpdpnihilaa", sum := "4c19b0451acfb7bd023132887fed8fc649f041b0678d058d42d2651708f22211", func := "loop.example/g03209/laws.FnExactNextOfClass", spec := "fnExactNextOfClass", apart := false }
def FnExactNextOfClassSaid : Prop := fnExactNextOfClassRow.holds Try.pinned (OpenSpec.ofChange fnExactNextOfClassSpec)

/-- ITS FALSE NEIGHBOUR: 'it returns false'. Refute it at one input. -/
def fnExactNextOfClassWrong : ChangeSpec := { name := "fnExactNextOfClass", fn := fun _ => fun
  | [d1, d2] => { results := [.lit (.bool false)], args := [d1, d2] }
  | _ => none }
def FnExactNextOfClassWrongFalsely : Prop := fnExactNextOfClassRow.holds Try.pinned (OpenSpec.ofChange fnExactNextOfClassWrong)

/-- 'laws.FnExactShiftSum': WHATEVER THE INPUT: true; the input reads as it did. -/
def fnExactShiftSumSpec : ChangeSpec := { name := "fnExactShiftSum", fn := fun _ => fun
  | [d1, d2] => { results := [.lit (.bool true)], args := [d1, d2] }
  | _ => none }
def fnExactShiftSumRow : OpenClaim := { program := "ytcfogpdpnihilaa", sum := "4c19b0451acfb7bd023132887fed8fc649f041b0678d058d42d2651708f22211", func := "loop.example/g03209/laws.FnExactShiftSum", spec := "fnExactShiftSum", apart := false }
def FnExactShiftSumSaid : Prop := fnExactShiftSumRow.holds Try.pinned (OpenSpec.ofChange fnExactShiftSumSpec)

/-- ITS FALSE NEIGHBOUR: 'it returns false'. Refute it at one input. -/
def fnExactShiftSumWrong : ChangeSpec := { name := "fnExactShiftSum", fn := fun _ => fun
  | [d1, d2] => { results := [.lit (.bool false)], args := [d1, d2] }
  | _ => none }
def FnExactShiftSumWrongFalsely : Prop := fnExactShiftSumRow.holds Try.pinned (OpenSpec.ofChange fnExactShiftSumWrong)

/-- 'laws.FnExactPowerSum': WHATEVER THE INPUT: true; the input reads as it did. -/
def fnExactPowerSumSpec : ChangeSpec := { name := "fnExactPowerSum", fn := fun _ => fun
  | [d1, d2] => { results := [.lit (.bool true)], args := [d1, d2] }
  | _ => none }
def fnExactPowerSumRow : OpenClaim := { program := "ytcfogpdpnihilaa", sum := "4c19b0451acfb7bd023132887fed8fc649f041b0678d058d42d2651708f22211", func := "loop.example/g03209/laws.FnExactPowerSum", spec := "fnExactPowerSum", apart := false }
def FnExactPowerSumSaid : Prop := fnExactPowerSumRow.holds Try.pinned (OpenSpec.ofChange fnExactPowerSumSpec)

/-- ITS FALSE NEIGHBOUR: 'it returns false'. Refute it at one input. -/
def fnExactPowerSumWrong : ChangeSpec := { name := "fnExactPowerSum", fn := fun _ => fun
  | [d1, d2] => { results := [.lit (.bool false)], args := [d1, d2] }
  | _ => none }
def FnExactPowerSumWrongFalsely : Prop := fnExactPowerSumRow.holds Try.pinned (OpenSpec.ofChange fnExactPowerSumWrong)

/-- 'laws.FnExactMembersOf': WHATEVER THE INPUT: true; the input reads as it did. -/
def fnExactMembersOfSpec : ChangeSpec := { name := "fnExactMembersOf", fn := fun _ => fun
  | [d1, d2, d3] => { results := [.lit (.bool true)], args := [d1, d2, d3] }
  | _ => none }
def fnExactMembersOfRow : OpenClaim := { program := "ytcfogpdpnihilaa", sum := "4c19b0451acfb7bd023132887fed8fc649f041b0678d058d42d2651708f22211", func := "loop.example/g03209/laws.FnExactMembersOf", spec := "fnExactMembersOf", apart := false }
def FnExactMembersOfSaid : Prop := fnExactMembersOfRow.holds Try.pinned (OpenSpec.ofChange fnExactMembersOfSpec)

/-- ITS FALSE NEIGHBOUR: 'it returns false'. Refute it at one input. -/
def fnExactMembersOfWrong : ChangeSpec := { name := "fnExactMembersOf", fn := fun _ => fun
  | [d1, d2, d3] => { results := [.lit (.bool false)], args := [d1, d2, d3] }
  | _ => none }
def FnExactMembersOfWrongFalsely : Prop := fnExactMembersOfRow.holds Try.pinned (OpenSpec.ofChange fnExactMembersOfWrong)

/-- 'laws.FnClasses': WHATEVER THE INPUT: true; the input reads as it did. -/
def fnClassesSpec : ChangeSpec := { name := "fnClasses", fn := fun _ => fun
  | [d] => { results := [.lit (.bool true)], args := [d] }
  | _ => none }
def fnClassesRow : OpenClaim := { program := "ytcfogpdpnihilaa", sum := "4c19b0451acfb7bd023132887fed8fc649f041b0678d058d42d2651708f22211", func := "loop.example/g03209/laws.FnClasses", spec := "fnClasses", apart := false }
def FnClassesSaid : Prop := fnClassesRow.holds Try.pinned (OpenSpec.ofChange fnClassesSpec)

/-- ITS FALSE NEIGHBOUR: 'it returns false'. Refute it at one input. -/
def fnClassesWrong : ChangeSpec := { name := "fnClasses", fn := fun _ => fun
  | [d] => { results := [.lit (.bool false)], args := [d] }
  | _ => none }
def FnClassesWrongFalsely : Prop := fnClassesRow.holds Try.pinned (OpenSpec.ofChange fnClassesWrong)

/- THE SECOND FORM. 'bulk': how many values and letters a reading holds, each counted each time it is reached (what is shared counts as often as it is met; a slice's spare places count too). A statement '..UptoSaid' is the law's where the arguments, and the package variables that the reading takes, are together of bulk at most 1048576: NARROWER than '..Said'. Prove '..Said' where nothing that the law and all that it calls make is longer than what came in: it says more and counts as full. Else prove '..UptoSaid'. A law counts once. -/
mutual
def uptoBulk {H : Type} : DataW H → Nat
  | .lit (.string bytes) => bytes.length + 1
  | .lit _ => 1
  | .nil => 1
  | .ptr d => uptoBulk d + 1
  | .slice elems spare => uptoBulkAll elems + uptoBulkAll spare + 1
  | .agg parts => uptoBulkAll parts + 1
  | .iface _ d => uptoBulk d + 1
  | .map entries => uptoBulkEntries entries + 1
  | .held _ => 1
def uptoBulkAll {H : Type} : List (DataW H) → Nat
  | [] => 0
  | d :: r => uptoBulk d + uptoBulkAll r
def uptoBulkEntries {H : Type} : List (Lit × DataW H) → Nat
  | [] => 0
  | x :: r => uptoBulkEntry x + uptoBulkEntries r
def uptoBulkEntry {H : Type} : Lit × DataW H → Nat
  | (.string bytes, d) => bytes.length + uptoBulk d + 1
  | (_, d) => uptoBulk d + 1
 end
def uptoSmall : (H : Type) → List (DataW H) → Bool := fun _ ds => decide (uptoBulkAll ds ≤ 1048576)
def OpenSpec.upto (s : _root_.Go.ChangeSpec) : _root_.Go.OpenSpec := { _root_.Go.OpenSpec.ofChange s with cond := some uptoSmall }

/-- 'laws.FnExactRankInClass', WHERE WHAT IT READS IS OF BULK AT MOST 1048576: true; the input reads as it did. -/
def fnExactRankInClassUptoRow : OpenClaim := { program := "ytcfogpdpnihilaa", sum := "4c19b0451acfb7bd023132887fed8fc649f041b0678d058d42d2651708f22211", func := "loop.example/g03209/laws.FnExactRankInClass", spec := "fnExactRankInClass", apart := false, narrowed := true }
def FnExactRankInClassUptoSaid : Prop := fnExactRankInClassUptoRow.holds Try.pinned (OpenSpec.upto fnExactRankInClassSpec)

/-- 'laws.FnExactClassOf', WHERE WHAT IT READS IS OF BULK AT MOST 1048576: true; the input reads as it did. -/
def fnExactClassOfUptoRow : OpenClaim := { program := "ytcfogpdpnihilaa", sum := "4c19b0451acfb7bd023132887fed8fc649f041b0678d058d42d2651708f22211", func := "loop.example/g03209/laws.FnExactClassOf", spec := "fnExactClassOf", apart := false, narrowed := true }
def FnExactClassOfUptoSaid : Prop := fnExactClassOfUptoRow.holds Try.pinned (OpenSpec.upto fnExactClassOfSpec)

/-- 'laws.FnExactClassWord', WHERE WHAT IT READS IS OF BULK AT MOST 1048576: true; the input reads as it did. -/
def fnExactClassWordUptoRow : OpenClaim := { program := "ytcfogpdpnihilaa", sum := "4c19b0451acfb7bd023132887fed8fc649f041b0678d058d42d2651708f22211", func := "loop.example/g03209/laws.FnExactClassWord", spec := "fnExactClassWord", apart := false, narrowed := true }
def FnExactClassWordUptoSaid : Prop := fnExactClassWordUptoRow.holds Try.pinned (OpenSpec.upto fnExactClassWordSpec)

/-- 'laws.FnExactNextOfClass', WHERE WHAT IT READS IS OF BULK AT MOST 1048576: true; the input reads as it did. -/
def fnExactNextOfClassUptoRow : OpenClaim := { program := "ytcfogpdpnihilaa", sum := "4c19b0451acfb7bd023132887fed8fc649f041b0678d058d42d2651708f22211", func := "loop.example/g03209/laws.FnExactNextOfClass", spec := "fnExactNextOfClass", apart := false, narrowed := true }
def FnExactNextOfClassUptoSaid : Prop := fnExactNextOfClassUptoRow.holds Try.pinned (OpenSpec.upto fnExactNextOfClassSpec)

/-- 'laws.FnExactShiftSum', WHERE WHAT IT READS IS OF BULK AT MOST 1048576: true; the input reads as it did. -/
def fnExactShiftSumUptoRow : OpenClaim := { program := "ytcfogpdpnihilaa", sum := "4c19b0451acfb7bd023132887fed8fc649f041b0678d058d42d2651708f22211", func := "loop.example/g03209/laws.FnExactShiftSum", spec := "fnExactShiftSum", apart := false, narrowed := true }
def FnExactShiftSumUptoSaid : Prop := fnExactShiftSumUptoRow.holds Try.pinned (OpenSpec.upto fnExactShiftSumSpec)

/-- 'laws.FnExactPowerSum', WHERE WHAT IT READS IS OF BULK AT MOST 1048576: true; the input reads as it did. -/
def fnExactPowerSumUptoRow : OpenClaim := { program := "ytcfogpdpnihilaa", sum := "4c19b0451acfb7bd023132887fed8fc649f041b0678d058d42d2651708f22211", func := "loop.example/g03209/laws.FnExactPowerSum", spec := "fnExactPowerSum", apart := false, narrowed := true }
def FnExactPowerSumUptoSaid : Prop := fnExactPowerSumUptoRow.holds Try.pinned (OpenSpec.upto fnExactPowerSumSpec)

/-- 'laws.FnExactMembersOf', WHERE WHAT IT READS IS OF BULK AT MOST 1048576: true; the input reads as it did. -/
def fnExactMembersOfUptoRow : OpenClaim := { program := "ytcfogpdpnihilaa", sum := "4c19b0451acfb7bd023132887fed8fc649f041b0678d058d42d2651708f22211", func := "loop.example/g03209/laws.FnExactMembersOf", spec := "fnExactMembersOf", apart := false, narrowed := true }
def FnExactMembersOfUptoSaid : Prop := fnExactMembersOfUptoRow.holds Try.pinned (OpenSpec.upto fnExactMembersOfSpec)

/-- 'laws.FnClasses', WHERE WHAT IT READS IS OF BULK AT MOST 1048576: true; the input reads as it did. -/
def fnClassesUptoRow : OpenClaim := { program := "ytcfogpdpnihilaa", sum := "4c19b0451acfb7bd023132887fed8fc649f041b0678d058d42d2651708f22211", func := "loop.example/g03209/laws.FnClasses", spec := "fnClasses", apart := false, narrowed := true }
def FnClassesUptoSaid : Prop := fnClassesUptoRow.holds Try.pinned (OpenSpec.upto fnClassesSpec)

end Rows
end Go.Proofs.Ytcfogpdpnihilaa
