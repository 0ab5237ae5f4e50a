/-
  No cell of these rows narrows 'for every input' (looked for: loops, veiled, ifaces, maps, wideKeys, modest, calm, conditions, laid).
  DERIVED. THE GIVEN ROWS OF THIS SEAT. 6 by the template 'for every input the law returns true; each argument reads behind the call as it read before'; 0 by the template 'total and deterministic' (their statements: YtdnfkhfhhffaeaaTotals.lean).
  GIVEN WITH THE SEED: the statements are not yours to turn. If you find one false, say at which input.
  Laid BY PROGRAM, IN A SANDBOX (cutbox-rows.mjs): the forced cells as the released guide's own fill.sh prints them over the translation 0ae280e759c1a0a4… (all of the seat's roots in one cut). By AI agents, Wed Nov 11 2026. No macro, syntax, notation, axiom, sorry.
-/
import Derived.Test.YtdnfkhfhhffaeaaChecked
import GoSem.Claim
import GoSem.ClaimJoined
import GoSem.ClaimMapViews
import Derived.JoinedTies
import Derived.KernelRfl
namespace Go.Proofs.Ytdnfkhfhhffaeaa
/- THE CELL 'sum', in the pinned program and in every row, IS THE sha256 OF THE DUMP (.gsa) THAT YtdnfkhfhhffaeaaProg.lean LOADS. Nothing in Lean hashes anything: it is a label: what it is worth is what the hold of that sum in a sandbox is worth. -/
noncomputable def Try.pinned : Pinned := { name := "ytdnfkhfhhffaeaa", sum := "0ae280e759c1a0a46040761c936a65c005d5cf8a0ca9854bfa62d7a2a482f52f", checked := Try.checked }
namespace Rows
def none {H : Type} : Left H := { results := [], args := [] }

/-- 'laws.FnExactSelfWord': WHATEVER THE INPUT: true; the input reads as it did. -/
def fnExactSelfWordSpec : ChangeSpec := { name := "fnExactSelfWord", fn := fun _ => fun
  | [d] => { results := [.lit (.bool true)], args := [d] }
  | _ => none }
def fnExactSelfWordRow : OpenClaim := { program := "ytdnfkhfhhffaeaa", sum := "0ae280e759c1a0a46040761c936a65c005d5cf8a0ca9854bfa62d7a2a482f52f", func := "loop.example/g03209/laws.FnExactSelfWord", spec := "fnExactSelfWord", apart := false }
def FnExactSelfWordSaid : Prop := fnExactSelfWordRow.holds Try.pinned (OpenSpec.ofChange fnExactSelfWordSpec)

/-- ITS FALSE NEIGHBOUR: 'it returns false'. Refute it at one input. -/
def fnExactSelfWordWrong : ChangeSpec := { name := "fnExactSelfWord", fn := fun _ => fun
  | [d] => { results := [.lit (.bool false)], args := [d] }
  | _ => none }
def FnExactSelfWordWrongFalsely : Prop := fnExactSelfWordRow.holds Try.pinned (OpenSpec.ofChange fnExactSelfWordWrong)

/-- 'laws.FnExactRunWord': WHATEVER THE INPUT: true; the input reads as it did. -/
def fnExactRunWordSpec : ChangeSpec := { name := "fnExactRunWord", fn := fun _ => fun
  | [d] => { results := [.lit (.bool true)], args := [d] }
  | _ => none }
def fnExactRunWordRow : OpenClaim := { program := "ytdnfkhfhhffaeaa", sum := "0ae280e759c1a0a46040761c936a65c005d5cf8a0ca9854bfa62d7a2a482f52f", func := "loop.example/g03209/laws.FnExactRunWord", spec := "fnExactRunWord", apart := false }
def FnExactRunWordSaid : Prop := fnExactRunWordRow.holds Try.pinned (OpenSpec.ofChange fnExactRunWordSpec)

/-- ITS FALSE NEIGHBOUR: 'it returns false'. Refute it at one input. -/
def fnExactRunWordWrong : ChangeSpec := { name := "fnExactRunWord", fn := fun _ => fun
  | [d] => { results := [.lit (.bool false)], args := [d] }
  | _ => none }
def FnExactRunWordWrongFalsely : Prop := fnExactRunWordRow.holds Try.pinned (OpenSpec.ofChange fnExactRunWordWrong)

/-- 'laws.FnExactRunsOf': WHATEVER THE INPUT: true; the input reads as it did. -/
def fnExactRunsOfSpec : ChangeSpec := { name := "fnExactRunsOf", fn := fun _ => fun
  | [d] => { results := [.lit (.bool true)], args := [d] }
  | _ => none }
def fnExactRunsOfRow : OpenClaim := { program := "ytdnfkhfhhffaeaa", sum := "0ae280e759c1a0a46040761c936a65c005d5cf8a0ca9854bfa62d7a2a482f52f", func := "loop.example/g03209/laws.FnExactRunsOf", spec := "fnExactRunsOf", apart := false }
def FnExactRunsOfSaid : Prop := fnExactRunsOfRow.holds Try.pinned (OpenSpec.ofChange fnExactRunsOfSpec)

/-- ITS FALSE NEIGHBOUR: 'it returns false'. Refute it at one input. -/
def fnExactRunsOfWrong : ChangeSpec := { name := "fnExactRunsOf", fn := fun _ => fun
  | [d] => { results := [.lit (.bool false)], args := [d] }
  | _ => none }
def FnExactRunsOfWrongFalsely : Prop := fnExactRunsOfRow.holds Try.pinned (OpenSpec.ofChange fnExactRunsOfWrong)

/-- 'laws.FnExactInnerRunWord': WHATEVER THE INPUT: true; the input reads as it did. -/
def fnExactInnerRunWordSpec : ChangeSpec := { name := "fnExactInnerRunWord", fn := fun _ => fun
  | [d] => { results := [.lit (.bool true)], args := [d] }
  | _ => none }
def fnExactInnerRunWordRow : OpenClaim := { program := "ytdnfkhfhhffaeaa", sum := "0ae280e759c1a0a46040761c936a65c005d5cf8a0ca9854bfa62d7a2a482f52f", func := "loop.example/g03209/laws.FnExactInnerRunWord", spec := "fnExactInnerRunWord", apart := false }
def FnExactInnerRunWordSaid : Prop := fnExactInnerRunWordRow.holds Try.pinned (OpenSpec.ofChange fnExactInnerRunWordSpec)

/-- ITS FALSE NEIGHBOUR: 'it returns false'. Refute it at one input. -/
def fnExactInnerRunWordWrong : ChangeSpec := { name := "fnExactInnerRunWord", fn := fun _ => fun
  | [d] => { results := [.lit (.bool false)], args := [d] }
  | _ => none }
def FnExactInnerRunWordWrongFalsely : Prop := fnExactInnerRunWordRow.holds Try.pinned (OpenSpec.ofChange fnExactInnerRunWordWrong)

/-- 'laws.FnExactFromRuns': WHATEVER THE INPUT: true; the input reads as it did. -/
def fnExactFromRunsSpec : ChangeSpec := { name := "fnExactFromRuns", fn := fun _ => fun
  | [d1, d2] => { results := [.lit (.bool true)], args := [d1, d2] }
  | _ => none }
def fnExactFromRunsRow : OpenClaim := { program := "ytdnfkhfhhffaeaa", sum := "0ae280e759c1a0a46040761c936a65c005d5cf8a0ca9854bfa62d7a2a482f52f", func := "loop.example/g03209/laws.FnExactFromRuns", spec := "fnExactFromRuns", inPlace := ["internal/abi.NoEscape", "internal/bytealg.MakeNoZero"], apart := false }
def FnExactFromRunsSaid : Prop := fnExactFromRunsRow.holds Try.pinned (OpenSpec.ofChange fnExactFromRunsSpec)

/-- ITS FALSE NEIGHBOUR: 'it returns false'. Refute it at one input. -/
def fnExactFromRunsWrong : ChangeSpec := { name := "fnExactFromRuns", fn := fun _ => fun
  | [d1, d2] => { results := [.lit (.bool false)], args := [d1, d2] }
  | _ => none }
def FnExactFromRunsWrongFalsely : Prop := fnExactFromRunsRow.holds Try.pinned (OpenSpec.ofChange fnExactFromRunsWrong)

/-- 'laws.FnExactIsSmooth': WHATEVER THE INPUT: true; the input reads as it did. -/
def fnExactIsSmoothSpec : ChangeSpec := { name := "fnExactIsSmooth", fn := fun _ => fun
  | [d] => { results := [.lit (.bool true)], args := [d] }
  | _ => none }
def fnExactIsSmoothRow : OpenClaim := { program := "ytdnfkhfhhffaeaa", sum := "0ae280e759c1a0a46040761c936a65c005d5cf8a0ca9854bfa62d7a2a482f52f", func := "loop.example/g03209/laws.FnExactIsSmooth", spec := "fnExactIsSmooth", inPlace := ["internal/bytealg.IndexByteString", "internal/bytealg.IndexString"], named := ["internal/bytealg.MaxLen"], apart := false }
def FnExactIsSmoothSaid : Prop := fnExactIsSmoothRow.holds Try.pinned (OpenSpec.ofChange fnExactIsSmoothSpec)

/-- ITS FALSE NEIGHBOUR: 'it returns false'. Refute it at one input. -/
def fnExactIsSmoothWrong : ChangeSpec := { name := "fnExactIsSmooth", fn := fun _ => fun
  | [d] => { results := [.lit (.bool false)], args := [d] }
  | _ => none }
def FnExactIsSmoothWrongFalsely : Prop := fnExactIsSmoothRow.holds Try.pinned (OpenSpec.ofChange fnExactIsSmoothWrong)

/- THE SECOND FORM. 'bulk': how many values and letters a reading holds, each counted each time it is reached (what is shared counts as often as it is met; a slice's spare places count too). A statement '..UptoSaid' is the law's where the arguments, and the package variables that the reading takes, are together of bulk at most 1048576: NARROWER than '..Said'. Prove '..Said' where nothing that the law and all that it calls make is longer than what came in: it says more and counts as full. Else prove '..UptoSaid'. A law counts once. -/
mutual
def uptoBulk {H : Type} : DataW H → Nat
  | .lit (.string bytes) => bytes.length + 1
  | .lit _ => 1
  | .nil => 1
  | .ptr d => uptoBulk d + 1
  | .slice elems spare => uptoBulkAll elems + uptoBulkAll spare + 1
  | .agg parts => uptoBulkAll parts + 1
  | .iface _ d => uptoBulk d + 1
  | .map entries => uptoBulkEntries entries + 1
  | .held _ => 1
def uptoBulkAll {H : Type} : List (DataW H) → Nat
  | [] => 0
  | d :: r => uptoBulk d + uptoBulkAll r
def uptoBulkEntries {H : Type} : List (Lit × DataW H) → Nat
  | [] => 0
  | x :: r => uptoBulkEntry x + uptoBulkEntries r
def uptoBulkEntry {H : Type} : Lit × DataW H → Nat
  | (.string bytes, d) => bytes.length + uptoBulk d + 1
  | (_, d) => uptoBulk d + 1
 end
def uptoSmall : (H : Type) → List (DataW H) → Bool := fun _ ds => decide (uptoBulkAll ds ≤ 1048576)
def OpenSpec.upto (s : _root_.Go.ChangeSpec) : _root_.Go.OpenSpec := { _root_.Go.OpenSpec.ofChange s with cond := some uptoSmall }

/-- 'laws.FnExactSelfWord', WHERE WHAT IT READS IS OF BULK AT MOST 1048576: true; the input reads as it did. -/
def fnExactSelfWordUptoRow : OpenClaim := { program := "ytdnfkhfhhffaeaa", sum := "0ae280e759c1a0a46040761c936a65c005d5cf8a0ca9854bfa62d7a2a482f52f", func := "loop.example/g03209/laws.FnExactSelfWord", spec := "fnExactSelfWord", apart := false, narrowed := true }
def FnExactSelfWordUptoSaid : Prop := fnExactSelfWordUptoRow.holds Try.pinned (OpenSpec.upto fnExactSelfWordSpec)

/-- 'laws.FnExactRunWord', WHERE WHAT IT READS IS OF BULK AT MOST 1048576: true; the input reads as it did. -/
def fnExactRunWordUptoRow : OpenClaim := { program := "ytdnfkhfhhffaeaa", sum := "0ae280e759c1a0a46040761c936a65c005d5cf8a0ca9854bfa62d7a2a482f52f", func := "loop.example/g03209/laws.FnExactRunWord", spec := "fnExactRunWord", apart := false, narrowed := true }
def FnExactRunWordUptoSaid : Prop := fnExactRunWordUptoRow.holds Try.pinned (OpenSpec.upto fnExactRunWordSpec)

/-- 'laws.FnExactRunsOf', WHERE WHAT IT READS IS OF BULK AT MOST 1048576: true; the input reads as it did. -/
def fnExactRunsOfUptoRow : OpenClaim := { program := "ytdnfkhfhhffaeaa", sum := "0ae280e759c1a0a46040761c936a65c005d5cf8a0ca9854bfa62d7a2a482f52f", func := "loop.example/g03209/laws.FnExactRunsOf", spec := "fnExactRunsOf", apart := false, narrowed := true }
def FnExactRunsOfUptoSaid : Prop := fnExactRunsOfUptoRow.holds Try.pinned (OpenSpec.upto fnExactRunsOfSpec)

/-- 'laws.FnExactInnerRunWord', WHERE WHAT IT READS IS OF BULK AT MOST 1048576: true; the input reads as it did. -/
def fnExactInnerRunWordUptoRow : OpenClaim := { program := "ytdnfkhfhhffaeaa", sum := "0ae280e759c1a0a46040761c936a65c005d5cf8a0ca9854bfa62d7a2a482f52f", func := "loop.example/g03209/laws.FnExactInnerRunWord", spec := "fnExactInnerRunWord", apart := false, narrowed := true }
def FnExactInnerRunWordUptoSaid : Prop := fnExactInnerRunWordUptoRow.holds Try.pinned (OpenSpec.upto fnExactInnerRunWordSpec)

/-- 'laws.FnExactFromRuns', WHERE WHAT IT READS IS OF BULK AT MOST 1048576: true; the input reads as it did. -/
def fnExactFromRunsUptoRow : OpenClaim := { program := "ytdnfkhfhhffaeaa", sum := "0ae280e759c1a0a46040761c936a65c005d5cf8a0ca9854bfa62d7a2a482f52f", func := "loop.example/g03209/laws.FnExactFromRuns", spec := "fnExactFromRuns", inPlace := ["internal/abi.NoEscape", "internal/bytealg.MakeNoZero"], apart := false, narrowed := true }
def FnExactFromRunsUptoSaid : Prop := fnExactFromRunsUptoRow.holds Try.pinned (OpenSpec.upto fnExactFromRunsSpec)

/-- 'laws.FnExactIsSmooth', WHERE WHAT IT READS IS OF BULK AT MOST 1048576: true; the input reads as it did. -/
def fnExactIsSmoothUptoRow : OpenClaim := { program := "ytdnfkhfhhffaeaa", sum := "0ae280e759c1a0a46040761c936a65c005d5cf8a0ca9854bfa62d7a2a482f52f", func := "loop.example/g03209/laws.FnExactIsSmooth", spec := "fnExactIsSmooth", inPlace := ["internal/bytealg.IndexByteString", "internal/bytealg.IndexString"], named := ["internal/bytealg.MaxLen"], apart := false, narrowed := true }
def FnExactIsSmoothUptoSaid : Prop := fnExactIsSmoothUptoRow.holds Try.pinned (OpenSpec.upto fnExactIsSmoothSpec)

end Rows
end Go.Proofs.Ytdnfkhfhhffaeaa
