/-
  No cell of these rows narrows 'for every input' (looked for: loops, veiled, ifaces, maps, wideKeys, modest, calm, conditions, laid).
  DERIVED. THE GIVEN ROWS OF THIS SEAT. 4 by the template 'for every input the law returns true; each argument reads behind the call as it read before'; 0 by the template 'total and deterministic' (their statements: YtdebdnglchkdaaaTotals.lean).
  GIVEN WITH THE SEED: the statements are not yours to turn. If you find one false, say at which input.
  Laid BY PROGRAM, IN A SANDBOX (cutbox-rows.mjs): the forced cells as the released guide's own fill.sh prints them over the translation f6a69b5daaeb0b1c… (all of the seat's roots in one cut). By AI agents, Wed Nov 11 2026. No macro, syntax, notation, axiom, sorry.
-/
import Derived.Test.YtdebdnglchkdaaaChecked
import GoSem.Claim
import GoSem.ClaimJoined
import GoSem.ClaimMapViews
import Derived.JoinedTies
import Derived.KernelRfl
namespace Go.Proofs.Ytdebdnglchkdaaa
/- THE CELL 'sum', in the pinned program and in every row, IS THE sha256 OF THE DUMP (.gsa) THAT YtdebdnglchkdaaaProg.lean LOADS. Nothing in Lean hashes anything: it is a label: what it is worth is what the hold of that sum in a sandbox is worth. -/
noncomputable def Try.pinned : Pinned := { name := "ytdebdnglchkdaaa", sum := "f6a69b5daaeb0b1c2561ef3f7e31274c1e9518b69c768c6eb3a23f30a62fdbe5", checked := Try.checked }
namespace Rows
def none {H : Type} : Left H := { results := [], args := [] }

/-- 'laws.FnExactKernelSize': WHATEVER THE INPUT: true; the input reads as it did. -/
def fnExactKernelSizeSpec : ChangeSpec := { name := "fnExactKernelSize", fn := fun _ => fun
  | [d] => { results := [.lit (.bool true)], args := [d] }
  | _ => none }
def fnExactKernelSizeRow : OpenClaim := { program := "ytdebdnglchkdaaa", sum := "f6a69b5daaeb0b1c2561ef3f7e31274c1e9518b69c768c6eb3a23f30a62fdbe5", func := "loop.example/g03209/laws.FnExactKernelSize", spec := "fnExactKernelSize", recurses := true, apart := false }
def FnExactKernelSizeSaid : Prop := fnExactKernelSizeRow.holds Try.pinned (OpenSpec.ofChange fnExactKernelSizeSpec)

/-- ITS FALSE NEIGHBOUR: 'it returns false'. Refute it at one input. -/
def fnExactKernelSizeWrong : ChangeSpec := { name := "fnExactKernelSize", fn := fun _ => fun
  | [d] => { results := [.lit (.bool false)], args := [d] }
  | _ => none }
def FnExactKernelSizeWrongFalsely : Prop := fnExactKernelSizeRow.holds Try.pinned (OpenSpec.ofChange fnExactKernelSizeWrong)

/-- 'laws.FnExactAutoOf': WHATEVER THE INPUT: true; the input reads as it did. -/
def fnExactAutoOfSpec : ChangeSpec := { name := "fnExactAutoOf", fn := fun _ => fun
  | [d] => { results := [.lit (.bool true)], args := [d] }
  | _ => none }
def fnExactAutoOfRow : OpenClaim := { program := "ytdebdnglchkdaaa", sum := "f6a69b5daaeb0b1c2561ef3f7e31274c1e9518b69c768c6eb3a23f30a62fdbe5", func := "loop.example/g03209/laws.FnExactAutoOf", spec := "fnExactAutoOf", apart := false }
def FnExactAutoOfSaid : Prop := fnExactAutoOfRow.holds Try.pinned (OpenSpec.ofChange fnExactAutoOfSpec)

/-- ITS FALSE NEIGHBOUR: 'it returns false'. Refute it at one input. -/
def fnExactAutoOfWrong : ChangeSpec := { name := "fnExactAutoOf", fn := fun _ => fun
  | [d] => { results := [.lit (.bool false)], args := [d] }
  | _ => none }
def FnExactAutoOfWrongFalsely : Prop := fnExactAutoOfRow.holds Try.pinned (OpenSpec.ofChange fnExactAutoOfWrong)

/-- 'laws.FnExactSameLetters': WHATEVER THE INPUT: true; the input reads as it did. -/
def fnExactSameLettersSpec : ChangeSpec := { name := "fnExactSameLetters", fn := fun _ => fun
  | [d1, d2] => { results := [.lit (.bool true)], args := [d1, d2] }
  | _ => none }
def fnExactSameLettersRow : OpenClaim := { program := "ytdebdnglchkdaaa", sum := "f6a69b5daaeb0b1c2561ef3f7e31274c1e9518b69c768c6eb3a23f30a62fdbe5", func := "loop.example/g03209/laws.FnExactSameLetters", spec := "fnExactSameLetters", unfollowed := true, recurses := true, apart := false }
def FnExactSameLettersSaid : Prop := fnExactSameLettersRow.holds Try.pinned (OpenSpec.ofChange fnExactSameLettersSpec)

/-- ITS FALSE NEIGHBOUR: 'it returns false'. Refute it at one input. -/
def fnExactSameLettersWrong : ChangeSpec := { name := "fnExactSameLetters", fn := fun _ => fun
  | [d1, d2] => { results := [.lit (.bool false)], args := [d1, d2] }
  | _ => none }
def FnExactSameLettersWrongFalsely : Prop := fnExactSameLettersRow.holds Try.pinned (OpenSpec.ofChange fnExactSameLettersWrong)

/-- 'laws.FnExactSmallAuto': WHATEVER THE INPUT: true; the input reads as it did. -/
def fnExactSmallAutoSpec : ChangeSpec := { name := "fnExactSmallAuto", fn := fun _ => fun
  | [d] => { results := [.lit (.bool true)], args := [d] }
  | _ => none }
def fnExactSmallAutoRow : OpenClaim := { program := "ytdebdnglchkdaaa", sum := "f6a69b5daaeb0b1c2561ef3f7e31274c1e9518b69c768c6eb3a23f30a62fdbe5", func := "loop.example/g03209/laws.FnExactSmallAuto", spec := "fnExactSmallAuto", unfollowed := true, recurses := true, apart := false }
def FnExactSmallAutoSaid : Prop := fnExactSmallAutoRow.holds Try.pinned (OpenSpec.ofChange fnExactSmallAutoSpec)

/-- ITS FALSE NEIGHBOUR: 'it returns false'. Refute it at one input. -/
def fnExactSmallAutoWrong : ChangeSpec := { name := "fnExactSmallAuto", fn := fun _ => fun
  | [d] => { results := [.lit (.bool false)], args := [d] }
  | _ => none }
def FnExactSmallAutoWrongFalsely : Prop := fnExactSmallAutoRow.holds Try.pinned (OpenSpec.ofChange fnExactSmallAutoWrong)

/- THE SECOND FORM. 'bulk': how many values and letters a reading holds, each counted each time it is reached (what is shared counts as often as it is met; a slice's spare places count too). A statement '..UptoSaid' is the law's where the arguments, and the package variables that the reading takes, are together of bulk at most 1048576: NARROWER than '..Said'. Prove '..Said' where nothing that the law and all that it calls make is longer than what came in: it says more and counts as full. Else prove '..UptoSaid'. A law counts once. -/
mutual
def uptoBulk {H : Type} : DataW H → Nat
  | .lit (.string bytes) => bytes.length + 1
  | .lit _ => 1
  | .nil => 1
  | .ptr d => uptoBulk d + 1
  | .slice elems spare => uptoBulkAll elems + uptoBulkAll spare + 1
  | .agg parts => uptoBulkAll parts + 1
  | .iface _ d => uptoBulk d + 1
  | .map entries => uptoBulkEntries entries + 1
  | .held _ => 1
def uptoBulkAll {H : Type} : List (DataW H) → Nat
  | [] => 0
  | d :: r => uptoBulk d + uptoBulkAll r
def uptoBulkEntries {H : Type} : List (Lit × DataW H) → Nat
  | [] => 0
  | x :: r => uptoBulkEntry x + uptoBulkEntries r
def uptoBulkEntry {H : Type} : Lit × DataW H → Nat
  | (.string bytes, d) => bytes.length + uptoBulk d + 1
  | (_, d) => uptoBulk d + 1
 end
def uptoSmall : (H : Type) → List (DataW H) → Bool := fun _ ds => decide (uptoBulkAll ds ≤ 1048576)
def OpenSpec.upto (s : _root_.Go.ChangeSpec) : _root_.Go.OpenSpec := { _root_.Go.OpenSpec.ofChange s with cond := some uptoSmall }

/-- 'laws.FnExactKernelSize', WHERE WHAT IT READS IS OF BULK AT MOST 1048576: true; the input reads as it did. -/
def fnExactKernelSizeUptoRow : OpenClaim := { program := "ytdebdnglchkdaaa", sum := "f6a69b5daaeb0b1c2561ef3f7e31274c1e9518b69c768c6eb3a23f30a62fdbe5", func := "loop.example/g03209/laws.FnExactKernelSize", spec := "fnExactKernelSize", recurses := true, apart := false, narrowed := true }
def FnExactKernelSizeUptoSaid : Prop := fnExactKernelSizeUptoRow.holds Try.pinned (OpenSpec.upto fnExactKernelSizeSpec)

/-- 'laws.FnExactAutoOf', WHERE WHAT IT READS IS OF BULK AT MOST 1048576: true; the input reads as it did. -/
def fnExactAutoOfUptoRow : OpenClaim := { program := "ytdebdnglchkdaaa", sum := "f6a69b5daaeb0b1c2561ef3f7e31274c1e9518b69c768c6eb3a23f30a62fdbe5", func := "loop.example/g03209/laws.FnExactAutoOf", spec := "fnExactAutoOf", apart := false, narrowed := true }
def FnExactAutoOfUptoSaid : Prop := fnExactAutoOfUptoRow.holds Try.pinned (OpenSpec.upto fnExactAutoOfSpec)

/-- 'laws.FnExactSameLetters', WHERE WHAT IT READS IS OF BULK AT MOST 1048576: true; the input reads as it did. -/
def fnExactSameLettersUptoRow : OpenClaim := { program := "ytdebdnglchkdaaa", sum := "f6a69b5daaeb0b1c2561ef3f7e31274c1e9518b69c768c6eb3a23f30a62fdbe5", func := "loop.example/g03209/laws.FnExactSameLetters", spec := "fnExactSameLetters", unfollowed := true, recurses := true, apart := false, narrowed := true }
def FnExactSameLettersUptoSaid : Prop := fnExactSameLettersUptoRow.holds Try.pinned (OpenSpec.upto fnExactSameLettersSpec)

/-- 'laws.FnExactSmallAuto', WHERE WHAT IT READS IS OF BULK AT MOST 1048576: true; the input reads as it did. -/
def fnExactSmallAutoUptoRow : OpenClaim := { program := "ytdebdnglchkdaaa", sum := "f6a69b5daaeb0b1c2561ef3f7e31274c1e9518b69c768c6eb3a23f30a62fdbe5", func := "loop.example/g03209/laws.FnExactSmallAuto", spec := "fnExactSmallAuto", unfollowed := true, recurses := true, apart := false, narrowed := true }
def FnExactSmallAutoUptoSaid : Prop := fnExactSmallAutoUptoRow.holds Try.pinned (OpenSpec.upto fnExactSmallAutoSpec)

end Rows
end Go.Proofs.Ytdebdnglchkdaaa
