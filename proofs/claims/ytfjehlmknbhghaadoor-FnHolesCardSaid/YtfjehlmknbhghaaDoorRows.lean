/-
  NARROWER THAN 'FOR EVERY INPUT', by the rows' own cells (each row's printed sentence says how): FnExactPatternOk: laid · FnExactHolesOf: laid · FnExactDepthOf: laid · FnExactLetterOfPattern: laid · FnExactFillPattern: laid · FnExactFoldPattern: laid · FnExactFillWith: laid · FnHoles: laid.
  DERIVED. THE GIVEN ROWS OF THIS SEAT. 8 by the template 'for every input the law returns true; each argument reads behind the call as it read before'; 0 by the template 'total and deterministic' (their statements: YtfjehlmknbhghaaDoorTotals.lean).
  GIVEN WITH THE SEED: the statements are not yours to turn. If you find one false, say at which input.
  Laid BY PROGRAM, IN A SANDBOX (cutbox-rows.mjs): the forced cells as the released guide's own fill.sh prints them over the translation a05e543d5e7ed2e8… (all of the seat's roots in one cut). By AI agents, Wed Nov 11 2026. No macro, syntax, notation, axiom, sorry.
-/
import Derived.Test.YtfjehlmknbhghaaDoorChecked
import GoSem.PinnedTables
import GoSem.Claim
import GoSem.ClaimJoined
import GoSem.ClaimMapViews
import Derived.JoinedTies
import Derived.KernelRfl
namespace Go.Proofs.YtfjehlmknbhghaaDoor
/- THE CELL 'sum', in the pinned program and in every row, IS THE sha256 OF THE DUMP (.gsa) THAT YtfjehlmknbhghaaDoorProg.lean LOADS. Nothing in Lean hashes anything: it is a label: what it is worth is what the hold of that sum in a sandbox is worth. -/
noncomputable def Tryd.pinned : Pinned := { name := "ytfjehlmknbhghaadoor", sum := "a05e543d5e7ed2e8e2862a7940999e0be2222a6d347fc36be9241e8ea577efc5", checked := Tryd.checked }
namespace Rows
def none {H : Type} : Left H := { results := [], args := [] }

/- WHAT THE LISTED PACKAGE-LEVEL VARIABLES READ AS WHEN THE CALL BEGINS. Each datum BY PROGRAM (the guide's laid-datum.mjs) off the statement by which the dump's own 'gosem.cut.vars' lays the variable. In a bare row this is a premise. The card (YtfjehlmknbhghaaDoorCards.lean) ties it to the program's text. -/
def laid_unicode_utf8_acceptRanges {H : Type} : DataW H := .agg [.agg [.lit (.int .u8 128), .lit (.int .u8 191)], .agg [.lit (.int .u8 160), .lit (.int .u8 191)], .agg [.lit (.int .u8 128), .lit (.int .u8 159)], .agg [.lit (.int .u8 144), .lit (.int .u8 191)], .agg [.lit (.int .u8 128), .lit (.int .u8 143)], .agg [.lit (.int .u8 0), .lit (.int .u8 0)], .agg [.lit (.int .u8 0), .lit (.int .u8 0)], .agg [.lit (.int .u8 0), .lit (.int .u8 0)], .agg [.lit (.int .u8 0), .lit (.int .u8 0)], .agg [.lit (.int .u8 0), .lit (.int .u8 0)], .agg [.lit (.int .u8 0), .lit (.int .u8 0)], .agg [.lit (.int .u8 0), .lit (.int .u8 0)], .agg [.lit (.int .u8 0), .lit (.int .u8 0)], .agg [.lit (.int .u8 0), .lit (.int .u8 0)], .agg [.lit (.int .u8 0), .lit (.int .u8 0)], .agg [.lit (.int .u8 0), .lit (.int .u8 0)]]
/-- One of Go's own tables, pinned by name: the form's constant. -/
def laid_unicode_utf8_first : DataW Unit := Go.Pinned.utf8First

/-- 'laws.FnExactPatternOk': WHATEVER THE INPUT: true; the input reads as it did. -/
def fnExactPatternOkSpec : ChangeSpec := { name := "fnExactPatternOk", fn := fun _ => fun
  | [d] => { results := [.lit (.bool true)], args := [d] }
  | _ => none }
def fnExactPatternOkRow : OpenClaim := { program := "ytfjehlmknbhghaadoor", sum := "a05e543d5e7ed2e8e2862a7940999e0be2222a6d347fc36be9241e8ea577efc5", func := "loop.example/g03209/laws.FnExactPatternOk", spec := "fnExactPatternOk", inPlace := ["internal/bytealg.CountString", "internal/bytealg.IndexByteString", "internal/bytealg.IndexString", "internal/abi.NoEscape", "internal/bytealg.MakeNoZero"], named := ["internal/bytealg.MaxLen", "unicode/utf8.first", "unicode/utf8.acceptRanges"], apart := false, laid := [("unicode/utf8.acceptRanges", laid_unicode_utf8_acceptRanges), ("unicode/utf8.first", laid_unicode_utf8_first)] }
def FnExactPatternOkSaid : Prop := fnExactPatternOkRow.holds Tryd.pinned (OpenSpec.ofChange fnExactPatternOkSpec)

/-- ITS FALSE NEIGHBOUR: 'it returns false'. Refute it at one input. -/
def fnExactPatternOkWrong : ChangeSpec := { name := "fnExactPatternOk", fn := fun _ => fun
  | [d] => { results := [.lit (.bool false)], args := [d] }
  | _ => none }
def FnExactPatternOkWrongFalsely : Prop := fnExactPatternOkRow.holds Tryd.pinned (OpenSpec.ofChange fnExactPatternOkWrong)

/-- 'laws.FnExactHolesOf': WHATEVER THE INPUT: true; the input reads as it did. -/
def fnExactHolesOfSpec : ChangeSpec := { name := "fnExactHolesOf", fn := fun _ => fun
  | [d] => { results := [.lit (.bool true)], args := [d] }
  | _ => none }
def fnExactHolesOfRow : OpenClaim := { program := "ytfjehlmknbhghaadoor", sum := "a05e543d5e7ed2e8e2862a7940999e0be2222a6d347fc36be9241e8ea577efc5", func := "loop.example/g03209/laws.FnExactHolesOf", spec := "fnExactHolesOf", inPlace := ["internal/bytealg.CountString", "internal/bytealg.IndexByteString", "internal/bytealg.IndexString", "internal/abi.NoEscape", "internal/bytealg.MakeNoZero"], named := ["internal/bytealg.MaxLen", "unicode/utf8.first", "unicode/utf8.acceptRanges"], apart := false, laid := [("unicode/utf8.acceptRanges", laid_unicode_utf8_acceptRanges), ("unicode/utf8.first", laid_unicode_utf8_first)] }
def FnExactHolesOfSaid : Prop := fnExactHolesOfRow.holds Tryd.pinned (OpenSpec.ofChange fnExactHolesOfSpec)

/-- ITS FALSE NEIGHBOUR: 'it returns false'. Refute it at one input. -/
def fnExactHolesOfWrong : ChangeSpec := { name := "fnExactHolesOf", fn := fun _ => fun
  | [d] => { results := [.lit (.bool false)], args := [d] }
  | _ => none }
def FnExactHolesOfWrongFalsely : Prop := fnExactHolesOfRow.holds Tryd.pinned (OpenSpec.ofChange fnExactHolesOfWrong)

/-- 'laws.FnExactDepthOf': WHATEVER THE INPUT: true; the input reads as it did. -/
def fnExactDepthOfSpec : ChangeSpec := { name := "fnExactDepthOf", fn := fun _ => fun
  | [d1, d2] => { results := [.lit (.bool true)], args := [d1, d2] }
  | _ => none }
def fnExactDepthOfRow : OpenClaim := { program := "ytfjehlmknbhghaadoor", sum := "a05e543d5e7ed2e8e2862a7940999e0be2222a6d347fc36be9241e8ea577efc5", func := "loop.example/g03209/laws.FnExactDepthOf", spec := "fnExactDepthOf", inPlace := ["internal/bytealg.CountString", "internal/bytealg.IndexByteString", "internal/bytealg.IndexString", "internal/abi.NoEscape", "internal/bytealg.MakeNoZero"], named := ["internal/bytealg.MaxLen", "unicode/utf8.first", "unicode/utf8.acceptRanges"], apart := false, laid := [("unicode/utf8.acceptRanges", laid_unicode_utf8_acceptRanges), ("unicode/utf8.first", laid_unicode_utf8_first)] }
def FnExactDepthOfSaid : Prop := fnExactDepthOfRow.holds Tryd.pinned (OpenSpec.ofChange fnExactDepthOfSpec)

/-- ITS FALSE NEIGHBOUR: 'it returns false'. Refute it at one input. -/
def fnExactDepthOfWrong : ChangeSpec := { name := "fnExactDepthOf", fn := fun _ => fun
  | [d1, d2] => { results := [.lit (.bool false)], args := [d1, d2] }
  | _ => none }
def FnExactDepthOfWrongFalsely : Prop := fnExactDepthOfRow.holds Tryd.pinned (OpenSpec.ofChange fnExactDepthOfWrong)

/-- 'laws.FnExactLetterOfPattern': WHATEVER THE INPUT: true; the input reads as it did. -/
def fnExactLetterOfPatternSpec : ChangeSpec := { name := "fnExactLetterOfPattern", fn := fun _ => fun
  | [d1, d2] => { results := [.lit (.bool true)], args := [d1, d2] }
  | _ => none }
def fnExactLetterOfPatternRow : OpenClaim := { program := "ytfjehlmknbhghaadoor", sum := "a05e543d5e7ed2e8e2862a7940999e0be2222a6d347fc36be9241e8ea577efc5", func := "loop.example/g03209/laws.FnExactLetterOfPattern", spec := "fnExactLetterOfPattern", inPlace := ["internal/bytealg.CountString", "internal/bytealg.IndexByteString", "internal/bytealg.IndexString", "internal/abi.NoEscape", "internal/bytealg.MakeNoZero"], named := ["internal/bytealg.MaxLen", "unicode/utf8.first", "unicode/utf8.acceptRanges"], apart := false, laid := [("unicode/utf8.acceptRanges", laid_unicode_utf8_acceptRanges), ("unicode/utf8.first", laid_unicode_utf8_first)] }
def FnExactLetterOfPatternSaid : Prop := fnExactLetterOfPatternRow.holds Tryd.pinned (OpenSpec.ofChange fnExactLetterOfPatternSpec)

/-- ITS FALSE NEIGHBOUR: 'it returns false'. Refute it at one input. -/
def fnExactLetterOfPatternWrong : ChangeSpec := { name := "fnExactLetterOfPattern", fn := fun _ => fun
  | [d1, d2] => { results := [.lit (.bool false)], args := [d1, d2] }
  | _ => none }
def FnExactLetterOfPatternWrongFalsely : Prop := fnExactLetterOfPatternRow.holds Tryd.pinned (OpenSpec.ofChange fnExactLetterOfPatternWrong)

/-- 'laws.FnExactFillPattern': WHATEVER THE INPUT: true; the input reads as it did. -/
def fnExactFillPatternSpec : ChangeSpec := { name := "fnExactFillPattern", fn := fun _ => fun
  | [d1, d2] => { results := [.lit (.bool true)], args := [d1, d2] }
  | _ => none }
def fnExactFillPatternRow : OpenClaim := { program := "ytfjehlmknbhghaadoor", sum := "a05e543d5e7ed2e8e2862a7940999e0be2222a6d347fc36be9241e8ea577efc5", func := "loop.example/g03209/laws.FnExactFillPattern", spec := "fnExactFillPattern", inPlace := ["internal/bytealg.CountString", "internal/bytealg.IndexByteString", "internal/bytealg.IndexString", "internal/abi.NoEscape", "internal/bytealg.MakeNoZero"], named := ["internal/bytealg.MaxLen", "unicode/utf8.first", "unicode/utf8.acceptRanges"], apart := false, laid := [("unicode/utf8.acceptRanges", laid_unicode_utf8_acceptRanges), ("unicode/utf8.first", laid_unicode_utf8_first)] }
def FnExactFillPatternSaid : Prop := fnExactFillPatternRow.holds Tryd.pinned (OpenSpec.ofChange fnExactFillPatternSpec)

/-- ITS FALSE NEIGHBOUR: 'it returns false'. Refute it at one input. -/
def fnExactFillPatternWrong : ChangeSpec := { name := "fnExactFillPattern", fn := fun _ => fun
  | [d1, d2] => { results := [.lit (.bool false)], args := [d1, d2] }
  | _ => none }
def FnExactFillPatternWrongFalsely : Prop := fnExactFillPatternRow.holds Tryd.pinned (OpenSpec.ofChange fnExactFillPatternWrong)

/-- 'laws.FnExactFoldPattern': WHATEVER THE INPUT: true; the input reads as it did. -/
def fnExactFoldPatternSpec : ChangeSpec := { name := "fnExactFoldPattern", fn := fun _ => fun
  | [d] => { results := [.lit (.bool true)], args := [d] }
  | _ => none }
def fnExactFoldPatternRow : OpenClaim := { program := "ytfjehlmknbhghaadoor", sum := "a05e543d5e7ed2e8e2862a7940999e0be2222a6d347fc36be9241e8ea577efc5", func := "loop.example/g03209/laws.FnExactFoldPattern", spec := "fnExactFoldPattern", inPlace := ["internal/bytealg.CountString", "internal/bytealg.IndexByteString", "internal/bytealg.IndexString", "internal/abi.NoEscape", "internal/bytealg.MakeNoZero"], named := ["internal/bytealg.MaxLen", "unicode/utf8.first", "unicode/utf8.acceptRanges"], apart := false, laid := [("unicode/utf8.acceptRanges", laid_unicode_utf8_acceptRanges), ("unicode/utf8.first", laid_unicode_utf8_first)] }
def FnExactFoldPatternSaid : Prop := fnExactFoldPatternRow.holds Tryd.pinned (OpenSpec.ofChange fnExactFoldPatternSpec)

/-- ITS FALSE NEIGHBOUR: 'it returns false'. Refute it at one input. -/
def fnExactFoldPatternWrong : ChangeSpec := { name := "fnExactFoldPattern", fn := fun _ => fun
  | [d] => { results := [.lit (.bool false)], args := [d] }
  | _ => none }
def FnExactFoldPatternWrongFalsely : Prop := fnExactFoldPatternRow.holds Tryd.pinned (OpenSpec.ofChange fnExactFoldPatternWrong)

/-- 'laws.FnExactFillWith': WHATEVER THE INPUT: true; the input reads as it did. -/
def fnExactFillWithSpec : ChangeSpec := { name := "fnExactFillWith", fn := fun _ => fun
  | [d1, d2, d3] => { results := [.lit (.bool true)], args := [d1, d2, d3] }
  | _ => none }
def fnExactFillWithRow : OpenClaim := { program := "ytfjehlmknbhghaadoor", sum := "a05e543d5e7ed2e8e2862a7940999e0be2222a6d347fc36be9241e8ea577efc5", func := "loop.example/g03209/laws.FnExactFillWith", spec := "fnExactFillWith", inPlace := ["internal/bytealg.CountString", "internal/bytealg.IndexByteString", "internal/bytealg.IndexString", "internal/abi.NoEscape", "internal/bytealg.MakeNoZero"], named := ["internal/bytealg.MaxLen", "unicode/utf8.first", "unicode/utf8.acceptRanges"], apart := false, laid := [("unicode/utf8.acceptRanges", laid_unicode_utf8_acceptRanges), ("unicode/utf8.first", laid_unicode_utf8_first)] }
def FnExactFillWithSaid : Prop := fnExactFillWithRow.holds Tryd.pinned (OpenSpec.ofChange fnExactFillWithSpec)

/-- ITS FALSE NEIGHBOUR: 'it returns false'. Refute it at one input. -/
def fnExactFillWithWrong : ChangeSpec := { name := "fnExactFillWith", fn := fun _ => fun
  | [d1, d2, d3] => { results := [.lit (.bool false)], args := [d1, d2, d3] }
  | _ => none }
def FnExactFillWithWrongFalsely : Prop := fnExactFillWithRow.holds Tryd.pinned (OpenSpec.ofChange fnExactFillWithWrong)

/-- 'laws.FnHoles': WHATEVER THE INPUT: true; the input reads as it did. -/
def fnHolesSpec : ChangeSpec := { name := "fnHoles", fn := fun _ => fun
  | [d] => { results := [.lit (.bool true)], args := [d] }
  | _ => none }
def fnHolesRow : OpenClaim := { program := "ytfjehlmknbhghaadoor", sum := "a05e543d5e7ed2e8e2862a7940999e0be2222a6d347fc36be9241e8ea577efc5", func := "loop.example/g03209/laws.FnHoles", spec := "fnHoles", inPlace := ["internal/bytealg.CountString", "internal/bytealg.IndexByteString", "internal/bytealg.IndexString", "internal/abi.NoEscape", "internal/bytealg.MakeNoZero"], named := ["internal/bytealg.MaxLen", "unicode/utf8.first", "unicode/utf8.acceptRanges"], apart := false, laid := [("unicode/utf8.acceptRanges", laid_unicode_utf8_acceptRanges), ("unicode/utf8.first", laid_unicode_utf8_first)] }
def FnHolesSaid : Prop := fnHolesRow.holds Tryd.pinned (OpenSpec.ofChange fnHolesSpec)

/-- ITS FALSE NEIGHBOUR: 'it returns false'. Refute it at one input. -/
def fnHolesWrong : ChangeSpec := { name := "fnHoles", fn := fun _ => fun
  | [d] => { results := [.lit (.bool false)], args := [d] }
  | _ => none }
def FnHolesWrongFalsely : Prop := fnHolesRow.holds Tryd.pinned (OpenSpec.ofChange fnHolesWrong)

/- THE SECOND FORM. 'bulk': how many values and letters a reading holds, each counted each time it is reached (what is shared counts as often as it is met; a slice's spare places count too). A statement '..UptoSaid' is the law's where the arguments, and the package variables that the reading takes, are together of bulk at most 1048576: NARROWER than '..Said'. Prove '..Said' where nothing that the law and all that it calls make is longer than what came in: it says more and counts as full. Else prove '..UptoSaid'. A law counts once. -/
mutual
def uptoBulk {H : Type} : DataW H → Nat
  | .lit (.string bytes) => bytes.length + 1
  | .lit _ => 1
  | .nil => 1
  | .ptr d => uptoBulk d + 1
  | .slice elems spare => uptoBulkAll elems + uptoBulkAll spare + 1
  | .agg parts => uptoBulkAll parts + 1
  | .iface _ d => uptoBulk d + 1
  | .map entries => uptoBulkEntries entries + 1
  | .held _ => 1
def uptoBulkAll {H : Type} : List (DataW H) → Nat
  | [] => 0
  | d :: r => uptoBulk d + uptoBulkAll r
def uptoBulkEntries {H : Type} : List (Lit × DataW H) → Nat
  | [] => 0
  | x :: r => uptoBulkEntry x + uptoBulkEntries r
def uptoBulkEntry {H : Type} : Lit × DataW H → Nat
  | (.string bytes, d) => bytes.length + uptoBulk d + 1
  | (_, d) => uptoBulk d + 1
 end
def uptoSmall : (H : Type) → List (DataW H) → Bool := fun _ ds => decide (uptoBulkAll ds ≤ 1048576)
def OpenSpec.upto (s : _root_.Go.ChangeSpec) : _root_.Go.OpenSpec := { _root_.Go.OpenSpec.ofChange s with cond := some uptoSmall }

/-- 'laws.FnExactPatternOk', WHERE WHAT IT READS IS OF BULK AT MOST 1048576: true; the input reads as it did. -/
def fnExactPatternOkUptoRow : OpenClaim := { program := "ytfjehlmknbhghaadoor", sum := "a05e543d5e7ed2e8e2862a7940999e0be2222a6d347fc36be9241e8ea577efc5", func := "loop.example/g03209/laws.FnExactPatternOk", spec := "fnExactPatternOk", inPlace := ["internal/bytealg.CountString", "internal/bytealg.IndexByteString", "internal/bytealg.IndexString", "internal/abi.NoEscape", "internal/bytealg.MakeNoZero"], named := ["internal/bytealg.MaxLen", "unicode/utf8.first", "unicode/utf8.acceptRanges"], apart := false, laid := [("unicode/utf8.acceptRanges", laid_unicode_utf8_acceptRanges), ("unicode/utf8.first", laid_unicode_utf8_first)], narrowed := true }
def FnExactPatternOkUptoSaid : Prop := fnExactPatternOkUptoRow.holds Tryd.pinned (OpenSpec.upto fnExactPatternOkSpec)

/-- 'laws.FnExactHolesOf', WHERE WHAT IT READS IS OF BULK AT MOST 1048576: true; the input reads as it did. -/
def fnExactHolesOfUptoRow : OpenClaim := { program := "ytfjehlmknbhghaadoor", sum := "a05e543d5e7ed2e8e2862a7940999e0be2222a6d347fc36be9241e8ea577efc5", func := "loop.example/g03209/laws.FnExactHolesOf", spec := "fnExactHolesOf", inPlace := ["internal/bytealg.CountString", "internal/bytealg.IndexByteString", "internal/bytealg.IndexString", "internal/abi.NoEscape", "internal/bytealg.MakeNoZero"], named := ["internal/bytealg.MaxLen", "unicode/utf8.first", "unicode/utf8.acceptRanges"], apart := false, laid := [("unicode/utf8.acceptRanges", laid_unicode_utf8_acceptRanges), ("unicode/utf8.first", laid_unicode_utf8_first)], narrowed := true }
def FnExactHolesOfUptoSaid : Prop := fnExactHolesOfUptoRow.holds Tryd.pinned (OpenSpec.upto fnExactHolesOfSpec)

/-- 'laws.FnExactDepthOf', WHERE WHAT IT READS IS OF BULK AT MOST 1048576: true; the input reads as it did. -/
def fnExactDepthOfUptoRow : OpenClaim := { program := "ytfjehlmknbhghaadoor", sum := "a05e543d5e7ed2e8e2862a7940999e0be2222a6d347fc36be9241e8ea577efc5", func := "loop.example/g03209/laws.FnExactDepthOf", spec := "fnExactDepthOf", inPlace := ["internal/bytealg.CountString", "internal/bytealg.IndexByteString", "internal/bytealg.IndexString", "internal/abi.NoEscape", "internal/bytealg.MakeNoZero"], named := ["internal/bytealg.MaxLen", "unicode/utf8.first", "unicode/utf8.acceptRanges"], apart := false, laid := [("unicode/utf8.acceptRanges", laid_unicode_utf8_acceptRanges), ("unicode/utf8.first", laid_unicode_utf8_first)], narrowed := true }
def FnExactDepthOfUptoSaid : Prop := fnExactDepthOfUptoRow.holds Tryd.pinned (OpenSpec.upto fnExactDepthOfSpec)

/-- 'laws.FnExactLetterOfPattern', WHERE WHAT IT READS IS OF BULK AT MOST 1048576: true; the input reads as it did. -/
def fnExactLetterOfPatternUptoRow : OpenClaim := { program := "ytfjehlmknbhghaadoor", sum := "a05e543d5e7ed2e8e2862a7940999e0be2222a6d347fc36be9241e8ea577efc5", func := "loop.example/g03209/laws.FnExactLetterOfPattern", spec := "fnExactLetterOfPattern", inPlace := ["internal/bytealg.CountString", "internal/bytealg.IndexByteString", "internal/bytealg.IndexString", "internal/abi.NoEscape", "internal/bytealg.MakeNoZero"], named := ["internal/bytealg.MaxLen", "unicode/utf8.first", "unicode/utf8.acceptRanges"], apart := false, laid := [("unicode/utf8.acceptRanges", laid_unicode_utf8_acceptRanges), ("unicode/utf8.first", laid_unicode_utf8_first)], narrowed := true }
def FnExactLetterOfPatternUptoSaid : Prop := fnExactLetterOfPatternUptoRow.holds Tryd.pinned (OpenSpec.upto fnExactLetterOfPatternSpec)

/-- 'laws.FnExactFillPattern', WHERE WHAT IT READS IS OF BULK AT MOST 1048576: true; the input reads as it did. -/
def fnExactFillPatternUptoRow : OpenClaim := { program := "ytfjehlmknbhghaadoor", sum := "a05e543d5e7ed2e8e2862a7940999e0be2222a6d347fc36be9241e8ea577efc5", func := "loop.example/g03209/laws.FnExactFillPattern", spec := "fnExactFillPattern", inPlace := ["internal/bytealg.CountString", "internal/bytealg.IndexByteString", "internal/bytealg.IndexString", "internal/abi.NoEscape", "internal/bytealg.MakeNoZero"], named := ["internal/bytealg.MaxLen", "unicode/utf8.first", "unicode/utf8.acceptRanges"], apart := false, laid := [("unicode/utf8.acceptRanges", laid_unicode_utf8_acceptRanges), ("unicode/utf8.first", laid_unicode_utf8_first)], narrowed := true }
def FnExactFillPatternUptoSaid : Prop := fnExactFillPatternUptoRow.holds Tryd.pinned (OpenSpec.upto fnExactFillPatternSpec)

/-- 'laws.FnExactFoldPattern', WHERE WHAT IT READS IS OF BULK AT MOST 1048576: true; the input reads as it did. -/
def fnExactFoldPatternUptoRow : OpenClaim := { program := "ytfjehlmknbhghaadoor", sum := "a05e543d5e7ed2e8e2862a7940999e0be2222a6d347fc36be9241e8ea577efc5", func := "loop.example/g03209/laws.FnExactFoldPattern", spec := "fnExactFoldPattern", inPlace := ["internal/bytealg.CountString", "internal/bytealg.IndexByteString", "internal/bytealg.IndexString", "internal/abi.NoEscape", "internal/bytealg.MakeNoZero"], named := ["internal/bytealg.MaxLen", "unicode/utf8.first", "unicode/utf8.acceptRanges"], apart := false, laid := [("unicode/utf8.acceptRanges", laid_unicode_utf8_acceptRanges), ("unicode/utf8.first", laid_unicode_utf8_first)], narrowed := true }
def FnExactFoldPatternUptoSaid : Prop := fnExactFoldPatternUptoRow.holds Tryd.pinned (OpenSpec.upto fnExactFoldPatternSpec)

/-- 'laws.FnExactFillWith', WHERE WHAT IT READS IS OF BULK AT MOST 1048576: true; the input reads as it did. -/
def fnExactFillWithUptoRow : OpenClaim := { program := "ytfjehlmknbhghaadoor", sum := "a05e543d5e7ed2e8e2862a7940999e0be2222a6d347fc36be9241e8ea577efc5", func := "loop.example/g03209/laws.FnExactFillWith", spec := "fnExactFillWith", inPlace := ["internal/bytealg.CountString", "internal/bytealg.IndexByteString", "internal/bytealg.IndexString", "internal/abi.NoEscape", "internal/bytealg.MakeNoZero"], named := ["internal/bytealg.MaxLen", "unicode/utf8.first", "unicode/utf8.acceptRanges"], apart := false, laid := [("unicode/utf8.acceptRanges", laid_unicode_utf8_acceptRanges), ("unicode/utf8.first", laid_unicode_utf8_first)], narrowed := true }
def FnExactFillWithUptoSaid : Prop := fnExactFillWithUptoRow.holds Tryd.pinned (OpenSpec.upto fnExactFillWithSpec)

/-- 'laws.FnHoles', WHERE WHAT IT READS IS OF BULK AT MOST 1048576: true; the input reads as it did. -/
def fnHolesUptoRow : OpenClaim := { program := "ytfjehlmknbhghaadoor", sum := "a05e543d5e7ed2e8e2862a7940999e0be2222a6d347fc36be9241e8ea577efc5", func := "loop.example/g03209/laws.FnHoles", spec := "fnHoles", inPlace := ["internal/bytealg.CountString", "internal/bytealg.IndexByteString", "internal/bytealg.IndexString", "internal/abi.NoEscape", "internal/bytealg.MakeNoZero"], named := ["internal/bytealg.MaxLen", "unicode/utf8.first", "unicode/utf8.acceptRanges"], apart := false, laid := [("unicode/utf8.acceptRanges", laid_unicode_utf8_acceptRanges), ("unicode/utf8.first", laid_unicode_utf8_first)], narrowed := true }
def FnHolesUptoSaid : Prop := fnHolesUptoRow.holds Tryd.pinned (OpenSpec.upto fnHolesSpec)

end Rows
end Go.Proofs.YtfjehlmknbhghaaDoor
