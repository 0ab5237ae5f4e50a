/-
  DERIVED. GIVEN WITH THE SEED: THE CARDS: each row of YtcicoplmpinnmaaDoorRows.lean that lists a variable, with what it lists TIED to the program's text (the seventh form; the later family's looks); each row that meets fmt, with fmt's text TOLD by the authors' own Lean function (tested against real Go, not proved from fmt's source: count such statements apart). THE CARD IS WHAT COUNTS. Prove the row's statement (the work); the ties are given (YtcicoplmpinnmaaDoorTie.lean); close each card by the builder's one call (the guide's Derived/Test/ToyasCard.lean, 'card_holds'). Laid BY PROGRAM, IN A SANDBOX (cutbox-door.mjs). By AI agents, Wed Nov 11 2026. No macro, syntax, notation, axiom, sorry.
-/
import Derived.Test.YtcicoplmpinnmaaDoorRows
import GoSem.ClaimSeven
namespace Go.Proofs.YtcicoplmpinnmaaDoor
namespace Rows

/-- THE TIED CARD OF 'laws.FnAutomata'. -/
def fnAutomataCard : Claim7 := { stood := { row := fnAutomataRow, standIns := [], harness := (true, "2f9bf83d98778913fe506c03f2f942411da5c816d1db6932a8ef880964b5c801"), looks := false }, kinds := [], alts := [], laidByText := true, laidKinds := [.data, .pinned], laidTests := true, laidLooks := .later }
def FnAutomataCardSaid : Prop := Claim7.holds Tryd.pinned (.plain (OpenSpec.ofChange fnAutomataSpec)) fnAutomataCard

/-- THE SECOND FORM's CARD OF 'laws.FnAutomata'. -/
def fnAutomataUptoCard : Claim7 := { stood := { row := fnAutomataUptoRow, standIns := [], harness := (true, "2f9bf83d98778913fe506c03f2f942411da5c816d1db6932a8ef880964b5c801"), looks := false }, kinds := [], alts := [], laidByText := true, laidKinds := [.data, .pinned], laidTests := true, laidLooks := .later }
def FnAutomataUptoCardSaid : Prop := Claim7.holds Tryd.pinned (.plain (OpenSpec.upto fnAutomataSpec)) fnAutomataUptoCard
end Rows
end Go.Proofs.YtcicoplmpinnmaaDoor
