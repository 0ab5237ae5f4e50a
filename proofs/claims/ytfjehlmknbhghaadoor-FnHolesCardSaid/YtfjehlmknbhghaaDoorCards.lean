/-
  DERIVED. GIVEN WITH THE SEED: THE CARDS: each row of YtfjehlmknbhghaaDoorRows.lean that lists a variable, with what it lists TIED to the program's text (the seventh form; the later family's looks); each row that meets fmt, with fmt's text TOLD by the authors' own Lean function (tested against real Go, not proved from fmt's source: count such statements apart). THE CARD IS WHAT COUNTS. Prove the row's statement (the work); the ties are given (YtfjehlmknbhghaaDoorTie.lean); close each card by the builder's one call (the guide's Derived/Test/ToyasCard.lean, 'card_holds'). Laid BY PROGRAM, IN A SANDBOX (cutbox-door.mjs). By AI agents, Wed Nov 11 2026. No macro, syntax, notation, axiom, sorry.
-/
import Derived.Test.YtfjehlmknbhghaaDoorRows
import GoSem.ClaimSeven
namespace Go.Proofs.YtfjehlmknbhghaaDoor
namespace Rows

/-- THE TIED CARD OF 'laws.FnExactPatternOk'. -/
def fnExactPatternOkCard : Claim7 := { stood := { row := fnExactPatternOkRow, standIns := [], harness := (true, "3e3bfede44826d9c9ac1d1d7c57596f7a2b86d7b257a6909fe78fdb954fea2ff"), looks := false }, kinds := [], alts := [], laidByText := true, laidKinds := [.data, .pinned], laidTests := true, laidLooks := .later }
def FnExactPatternOkCardSaid : Prop := Claim7.holds Tryd.pinned (.plain (OpenSpec.ofChange fnExactPatternOkSpec)) fnExactPatternOkCard

/-- THE TIED CARD OF 'laws.FnExactHolesOf'. -/
def fnExactHolesOfCard : Claim7 := { stood := { row := fnExactHolesOfRow, standIns := [], harness := (true, "3e3bfede44826d9c9ac1d1d7c57596f7a2b86d7b257a6909fe78fdb954fea2ff"), looks := false }, kinds := [], alts := [], laidByText := true, laidKinds := [.data, .pinned], laidTests := true, laidLooks := .later }
def FnExactHolesOfCardSaid : Prop := Claim7.holds Tryd.pinned (.plain (OpenSpec.ofChange fnExactHolesOfSpec)) fnExactHolesOfCard

/-- THE TIED CARD OF 'laws.FnExactDepthOf'. -/
def fnExactDepthOfCard : Claim7 := { stood := { row := fnExactDepthOfRow, standIns := [], harness := (true, "3e3bfede44826d9c9ac1d1d7c57596f7a2b86d7b257a6909fe78fdb954fea2ff"), looks := false }, kinds := [], alts := [], laidByText := true, laidKinds := [.data, .pinned], laidTests := true, laidLooks := .later }
def FnExactDepthOfCardSaid : Prop := Claim7.holds Tryd.pinned (.plain (OpenSpec.ofChange fnExactDepthOfSpec)) fnExactDepthOfCard

/-- THE TIED CARD OF 'laws.FnExactLetterOfPattern'. -/
def fnExactLetterOfPatternCard : Claim7 := { stood := { row := fnExactLetterOfPatternRow, standIns := [], harness := (true, "3e3bfede44826d9c9ac1d1d7c57596f7a2b86d7b257a6909fe78fdb954fea2ff"), looks := false }, kinds := [], alts := [], laidByText := true, laidKinds := [.data, .pinned], laidTests := true, laidLooks := .later }
def FnExactLetterOfPatternCardSaid : Prop := Claim7.holds Tryd.pinned (.plain (OpenSpec.ofChange fnExactLetterOfPatternSpec)) fnExactLetterOfPatternCard

/-- THE TIED CARD OF 'laws.FnExactFillPattern'. -/
def fnExactFillPatternCard : Claim7 := { stood := { row := fnExactFillPatternRow, standIns := [], harness := (true, "3e3bfede44826d9c9ac1d1d7c57596f7a2b86d7b257a6909fe78fdb954fea2ff"), looks := false }, kinds := [], alts := [], laidByText := true, laidKinds := [.data, .pinned], laidTests := true, laidLooks := .later }
def FnExactFillPatternCardSaid : Prop := Claim7.holds Tryd.pinned (.plain (OpenSpec.ofChange fnExactFillPatternSpec)) fnExactFillPatternCard

/-- THE TIED CARD OF 'laws.FnExactFoldPattern'. -/
def fnExactFoldPatternCard : Claim7 := { stood := { row := fnExactFoldPatternRow, standIns := [], harness := (true, "3e3bfede44826d9c9ac1d1d7c57596f7a2b86d7b257a6909fe78fdb954fea2ff"), looks := false }, kinds := [], alts := [], laidByText := true, laidKinds := [.data, .pinned], laidTests := true, laidLooks := .later }
def FnExactFoldPatternCardSaid : Prop := Claim7.holds Tryd.pinned (.plain (OpenSpec.ofChange fnExactFoldPatternSpec)) fnExactFoldPatternCard

/-- THE TIED CARD OF 'laws.FnExactFillWith'. -/
def fnExactFillWithCard : Claim7 := { stood := { row := fnExactFillWithRow, standIns := [], harness := (true, "3e3bfede44826d9c9ac1d1d7c57596f7a2b86d7b257a6909fe78fdb954fea2ff"), looks := false }, kinds := [], alts := [], laidByText := true, laidKinds := [.data, .pinned], laidTests := true, laidLooks := .later }
def FnExactFillWithCardSaid : Prop := Claim7.holds Tryd.pinned (.plain (OpenSpec.ofChange fnExactFillWithSpec)) fnExactFillWithCard

/-- THE TIED CARD OF 'laws.FnHoles'. -/
def fnHolesCard : Claim7 := { stood := { row := fnHolesRow, standIns := [], harness := (true, "3e3bfede44826d9c9ac1d1d7c57596f7a2b86d7b257a6909fe78fdb954fea2ff"), looks := false }, kinds := [], alts := [], laidByText := true, laidKinds := [.data, .pinned], laidTests := true, laidLooks := .later }
def FnHolesCardSaid : Prop := Claim7.holds Tryd.pinned (.plain (OpenSpec.ofChange fnHolesSpec)) fnHolesCard

/-- THE SECOND FORM's CARD OF 'laws.FnExactPatternOk'. -/
def fnExactPatternOkUptoCard : Claim7 := { stood := { row := fnExactPatternOkUptoRow, standIns := [], harness := (true, "3e3bfede44826d9c9ac1d1d7c57596f7a2b86d7b257a6909fe78fdb954fea2ff"), looks := false }, kinds := [], alts := [], laidByText := true, laidKinds := [.data, .pinned], laidTests := true, laidLooks := .later }
def FnExactPatternOkUptoCardSaid : Prop := Claim7.holds Tryd.pinned (.plain (OpenSpec.upto fnExactPatternOkSpec)) fnExactPatternOkUptoCard

/-- THE SECOND FORM's CARD OF 'laws.FnExactHolesOf'. -/
def fnExactHolesOfUptoCard : Claim7 := { stood := { row := fnExactHolesOfUptoRow, standIns := [], harness := (true, "3e3bfede44826d9c9ac1d1d7c57596f7a2b86d7b257a6909fe78fdb954fea2ff"), looks := false }, kinds := [], alts := [], laidByText := true, laidKinds := [.data, .pinned], laidTests := true, laidLooks := .later }
def FnExactHolesOfUptoCardSaid : Prop := Claim7.holds Tryd.pinned (.plain (OpenSpec.upto fnExactHolesOfSpec)) fnExactHolesOfUptoCard

/-- THE SECOND FORM's CARD OF 'laws.FnExactDepthOf'. -/
def fnExactDepthOfUptoCard : Claim7 := { stood := { row := fnExactDepthOfUptoRow, standIns := [], harness := (true, "3e3bfede44826d9c9ac1d1d7c57596f7a2b86d7b257a6909fe78fdb954fea2ff"), looks := false }, kinds := [], alts := [], laidByText := true, laidKinds := [.data, .pinned], laidTests := true, laidLooks := .later }
def FnExactDepthOfUptoCardSaid : Prop := Claim7.holds Tryd.pinned (.plain (OpenSpec.upto fnExactDepthOfSpec)) fnExactDepthOfUptoCard

/-- THE SECOND FORM's CARD OF 'laws.FnExactLetterOfPattern'. -/
def fnExactLetterOfPatternUptoCard : Claim7 := { stood := { row := fnExactLetterOfPatternUptoRow, standIns := [], harness := (true, "3e3bfede44826d9c9ac1d1d7c57596f7a2b86d7b257a6909fe78fdb954fea2ff"), looks := false }, kinds := [], alts := [], laidByText := true, laidKinds := [.data, .pinned], laidTests := true, laidLooks := .later }
def FnExactLetterOfPatternUptoCardSaid : Prop := Claim7.holds Tryd.pinned (.plain (OpenSpec.upto fnExactLetterOfPatternSpec)) fnExactLetterOfPatternUptoCard

/-- THE SECOND FORM's CARD OF 'laws.FnExactFillPattern'. -/
def fnExactFillPatternUptoCard : Claim7 := { stood := { row := fnExactFillPatternUptoRow, standIns := [], harness := (true, "3e3bfede44826d9c9ac1d1d7c57596f7a2b86d7b257a6909fe78fdb954fea2ff"), looks := false }, kinds := [], alts := [], laidByText := true, laidKinds := [.data, .pinned], laidTests := true, laidLooks := .later }
def FnExactFillPatternUptoCardSaid : Prop := Claim7.holds Tryd.pinned (.plain (OpenSpec.upto fnExactFillPatternSpec)) fnExactFillPatternUptoCard

/-- THE SECOND FORM's CARD OF 'laws.FnExactFoldPattern'. -/
def fnExactFoldPatternUptoCard : Claim7 := { stood := { row := fnExactFoldPatternUptoRow, standIns := [], harness := (true, "3e3bfede44826d9c9ac1d1d7c57596f7a2b86d7b257a6909fe78fdb954fea2ff"), looks := false }, kinds := [], alts := [], laidByText := true, laidKinds := [.data, .pinned], laidTests := true, laidLooks := .later }
def FnExactFoldPatternUptoCardSaid : Prop := Claim7.holds Tryd.pinned (.plain (OpenSpec.upto fnExactFoldPatternSpec)) fnExactFoldPatternUptoCard

/-- THE SECOND FORM's CARD OF 'laws.FnExactFillWith'. -/
def fnExactFillWithUptoCard : Claim7 := { stood := { row := fnExactFillWithUptoRow, standIns := [], harness := (true, "3e3bfede44826d9c9ac1d1d7c57596f7a2b86d7b257a6909fe78fdb954fea2ff"), looks := false }, kinds := [], alts := [], laidByText := true, laidKinds := [.data, .pinned], laidTests := true, laidLooks := .later }
def FnExactFillWithUptoCardSaid : Prop := Claim7.holds Tryd.pinned (.plain (OpenSpec.upto fnExactFillWithSpec)) fnExactFillWithUptoCard

/-- THE SECOND FORM's CARD OF 'laws.FnHoles'. -/
def fnHolesUptoCard : Claim7 := { stood := { row := fnHolesUptoRow, standIns := [], harness := (true, "3e3bfede44826d9c9ac1d1d7c57596f7a2b86d7b257a6909fe78fdb954fea2ff"), looks := false }, kinds := [], alts := [], laidByText := true, laidKinds := [.data, .pinned], laidTests := true, laidLooks := .later }
def FnHolesUptoCardSaid : Prop := Claim7.holds Tryd.pinned (.plain (OpenSpec.upto fnHolesSpec)) fnHolesUptoCard
end Rows
end Go.Proofs.YtfjehlmknbhghaaDoor
