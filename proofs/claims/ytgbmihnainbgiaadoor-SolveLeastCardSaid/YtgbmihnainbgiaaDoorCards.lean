/-
  DERIVED. GIVEN WITH THE SEED: THE CARDS: each row of YtgbmihnainbgiaaDoorRows.lean that lists a variable, with what it lists TIED to the program's text (the seventh form; the later family's looks); each row that meets fmt, with fmt's text TOLD by the authors' own Lean function (tested against real Go, not proved from fmt's source: count such statements apart). THE CARD IS WHAT COUNTS. Prove the row's statement (the work); the ties are given (YtgbmihnainbgiaaDoorTie.lean); close each card by the builder's one call (the guide's Derived/Test/ToyasCard.lean, 'card_holds'). Laid BY PROGRAM, IN A SANDBOX (cutbox-door.mjs). By AI agents, Wed Nov 11 2026. No macro, syntax, notation, axiom, sorry.
-/
import Derived.Test.YtgbmihnainbgiaaDoorRows
import GoSem.ClaimSeven
namespace Go.Proofs.YtgbmihnainbgiaaDoor
namespace Rows

/-- THE TIED CARD OF 'chattellaw12.SolveLeast'. -/
def solveLeastCard : Claim7 := { stood := { row := solveLeastRow, standIns := [], harness := (true, "5cfaf3bcd19c4f43380c991102a2e997c499ffb92e83c8ed73982f2f686e95f1"), looks := false }, kinds := [], alts := [], laidByText := true, laidKinds := [.data], laidTests := true, laidLooks := .later }
def SolveLeastCardSaid : Prop := Claim7.holds Tryd.pinned (.plain (OpenSpec.ofChange solveLeastSpec)) solveLeastCard

/-- THE TIED CARD OF 'chattellaw12.SolveNils'. -/
def solveNilsCard : Claim7 := { stood := { row := solveNilsRow, standIns := [], harness := (true, "5cfaf3bcd19c4f43380c991102a2e997c499ffb92e83c8ed73982f2f686e95f1"), looks := false }, kinds := [], alts := [], laidByText := true, laidKinds := [.data], laidTests := true, laidLooks := .later }
def SolveNilsCardSaid : Prop := Claim7.holds Tryd.pinned (.plain (OpenSpec.ofChange solveNilsSpec)) solveNilsCard

/-- THE SECOND FORM's CARD OF 'chattellaw12.SolveLeast'. -/
def solveLeastUptoCard : Claim7 := { stood := { row := solveLeastUptoRow, standIns := [], harness := (true, "5cfaf3bcd19c4f43380c991102a2e997c499ffb92e83c8ed73982f2f686e95f1"), looks := false }, kinds := [], alts := [], laidByText := true, laidKinds := [.data], laidTests := true, laidLooks := .later }
def SolveLeastUptoCardSaid : Prop := Claim7.holds Tryd.pinned (.plain (OpenSpec.upto solveLeastSpec)) solveLeastUptoCard

/-- THE SECOND FORM's CARD OF 'chattellaw12.SolveNils'. -/
def solveNilsUptoCard : Claim7 := { stood := { row := solveNilsUptoRow, standIns := [], harness := (true, "5cfaf3bcd19c4f43380c991102a2e997c499ffb92e83c8ed73982f2f686e95f1"), looks := false }, kinds := [], alts := [], laidByText := true, laidKinds := [.data], laidTests := true, laidLooks := .later }
def SolveNilsUptoCardSaid : Prop := Claim7.holds Tryd.pinned (.plain (OpenSpec.upto solveNilsSpec)) solveNilsUptoCard
end Rows
end Go.Proofs.YtgbmihnainbgiaaDoor
