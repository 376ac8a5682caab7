/-
  DERIVED. GIVEN WITH THE SEED: THE CARDS: each row of YtclioihichcpiaaDoorRows.lean that lists a variable, with what it lists TIED to the program's text (the seventh form; the later family's looks); each row that meets fmt, with fmt's text TOLD by the authors' own Lean function (tested against real Go, not proved from fmt's source: count such statements apart). THE CARD IS WHAT COUNTS. Prove the row's statement (the work); the ties are given (YtclioihichcpiaaDoorTie.lean); close each card by the builder's one call (the guide's Derived/Test/ToyasCard.lean, 'card_holds'). Laid BY PROGRAM, IN A SANDBOX (cutbox-door.mjs). By AI agents, Wed Nov 11 2026. No macro, syntax, notation, axiom, sorry.
-/
import Derived.Test.YtclioihichcpiaaDoorRows
import GoSem.ClaimSeven
namespace Go.Proofs.YtclioihichcpiaaDoor
namespace Rows

/-- THE TIED CARD OF 'inklinglaw09.PrintProgram'. -/
def printProgramCard : Claim7 := { stood := { row := printProgramRow, standIns := [], harness := (true, "23381b282dbd5b2ad40ce469752a67a5fb3c44e82a032c60ac80144a3789496a"), looks := true }, kinds := [], alts := [], laidByText := true, laidKinds := [.data, .data, .data], laidTests := true, laidLooks := .later }
def PrintProgramCardSaid : Prop := Claim7.holds Tryd.pinned (.plain (OpenSpec.ofChange printProgramSpec)) printProgramCard

/-- THE TIED CARD OF 'inklinglaw09.PrintBack'. -/
def printBackCard : Claim7 := { stood := { row := printBackRow, standIns := [], harness := (true, "23381b282dbd5b2ad40ce469752a67a5fb3c44e82a032c60ac80144a3789496a"), looks := true }, kinds := [], alts := [], laidByText := true, laidKinds := [.data, .data, .data], laidTests := true, laidLooks := .later }
def PrintBackCardSaid : Prop := Claim7.holds Tryd.pinned (.plain (OpenSpec.ofChange printBackSpec)) printBackCard

/-- THE TIED CARD OF 'inklinglaw09.PrintAgain'. -/
def printAgainCard : Claim7 := { stood := { row := printAgainRow, standIns := [], harness := (true, "23381b282dbd5b2ad40ce469752a67a5fb3c44e82a032c60ac80144a3789496a"), looks := true }, kinds := [], alts := [], laidByText := true, laidKinds := [.data, .data, .data], laidTests := true, laidLooks := .later }
def PrintAgainCardSaid : Prop := Claim7.holds Tryd.pinned (.plain (OpenSpec.ofChange printAgainSpec)) printAgainCard

/-- THE SECOND FORM's CARD OF 'inklinglaw09.PrintProgram'. -/
def printProgramUptoCard : Claim7 := { stood := { row := printProgramUptoRow, standIns := [], harness := (true, "23381b282dbd5b2ad40ce469752a67a5fb3c44e82a032c60ac80144a3789496a"), looks := true }, kinds := [], alts := [], laidByText := true, laidKinds := [.data, .data, .data], laidTests := true, laidLooks := .later }
def PrintProgramUptoCardSaid : Prop := Claim7.holds Tryd.pinned (.plain (OpenSpec.upto printProgramSpec)) printProgramUptoCard

/-- THE SECOND FORM's CARD OF 'inklinglaw09.PrintBack'. -/
def printBackUptoCard : Claim7 := { stood := { row := printBackUptoRow, standIns := [], harness := (true, "23381b282dbd5b2ad40ce469752a67a5fb3c44e82a032c60ac80144a3789496a"), looks := true }, kinds := [], alts := [], laidByText := true, laidKinds := [.data, .data, .data], laidTests := true, laidLooks := .later }
def PrintBackUptoCardSaid : Prop := Claim7.holds Tryd.pinned (.plain (OpenSpec.upto printBackSpec)) printBackUptoCard

/-- THE SECOND FORM's CARD OF 'inklinglaw09.PrintAgain'. -/
def printAgainUptoCard : Claim7 := { stood := { row := printAgainUptoRow, standIns := [], harness := (true, "23381b282dbd5b2ad40ce469752a67a5fb3c44e82a032c60ac80144a3789496a"), looks := true }, kinds := [], alts := [], laidByText := true, laidKinds := [.data, .data, .data], laidTests := true, laidLooks := .later }
def PrintAgainUptoCardSaid : Prop := Claim7.holds Tryd.pinned (.plain (OpenSpec.upto printAgainSpec)) printAgainUptoCard
end Rows
end Go.Proofs.YtclioihichcpiaaDoor
