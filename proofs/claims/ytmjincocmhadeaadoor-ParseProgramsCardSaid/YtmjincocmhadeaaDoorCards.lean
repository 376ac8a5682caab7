/-
  DERIVED. GIVEN WITH THE SEED: THE CARDS: each row of YtmjincocmhadeaaDoorRows.lean that lists a variable, with what it lists TIED to the program's text (the seventh form; the later family's looks); each row that meets fmt, with fmt's text TOLD by the authors' own Lean function (tested against real Go, not proved from fmt's source: count such statements apart). THE CARD IS WHAT COUNTS. Prove the row's statement (the work); the ties are given (YtmjincocmhadeaaDoorTie.lean); close each card by the builder's one call (the guide's Derived/Test/ToyasCard.lean, 'card_holds'). Laid BY PROGRAM, IN A SANDBOX (cutbox-door.mjs). By AI agents, Wed Nov 11 2026. No macro, syntax, notation, axiom, sorry.
-/
import Derived.Test.YtmjincocmhadeaaDoorRows
import GoSem.ClaimSeven
namespace Go.Proofs.YtmjincocmhadeaaDoor
namespace Rows

/-- THE TIED CARD OF 'inklinglaw08.ParsePrograms'. -/
def parseProgramsCard : Claim7 := { stood := { row := parseProgramsRow, standIns := [], harness := (true, "b3a6547f9e16001ab3d62f59b6e6950b1f923f99dbc9e508ee8ba3ddf62a8182"), looks := true }, kinds := [], alts := [], laidByText := true, laidKinds := [.data, .data, .data], laidTests := true, laidLooks := .later }
def ParseProgramsCardSaid : Prop := Claim7.holds Tryd.pinned (.plain (OpenSpec.ofChange parseProgramsSpec)) parseProgramsCard

/-- THE SECOND FORM's CARD OF 'inklinglaw08.ParsePrograms'. -/
def parseProgramsUptoCard : Claim7 := { stood := { row := parseProgramsUptoRow, standIns := [], harness := (true, "b3a6547f9e16001ab3d62f59b6e6950b1f923f99dbc9e508ee8ba3ddf62a8182"), looks := true }, kinds := [], alts := [], laidByText := true, laidKinds := [.data, .data, .data], laidTests := true, laidLooks := .later }
def ParseProgramsUptoCardSaid : Prop := Claim7.holds Tryd.pinned (.plain (OpenSpec.upto parseProgramsSpec)) parseProgramsUptoCard
end Rows
end Go.Proofs.YtmjincocmhadeaaDoor
