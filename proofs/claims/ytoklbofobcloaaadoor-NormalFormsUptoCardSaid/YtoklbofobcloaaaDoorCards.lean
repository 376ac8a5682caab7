/-
  DERIVED. GIVEN WITH THE SEED: THE CARDS: each row of YtoklbofobcloaaaDoorRows.lean that lists a variable, with what it lists TIED to the program's text (the seventh form; the later family's looks); each row that meets fmt, with fmt's text TOLD by the authors' own Lean function (tested against real Go, not proved from fmt's source: count such statements apart). THE CARD IS WHAT COUNTS. Prove the row's statement (the work); the ties are given (YtoklbofobcloaaaDoorTie.lean); close each card by the builder's one call (the guide's Derived/Test/ToyasCard.lean, 'card_holds'). Laid BY PROGRAM, IN A SANDBOX (cutbox-door.mjs). By AI agents, Wed Nov 11 2026. No macro, syntax, notation, axiom, sorry.
-/
import Derived.Test.YtoklbofobcloaaaDoorRows
import GoSem.ClaimSeven
namespace Go.Proofs.YtoklbofobcloaaaDoor
namespace Rows

/-- THE TIED CARD OF 'inklinglaw15.NormalForms'. -/
def normalFormsCard : Claim7 := { stood := { row := normalFormsRow, standIns := [], harness := (true, "59caec7dd10a3a77dc09d1e7264ca96aae927aaeac502f593f64d86bf1c7517a"), looks := false }, kinds := [], alts := [], laidByText := true, laidKinds := [.data, .data, .data], laidTests := true, laidLooks := .later }
def NormalFormsCardSaid : Prop := Claim7.holds Tryd.pinned (.plain (OpenSpec.ofChange normalFormsSpec)) normalFormsCard

/-- THE TIED CARD OF 'inklinglaw15.NormalCompare'. -/
def normalCompareCard : Claim7 := { stood := { row := normalCompareRow, standIns := [], harness := (true, "59caec7dd10a3a77dc09d1e7264ca96aae927aaeac502f593f64d86bf1c7517a"), looks := false }, kinds := [], alts := [], laidByText := true, laidKinds := [.data, .data, .data], laidTests := true, laidLooks := .later }
def NormalCompareCardSaid : Prop := Claim7.holds Tryd.pinned (.plain (OpenSpec.ofChange normalCompareSpec)) normalCompareCard

/-- THE TIED CARD OF 'inklinglaw15.NormalCovers'. -/
def normalCoversCard : Claim7 := { stood := { row := normalCoversRow, standIns := [], harness := (true, "59caec7dd10a3a77dc09d1e7264ca96aae927aaeac502f593f64d86bf1c7517a"), looks := false }, kinds := [], alts := [], laidByText := true, laidKinds := [.data, .data, .data], laidTests := true, laidLooks := .later }
def NormalCoversCardSaid : Prop := Claim7.holds Tryd.pinned (.plain (OpenSpec.ofChange normalCoversSpec)) normalCoversCard

/-- THE TIED CARD OF 'inklinglaw15.NormalSame'. -/
def normalSameCard : Claim7 := { stood := { row := normalSameRow, standIns := [], harness := (true, "59caec7dd10a3a77dc09d1e7264ca96aae927aaeac502f593f64d86bf1c7517a"), looks := false }, kinds := [], alts := [], laidByText := true, laidKinds := [.data, .data, .data], laidTests := true, laidLooks := .later }
def NormalSameCardSaid : Prop := Claim7.holds Tryd.pinned (.plain (OpenSpec.ofChange normalSameSpec)) normalSameCard

/-- THE SECOND FORM's CARD OF 'inklinglaw15.NormalForms'. -/
def normalFormsUptoCard : Claim7 := { stood := { row := normalFormsUptoRow, standIns := [], harness := (true, "59caec7dd10a3a77dc09d1e7264ca96aae927aaeac502f593f64d86bf1c7517a"), looks := false }, kinds := [], alts := [], laidByText := true, laidKinds := [.data, .data, .data], laidTests := true, laidLooks := .later }
def NormalFormsUptoCardSaid : Prop := Claim7.holds Tryd.pinned (.plain (OpenSpec.upto normalFormsSpec)) normalFormsUptoCard

/-- THE SECOND FORM's CARD OF 'inklinglaw15.NormalCompare'. -/
def normalCompareUptoCard : Claim7 := { stood := { row := normalCompareUptoRow, standIns := [], harness := (true, "59caec7dd10a3a77dc09d1e7264ca96aae927aaeac502f593f64d86bf1c7517a"), looks := false }, kinds := [], alts := [], laidByText := true, laidKinds := [.data, .data, .data], laidTests := true, laidLooks := .later }
def NormalCompareUptoCardSaid : Prop := Claim7.holds Tryd.pinned (.plain (OpenSpec.upto normalCompareSpec)) normalCompareUptoCard

/-- THE SECOND FORM's CARD OF 'inklinglaw15.NormalCovers'. -/
def normalCoversUptoCard : Claim7 := { stood := { row := normalCoversUptoRow, standIns := [], harness := (true, "59caec7dd10a3a77dc09d1e7264ca96aae927aaeac502f593f64d86bf1c7517a"), looks := false }, kinds := [], alts := [], laidByText := true, laidKinds := [.data, .data, .data], laidTests := true, laidLooks := .later }
def NormalCoversUptoCardSaid : Prop := Claim7.holds Tryd.pinned (.plain (OpenSpec.upto normalCoversSpec)) normalCoversUptoCard

/-- THE SECOND FORM's CARD OF 'inklinglaw15.NormalSame'. -/
def normalSameUptoCard : Claim7 := { stood := { row := normalSameUptoRow, standIns := [], harness := (true, "59caec7dd10a3a77dc09d1e7264ca96aae927aaeac502f593f64d86bf1c7517a"), looks := false }, kinds := [], alts := [], laidByText := true, laidKinds := [.data, .data, .data], laidTests := true, laidLooks := .later }
def NormalSameUptoCardSaid : Prop := Claim7.holds Tryd.pinned (.plain (OpenSpec.upto normalSameSpec)) normalSameUptoCard
end Rows
end Go.Proofs.YtoklbofobcloaaaDoor
