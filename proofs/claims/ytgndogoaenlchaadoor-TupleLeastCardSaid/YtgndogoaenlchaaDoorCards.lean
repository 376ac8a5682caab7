/-
  DERIVED. GIVEN WITH THE SEED: THE CARDS: each row of YtgndogoaenlchaaDoorRows.lean that lists a variable, with what it lists TIED to the program's text (the seventh form; the later family's looks); each row that meets fmt, with fmt's text TOLD by the authors' own Lean function (tested against real Go, not proved from fmt's source: count such statements apart). THE CARD IS WHAT COUNTS. Prove the row's statement (the work); the ties are given (YtgndogoaenlchaaDoorTie.lean); close each card by the builder's one call (the guide's Derived/Test/ToyasCard.lean, 'card_holds'). Laid BY PROGRAM, IN A SANDBOX (cutbox-door.mjs). By AI agents, Wed Nov 11 2026. No macro, syntax, notation, axiom, sorry.
-/
import Derived.Test.YtgndogoaenlchaaDoorRows
import GoSem.ClaimSeven
namespace Go.Proofs.YtgndogoaenlchaaDoor
namespace Rows

/-- THE TIED CARD OF 'inklinglaw02.TupleLeast'. -/
def tupleLeastCard : Claim7 := { stood := { row := tupleLeastRow, standIns := [], harness := (true, "7d92352c43d5e57a8695d09421e161a841f8243336800b7d36d9b3fc5535b525"), looks := false }, kinds := [], alts := [], laidByText := true, laidKinds := [.data, .data, .data], laidTests := true, laidLooks := .later }
def TupleLeastCardSaid : Prop := Claim7.holds Tryd.pinned (.plain (OpenSpec.ofChange tupleLeastSpec)) tupleLeastCard

/-- THE TIED CARD OF 'inklinglaw02.TupleKeys'. -/
def tupleKeysCard : Claim7 := { stood := { row := tupleKeysRow, standIns := [], harness := (true, "7d92352c43d5e57a8695d09421e161a841f8243336800b7d36d9b3fc5535b525"), looks := false }, kinds := [], alts := [], laidByText := true, laidKinds := [.data, .data, .data], laidTests := true, laidLooks := .later }
def TupleKeysCardSaid : Prop := Claim7.holds Tryd.pinned (.plain (OpenSpec.ofChange tupleKeysSpec)) tupleKeysCard

/-- THE TIED CARD OF 'inklinglaw02.TupleCuts'. -/
def tupleCutsCard : Claim7 := { stood := { row := tupleCutsRow, standIns := [], harness := (true, "7d92352c43d5e57a8695d09421e161a841f8243336800b7d36d9b3fc5535b525"), looks := false }, kinds := [], alts := [], laidByText := true, laidKinds := [.data, .data, .data], laidTests := true, laidLooks := .later }
def TupleCutsCardSaid : Prop := Claim7.holds Tryd.pinned (.plain (OpenSpec.ofChange tupleCutsSpec)) tupleCutsCard

/-- THE TIED CARD OF 'inklinglaw02.TupleColumns'. -/
def tupleColumnsCard : Claim7 := { stood := { row := tupleColumnsRow, standIns := [], harness := (true, "7d92352c43d5e57a8695d09421e161a841f8243336800b7d36d9b3fc5535b525"), looks := false }, kinds := [], alts := [], laidByText := true, laidKinds := [.data, .data, .data], laidTests := true, laidLooks := .later }
def TupleColumnsCardSaid : Prop := Claim7.holds Tryd.pinned (.plain (OpenSpec.ofChange tupleColumnsSpec)) tupleColumnsCard

/-- THE SECOND FORM's CARD OF 'inklinglaw02.TupleLeast'. -/
def tupleLeastUptoCard : Claim7 := { stood := { row := tupleLeastUptoRow, standIns := [], harness := (true, "7d92352c43d5e57a8695d09421e161a841f8243336800b7d36d9b3fc5535b525"), looks := false }, kinds := [], alts := [], laidByText := true, laidKinds := [.data, .data, .data], laidTests := true, laidLooks := .later }
def TupleLeastUptoCardSaid : Prop := Claim7.holds Tryd.pinned (.plain (OpenSpec.upto tupleLeastSpec)) tupleLeastUptoCard

/-- THE SECOND FORM's CARD OF 'inklinglaw02.TupleKeys'. -/
def tupleKeysUptoCard : Claim7 := { stood := { row := tupleKeysUptoRow, standIns := [], harness := (true, "7d92352c43d5e57a8695d09421e161a841f8243336800b7d36d9b3fc5535b525"), looks := false }, kinds := [], alts := [], laidByText := true, laidKinds := [.data, .data, .data], laidTests := true, laidLooks := .later }
def TupleKeysUptoCardSaid : Prop := Claim7.holds Tryd.pinned (.plain (OpenSpec.upto tupleKeysSpec)) tupleKeysUptoCard

/-- THE SECOND FORM's CARD OF 'inklinglaw02.TupleCuts'. -/
def tupleCutsUptoCard : Claim7 := { stood := { row := tupleCutsUptoRow, standIns := [], harness := (true, "7d92352c43d5e57a8695d09421e161a841f8243336800b7d36d9b3fc5535b525"), looks := false }, kinds := [], alts := [], laidByText := true, laidKinds := [.data, .data, .data], laidTests := true, laidLooks := .later }
def TupleCutsUptoCardSaid : Prop := Claim7.holds Tryd.pinned (.plain (OpenSpec.upto tupleCutsSpec)) tupleCutsUptoCard

/-- THE SECOND FORM's CARD OF 'inklinglaw02.TupleColumns'. -/
def tupleColumnsUptoCard : Claim7 := { stood := { row := tupleColumnsUptoRow, standIns := [], harness := (true, "7d92352c43d5e57a8695d09421e161a841f8243336800b7d36d9b3fc5535b525"), looks := false }, kinds := [], alts := [], laidByText := true, laidKinds := [.data, .data, .data], laidTests := true, laidLooks := .later }
def TupleColumnsUptoCardSaid : Prop := Claim7.holds Tryd.pinned (.plain (OpenSpec.upto tupleColumnsSpec)) tupleColumnsUptoCard
end Rows
end Go.Proofs.YtgndogoaenlchaaDoor
