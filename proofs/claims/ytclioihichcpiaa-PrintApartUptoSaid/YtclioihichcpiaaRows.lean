/-
  No cell of these rows narrows 'for every input' (looked for: loops, veiled, ifaces, maps, wideKeys, modest, calm, conditions, laid).
  DERIVED. THE GIVEN ROWS OF THIS SEAT. 4 by the template 'for every input the law returns true; each argument reads behind the call as it read before'; 0 by the template 'total and deterministic' (their statements: YtclioihichcpiaaTotals.lean).
  GIVEN WITH THE SEED: the statements are not yours to turn. If you find one false, say at which input.
  Laid BY PROGRAM, IN A SANDBOX (cutbox-rows.mjs): the forced cells as the released guide's own fill.sh prints them over the translation da7333f818fbaac2… (all of the seat's roots in one cut). By AI agents, Wed Nov 11 2026. No macro, syntax, notation, axiom, sorry.
-/
import Derived.Test.YtclioihichcpiaaChecked
import GoSem.Claim
import GoSem.ClaimJoined
import GoSem.ClaimMapViews
import Derived.JoinedTies
import Derived.KernelRfl
namespace Go.Proofs.Ytclioihichcpiaa
/- THE CELL 'sum', in the pinned program and in every row, IS THE sha256 OF THE DUMP (.gsa) THAT YtclioihichcpiaaProg.lean LOADS. Nothing in Lean hashes anything: it is a label: what it is worth is what the hold of that sum in a sandbox is worth. -/
noncomputable def Try.pinned : Pinned := { name := "ytclioihichcpiaa", sum := "da7333f818fbaac278f09b03db81004af3e447b332a2d3509af2c38e483d7c07", checked := Try.checked }
namespace Rows
def none {H : Type} : Left H := { results := [], args := [] }

/-- 'inklinglaw09.PrintRule': WHATEVER THE INPUT: true; the input reads as it did. -/
def printRuleSpec : ChangeSpec := { name := "printRule", fn := fun _ => fun
  | [d] => { results := [.lit (.bool true)], args := [d] }
  | _ => none }
def printRuleRow : OpenClaim := { program := "ytclioihichcpiaa", sum := "da7333f818fbaac278f09b03db81004af3e447b332a2d3509af2c38e483d7c07", func := "inkling/inklinglaw09.PrintRule", spec := "printRule", inPlace := ["internal/abi.NoEscape", "internal/bytealg.MakeNoZero"], unfollowed := true, recurses := true, apart := false }
def PrintRuleSaid : Prop := printRuleRow.holds Try.pinned (OpenSpec.ofChange printRuleSpec)

/-- ITS FALSE NEIGHBOUR: 'it returns false'. Refute it at one input. -/
def printRuleWrong : ChangeSpec := { name := "printRule", fn := fun _ => fun
  | [d] => { results := [.lit (.bool false)], args := [d] }
  | _ => none }
def PrintRuleWrongFalsely : Prop := printRuleRow.holds Try.pinned (OpenSpec.ofChange printRuleWrong)

/-- 'inklinglaw09.PrintTexts': WHATEVER THE INPUT: true; the input reads as it did. -/
def printTextsSpec : ChangeSpec := { name := "printTexts", fn := fun _ => fun
  | [d] => { results := [.lit (.bool true)], args := [d] }
  | _ => none }
def printTextsRow : OpenClaim := { program := "ytclioihichcpiaa", sum := "da7333f818fbaac278f09b03db81004af3e447b332a2d3509af2c38e483d7c07", func := "inkling/inklinglaw09.PrintTexts", spec := "printTexts", inPlace := ["internal/abi.NoEscape", "internal/bytealg.MakeNoZero"], unfollowed := true, recurses := true, apart := false }
def PrintTextsSaid : Prop := printTextsRow.holds Try.pinned (OpenSpec.ofChange printTextsSpec)

/-- ITS FALSE NEIGHBOUR: 'it returns false'. Refute it at one input. -/
def printTextsWrong : ChangeSpec := { name := "printTexts", fn := fun _ => fun
  | [d] => { results := [.lit (.bool false)], args := [d] }
  | _ => none }
def PrintTextsWrongFalsely : Prop := printTextsRow.holds Try.pinned (OpenSpec.ofChange printTextsWrong)

/-- 'inklinglaw09.PrintQuotes': WHATEVER THE INPUT: true; the input reads as it did. -/
def printQuotesSpec : ChangeSpec := { name := "printQuotes", fn := fun _ => fun
  | [d] => { results := [.lit (.bool true)], args := [d] }
  | _ => none }
def printQuotesRow : OpenClaim := { program := "ytclioihichcpiaa", sum := "da7333f818fbaac278f09b03db81004af3e447b332a2d3509af2c38e483d7c07", func := "inkling/inklinglaw09.PrintQuotes", spec := "printQuotes", inPlace := ["internal/abi.NoEscape", "internal/bytealg.MakeNoZero"], unfollowed := true, recurses := true, apart := false }
def PrintQuotesSaid : Prop := printQuotesRow.holds Try.pinned (OpenSpec.ofChange printQuotesSpec)

/-- ITS FALSE NEIGHBOUR: 'it returns false'. Refute it at one input. -/
def printQuotesWrong : ChangeSpec := { name := "printQuotes", fn := fun _ => fun
  | [d] => { results := [.lit (.bool false)], args := [d] }
  | _ => none }
def PrintQuotesWrongFalsely : Prop := printQuotesRow.holds Try.pinned (OpenSpec.ofChange printQuotesWrong)

/-- 'inklinglaw09.PrintApart': WHATEVER THE INPUT: true; the input reads as it did. -/
def printApartSpec : ChangeSpec := { name := "printApart", fn := fun _ => fun
  | [d1, d2] => { results := [.lit (.bool true)], args := [d1, d2] }
  | _ => none }
def printApartRow : OpenClaim := { program := "ytclioihichcpiaa", sum := "da7333f818fbaac278f09b03db81004af3e447b332a2d3509af2c38e483d7c07", func := "inkling/inklinglaw09.PrintApart", spec := "printApart", inPlace := ["internal/abi.NoEscape", "internal/bytealg.MakeNoZero"], unfollowed := true, recurses := true, apart := false }
def PrintApartSaid : Prop := printApartRow.holds Try.pinned (OpenSpec.ofChange printApartSpec)

/-- ITS FALSE NEIGHBOUR: 'it returns false'. Refute it at one input. -/
def printApartWrong : ChangeSpec := { name := "printApart", fn := fun _ => fun
  | [d1, d2] => { results := [.lit (.bool false)], args := [d1, d2] }
  | _ => none }
def PrintApartWrongFalsely : Prop := printApartRow.holds Try.pinned (OpenSpec.ofChange printApartWrong)

/- THE SECOND FORM. 'bulk': how many values and letters a reading holds, each counted each time it is reached (what is shared counts as often as it is met; a slice's spare places count too). A statement '..UptoSaid' is the law's where the arguments, and the package variables that the reading takes, are together of bulk at most 1048576: NARROWER than '..Said'. Prove '..Said' where nothing that the law and all that it calls make is longer than what came in: it says more and counts as full. Else prove '..UptoSaid'. A law counts once. -/
mutual
def uptoBulk {H : Type} : DataW H → Nat
  | .lit (.string bytes) => bytes.length + 1
  | .lit _ => 1
  | .nil => 1
  | .ptr d => uptoBulk d + 1
  | .slice elems spare => uptoBulkAll elems + uptoBulkAll spare + 1
  | .agg parts => uptoBulkAll parts + 1
  | .iface _ d => uptoBulk d + 1
  | .map entries => uptoBulkEntries entries + 1
  | .held _ => 1
def uptoBulkAll {H : Type} : List (DataW H) → Nat
  | [] => 0
  | d :: r => uptoBulk d + uptoBulkAll r
def uptoBulkEntries {H : Type} : List (Lit × DataW H) → Nat
  | [] => 0
  | x :: r => uptoBulkEntry x + uptoBulkEntries r
def uptoBulkEntry {H : Type} : Lit × DataW H → Nat
  | (.string bytes, d) => bytes.length + uptoBulk d + 1
  | (_, d) => uptoBulk d + 1
 end
def uptoSmall : (H : Type) → List (DataW H) → Bool := fun _ ds => decide (uptoBulkAll ds ≤ 1048576)
def OpenSpec.upto (s : _root_.Go.ChangeSpec) : _root_.Go.OpenSpec := { _root_.Go.OpenSpec.ofChange s with cond := some uptoSmall }

/-- 'inklinglaw09.PrintRule', WHERE WHAT IT READS IS OF BULK AT MOST 1048576: true; the input reads as it did. -/
def printRuleUptoRow : OpenClaim := { program := "ytclioihichcpiaa", sum := "da7333f818fbaac278f09b03db81004af3e447b332a2d3509af2c38e483d7c07", func := "inkling/inklinglaw09.PrintRule", spec := "printRule", inPlace := ["internal/abi.NoEscape", "internal/bytealg.MakeNoZero"], unfollowed := true, recurses := true, apart := false, narrowed := true }
def PrintRuleUptoSaid : Prop := printRuleUptoRow.holds Try.pinned (OpenSpec.upto printRuleSpec)

/-- 'inklinglaw09.PrintTexts', WHERE WHAT IT READS IS OF BULK AT MOST 1048576: true; the input reads as it did. -/
def printTextsUptoRow : OpenClaim := { program := "ytclioihichcpiaa", sum := "da7333f818fbaac278f09b03db81004af3e447b332a2d3509af2c38e483d7c07", func := "inkling/inklinglaw09.PrintTexts", spec := "printTexts", inPlace := ["internal/abi.NoEscape", "internal/bytealg.MakeNoZero"], unfollowed := true, recurses := true, apart := false, narrowed := true }
def PrintTextsUptoSaid : Prop := printTextsUptoRow.holds Try.pinned (OpenSpec.upto printTextsSpec)

/-- 'inklinglaw09.PrintQuotes', WHERE WHAT IT READS IS OF BULK AT MOST 1048576: true; the input reads as it did. -/
def printQuotesUptoRow : OpenClaim := { program := "ytclioihichcpiaa", sum := "da7333f818fbaac278f09b03db81004af3e447b332a2d3509af2c38e483d7c07", func := "inkling/inklinglaw09.PrintQuotes", spec := "printQuotes", inPlace := ["internal/abi.NoEscape", "internal/bytealg.MakeNoZero"], unfollowed := true, recurses := true, apart := false, narrowed := true }
def PrintQuotesUptoSaid : Prop := printQuotesUptoRow.holds Try.pinned (OpenSpec.upto printQuotesSpec)

/-- 'inklinglaw09.PrintApart', WHERE WHAT IT READS IS OF BULK AT MOST 1048576: true; the input reads as it did. -/
def printApartUptoRow : OpenClaim := { program := "ytclioihichcpiaa", sum := "da7333f818fbaac278f09b03db81004af3e447b332a2d3509af2c38e483d7c07", func := "inkling/inklinglaw09.PrintApart", spec := "printApart", inPlace := ["internal/abi.NoEscape", "internal/bytealg.MakeNoZero"], unfollowed := true, recurses := true, apart := false, narrowed := true }
def PrintApartUptoSaid : Prop := printApartUptoRow.holds Try.pinned (OpenSpec.upto printApartSpec)

end Rows
end Go.Proofs.Ytclioihichcpiaa
