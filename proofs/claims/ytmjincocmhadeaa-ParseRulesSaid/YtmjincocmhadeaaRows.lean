/-
  No cell of these rows narrows 'for every input' (looked for: loops, veiled, ifaces, maps, wideKeys, modest, calm, conditions, laid).
  DERIVED. THE GIVEN ROWS OF THIS SEAT. 5 by the template 'for every input the law returns true; each argument reads behind the call as it read before'; 0 by the template 'total and deterministic' (their statements: YtmjincocmhadeaaTotals.lean).
  GIVEN WITH THE SEED: the statements are not yours to turn. If you find one false, say at which input.
  Laid BY PROGRAM, IN A SANDBOX (cutbox-rows.mjs): the forced cells as the released guide's own fill.sh prints them over the translation 5ffa3df1be8420e3… (all of the seat's roots in one cut). By AI agents, Wed Nov 11 2026. No macro, syntax, notation, axiom, sorry.
-/
import Derived.Test.YtmjincocmhadeaaChecked
import GoSem.Claim
import GoSem.ClaimJoined
import GoSem.ClaimMapViews
import Derived.JoinedTies
import Derived.KernelRfl
namespace Go.Proofs.Ytmjincocmhadeaa
/- THE CELL 'sum', in the pinned program and in every row, IS THE sha256 OF THE DUMP (.gsa) THAT YtmjincocmhadeaaProg.lean LOADS. Nothing in Lean hashes anything: it is a label: what it is worth is what the hold of that sum in a sandbox is worth. -/
noncomputable def Try.pinned : Pinned := { name := "ytmjincocmhadeaa", sum := "5ffa3df1be8420e320b3263a109c2f046e05afa960c337459d7728f837fbe82b", checked := Try.checked }
namespace Rows
def none {H : Type} : Left H := { results := [], args := [] }

/-- 'inklinglaw08.ParseRules': WHATEVER THE INPUT: true; the input reads as it did. -/
def parseRulesSpec : ChangeSpec := { name := "parseRules", fn := fun _ => fun
  | [d] => { results := [.lit (.bool true)], args := [d] }
  | _ => none }
def parseRulesRow : OpenClaim := { program := "ytmjincocmhadeaa", sum := "5ffa3df1be8420e320b3263a109c2f046e05afa960c337459d7728f837fbe82b", func := "inkling/inklinglaw08.ParseRules", spec := "parseRules", unfollowed := true, recurses := true, apart := false }
def ParseRulesSaid : Prop := parseRulesRow.holds Try.pinned (OpenSpec.ofChange parseRulesSpec)

/-- ITS FALSE NEIGHBOUR: 'it returns false'. Refute it at one input. -/
def parseRulesWrong : ChangeSpec := { name := "parseRules", fn := fun _ => fun
  | [d] => { results := [.lit (.bool false)], args := [d] }
  | _ => none }
def ParseRulesWrongFalsely : Prop := parseRulesRow.holds Try.pinned (OpenSpec.ofChange parseRulesWrong)

/-- 'inklinglaw08.ParseOffsets': WHATEVER THE INPUT: true; the input reads as it did. -/
def parseOffsetsSpec : ChangeSpec := { name := "parseOffsets", fn := fun _ => fun
  | [d1, d2] => { results := [.lit (.bool true)], args := [d1, d2] }
  | _ => none }
def parseOffsetsRow : OpenClaim := { program := "ytmjincocmhadeaa", sum := "5ffa3df1be8420e320b3263a109c2f046e05afa960c337459d7728f837fbe82b", func := "inkling/inklinglaw08.ParseOffsets", spec := "parseOffsets", unfollowed := true, recurses := true, apart := false }
def ParseOffsetsSaid : Prop := parseOffsetsRow.holds Try.pinned (OpenSpec.ofChange parseOffsetsSpec)

/-- ITS FALSE NEIGHBOUR: 'it returns false'. Refute it at one input. -/
def parseOffsetsWrong : ChangeSpec := { name := "parseOffsets", fn := fun _ => fun
  | [d1, d2] => { results := [.lit (.bool false)], args := [d1, d2] }
  | _ => none }
def ParseOffsetsWrongFalsely : Prop := parseOffsetsRow.holds Try.pinned (OpenSpec.ofChange parseOffsetsWrong)

/-- 'inklinglaw08.ParseJoins': WHATEVER THE INPUT: true; the input reads as it did. -/
def parseJoinsSpec : ChangeSpec := { name := "parseJoins", fn := fun _ => fun
  | [d1, d2] => { results := [.lit (.bool true)], args := [d1, d2] }
  | _ => none }
def parseJoinsRow : OpenClaim := { program := "ytmjincocmhadeaa", sum := "5ffa3df1be8420e320b3263a109c2f046e05afa960c337459d7728f837fbe82b", func := "inkling/inklinglaw08.ParseJoins", spec := "parseJoins", unfollowed := true, recurses := true, apart := false }
def ParseJoinsSaid : Prop := parseJoinsRow.holds Try.pinned (OpenSpec.ofChange parseJoinsSpec)

/-- ITS FALSE NEIGHBOUR: 'it returns false'. Refute it at one input. -/
def parseJoinsWrong : ChangeSpec := { name := "parseJoins", fn := fun _ => fun
  | [d1, d2] => { results := [.lit (.bool false)], args := [d1, d2] }
  | _ => none }
def ParseJoinsWrongFalsely : Prop := parseJoinsRow.holds Try.pinned (OpenSpec.ofChange parseJoinsWrong)

/-- 'inklinglaw08.ParseBlanks': WHATEVER THE INPUT: true; the input reads as it did. -/
def parseBlanksSpec : ChangeSpec := { name := "parseBlanks", fn := fun _ => fun
  | [d1, d2] => { results := [.lit (.bool true)], args := [d1, d2] }
  | _ => none }
def parseBlanksRow : OpenClaim := { program := "ytmjincocmhadeaa", sum := "5ffa3df1be8420e320b3263a109c2f046e05afa960c337459d7728f837fbe82b", func := "inkling/inklinglaw08.ParseBlanks", spec := "parseBlanks", unfollowed := true, recurses := true, apart := false }
def ParseBlanksSaid : Prop := parseBlanksRow.holds Try.pinned (OpenSpec.ofChange parseBlanksSpec)

/-- ITS FALSE NEIGHBOUR: 'it returns false'. Refute it at one input. -/
def parseBlanksWrong : ChangeSpec := { name := "parseBlanks", fn := fun _ => fun
  | [d1, d2] => { results := [.lit (.bool false)], args := [d1, d2] }
  | _ => none }
def ParseBlanksWrongFalsely : Prop := parseBlanksRow.holds Try.pinned (OpenSpec.ofChange parseBlanksWrong)

/-- 'inklinglaw08.ParseForms': WHATEVER THE INPUT: true; the input reads as it did. -/
def parseFormsSpec : ChangeSpec := { name := "parseForms", fn := fun _ => fun
  | [d] => { results := [.lit (.bool true)], args := [d] }
  | _ => none }
def parseFormsRow : OpenClaim := { program := "ytmjincocmhadeaa", sum := "5ffa3df1be8420e320b3263a109c2f046e05afa960c337459d7728f837fbe82b", func := "inkling/inklinglaw08.ParseForms", spec := "parseForms", unfollowed := true, recurses := true, apart := false }
def ParseFormsSaid : Prop := parseFormsRow.holds Try.pinned (OpenSpec.ofChange parseFormsSpec)

/-- ITS FALSE NEIGHBOUR: 'it returns false'. Refute it at one input. -/
def parseFormsWrong : ChangeSpec := { name := "parseForms", fn := fun _ => fun
  | [d] => { results := [.lit (.bool false)], args := [d] }
  | _ => none }
def ParseFormsWrongFalsely : Prop := parseFormsRow.holds Try.pinned (OpenSpec.ofChange parseFormsWrong)

/- THE SECOND FORM. 'bulk': how many values and letters a reading holds, each counted each time it is reached (what is shared counts as often as it is met; a slice's spare places count too). A statement '..UptoSaid' is the law's where the arguments, and the package variables that the reading takes, are together of bulk at most 1048576: NARROWER than '..Said'. Prove '..Said' where nothing that the law and all that it calls make is longer than what came in: it says more and counts as full. Else prove '..UptoSaid'. A law counts once. -/
mutual
def uptoBulk {H : Type} : DataW H → Nat
  | .lit (.string bytes) => bytes.length + 1
  | .lit _ => 1
  | .nil => 1
  | .ptr d => uptoBulk d + 1
  | .slice elems spare => uptoBulkAll elems + uptoBulkAll spare + 1
  | .agg parts => uptoBulkAll parts + 1
  | .iface _ d => uptoBulk d + 1
  | .map entries => uptoBulkEntries entries + 1
  | .held _ => 1
def uptoBulkAll {H : Type} : List (DataW H) → Nat
  | [] => 0
  | d :: r => uptoBulk d + uptoBulkAll r
def uptoBulkEntries {H : Type} : List (Lit × DataW H) → Nat
  | [] => 0
  | x :: r => uptoBulkEntry x + uptoBulkEntries r
def uptoBulkEntry {H : Type} : Lit × DataW H → Nat
  | (.string bytes, d) => bytes.length + uptoBulk d + 1
  | (_, d) => uptoBulk d + 1
 end
def uptoSmall : (H : Type) → List (DataW H) → Bool := fun _ ds => decide (uptoBulkAll ds ≤ 1048576)
def OpenSpec.upto (s : _root_.Go.ChangeSpec) : _root_.Go.OpenSpec := { _root_.Go.OpenSpec.ofChange s with cond := some uptoSmall }

/-- 'inklinglaw08.ParseRules', WHERE WHAT IT READS IS OF BULK AT MOST 1048576: true; the input reads as it did. -/
def parseRulesUptoRow : OpenClaim := { program := "ytmjincocmhadeaa", sum := "5ffa3df1be8420e320b3263a109c2f046e05afa960c337459d7728f837fbe82b", func := "inkling/inklinglaw08.ParseRules", spec := "parseRules", unfollowed := true, recurses := true, apart := false, narrowed := true }
def ParseRulesUptoSaid : Prop := parseRulesUptoRow.holds Try.pinned (OpenSpec.upto parseRulesSpec)

/-- 'inklinglaw08.ParseOffsets', WHERE WHAT IT READS IS OF BULK AT MOST 1048576: true; the input reads as it did. -/
def parseOffsetsUptoRow : OpenClaim := { program := "ytmjincocmhadeaa", sum := "5ffa3df1be8420e320b3263a109c2f046e05afa960c337459d7728f837fbe82b", func := "inkling/inklinglaw08.ParseOffsets", spec := "parseOffsets", unfollowed := true, recurses := true, apart := false, narrowed := true }
def ParseOffsetsUptoSaid : Prop := parseOffsetsUptoRow.holds Try.pinned (OpenSpec.upto parseOffsetsSpec)

/-- 'inklinglaw08.ParseJoins', WHERE WHAT IT READS IS OF BULK AT MOST 1048576: true; the input reads as it did. -/
def parseJoinsUptoRow : OpenClaim := { program := "ytmjincocmhadeaa", sum := "5ffa3df1be8420e320b3263a109c2f046e05afa960c337459d7728f837fbe82b", func := "inkling/inklinglaw08.ParseJoins", spec := "parseJoins", unfollowed := true, recurses := true, apart := false, narrowed := true }
def ParseJoinsUptoSaid : Prop := parseJoinsUptoRow.holds Try.pinned (OpenSpec.upto parseJoinsSpec)

/-- 'inklinglaw08.ParseBlanks', WHERE WHAT IT READS IS OF BULK AT MOST 1048576: true; the input reads as it did. -/
def parseBlanksUptoRow : OpenClaim := { program := "ytmjincocmhadeaa", sum := "5ffa3df1be8420e320b3263a109c2f046e05afa960c337459d7728f837fbe82b", func := "inkling/inklinglaw08.ParseBlanks", spec := "parseBlanks", unfollowed := true, recurses := true, apart := false, narrowed := true }
def ParseBlanksUptoSaid : Prop := parseBlanksUptoRow.holds Try.pinned (OpenSpec.upto parseBlanksSpec)

/-- 'inklinglaw08.ParseForms', WHERE WHAT IT READS IS OF BULK AT MOST 1048576: true; the input reads as it did. -/
def parseFormsUptoRow : OpenClaim := { program := "ytmjincocmhadeaa", sum := "5ffa3df1be8420e320b3263a109c2f046e05afa960c337459d7728f837fbe82b", func := "inkling/inklinglaw08.ParseForms", spec := "parseForms", unfollowed := true, recurses := true, apart := false, narrowed := true }
def ParseFormsUptoSaid : Prop := parseFormsUptoRow.holds Try.pinned (OpenSpec.upto parseFormsSpec)

end Rows
end Go.Proofs.Ytmjincocmhadeaa
