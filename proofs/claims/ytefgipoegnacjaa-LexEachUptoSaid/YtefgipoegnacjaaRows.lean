/-
  No cell of these rows narrows 'for every input' (looked for: loops, veiled, ifaces, maps, wideKeys, modest, calm, conditions, laid).
  DERIVED. THE GIVEN ROWS OF THIS SEAT. 7 by the template 'for every input the law returns true; each argument reads behind the call as it read before'; 0 by the template 'total and deterministic' (their statements: YtefgipoegnacjaaTotals.lean).
  GIVEN WITH THE SEED: the statements are not yours to turn. If you find one false, say at which input.
  Laid BY PROGRAM, IN A SANDBOX (cutbox-rows.mjs): the forced cells as the released guide's own fill.sh prints them over the translation b48b265c27c4b8a6… (all of the seat's roots in one cut). By AI agents, Wed Nov 11 2026. No macro, syntax, notation, axiom, sorry.
-/
import Derived.Test.YtefgipoegnacjaaChecked
import GoSem.Claim
import GoSem.ClaimJoined
import GoSem.ClaimMapViews
import Derived.JoinedTies
import Derived.KernelRfl
namespace Go.Proofs.Ytefgipoegnacjaa
/- THE CELL 'sum', in the pinned program and in every row, IS THE sha256 OF THE DUMP (.gsa) THAT YtefgipoegnacjaaProg.lean LOADS. Nothing in Lean hashes anything: it is a label: what it is worth is what the hold of that sum in a sandbox is worth. -/
noncomputable def Try.pinned : Pinned := { name := "ytefgipoegnacjaa", sum := "b48b265c27c4b8a6d3c2a00193f5bd0aa62277c359f3d10f055d6e699d5040aa", checked := Try.checked }
namespace Rows
def none {H : Type} : Left H := { results := [], args := [] }

/-- 'inklinglaw07.LexTokens': WHATEVER THE INPUT: true; the input reads as it did. -/
def lexTokensSpec : ChangeSpec := { name := "lexTokens", fn := fun _ => fun
  | [d] => { results := [.lit (.bool true)], args := [d] }
  | _ => none }
def lexTokensRow : OpenClaim := { program := "ytefgipoegnacjaa", sum := "b48b265c27c4b8a6d3c2a00193f5bd0aa62277c359f3d10f055d6e699d5040aa", func := "inkling/inklinglaw07.LexTokens", spec := "lexTokens", apart := false }
def LexTokensSaid : Prop := lexTokensRow.holds Try.pinned (OpenSpec.ofChange lexTokensSpec)

/-- ITS FALSE NEIGHBOUR: 'it returns false'. Refute it at one input. -/
def lexTokensWrong : ChangeSpec := { name := "lexTokens", fn := fun _ => fun
  | [d] => { results := [.lit (.bool false)], args := [d] }
  | _ => none }
def LexTokensWrongFalsely : Prop := lexTokensRow.holds Try.pinned (OpenSpec.ofChange lexTokensWrong)

/-- 'inklinglaw07.LexPieces': WHATEVER THE INPUT: true; the input reads as it did. -/
def lexPiecesSpec : ChangeSpec := { name := "lexPieces", fn := fun _ => fun
  | [d] => { results := [.lit (.bool true)], args := [d] }
  | _ => none }
def lexPiecesRow : OpenClaim := { program := "ytefgipoegnacjaa", sum := "b48b265c27c4b8a6d3c2a00193f5bd0aa62277c359f3d10f055d6e699d5040aa", func := "inkling/inklinglaw07.LexPieces", spec := "lexPieces", apart := false }
def LexPiecesSaid : Prop := lexPiecesRow.holds Try.pinned (OpenSpec.ofChange lexPiecesSpec)

/-- ITS FALSE NEIGHBOUR: 'it returns false'. Refute it at one input. -/
def lexPiecesWrong : ChangeSpec := { name := "lexPieces", fn := fun _ => fun
  | [d] => { results := [.lit (.bool false)], args := [d] }
  | _ => none }
def LexPiecesWrongFalsely : Prop := lexPiecesRow.holds Try.pinned (OpenSpec.ofChange lexPiecesWrong)

/-- 'inklinglaw07.LexByte': WHATEVER THE INPUT: true; the input reads as it did. -/
def lexByteSpec : ChangeSpec := { name := "lexByte", fn := fun _ => fun
  | [d1, d2] => { results := [.lit (.bool true)], args := [d1, d2] }
  | _ => none }
def lexByteRow : OpenClaim := { program := "ytefgipoegnacjaa", sum := "b48b265c27c4b8a6d3c2a00193f5bd0aa62277c359f3d10f055d6e699d5040aa", func := "inkling/inklinglaw07.LexByte", spec := "lexByte", apart := false }
def LexByteSaid : Prop := lexByteRow.holds Try.pinned (OpenSpec.ofChange lexByteSpec)

/-- ITS FALSE NEIGHBOUR: 'it returns false'. Refute it at one input. -/
def lexByteWrong : ChangeSpec := { name := "lexByte", fn := fun _ => fun
  | [d1, d2] => { results := [.lit (.bool false)], args := [d1, d2] }
  | _ => none }
def LexByteWrongFalsely : Prop := lexByteRow.holds Try.pinned (OpenSpec.ofChange lexByteWrong)

/-- 'inklinglaw07.LexBehind': WHATEVER THE INPUT: true; the input reads as it did. -/
def lexBehindSpec : ChangeSpec := { name := "lexBehind", fn := fun _ => fun
  | [d1, d2] => { results := [.lit (.bool true)], args := [d1, d2] }
  | _ => none }
def lexBehindRow : OpenClaim := { program := "ytefgipoegnacjaa", sum := "b48b265c27c4b8a6d3c2a00193f5bd0aa62277c359f3d10f055d6e699d5040aa", func := "inkling/inklinglaw07.LexBehind", spec := "lexBehind", apart := false }
def LexBehindSaid : Prop := lexBehindRow.holds Try.pinned (OpenSpec.ofChange lexBehindSpec)

/-- ITS FALSE NEIGHBOUR: 'it returns false'. Refute it at one input. -/
def lexBehindWrong : ChangeSpec := { name := "lexBehind", fn := fun _ => fun
  | [d1, d2] => { results := [.lit (.bool false)], args := [d1, d2] }
  | _ => none }
def LexBehindWrongFalsely : Prop := lexBehindRow.holds Try.pinned (OpenSpec.ofChange lexBehindWrong)

/-- 'inklinglaw07.LexBack': WHATEVER THE INPUT: true; the input reads as it did. -/
def lexBackSpec : ChangeSpec := { name := "lexBack", fn := fun _ => fun
  | [d] => { results := [.lit (.bool true)], args := [d] }
  | _ => none }
def lexBackRow : OpenClaim := { program := "ytefgipoegnacjaa", sum := "b48b265c27c4b8a6d3c2a00193f5bd0aa62277c359f3d10f055d6e699d5040aa", func := "inkling/inklinglaw07.LexBack", spec := "lexBack", apart := false }
def LexBackSaid : Prop := lexBackRow.holds Try.pinned (OpenSpec.ofChange lexBackSpec)

/-- ITS FALSE NEIGHBOUR: 'it returns false'. Refute it at one input. -/
def lexBackWrong : ChangeSpec := { name := "lexBack", fn := fun _ => fun
  | [d] => { results := [.lit (.bool false)], args := [d] }
  | _ => none }
def LexBackWrongFalsely : Prop := lexBackRow.holds Try.pinned (OpenSpec.ofChange lexBackWrong)

/-- 'inklinglaw07.LexWords': WHATEVER THE INPUT: true; the input reads as it did. -/
def lexWordsSpec : ChangeSpec := { name := "lexWords", fn := fun _ => fun
  | [d] => { results := [.lit (.bool true)], args := [d] }
  | _ => none }
def lexWordsRow : OpenClaim := { program := "ytefgipoegnacjaa", sum := "b48b265c27c4b8a6d3c2a00193f5bd0aa62277c359f3d10f055d6e699d5040aa", func := "inkling/inklinglaw07.LexWords", spec := "lexWords", apart := false }
def LexWordsSaid : Prop := lexWordsRow.holds Try.pinned (OpenSpec.ofChange lexWordsSpec)

/-- ITS FALSE NEIGHBOUR: 'it returns false'. Refute it at one input. -/
def lexWordsWrong : ChangeSpec := { name := "lexWords", fn := fun _ => fun
  | [d] => { results := [.lit (.bool false)], args := [d] }
  | _ => none }
def LexWordsWrongFalsely : Prop := lexWordsRow.holds Try.pinned (OpenSpec.ofChange lexWordsWrong)

/-- 'inklinglaw07.LexEach': WHATEVER THE INPUT: true; the input reads as it did. -/
def lexEachSpec : ChangeSpec := { name := "lexEach", fn := fun _ => fun
  | [d1, d2] => { results := [.lit (.bool true)], args := [d1, d2] }
  | _ => none }
def lexEachRow : OpenClaim := { program := "ytefgipoegnacjaa", sum := "b48b265c27c4b8a6d3c2a00193f5bd0aa62277c359f3d10f055d6e699d5040aa", func := "inkling/inklinglaw07.LexEach", spec := "lexEach", unfollowed := true, recurses := true, apart := false }
def LexEachSaid : Prop := lexEachRow.holds Try.pinned (OpenSpec.ofChange lexEachSpec)

/-- ITS FALSE NEIGHBOUR: 'it returns false'. Refute it at one input. -/
def lexEachWrong : ChangeSpec := { name := "lexEach", fn := fun _ => fun
  | [d1, d2] => { results := [.lit (.bool false)], args := [d1, d2] }
  | _ => none }
def LexEachWrongFalsely : Prop := lexEachRow.holds Try.pinned (OpenSpec.ofChange lexEachWrong)

/- THE SECOND FORM. 'bulk': how many values and letters a reading holds, each counted each time it is reached (what is shared counts as often as it is met; a slice's spare places count too). A statement '..UptoSaid' is the law's where the arguments, and the package variables that the reading takes, are together of bulk at most 1048576: NARROWER than '..Said'. Prove '..Said' where nothing that the law and all that it calls make is longer than what came in: it says more and counts as full. Else prove '..UptoSaid'. A law counts once. -/
mutual
def uptoBulk {H : Type} : DataW H → Nat
  | .lit (.string bytes) => bytes.length + 1
  | .lit _ => 1
  | .nil => 1
  | .ptr d => uptoBulk d + 1
  | .slice elems spare => uptoBulkAll elems + uptoBulkAll spare + 1
  | .agg parts => uptoBulkAll parts + 1
  | .iface _ d => uptoBulk d + 1
  | .map entries => uptoBulkEntries entries + 1
  | .held _ => 1
def uptoBulkAll {H : Type} : List (DataW H) → Nat
  | [] => 0
  | d :: r => uptoBulk d + uptoBulkAll r
def uptoBulkEntries {H : Type} : List (Lit × DataW H) → Nat
  | [] => 0
  | x :: r => uptoBulkEntry x + uptoBulkEntries r
def uptoBulkEntry {H : Type} : Lit × DataW H → Nat
  | (.string bytes, d) => bytes.length + uptoBulk d + 1
  | (_, d) => uptoBulk d + 1
 end
def uptoSmall : (H : Type) → List (DataW H) → Bool := fun _ ds => decide (uptoBulkAll ds ≤ 1048576)
def OpenSpec.upto (s : _root_.Go.ChangeSpec) : _root_.Go.OpenSpec := { _root_.Go.OpenSpec.ofChange s with cond := some uptoSmall }

/-- 'inklinglaw07.LexTokens', WHERE WHAT IT READS IS OF BULK AT MOST 1048576: true; the input reads as it did. -/
def lexTokensUptoRow : OpenClaim := { program := "ytefgipoegnacjaa", sum := "b48b265c27c4b8a6d3c2a00193f5bd0aa62277c359f3d10f055d6e699d5040aa", func := "inkling/inklinglaw07.LexTokens", spec := "lexTokens", apart := false, narrowed := true }
def LexTokensUptoSaid : Prop := lexTokensUptoRow.holds Try.pinned (OpenSpec.upto lexTokensSpec)

/-- 'inklinglaw07.LexPieces', WHERE WHAT IT READS IS OF BULK AT MOST 1048576: true; the input reads as it did. -/
def lexPiecesUptoRow : OpenClaim := { program := "ytefgipoegnacjaa", sum := "b48b265c27c4b8a6d3c2a00193f5bd0aa62277c359f3d10f055d6e699d5040aa", func := "inkling/inklinglaw07.LexPieces", spec := "lexPieces", apart := false, narrowed := true }
def LexPiecesUptoSaid : Prop := lexPiecesUptoRow.holds Try.pinned (OpenSpec.upto lexPiecesSpec)

/-- 'inklinglaw07.LexByte', WHERE WHAT IT READS IS OF BULK AT MOST 1048576: true; the input reads as it did. -/
def lexByteUptoRow : OpenClaim := { program := "ytefgipoegnacjaa", sum := "b48b265c27c4b8a6d3c2a00193f5bd0aa62277c359f3d10f055d6e699d5040aa", func := "inkling/inklinglaw07.LexByte", spec := "lexByte", apart := false, narrowed := true }
def LexByteUptoSaid : Prop := lexByteUptoRow.holds Try.pinned (OpenSpec.upto lexByteSpec)

/-- 'inklinglaw07.LexBehind', WHERE WHAT IT READS IS OF BULK AT MOST 1048576: true; the input reads as it did. -/
def lexBehindUptoRow : OpenClaim := { program := "ytefgipoegnacjaa", sum := "b48b265c27c4b8a6d3c2a00193f5bd0aa62277c359f3d10f055d6e699d5040aa", func := "inkling/inklinglaw07.LexBehind", spec := "lexBehind", apart := false, narrowed := true }
def LexBehindUptoSaid : Prop := lexBehindUptoRow.holds Try.pinned (OpenSpec.upto lexBehindSpec)

/-- 'inklinglaw07.LexBack', WHERE WHAT IT READS IS OF BULK AT MOST 1048576: true; the input reads as it did. -/
def lexBackUptoRow : OpenClaim := { program := "ytefgipoegnacjaa", sum := "b48b265c27c4b8a6d3c2a00193f5bd0aa62277c359f3d10f055d6e699d5040aa", func := "inkling/inklinglaw07.LexBack", spec := "lexBack", apart := false, narrowed := true }
def LexBackUptoSaid : Prop := lexBackUptoRow.holds Try.pinned (OpenSpec.upto lexBackSpec)

/-- 'inklinglaw07.LexWords', WHERE WHAT IT READS IS OF BULK AT MOST 1048576: true; the input reads as it did. -/
def lexWordsUptoRow : OpenClaim := { program := "ytefgipoegnacjaa", sum := "b48b265c27c4b8a6d3c2a00193f5bd0aa62277c359f3d10f055d6e699d5040aa", func := "inkling/inklinglaw07.LexWords", spec := "lexWords", apart := false, narrowed := true }
def LexWordsUptoSaid : Prop := lexWordsUptoRow.holds Try.pinned (OpenSpec.upto lexWordsSpec)

/-- 'inklinglaw07.LexEach', WHERE WHAT IT READS IS OF BULK AT MOST 1048576: true; the input reads as it did. -/
def lexEachUptoRow : OpenClaim := { program := "ytefgipoegnacjaa", sum := "b48b265c27c4b8a6d3c2a00193f5bd0aa62277c359f3d10f055d6e699d5040aa", func := "inkling/inklinglaw07.LexEach", spec := "lexEach", unfollowed := true, recurses := true, apart := false, narrowed := true }
def LexEachUptoSaid : Prop := lexEachUptoRow.holds Try.pinned (OpenSpec.upto lexEachSpec)

end Rows
end Go.Proofs.Ytefgipoegnacjaa
