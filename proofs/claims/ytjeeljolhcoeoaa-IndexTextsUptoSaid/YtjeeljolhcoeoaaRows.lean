/-
  No cell of these rows narrows 'for every input' (looked for: loops, veiled, ifaces, maps, wideKeys, modest, calm, conditions, laid).
  DERIVED. THE GIVEN ROWS OF THIS SEAT. 6 by the template 'for every input the law returns true; each argument reads behind the call as it read before'; 0 by the template 'total and deterministic' (their statements: YtjeeljolhcoeoaaTotals.lean).
  GIVEN WITH THE SEED: the statements are not yours to turn. If you find one false, say at which input.
  Laid BY PROGRAM, IN A SANDBOX (cutbox-rows.mjs): the forced cells as the released guide's own fill.sh prints them over the translation 4693e61019536354… (all of the seat's roots in one cut). By AI agents, Wed Nov 11 2026. No macro, syntax, notation, axiom, sorry.
-/
import Derived.Test.YtjeeljolhcoeoaaChecked
import GoSem.Claim
import GoSem.ClaimJoined
import GoSem.ClaimMapViews
import Derived.JoinedTies
import Derived.KernelRfl
namespace Go.Proofs.Ytjeeljolhcoeoaa
/- THE CELL 'sum', in the pinned program and in every row, IS THE sha256 OF THE DUMP (.gsa) THAT YtjeeljolhcoeoaaProg.lean LOADS. Nothing in Lean hashes anything: it is a label: what it is worth is what the hold of that sum in a sandbox is worth. -/
noncomputable def Try.pinned : Pinned := { name := "ytjeeljolhcoeoaa", sum := "4693e610195363540e97db036948a17f2d0538dd1a9b7ea8a2218e0609888414", checked := Try.checked }
namespace Rows
def none {H : Type} : Left H := { results := [], args := [] }

/-- 'inklinglaw03.IndexTexts': WHATEVER THE INPUT: true; the input reads as it did. -/
def indexTextsSpec : ChangeSpec := { name := "indexTexts", fn := fun _ => fun
  | [d1, d2] => { results := [.lit (.bool true)], args := [d1, d2] }
  | _ => none }
def indexTextsRow : OpenClaim := { program := "ytjeeljolhcoeoaa", sum := "4693e610195363540e97db036948a17f2d0538dd1a9b7ea8a2218e0609888414", func := "inkling/inklinglaw03.IndexTexts", spec := "indexTexts", unfollowed := true, recurses := true, apart := false }
def IndexTextsSaid : Prop := indexTextsRow.holds Try.pinned (OpenSpec.ofChange indexTextsSpec)

/-- ITS FALSE NEIGHBOUR: 'it returns false'. Refute it at one input. -/
def indexTextsWrong : ChangeSpec := { name := "indexTexts", fn := fun _ => fun
  | [d1, d2] => { results := [.lit (.bool false)], args := [d1, d2] }
  | _ => none }
def IndexTextsWrongFalsely : Prop := indexTextsRow.holds Try.pinned (OpenSpec.ofChange indexTextsWrong)

/-- 'inklinglaw03.IndexLies': WHATEVER THE INPUT: true; the input reads as it did. -/
def indexLiesSpec : ChangeSpec := { name := "indexLies", fn := fun _ => fun
  | [d1, d2, d3] => { results := [.lit (.bool true)], args := [d1, d2, d3] }
  | _ => none }
def indexLiesRow : OpenClaim := { program := "ytjeeljolhcoeoaa", sum := "4693e610195363540e97db036948a17f2d0538dd1a9b7ea8a2218e0609888414", func := "inkling/inklinglaw03.IndexLies", spec := "indexLies", unfollowed := true, recurses := true, apart := false }
def IndexLiesSaid : Prop := indexLiesRow.holds Try.pinned (OpenSpec.ofChange indexLiesSpec)

/-- ITS FALSE NEIGHBOUR: 'it returns false'. Refute it at one input. -/
def indexLiesWrong : ChangeSpec := { name := "indexLies", fn := fun _ => fun
  | [d1, d2, d3] => { results := [.lit (.bool false)], args := [d1, d2, d3] }
  | _ => none }
def IndexLiesWrongFalsely : Prop := indexLiesRow.holds Try.pinned (OpenSpec.ofChange indexLiesWrong)

/-- 'inklinglaw03.IndexOnce': WHATEVER THE INPUT: true; the input reads as it did. -/
def indexOnceSpec : ChangeSpec := { name := "indexOnce", fn := fun _ => fun
  | [d1, d2, d3] => { results := [.lit (.bool true)], args := [d1, d2, d3] }
  | _ => none }
def indexOnceRow : OpenClaim := { program := "ytjeeljolhcoeoaa", sum := "4693e610195363540e97db036948a17f2d0538dd1a9b7ea8a2218e0609888414", func := "inkling/inklinglaw03.IndexOnce", spec := "indexOnce", unfollowed := true, recurses := true, apart := false }
def IndexOnceSaid : Prop := indexOnceRow.holds Try.pinned (OpenSpec.ofChange indexOnceSpec)

/-- ITS FALSE NEIGHBOUR: 'it returns false'. Refute it at one input. -/
def indexOnceWrong : ChangeSpec := { name := "indexOnce", fn := fun _ => fun
  | [d1, d2, d3] => { results := [.lit (.bool false)], args := [d1, d2, d3] }
  | _ => none }
def IndexOnceWrongFalsely : Prop := indexOnceRow.holds Try.pinned (OpenSpec.ofChange indexOnceWrong)

/-- 'inklinglaw03.IndexPlays': WHATEVER THE INPUT: true; the input reads as it did. -/
def indexPlaysSpec : ChangeSpec := { name := "indexPlays", fn := fun _ => fun
  | [d1, d2] => { results := [.lit (.bool true)], args := [d1, d2] }
  | _ => none }
def indexPlaysRow : OpenClaim := { program := "ytjeeljolhcoeoaa", sum := "4693e610195363540e97db036948a17f2d0538dd1a9b7ea8a2218e0609888414", func := "inkling/inklinglaw03.IndexPlays", spec := "indexPlays", unfollowed := true, recurses := true, apart := false }
def IndexPlaysSaid : Prop := indexPlaysRow.holds Try.pinned (OpenSpec.ofChange indexPlaysSpec)

/-- ITS FALSE NEIGHBOUR: 'it returns false'. Refute it at one input. -/
def indexPlaysWrong : ChangeSpec := { name := "indexPlays", fn := fun _ => fun
  | [d1, d2] => { results := [.lit (.bool false)], args := [d1, d2] }
  | _ => none }
def IndexPlaysWrongFalsely : Prop := indexPlaysRow.holds Try.pinned (OpenSpec.ofChange indexPlaysWrong)

/-- 'inklinglaw03.IndexWalks': WHATEVER THE INPUT: true; the input reads as it did. -/
def indexWalksSpec : ChangeSpec := { name := "indexWalks", fn := fun _ => fun
  | [d1, d2, d3] => { results := [.lit (.bool true)], args := [d1, d2, d3] }
  | _ => none }
def indexWalksRow : OpenClaim := { program := "ytjeeljolhcoeoaa", sum := "4693e610195363540e97db036948a17f2d0538dd1a9b7ea8a2218e0609888414", func := "inkling/inklinglaw03.IndexWalks", spec := "indexWalks", unfollowed := true, recurses := true, apart := false }
def IndexWalksSaid : Prop := indexWalksRow.holds Try.pinned (OpenSpec.ofChange indexWalksSpec)

/-- ITS FALSE NEIGHBOUR: 'it returns false'. Refute it at one input. -/
def indexWalksWrong : ChangeSpec := { name := "indexWalks", fn := fun _ => fun
  | [d1, d2, d3] => { results := [.lit (.bool false)], args := [d1, d2, d3] }
  | _ => none }
def IndexWalksWrongFalsely : Prop := indexWalksRow.holds Try.pinned (OpenSpec.ofChange indexWalksWrong)

/-- 'inklinglaw03.IndexNil': WHATEVER THE INPUT: true; the input reads as it did. -/
def indexNilSpec : ChangeSpec := { name := "indexNil", fn := fun _ => fun
  | [d1, d2] => { results := [.lit (.bool true)], args := [d1, d2] }
  | _ => none }
def indexNilRow : OpenClaim := { program := "ytjeeljolhcoeoaa", sum := "4693e610195363540e97db036948a17f2d0538dd1a9b7ea8a2218e0609888414", func := "inkling/inklinglaw03.IndexNil", spec := "indexNil", unfollowed := true, recurses := true, apart := false }
def IndexNilSaid : Prop := indexNilRow.holds Try.pinned (OpenSpec.ofChange indexNilSpec)

/-- ITS FALSE NEIGHBOUR: 'it returns false'. Refute it at one input. -/
def indexNilWrong : ChangeSpec := { name := "indexNil", fn := fun _ => fun
  | [d1, d2] => { results := [.lit (.bool false)], args := [d1, d2] }
  | _ => none }
def IndexNilWrongFalsely : Prop := indexNilRow.holds Try.pinned (OpenSpec.ofChange indexNilWrong)

/- THE SECOND FORM. 'bulk': how many values and letters a reading holds, each counted each time it is reached (what is shared counts as often as it is met; a slice's spare places count too). A statement '..UptoSaid' is the law's where the arguments, and the package variables that the reading takes, are together of bulk at most 1048576: NARROWER than '..Said'. Prove '..Said' where nothing that the law and all that it calls make is longer than what came in: it says more and counts as full. Else prove '..UptoSaid'. A law counts once. -/
mutual
def uptoBulk {H : Type} : DataW H → Nat
  | .lit (.string bytes) => bytes.length + 1
  | .lit _ => 1
  | .nil => 1
  | .ptr d => uptoBulk d + 1
  | .slice elems spare => uptoBulkAll elems + uptoBulkAll spare + 1
  | .agg parts => uptoBulkAll parts + 1
  | .iface _ d => uptoBulk d + 1
  | .map entries => uptoBulkEntries entries + 1
  | .held _ => 1
def uptoBulkAll {H : Type} : List (DataW H) → Nat
  | [] => 0
  | d :: r => uptoBulk d + uptoBulkAll r
def uptoBulkEntries {H : Type} : List (Lit × DataW H) → Nat
  | [] => 0
  | x :: r => uptoBulkEntry x + uptoBulkEntries r
def uptoBulkEntry {H : Type} : Lit × DataW H → Nat
  | (.string bytes, d) => bytes.length + uptoBulk d + 1
  | (_, d) => uptoBulk d + 1
 end
def uptoSmall : (H : Type) → List (DataW H) → Bool := fun _ ds => decide (uptoBulkAll ds ≤ 1048576)
def OpenSpec.upto (s : _root_.Go.ChangeSpec) : _root_.Go.OpenSpec := { _root_.Go.OpenSpec.ofChange s with cond := some uptoSmall }

/-- 'inklinglaw03.IndexTexts', WHERE WHAT IT READS IS OF BULK AT MOST 1048576: true; the input reads as it did. -/
def indexTextsUptoRow : OpenClaim := { program := "ytjeeljolhcoeoaa", sum := "4693e610195363540e97db036948a17f2d0538dd1a9b7ea8a2218e0609888414", func := "inkling/inklinglaw03.IndexTexts", spec := "indexTexts", unfollowed := true, recurses := true, apart := false, narrowed := true }
def IndexTextsUptoSaid : Prop := indexTextsUptoRow.holds Try.pinned (OpenSpec.upto indexTextsSpec)

/-- 'inklinglaw03.IndexLies', WHERE WHAT IT READS IS OF BULK AT MOST 1048576: true; the input reads as it did. -/
def indexLiesUptoRow : OpenClaim := { program := "ytjeeljolhcoeoaa", sum := "4693e610195363540e97db036948a17f2d0538dd1a9b7ea8a2218e0609888414", func := "inkling/inklinglaw03.IndexLies", spec := "indexLies", unfollowed := true, recurses := true, apart := false, narrowed := true }
def IndexLiesUptoSaid : Prop := indexLiesUptoRow.holds Try.pinned (OpenSpec.upto indexLiesSpec)

/-- 'inklinglaw03.IndexOnce', WHERE WHAT IT READS IS OF BULK AT MOST 1048576: true; the input reads as it did. -/
def indexOnceUptoRow : OpenClaim := { program := "ytjeeljolhcoeoaa", sum := "4693e610195363540e97db036948a17f2d0538dd1a9b7ea8a2218e0609888414", func := "inkling/inklinglaw03.IndexOnce", spec := "indexOnce", unfollowed := true, recurses := true, apart := false, narrowed := true }
def IndexOnceUptoSaid : Prop := indexOnceUptoRow.holds Try.pinned (OpenSpec.upto indexOnceSpec)

/-- 'inklinglaw03.IndexPlays', WHERE WHAT IT READS IS OF BULK AT MOST 1048576: true; the input reads as it did. -/
def indexPlaysUptoRow : OpenClaim := { program := "ytjeeljolhcoeoaa", sum := "4693e610195363540e97db036948a17f2d0538dd1a9b7ea8a2218e0609888414", func := "inkling/inklinglaw03.IndexPlays", spec := "indexPlays", unfollowed := true, recurses := true, apart := false, narrowed := true }
def IndexPlaysUptoSaid : Prop := indexPlaysUptoRow.holds Try.pinned (OpenSpec.upto indexPlaysSpec)

/-- 'inklinglaw03.IndexWalks', WHERE WHAT IT READS IS OF BULK AT MOST 1048576: true; the input reads as it did. -/
def indexWalksUptoRow : OpenClaim := { program := "ytjeeljolhcoeoaa", sum := "4693e610195363540e97db036948a17f2d0538dd1a9b7ea8a2218e0609888414", func := "inkling/inklinglaw03.IndexWalks", spec := "indexWalks", unfollowed := true, recurses := true, apart := false, narrowed := true }
def IndexWalksUptoSaid : Prop := indexWalksUptoRow.holds Try.pinned (OpenSpec.upto indexWalksSpec)

/-- 'inklinglaw03.IndexNil', WHERE WHAT IT READS IS OF BULK AT MOST 1048576: true; the input reads as it did. -/
def indexNilUptoRow : OpenClaim := { program := "ytjeeljolhcoeoaa", sum := "4693e610195363540e97db036948a17f2d0538dd1a9b7ea8a2218e0609888414", func := "inkling/inklinglaw03.IndexNil", spec := "indexNil", unfollowed := true, recurses := true, apart := false, narrowed := true }
def IndexNilUptoSaid : Prop := indexNilUptoRow.holds Try.pinned (OpenSpec.upto indexNilSpec)

end Rows
end Go.Proofs.Ytjeeljolhcoeoaa
