/-
  No cell of these rows narrows 'for every input' (looked for: loops, veiled, ifaces, maps, wideKeys, modest, calm, conditions, laid).
  DERIVED. THE GIVEN ROWS OF THIS SEAT. 3 by the template 'for every input the law returns true; each argument reads behind the call as it read before'; 0 by the template 'total and deterministic' (their statements: YtacjelpkmafkpaaTotals.lean).
  GIVEN WITH THE SEED: the statements are not yours to turn. If you find one false, say at which input.
  Laid BY PROGRAM, IN A SANDBOX (cutbox-rows.mjs): the forced cells as the released guide's own fill.sh prints them over the translation ca5af67ab0669b12… (all of the seat's roots in one cut). By AI agents, Wed Nov 11 2026. No macro, syntax, notation, axiom, sorry.
-/
import Derived.Test.YtacjelpkmafkpaaChecked
import GoSem.Claim
import GoSem.ClaimJoined
import GoSem.ClaimMapViews
import Derived.JoinedTies
import Derived.KernelRfl
namespace Go.Proofs.Ytacjelpkmafkpaa
/- THE CELL 'sum', in the pinned program and in every row, IS THE sha256 OF THE DUMP (.gsa) THAT YtacjelpkmafkpaaProg.lean LOADS. Nothing in Lean hashes anything: it is a label: what it is worth is what the hold of that sum in a sandbox is worth. -/
noncomputable def Try.pinned : Pinned := { name := "ytacjelpkmafkpaa", sum := "ca5af67ab0669b12f6b90c786e67a4951fe5a109d19e668eb00cb1d4da27ce6a", checked := Try.checked }
namespace Rows
def none {H : Type} : Left H := { results := [], args := [] }

/-- 'inklinglaw01.InternMeanwhile': WHATEVER THE INPUT: true; the input reads as it did. -/
def internMeanwhileSpec : ChangeSpec := { name := "internMeanwhile", fn := fun _ => fun
  | [d1, d2] => { results := [.lit (.bool true)], args := [d1, d2] }
  | _ => none }
def internMeanwhileRow : OpenClaim := { program := "ytacjelpkmafkpaa", sum := "ca5af67ab0669b12f6b90c786e67a4951fe5a109d19e668eb00cb1d4da27ce6a", func := "inkling/inklinglaw01.InternMeanwhile", spec := "internMeanwhile", inPlace := ["internal/reflectlite.ValueOf", "internal/reflectlite.Swapper", "(internal/reflectlite.Value).Len"], unfollowed := true, recurses := true, apart := false }
def InternMeanwhileSaid : Prop := internMeanwhileRow.holds Try.pinned (OpenSpec.ofChange internMeanwhileSpec)

/-- ITS FALSE NEIGHBOUR: 'it returns false'. Refute it at one input. -/
def internMeanwhileWrong : ChangeSpec := { name := "internMeanwhile", fn := fun _ => fun
  | [d1, d2] => { results := [.lit (.bool false)], args := [d1, d2] }
  | _ => none }
def InternMeanwhileWrongFalsely : Prop := internMeanwhileRow.holds Try.pinned (OpenSpec.ofChange internMeanwhileWrong)

/-- 'inklinglaw01.InternRanks': WHATEVER THE INPUT: true; the input reads as it did. -/
def internRanksSpec : ChangeSpec := { name := "internRanks", fn := fun _ => fun
  | [d] => { results := [.lit (.bool true)], args := [d] }
  | _ => none }
def internRanksRow : OpenClaim := { program := "ytacjelpkmafkpaa", sum := "ca5af67ab0669b12f6b90c786e67a4951fe5a109d19e668eb00cb1d4da27ce6a", func := "inkling/inklinglaw01.InternRanks", spec := "internRanks", inPlace := ["internal/reflectlite.ValueOf", "internal/reflectlite.Swapper", "(internal/reflectlite.Value).Len"], unfollowed := true, recurses := true, apart := false }
def InternRanksSaid : Prop := internRanksRow.holds Try.pinned (OpenSpec.ofChange internRanksSpec)

/-- ITS FALSE NEIGHBOUR: 'it returns false'. Refute it at one input. -/
def internRanksWrong : ChangeSpec := { name := "internRanks", fn := fun _ => fun
  | [d] => { results := [.lit (.bool false)], args := [d] }
  | _ => none }
def InternRanksWrongFalsely : Prop := internRanksRow.holds Try.pinned (OpenSpec.ofChange internRanksWrong)

/-- 'inklinglaw01.InternLists': WHATEVER THE INPUT: true; the input reads as it did. -/
def internListsSpec : ChangeSpec := { name := "internLists", fn := fun _ => fun
  | [d1, d2] => { results := [.lit (.bool true)], args := [d1, d2] }
  | _ => none }
def internListsRow : OpenClaim := { program := "ytacjelpkmafkpaa", sum := "ca5af67ab0669b12f6b90c786e67a4951fe5a109d19e668eb00cb1d4da27ce6a", func := "inkling/inklinglaw01.InternLists", spec := "internLists", inPlace := ["internal/reflectlite.ValueOf", "internal/reflectlite.Swapper", "(internal/reflectlite.Value).Len"], unfollowed := true, recurses := true, apart := false }
def InternListsSaid : Prop := internListsRow.holds Try.pinned (OpenSpec.ofChange internListsSpec)

/-- ITS FALSE NEIGHBOUR: 'it returns false'. Refute it at one input. -/
def internListsWrong : ChangeSpec := { name := "internLists", fn := fun _ => fun
  | [d1, d2] => { results := [.lit (.bool false)], args := [d1, d2] }
  | _ => none }
def InternListsWrongFalsely : Prop := internListsRow.holds Try.pinned (OpenSpec.ofChange internListsWrong)

/- THE SECOND FORM. 'bulk': how many values and letters a reading holds, each counted each time it is reached (what is shared counts as often as it is met; a slice's spare places count too). A statement '..UptoSaid' is the law's where the arguments, and the package variables that the reading takes, are together of bulk at most 1048576: NARROWER than '..Said'. Prove '..Said' where nothing that the law and all that it calls make is longer than what came in: it says more and counts as full. Else prove '..UptoSaid'. A law counts once. -/
mutual
def uptoBulk {H : Type} : DataW H → Nat
  | .lit (.string bytes) => bytes.length + 1
  | .lit _ => 1
  | .nil => 1
  | .ptr d => uptoBulk d + 1
  | .slice elems spare => uptoBulkAll elems + uptoBulkAll spare + 1
  | .agg parts => uptoBulkAll parts + 1
  | .iface _ d => uptoBulk d + 1
  | .map entries => uptoBulkEntries entries + 1
  | .held _ => 1
def uptoBulkAll {H : Type} : List (DataW H) → Nat
  | [] => 0
  | d :: r => uptoBulk d + uptoBulkAll r
def uptoBulkEntries {H : Type} : List (Lit × DataW H) → Nat
  | [] => 0
  | x :: r => uptoBulkEntry x + uptoBulkEntries r
def uptoBulkEntry {H : Type} : Lit × DataW H → Nat
  | (.string bytes, d) => bytes.length + uptoBulk d + 1
  | (_, d) => uptoBulk d + 1
 end
def uptoSmall : (H : Type) → List (DataW H) → Bool := fun _ ds => decide (uptoBulkAll ds ≤ 1048576)
def OpenSpec.upto (s : _root_.Go.ChangeSpec) : _root_.Go.OpenSpec := { _root_.Go.OpenSpec.ofChange s with cond := some uptoSmall }

/-- 'inklinglaw01.InternMeanwhile', WHERE WHAT IT READS IS OF BULK AT MOST 1048576: true; the input reads as it did. -/
def internMeanwhileUptoRow : OpenClaim := { program := "ytacjelpkmafkpaa", sum := "ca5af67ab0669b12f6b90c786e67a4951fe5a109d19e668eb00cb1d4da27ce6a", func := "inkling/inklinglaw01.InternMeanwhile", spec := "internMeanwhile", inPlace := ["internal/reflectlite.ValueOf", "internal/reflectlite.Swapper", "(internal/reflectlite.Value).Len"], unfollowed := true, recurses := true, apart := false, narrowed := true }
def InternMeanwhileUptoSaid : Prop := internMeanwhileUptoRow.holds Try.pinned (OpenSpec.upto internMeanwhileSpec)

/-- 'inklinglaw01.InternRanks', WHERE WHAT IT READS IS OF BULK AT MOST 1048576: true; the input reads as it did. -/
def internRanksUptoRow : OpenClaim := { program := "ytacjelpkmafkpaa", sum := "ca5af67ab0669b12f6b90c786e67a4951fe5a109d19e668eb00cb1d4da27ce6a", func := "inkling/inklinglaw01.InternRanks", spec := "internRanks", inPlace := ["internal/reflectlite.ValueOf", "internal/reflectlite.Swapper", "(internal/reflectlite.Value).Len"], unfollowed := true, recurses := true, apart := false, narrowed := true }
def InternRanksUptoSaid : Prop := internRanksUptoRow.holds Try.pinned (OpenSpec.upto internRanksSpec)

/-- 'inklinglaw01.InternLists', WHERE WHAT IT READS IS OF BULK AT MOST 1048576: true; the input reads as it did. -/
def internListsUptoRow : OpenClaim := { program := "ytacjelpkmafkpaa", sum := "ca5af67ab0669b12f6b90c786e67a4951fe5a109d19e668eb00cb1d4da27ce6a", func := "inkling/inklinglaw01.InternLists", spec := "internLists", inPlace := ["internal/reflectlite.ValueOf", "internal/reflectlite.Swapper", "(internal/reflectlite.Value).Len"], unfollowed := true, recurses := true, apart := false, narrowed := true }
def InternListsUptoSaid : Prop := internListsUptoRow.holds Try.pinned (OpenSpec.upto internListsSpec)

end Rows
end Go.Proofs.Ytacjelpkmafkpaa
