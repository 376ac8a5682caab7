/-
  No cell of these rows narrows 'for every input' (looked for: loops, veiled, ifaces, maps, wideKeys, modest, calm, conditions, laid).
  DERIVED. THE GIVEN ROWS OF THIS SEAT. 3 by the template 'for every input the law returns true; each argument reads behind the call as it read before'; 0 by the template 'total and deterministic' (their statements: YtgndogoaenlchaaTotals.lean).
  GIVEN WITH THE SEED: the statements are not yours to turn. If you find one false, say at which input.
  Laid BY PROGRAM, IN A SANDBOX (cutbox-rows.mjs): the forced cells as the released guide's own fill.sh prints them over the translation b62c1822d47bc86b… (all of the seat's roots in one cut). By AI agents, Wed Nov 11 2026. No macro, syntax, notation, axiom, sorry.
-/
import Derived.Test.YtgndogoaenlchaaChecked
import GoSem.Claim
import GoSem.ClaimJoined
import GoSem.ClaimMapViews
import Derived.JoinedTies
import Derived.KernelRfl
namespace Go.Proofs.Ytgndogoaenlchaa
/- THE CELL 'sum', in the pinned program and in every row, IS THE sha256 OF THE DUMP (.gsa) THAT YtgndogoaenlchaaProg.lean LOADS. Nothing in Lean hashes anything: it is a label: what it is worth is what the hold of that sum in a sandbox is worth. -/
noncomputable def Try.pinned : Pinned := { name := "ytgndogoaenlchaa", sum := "b62c1822d47bc86b547784367ea040075cbe2357a3b0edaed168a7158c0ceaf1", checked := Try.checked }
namespace Rows
def none {H : Type} : Left H := { results := [], args := [] }

/-- 'inklinglaw02.TupleCompares': WHATEVER THE INPUT: true; the input reads as it did. -/
def tupleComparesSpec : ChangeSpec := { name := "tupleCompares", fn := fun _ => fun
  | [d1, d2] => { results := [.lit (.bool true)], args := [d1, d2] }
  | _ => none }
def tupleComparesRow : OpenClaim := { program := "ytgndogoaenlchaa", sum := "b62c1822d47bc86b547784367ea040075cbe2357a3b0edaed168a7158c0ceaf1", func := "inkling/inklinglaw02.TupleCompares", spec := "tupleCompares", apart := false }
def TupleComparesSaid : Prop := tupleComparesRow.holds Try.pinned (OpenSpec.ofChange tupleComparesSpec)

/-- ITS FALSE NEIGHBOUR: 'it returns false'. Refute it at one input. -/
def tupleComparesWrong : ChangeSpec := { name := "tupleCompares", fn := fun _ => fun
  | [d1, d2] => { results := [.lit (.bool false)], args := [d1, d2] }
  | _ => none }
def TupleComparesWrongFalsely : Prop := tupleComparesRow.holds Try.pinned (OpenSpec.ofChange tupleComparesWrong)

/-- 'inklinglaw02.TupleKinds': WHATEVER THE INPUT: true; the input reads as it did. -/
def tupleKindsSpec : ChangeSpec := { name := "tupleKinds", fn := fun _ => fun
  | [d1, d2] => { results := [.lit (.bool true)], args := [d1, d2] }
  | _ => none }
def tupleKindsRow : OpenClaim := { program := "ytgndogoaenlchaa", sum := "b62c1822d47bc86b547784367ea040075cbe2357a3b0edaed168a7158c0ceaf1", func := "inkling/inklinglaw02.TupleKinds", spec := "tupleKinds", apart := false }
def TupleKindsSaid : Prop := tupleKindsRow.holds Try.pinned (OpenSpec.ofChange tupleKindsSpec)

/-- ITS FALSE NEIGHBOUR: 'it returns false'. Refute it at one input. -/
def tupleKindsWrong : ChangeSpec := { name := "tupleKinds", fn := fun _ => fun
  | [d1, d2] => { results := [.lit (.bool false)], args := [d1, d2] }
  | _ => none }
def TupleKindsWrongFalsely : Prop := tupleKindsRow.holds Try.pinned (OpenSpec.ofChange tupleKindsWrong)

/-- 'inklinglaw02.TupleOrders': WHATEVER THE INPUT: true; the input reads as it did. -/
def tupleOrdersSpec : ChangeSpec := { name := "tupleOrders", fn := fun _ => fun
  | [d1, d2, d3] => { results := [.lit (.bool true)], args := [d1, d2, d3] }
  | _ => none }
def tupleOrdersRow : OpenClaim := { program := "ytgndogoaenlchaa", sum := "b62c1822d47bc86b547784367ea040075cbe2357a3b0edaed168a7158c0ceaf1", func := "inkling/inklinglaw02.TupleOrders", spec := "tupleOrders", apart := false }
def TupleOrdersSaid : Prop := tupleOrdersRow.holds Try.pinned (OpenSpec.ofChange tupleOrdersSpec)

/-- ITS FALSE NEIGHBOUR: 'it returns false'. Refute it at one input. -/
def tupleOrdersWrong : ChangeSpec := { name := "tupleOrders", fn := fun _ => fun
  | [d1, d2, d3] => { results := [.lit (.bool false)], args := [d1, d2, d3] }
  | _ => none }
def TupleOrdersWrongFalsely : Prop := tupleOrdersRow.holds Try.pinned (OpenSpec.ofChange tupleOrdersWrong)

/- THE SECOND FORM. 'bulk': how many values and letters a reading holds, each counted each time it is reached (what is shared counts as often as it is met; a slice's spare places count too). A statement '..UptoSaid' is the law's where the arguments, and the package variables that the reading takes, are together of bulk at most 1048576: NARROWER than '..Said'. Prove '..Said' where nothing that the law and all that it calls make is longer than what came in: it says more and counts as full. Else prove '..UptoSaid'. A law counts once. -/
mutual
def uptoBulk {H : Type} : DataW H → Nat
  | .lit (.string bytes) => bytes.length + 1
  | .lit _ => 1
  | .nil => 1
  | .ptr d => uptoBulk d + 1
  | .slice elems spare => uptoBulkAll elems + uptoBulkAll spare + 1
  | .agg parts => uptoBulkAll parts + 1
  | .iface _ d => uptoBulk d + 1
  | .map entries => uptoBulkEntries entries + 1
  | .held _ => 1
def uptoBulkAll {H : Type} : List (DataW H) → Nat
  | [] => 0
  | d :: r => uptoBulk d + uptoBulkAll r
def uptoBulkEntries {H : Type} : List (Lit × DataW H) → Nat
  | [] => 0
  | x :: r => uptoBulkEntry x + uptoBulkEntries r
def uptoBulkEntry {H : Type} : Lit × DataW H → Nat
  | (.string bytes, d) => bytes.length + uptoBulk d + 1
  | (_, d) => uptoBulk d + 1
 end
def uptoSmall : (H : Type) → List (DataW H) → Bool := fun _ ds => decide (uptoBulkAll ds ≤ 1048576)
def OpenSpec.upto (s : _root_.Go.ChangeSpec) : _root_.Go.OpenSpec := { _root_.Go.OpenSpec.ofChange s with cond := some uptoSmall }

/-- 'inklinglaw02.TupleCompares', WHERE WHAT IT READS IS OF BULK AT MOST 1048576: true; the input reads as it did. -/
def tupleComparesUptoRow : OpenClaim := { program := "ytgndogoaenlchaa", sum := "b62c1822d47bc86b547784367ea040075cbe2357a3b0edaed168a7158c0ceaf1", func := "inkling/inklinglaw02.TupleCompares", spec := "tupleCompares", apart := false, narrowed := true }
def TupleComparesUptoSaid : Prop := tupleComparesUptoRow.holds Try.pinned (OpenSpec.upto tupleComparesSpec)

/-- 'inklinglaw02.TupleKinds', WHERE WHAT IT READS IS OF BULK AT MOST 1048576: true; the input reads as it did. -/
def tupleKindsUptoRow : OpenClaim := { program := "ytgndogoaenlchaa", sum := "b62c1822d47bc86b547784367ea040075cbe2357a3b0edaed168a7158c0ceaf1", func := "inkling/inklinglaw02.TupleKinds", spec := "tupleKinds", apart := false, narrowed := true }
def TupleKindsUptoSaid : Prop := tupleKindsUptoRow.holds Try.pinned (OpenSpec.upto tupleKindsSpec)

/-- 'inklinglaw02.TupleOrders', WHERE WHAT IT READS IS OF BULK AT MOST 1048576: true; the input reads as it did. -/
def tupleOrdersUptoRow : OpenClaim := { program := "ytgndogoaenlchaa", sum := "b62c1822d47bc86b547784367ea040075cbe2357a3b0edaed168a7158c0ceaf1", func := "inkling/inklinglaw02.TupleOrders", spec := "tupleOrders", apart := false, narrowed := true }
def TupleOrdersUptoSaid : Prop := tupleOrdersUptoRow.holds Try.pinned (OpenSpec.upto tupleOrdersSpec)

end Rows
end Go.Proofs.Ytgndogoaenlchaa
