/- TupleKinds: the law in the frame's form. -/
import Derived.Test.YtgndogoaenlchaaLawKinds
namespace Go.Proofs.Ytgndogoaenlchaa
open Go.RowKit

theorem law_TupleKindsN (a b : Option Addr) (cap capb : Nat) (zs ys : List Int) (w : World) (ha : Ints .i64 w a zs) (hb : Ints .i64 w b ys) (_ : a = none → zs = [] ∧ cap = 0) (_ : b = none → ys = [] ∧ capb = 0) (hl : zs.length ≤ 17592186043904) (hly : ys.length ≤ 17592186043904) :
    Calls Try.prog 4 #[.slice a zs.length cap, .slice b ys.length capb] w fun e w' => e = .returned (.bool true) ∧ Below w.heap.size w w' :=
  law_TupleKinds a b cap capb zs ys w ha hb hl hly

end Go.Proofs.Ytgndogoaenlchaa
