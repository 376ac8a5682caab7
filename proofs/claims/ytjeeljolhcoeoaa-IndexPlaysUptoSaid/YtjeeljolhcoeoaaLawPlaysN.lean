/- IndexPlays: the law's contract as the frame asks it. -/
import Derived.Test.YtjeeljolhcoeoaaMxT
import Derived.Test.YtjeeljolhcoeoaaOpenS
namespace Go.Proofs.Ytjeeljolhcoeoaa
open Go.RowKit
theorem law_IndexPlaysU (way : Int) (a : Option Addr) (cap : Nat) (ss : List StepD) (w : World) (_ : IntKind.i64.wrap way = way) (hx : Steps w a ss) (hl : ss.length ≤ 1048576) :
    Calls Try.prog 6 #[.int .i64 way, .slice a ss.length cap] w fun e w' => e = .returned (.bool true) ∧ Below w.heap.size w w' :=
  law_IndexPlays way a cap ss w hx hl
end Go.Proofs.Ytjeeljolhcoeoaa
