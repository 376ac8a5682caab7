/- IndexWalks: the law's contract as the frame asks it. -/
import Derived.Test.YtjeeljolhcoeoaaMxV
import Derived.Test.YtjeeljolhcoeoaaOpenS
namespace Go.Proofs.Ytjeeljolhcoeoaa
open Go.RowKit
theorem law_IndexWalksU (way : Int) (a1 : Option Addr) (a : Option Addr) (cap1 cap : Nat) (xs1 : List Int) (ss : List StepD) (w : World) (_ : IntKind.i64.wrap way = way) (hx1 : Ints .i64 w a1 xs1) (hx : Steps w a ss) (hl : xs1.length + ss.length ≤ 1048576) :
    Calls Try.prog 7 #[.int .i64 way, .slice a1 xs1.length cap1, .slice a ss.length cap] w fun e w' => e = .returned (.bool true) ∧ Below w.heap.size w w' :=
  law_IndexWalks way a1 cap1 a cap xs1 ss w hx1 hx hl
end Go.Proofs.Ytjeeljolhcoeoaa
