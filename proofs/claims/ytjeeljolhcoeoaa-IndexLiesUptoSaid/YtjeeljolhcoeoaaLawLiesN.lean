/- IndexLies: the law's contract as the frame asks it. -/
import Derived.Test.YtjeeljolhcoeoaaKxF
namespace Go.Proofs.Ytjeeljolhcoeoaa
open Go.RowKit
theorem law_IndexLiesU (way : Int) (a1 a2 : Option Addr) (q1 q2 : Nat) (xs1 xs2 : List Int) (w : World) (_ : IntKind.i64.wrap way = way) (hx1 : Ints .i64 w a1 xs1) (hx2 : Ints .i64 w a2 xs2) (hl1 : xs1.length ≤ 1048576) (hl2 : xs2.length ≤ 1048576) :
    Calls Try.prog 4 #[.int .i64 way, .slice a1 xs1.length q1, .slice a2 xs2.length q2] w fun e w' => e = .returned (.bool true) ∧ Below w.heap.size w w' :=
  law_IndexLies way a1 a2 q1 q2 xs1 xs2 w hx1 hx2 hl1 hl2
end Go.Proofs.Ytjeeljolhcoeoaa
