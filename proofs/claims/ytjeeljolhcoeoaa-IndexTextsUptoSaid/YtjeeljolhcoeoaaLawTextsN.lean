/- IndexTexts: the law's contract as the frame asks it. -/
import Derived.Test.YtjeeljolhcoeoaaUxI
import Derived.Test.YtjeeljolhcoeoaaOpenX
namespace Go.Proofs.Ytjeeljolhcoeoaa
open Go.RowKit Str
theorem law_IndexTextsU (a1 a2 : Option Addr) (q1 q2 : Nat) (ks : List ByteArray) (gs : List Bool) (w : World) (hx1 : StrsA w a1 ks) (hx2 : BoolsA w a2 gs) (hl1 : ks.length ≤ 1048576) (_ : gs.length ≤ 1048576) :
    Calls Try.prog 3 #[.slice a1 ks.length q1, .slice a2 gs.length q2] w fun e w' => e = .returned (.bool true) ∧ Below w.heap.size w w' :=
  law_IndexTexts a1 q1 a2 q2 ks gs w hx1 hx2 hl1
end Go.Proofs.Ytjeeljolhcoeoaa
