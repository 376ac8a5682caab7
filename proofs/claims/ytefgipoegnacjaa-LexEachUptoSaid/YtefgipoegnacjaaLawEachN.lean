/- LexEach: the law in the frame's form. -/
import Derived.Test.YtefgipoegnacjaaLawEach
namespace Go.Proofs.Ytefgipoegnacjaa
open Go.RowKit

theorem law_LexEachN (s : ByteArray) (leave : Int) (w : World) (hs : s.size ≤ 1048576) (_ : IntKind.i64.wrap leave = leave) :
    Calls Try.prog 9 #[.string s, .int .i64 leave] w fun e w' => e = .returned (.bool true) ∧ Below w.heap.size w w' := law_LexEach s leave w hs

end Go.Proofs.Ytefgipoegnacjaa
