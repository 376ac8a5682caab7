/- the reference's next. -/
import Derived.Test.YtmjincocmhadeaaDoorProg
import Derived.Test.YtmjincocmhadeaaDoorBase
import Derived.Test.YtmjincocmhadeaaDoorBytes
import Derived.Test.YtmjincocmhadeaaDoorLexSpec
import Derived.Test.YtmjincocmhadeaaDoorLexA
import Derived.Test.YtmjincocmhadeaaDoorLexB
import Derived.Test.YtmjincocmhadeaaDoorLexD
import Derived.Test.YtmjincocmhadeaaDoorLexE
import Derived.Test.YtmjincocmhadeaaDoorLexG
import Derived.Test.YtmjincocmhadeaaDoorLexH
import Derived.Test.YtmjincocmhadeaaDoorLexO
import Derived.Test.YtmjincocmhadeaaDoorLexQ
namespace Go.Proofs.YtmjincocmhadeaaDoor
open Go.RowKit Lx
def RPost (s : ByteArray) (at_ : Nat) (w : World) (e : Ending) (w' : World) : Prop :=
  e = .returned (.tuple #[.agg (tokC (nextT ((bl s).drop at_) at_).1),.int .i64 ((if (nextT ((bl s).drop at_) at_).1.kind = 0 then at_ else (nextT ((bl s).drop at_) at_).1.end_ : Nat) : Int),.bool (nextT ((bl s).drop at_) at_).2]) ∧ Below w.heap.size w w'
theorem RPost.of {s : ByteArray} {at_ : Nat} {w w' : World} {t : Tok} {b : Bool} {cs : Array Value} {n : Int} (h : nextT ((bl s).drop at_) at_ = (t,b)) (hc : cs = tokC t) (hn : n = ((if t.kind = 0 then at_ else t.end_ : Nat) : Int)) (hb : Below w.heap.size w w') : RPost s at_ w (.returned (.tuple #[.agg cs,.int .i64 n,.bool b])) w' := by
 unfold RPost;rw [h,hc,hn];exact ⟨rfl,hb⟩
end Go.Proofs.YtmjincocmhadeaaDoor
