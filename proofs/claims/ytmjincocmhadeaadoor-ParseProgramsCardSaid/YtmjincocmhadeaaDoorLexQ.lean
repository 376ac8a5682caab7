/- the reference's longest. -/
import Derived.Test.YtmjincocmhadeaaDoorProg
import Derived.Test.YtmjincocmhadeaaDoorBase
import Derived.Test.YtmjincocmhadeaaDoorBytes
import Derived.Test.YtmjincocmhadeaaDoorLexSpec
import Derived.Test.YtmjincocmhadeaaDoorLexA
import Derived.Test.YtmjincocmhadeaaDoorLexB
import Derived.Test.YtmjincocmhadeaaDoorLexD
import Derived.Test.YtmjincocmhadeaaDoorLexE
import Derived.Test.YtmjincocmhadeaaDoorLexP
namespace Go.Proofs.YtmjincocmhadeaaDoor
open Go.RowKit Lx
def LPost (s : ByteArray) (at_ : Nat) (w : World) (e : Ending) (w' : World) : Prop :=
  e = .returned (.int .i64 ((at_ + longN ((bl s).drop at_) : Nat) : Int)) ∧ w = w'
theorem LPost.of {s : ByteArray} {at_ m : Nat} {w : World} (h : m = at_ + longN ((bl s).drop at_)) : LPost s at_ w (.returned (.int .i64 m)) w := by
 unfold LPost;rw [← h];exact ⟨rfl,rfl⟩
end Go.Proofs.YtmjincocmhadeaaDoor
