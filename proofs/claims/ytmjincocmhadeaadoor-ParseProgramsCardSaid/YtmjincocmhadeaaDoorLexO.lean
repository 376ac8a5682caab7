/- the reference's sign. -/
import Derived.Test.YtmjincocmhadeaaDoorProg
import Derived.Test.YtmjincocmhadeaaDoorBase
import Derived.Test.YtmjincocmhadeaaDoorBytes
import Derived.Test.YtmjincocmhadeaaDoorLexSpec
import Derived.Test.YtmjincocmhadeaaDoorLexA
import Derived.Test.YtmjincocmhadeaaDoorLexB
import Derived.Test.YtmjincocmhadeaaDoorLexE
import Derived.Test.YtmjincocmhadeaaDoorLexF
import Derived.OwnWalk
namespace Go.Proofs.YtmjincocmhadeaaDoor
open Go.RowKit Lx
namespace Lx
def signR (l : Bs) : Int × Int × Int :=
  match l with
  | [] => (0,0,0)
  | c :: r => match signI (bi c) with
    | none => (0,0,0)
    | some (k,n,d) => if n = 1 then (k,1,1) else if firstB (fun y => decide (y = d)) r then (k,2,2) else (k,1,2)
end Lx
def GPost (s : ByteArray) (at_ : Nat) (w : World) (e : Ending) (w' : World) : Prop :=
  e = .returned (.tuple #[.int .i64 (signR ((bl s).drop at_)).1,.int .i64 (signR ((bl s).drop at_)).2.1,.int .i64 (signR ((bl s).drop at_)).2.2]) ∧ w = w'
theorem GPost.of {s : ByteArray} {at_ : Nat} {w : World} {k a b : Int} (h : signR ((bl s).drop at_) = (k,a,b)) : GPost s at_ w (.returned (.tuple #[.int .i64 k,.int .i64 a,.int .i64 b])) w := by
 unfold GPost;rw [h];exact ⟨rfl,rfl⟩
end Go.Proofs.YtmjincocmhadeaaDoor
