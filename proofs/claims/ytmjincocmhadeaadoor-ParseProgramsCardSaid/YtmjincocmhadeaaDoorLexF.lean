/- The reference's piece and str. -/
import Derived.Test.YtmjincocmhadeaaDoorProg
import Derived.Test.YtmjincocmhadeaaDoorBase
import Derived.Test.YtmjincocmhadeaaDoorBytes
import Derived.Test.YtmjincocmhadeaaDoorLexSpec
import Derived.Test.YtmjincocmhadeaaDoorLexA
import Derived.Test.YtmjincocmhadeaaDoorLexB
import Derived.Test.YtmjincocmhadeaaDoorLexE
namespace Go.Proofs.YtmjincocmhadeaaDoor
open Go.RowKit Lx
namespace Lx
def pieceL : Bs → Int × Int
  | [] => (0,-1)
  | c :: r =>
    if bi c < 32 ∨ 126 < bi c then (0,-1)
    else if ¬ bi c = 92 then (bi c,1)
    else match r with
      | [] => (0,-2)
      | d :: r2 =>
        if bi d = 34 ∨ bi d = 92 then (bi d,2)
        else if bi d = 110 then (10,2)
        else if bi d = 116 then (9,2)
        else if bi d = 120 then
          match r2 with
          | [] => (0,-3)
          | h1 :: r3 =>
            if halfI (bi h1) < 0 then (0,-3)
            else match r3 with
              | [] => (0,-4)
              | h2 :: _ => if halfI (bi h2) < 0 then (0,-4) else (16 * halfI (bi h1) + halfI (bi h2),4)
        else (0,-2)
end Lx
def PPost (s : ByteArray) (j : Nat) (w : World) (e : Ending) (w' : World) : Prop :=
  e = .returned (.tuple #[.int .u8 (pieceL ((bl s).drop j)).1,.int .i64 (pieceL ((bl s).drop j)).2]) ∧ Drawn w w'
theorem PPost.of {s : ByteArray} {j : Nat} {w w' : World} {b n : Int} (h : pieceL ((bl s).drop j) = (b,n)) (hd : Drawn w w') : PPost s j w (.returned (.tuple #[.int .u8 b,.int .i64 n])) w' := by
 unfold PPost;rw [h];exact ⟨rfl,hd⟩
end Go.Proofs.YtmjincocmhadeaaDoor
