/- The reference's str. -/
import Derived.Test.YtmjincocmhadeaaDoorProg
import Derived.Test.YtmjincocmhadeaaDoorBase
import Derived.Test.YtmjincocmhadeaaDoorBytes
import Derived.Test.YtmjincocmhadeaaDoorLexSpec
import Derived.Test.YtmjincocmhadeaaDoorLexA
import Derived.Test.YtmjincocmhadeaaDoorLexB
import Derived.Test.YtmjincocmhadeaaDoorLexE
import Derived.Test.YtmjincocmhadeaaDoorLexF
namespace Go.Proofs.YtmjincocmhadeaaDoor
open Go.RowKit Lx
/-- a token's cells -/
def tokCs (k : Int) (l : Bs) (a b : Int) : Array Value := #[.int .i64 k,.string (mk l),.int .i64 a,.int .i64 b]
theorem tokCs_one (k : Int) (l : Bs) (a b : Int) : ((tokCs k l a b).all fun x => x.oneCell') = true := by simp [tokCs,Value.oneCell']
theorem sizeTok : (Tryd.prog.info? 67).map (fun i => i.size) = some 4 := by kernel_rfl
/-- the post of str: the token at at_, how far, whole -/
def SPost (s : ByteArray) (at_ : Nat) (w : World) (e : Ending) (w' : World) : Prop :=
  e = .returned (.tuple #[.agg (if (quo ((bl s).drop (at_ + 1)) 0).2.2 then tokCs 4 (quo ((bl s).drop (at_ + 1)) 0).1 at_ ((at_ + 1 + (quo ((bl s).drop (at_ + 1)) 0).2.1 : Nat) : Int) else tokCs 0 [] 0 0),
    .int .i64 ((at_ + 1 + (quo ((bl s).drop (at_ + 1)) 0).2.1 : Nat) : Int),.bool (quo ((bl s).drop (at_ + 1)) 0).2.2]) ∧ Below w.heap.size w w'
theorem SPost.bad {s : ByteArray} {at_ j : Nat} {w w' : World} {acc b : Bs} {n : Int} {k : Nat} (h : QAt (quo ((bl s).drop (at_ + 1)) 0) (at_ + 1) acc j (b,k,false)) (hn : n = ((j + k : Nat) : Int)) (hb : Below w.heap.size w w') :
    SPost s at_ w (.returned (.tuple #[.agg (tokCs 0 [] 0 0),.int .i64 n,.bool false])) w' := by
 unfold SPost;rw [h.ok,h.far,hn];exact ⟨rfl,hb⟩
theorem SPost.good {s : ByteArray} {at_ j : Nat} {w w' : World} {acc : Bs} (h : QAt (quo ((bl s).drop (at_ + 1)) 0) (at_ + 1) acc j ([],1,true)) (hb : Below w.heap.size w w') :
    SPost s at_ w (.returned (.tuple #[.agg (tokCs 4 acc at_ ((j : Int) + 1)),.int .i64 ((j : Int) + 1),.bool true])) w' := by
 unfold SPost
 have ht : (quo ((bl s).drop (at_ + 1)) 0).1 = acc := by rcases h.text with h | h
                                                         · simpa using h
                                                         · cases h
 rw [h.ok,h.far,ht];exact ⟨rfl,hb⟩
end Go.Proofs.YtmjincocmhadeaaDoor
