/- the reference's longest. -/
import Derived.Test.YtmjincocmhadeaaProg
import Derived.Test.YtmjincocmhadeaaBase
import Derived.Test.YtmjincocmhadeaaBytes
import Derived.Test.YtmjincocmhadeaaLexSpec
import Derived.Test.YtmjincocmhadeaaLexA
import Derived.Test.YtmjincocmhadeaaLexB
import Derived.Test.YtmjincocmhadeaaLexD
import Derived.Test.YtmjincocmhadeaaLexE
import Derived.Test.YtmjincocmhadeaaLexP
namespace Go.Proofs.Ytmjincocmhadeaa
open Go.RowKit Lx

def LPost (s : ByteArray) (at_ : Nat) (w : World) (e : Ending) (w' : World) : Prop :=
  e = .returned (.int .i64 ((at_ + longN ((bl s).drop at_) : Nat) : Int)) ∧ w = w'
theorem LPost.of {s : ByteArray} {at_ m : Nat} {w : World} (h : m = at_ + longN ((bl s).drop at_)) : LPost s at_ w (.returned (.int .i64 m)) w := by
  unfold LPost; rw [← h]; exact ⟨rfl, rfl⟩

theorem long_step (s : ByteArray) (a0 m : Nat) (h1 : a0 ≤ m) (h2 : m < s.size) (h3 : m < a0 + 64) :
    kindI (bl (s.extract a0 (m + 1))) ≠ 0 ↔ m + 1 - a0 ≤ longN ((bl s).drop a0) := by
  rw [extract_mk', bl_mk]
  refine longN_iff _ _ (by omega) ?_ (by omega)
  rw [List.length_drop, bl_length]; omega

end Go.Proofs.Ytmjincocmhadeaa
