/- the reference's next: signs and words. -/
import Derived.Test.YtmjincocmhadeaaProg
import Derived.Test.YtmjincocmhadeaaBase
import Derived.Test.YtmjincocmhadeaaBytes
import Derived.Test.YtmjincocmhadeaaLexSpec
import Derived.Test.YtmjincocmhadeaaLexA
import Derived.Test.YtmjincocmhadeaaLexB
import Derived.Test.YtmjincocmhadeaaLexD
import Derived.Test.YtmjincocmhadeaaLexE
import Derived.Test.YtmjincocmhadeaaLexG
import Derived.Test.YtmjincocmhadeaaLexH
import Derived.Test.YtmjincocmhadeaaLexK
import Derived.Test.YtmjincocmhadeaaLexO
import Derived.Test.YtmjincocmhadeaaLexQ
import Derived.Test.YtmjincocmhadeaaLexR
namespace Go.Proofs.Ytmjincocmhadeaa
open Go.RowKit Lx

namespace Lx
theorem signI_cases (c : Int) : signI c = none ∨ (∃ k, signI c = some (k, 1, 0) ∧ k ≠ 0) ∨ (∃ k d, signI c = some (k, 2, d) ∧ k ≠ 0) := by
  unfold signI; repeat' split
  all_goals simp
theorem sign_next (c : UInt8) (r : Bs) (at_ : Nat) (h34 : ¬ bi c = 34) (hs : ¬ signI (bi c) = none) :
    ∃ (k : Int) (A : Nat) (b : Int), signR (c :: r) = (k, (A : Int), b) ∧ k ≠ 0 ∧ A ≤ 2 ∧ nextT (c :: r) at_ = (⟨k, [], at_, at_ + A⟩, (A : Int) == b) := by
  rcases signI_cases (bi c) with h | ⟨k, h, hk⟩ | ⟨k, d, h, hk⟩
  · exact absurd h hs
  · exact ⟨k, 1, 1, by simp [signR, h], hk, by omega, next_sign1 c r at_ k 0 h34 h⟩
  · by_cases hd : firstB (fun y => decide (y = d)) r = true
    · refine ⟨k, 2, 2, by simp [signR, h, hd], hk, by omega, ?_⟩
      cases r with
      | nil => cases hd
      | cons x r => exact next_sign2 c x r at_ k d h34 h (by simpa [firstB] using hd)
    · have hd' : firstB (fun y => decide (y = d)) r = false := by simpa using hd
      exact ⟨k, 1, 2, by simp [signR, h, hd'], hk, by omega, next_sign2n c r at_ k d h34 h hd'⟩
theorem sign_none (c : UInt8) (r : Bs) (hs : signI (bi c) = none) : signR (c :: r) = (0, 0, 0) := by simp [signR, hs]
end Lx

end Go.Proofs.Ytmjincocmhadeaa
