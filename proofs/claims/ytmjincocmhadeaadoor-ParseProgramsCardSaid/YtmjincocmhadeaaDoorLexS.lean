/- the reference's next: signs and words. -/
import Derived.Test.YtmjincocmhadeaaDoorProg
import Derived.Test.YtmjincocmhadeaaDoorBase
import Derived.Test.YtmjincocmhadeaaDoorBytes
import Derived.Test.YtmjincocmhadeaaDoorLexSpec
import Derived.Test.YtmjincocmhadeaaDoorLexA
import Derived.Test.YtmjincocmhadeaaDoorLexB
import Derived.Test.YtmjincocmhadeaaDoorLexD
import Derived.Test.YtmjincocmhadeaaDoorLexE
import Derived.Test.YtmjincocmhadeaaDoorLexG
import Derived.Test.YtmjincocmhadeaaDoorLexH
import Derived.Test.YtmjincocmhadeaaDoorLexK
import Derived.Test.YtmjincocmhadeaaDoorLexO
import Derived.Test.YtmjincocmhadeaaDoorLexQ
import Derived.Test.YtmjincocmhadeaaDoorLexR
namespace Go.Proofs.YtmjincocmhadeaaDoor
open Go.RowKit Lx
namespace Lx
theorem signI_cases (c : Int) : signI c = none ∨ (∃ k,signI c = some (k,1,0) ∧ k ≠ 0) ∨ (∃ k d,signI c = some (k,2,d) ∧ k ≠ 0) := by
 unfold signI;repeat' split
 all_goals simp
end Lx
end Go.Proofs.YtmjincocmhadeaaDoor
