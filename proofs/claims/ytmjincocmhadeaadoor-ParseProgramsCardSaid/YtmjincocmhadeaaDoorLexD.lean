/- Names, variables, numbers; the reference's word and blanks. -/
import Derived.Test.YtmjincocmhadeaaDoorProg
import Derived.Test.YtmjincocmhadeaaDoorBase
import Derived.Test.YtmjincocmhadeaaDoorLexSpec
import Derived.Test.YtmjincocmhadeaaDoorLexA
import Derived.Test.YtmjincocmhadeaaDoorLexB
import Derived.Test.YtmjincocmhadeaaDoorLexC
namespace Go.Proofs.YtmjincocmhadeaaDoor
open Go.RowKit Lx
namespace Lx
theorem kind_number (l : Bs) : (kindI l == 3) = numberB l := by
 unfold kindI
 split
 · rename_i h;subst h;decide
 · split
   · rename_i h;subst h;decide
   · split
     · rename_i h;subst h;decide
     · by_cases hn : numberB l = true
       · rw [if_pos hn,hn];rfl
       · have hn' : numberB l = false := by simpa using hn
         rw [hn',if_neg (by simp)]
         split
         · simp
         · split <;> simp
end Lx
end Go.Proofs.YtmjincocmhadeaaDoor
