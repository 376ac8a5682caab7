/- lex.next: joined. -/
import Derived.Test.YtmjincocmhadeaaDoorProg
import Derived.Test.YtmjincocmhadeaaDoorBase
import Derived.Test.YtmjincocmhadeaaDoorLexSpec
import Derived.Test.YtmjincocmhadeaaDoorLexH
import Derived.Test.YtmjincocmhadeaaDoorLexI
import Derived.Test.YtmjincocmhadeaaDoorLexJ
import Derived.Test.YtmjincocmhadeaaDoorLexK
import Derived.Test.YtmjincocmhadeaaDoorLexL
import Derived.Test.YtmjincocmhadeaaDoorLexM
namespace Go.Proofs.YtmjincocmhadeaaDoor
open Go.RowKit Lx
theorem signI_none (c : Int) (h : ¬ c = 40 ∧ ¬ c = 41 ∧ ¬ c = 44 ∧ ¬ c = 46 ∧ ¬ c = 47 ∧ ¬ c = 58 ∧ ¬ c = 33) : signI c = none := by
 obtain ⟨h1,h2,h3,h4,h5,h6,h7⟩ := h;unfold signI;simp [h1,h2,h3,h4,h5,h6,h7]
/-- lex.next, at any place of a text. -/
theorem lx_next (s : ByteArray) (a0 : Nat) (w : World) (hs : s.size ≤ 4194304) (hlt : a0 < s.size) :
    Calls Tryd.prog 55 #[.string s,.int .i64 a0] w (NPost s a0 w) := by
 by_cases h34 : bat s a0 = 34
 · exact lx_next_str s a0 w hs hlt h34
 by_cases h0 : bat s a0 = 40
 · exact lx_next_0 s a0 w hs hlt h0
 by_cases h1 : bat s a0 = 41
 · exact lx_next_1 s a0 w hs hlt h1
 by_cases h2 : bat s a0 = 44
 · exact lx_next_2 s a0 w hs hlt h2
 by_cases h3 : bat s a0 = 46
 · exact lx_next_3 s a0 w hs hlt h3
 by_cases h4 : bat s a0 = 47
 · exact lx_next_4 s a0 w hs hlt h4
 by_cases h5 : bat s a0 = 58
 · by_cases hl : a0 + 1 < s.size
   · by_cases hd : bat s (a0 + 1) = 45
     · exact lx_next_5ok s a0 w hs hlt h5 hl hd
     · exact lx_next_5no s a0 w hs hlt h5 hl hd
   · exact lx_next_5end s a0 w hs hlt h5 hl
 by_cases h6 : bat s a0 = 33
 · by_cases hl : a0 + 1 < s.size
   · by_cases hd : bat s (a0 + 1) = 61
     · exact lx_next_6ok s a0 w hs hlt h6 hl hd
     · exact lx_next_6no s a0 w hs hlt h6 hl hd
   · exact lx_next_6end s a0 w hs hlt h6 hl
 have hsg : signI (bat s a0) = none := signI_none _ ⟨h0,h1,h2,h3,h4,h5,h6⟩
 by_cases hlo : bat s a0 < 48
 · exact lx_next_word_lo s a0 w hs hlt h34 hsg hlo
 by_cases hhi : 57 < bat s a0
 · exact lx_next_word_hi s a0 w hs hlt h34 hsg hhi
 exact lx_next_word_d s a0 w hs hlt h34 hsg (by omega)
end Go.Proofs.YtmjincocmhadeaaDoor
