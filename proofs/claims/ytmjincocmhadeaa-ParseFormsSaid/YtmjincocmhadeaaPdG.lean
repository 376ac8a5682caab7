/- Parse: ParseForms. -/
import Derived.Test.YtmjincocmhadeaaPdF
namespace Go.Proofs.Ytmjincocmhadeaa
open Go.RowKit Lx
theorem law_ParseForms (s : ByteArray) (w : World) (_ : s.size ≤ 140737488351232) :
    Calls Try.prog 7 #[.string s] w fun e w' => e = .returned (.bool true) ∧ Below w.heap.size w w' := by
  by_cases hl : 20000 < s.size
  · exact law8_forms_long s w hl
  · cases hx : psText s with
    | ok l => exact law8_forms_ok s w (by omega) l hx
    | error x => exact law8_forms_err s w (by omega) x hx
end Go.Proofs.Ytmjincocmhadeaa
