/- NormalForms: the law, its arguments as the card hands them. -/
import Derived.Test.YtoklbofobcloaaaDoorNpP
import Derived.Test.YtoklbofobcloaaaDoorOpenF
namespace Go.Proofs.YtoklbofobcloaaaDoor
open Go.RowKit
theorem law_FormsC (p : ByteArray) (a : Option Addr) (l : List Tm) (c : Nat) (b : Option Addr) (L : List Lit) (d : Nat) (na : Option Addr) (names : List ByteArray) (nc : Nat) (ta : Option Addr) (terms : List Tm) (tc : Nat) (w : World) (ha : Terms w a l) (hb : Lits w b L) (hw : Lx.ruleWt ⟨p, l, L⟩ ≤ 1048576) (hn : Txts w na names) (ht : Terms w ta terms) (htab : Lib.TabIs Tryd.prog w "internal/strconv.uint64pow10" .u64 Lib.pow10Tab) :
    Calls Tryd.prog 3 #[.agg #[.string p, .slice a l.length c, .slice b L.length d], .slice na names.length nc, .slice ta terms.length tc] w fun e w' => e = .returned (.bool true) ∧ Below w.heap.size w w' :=
  law_Forms ⟨p, l, L⟩ a b c d names terms na ta nc tc w ha hb hn ht (Nat.le_trans (every_wt p l L) hw) htab
end Go.Proofs.YtoklbofobcloaaaDoor
