/- PrintTexts: the law walked. -/
import Derived.Test.YtclioihichcpiaaPrN
import Derived.Test.YtclioihichcpiaaPrB
import Derived.Test.YtclioihichcpiaaPrE
namespace Go.Proofs.Ytclioihichcpiaa
open Go.RowKit Go.Shelf Lx
set_option maxHeartbeats 2000000 in
set_option maxRecDepth 100000 in
theorem law_PrintTexts (s : ByteArray) (w : World) (hs : s.size ≤ 1048576) :
    Calls Try.prog 4 #[.string s] w fun e w' => e = .returned (.bool true) ∧ Below w.heap.size w w' := by
  have hp0 := fun w => pt_Term false s w hs
  have hp1 := fun w => pt_Term true s w hs
  have hq0 := fun w => rq_Term false s w hs
  have hq1 := fun w => rq_Term true s w hs
  have hpb := fun w => pt_Bare s w (by omega)
  have hqb := fun w => rp_Bare s w (by omega)
  have hpq := fun w => pt_Quote s w hs
  have hqq := fun w => rq_Quote s w (by omega)
  generalize mk (termL false (bl s)) = X0 at hp0 hq0
  generalize mk (termL true (bl s)) = X1 at hp1 hq1
  generalize termE false (bl s) = E0 at hp0 hq0
  generalize termE true (bl s) = E1 at hp1 hq1
  generalize bareB (bl s) = B at hpb hqb
  generalize mk (quoteL (bl s)) = Q at hpq hqq
  go_enter Try.func4, Try.ntmps4
  go_wp2_with (first
    | (go_at_call 17; refine (lw_known _).mono ?_; rintro e w7 ⟨rfl, h7⟩; replace h7 := Lib.hid (h6.out.trans (h7.mono h6.out.size)))
    | (go_at_call 21; refine (hqq _).mono ?_; rintro e w6 ⟨rfl, h6⟩; replace h6 := Lib.hid (h5.out.trans (h6.mono h5.out.size)))
    | (go_at_call 20; refine (hpq _).mono ?_; rintro e w5 ⟨rfl, h5⟩; replace h5 := Lib.hid (h4.out.trans (h5.mono h4.out.size)))
    | (go_at_call 18; refine (hpb _).mono ?_; rintro e w' ⟨rfl, rfl⟩)
    | (go_at_call 19; refine (hqb _).mono ?_; rintro e w' ⟨rfl, rfl⟩)
    | (go_at_call 15; first
        | (have hg := h3.out; clear hg; refine (hq1 _).mono ?_; rintro e w4 ⟨rfl, h4⟩; replace h4 := Lib.hid (h3.out.trans (h4.mono h3.out.size)))
        | (refine (hq0 _).mono ?_; rintro e w3 ⟨rfl, h3⟩; replace h3 := Lib.hid (h2.out.trans (h3.mono h2.out.size))))
    | (go_at_call 14; first
        | (have hg := h1.out; clear hg; refine (hp1 _).mono ?_; rintro e w2 ⟨rfl, h2⟩; replace h2 := Lib.hid (h1.out.trans (h2.mono h1.out.size)))
        | (refine (hp0 _).mono ?_; rintro e w1 ⟨rfl, h1⟩; replace h1 := Lib.hid h1)))
  all_goals first
    | (go_ret; exact ⟨rfl, h7.out⟩)
    | trace_state
end Go.Proofs.Ytclioihichcpiaa
