/- PrintProgram: the law walked. (gen_pil.py) -/
import Derived.Test.YtclioihichcpiaaDoorPiI
import Derived.Test.YtclioihichcpiaaDoorPrN
namespace Go.Proofs.YtclioihichcpiaaDoor
open Go.RowKit Go.Shelf Lx
set_option maxHeartbeats 8000000 in
set_option maxRecDepth 100000 in
theorem law_Program (I : List InpD) (O : List OutD) (R : List Rul) (a0 a1 a2 : Option Addr) (c0 c1 c2 : Nat) (w : World) (hI : Inps w a0 I) (hO : Outs w a1 O) (hR : Ruls w a2 R) (hW : progWt I O R ≤ 1048576) :
    Calls Tryd.prog 3 #[.agg #[.slice a0 I.length c0, .slice a1 O.length c1, .slice a2 R.length c2]] w fun e w' => e = .returned (.bool true) ∧ Below w.heap.size w w' := by
  have hlI := hI.len
  have hlO := hO.len
  have hlR := hR.len
  have f1 : Hid (∀ W, B3 w W #[.slice a0 I.length c0, .slice a1 O.length c1, .slice a2 R.length c2] 26 → Calls Tryd.prog 6 #[.agg #[.slice a0 I.length c0, .slice a1 O.length c1, .slice a2 R.length c2]] W fun e w' => e = .returned (.tuple #[.string (progS I O R), .int .i64 (progE I O R)]) ∧ (Below W.heap.size W w' ∧ True)) := Lib.hid (fun W hW2 => (rq_Program I O R a0 a1 a2 c0 c1 c2 W (hI.below hW2.bel) (hO.below hW2.bel) (hR.below hW2.bel) hW).mono fun e w' h => ⟨h.1, h.2, trivial⟩)
  have f2 : Hid (∀ W, B3 w W #[.slice a0 I.length c0, .slice a1 O.length c1, .slice a2 R.length c2] 26 → Calls Tryd.prog 7 #[.agg #[.slice a0 I.length c0, .slice a1 O.length c1, .slice a2 R.length c2]] W fun e w' => ∃ gi ci go co gr cr Q, e = .returned (.agg #[.slice (some ⟨gi, 0, none⟩) I.length ci, .slice (some ⟨go, 0, none⟩) O.length co, .slice (some ⟨gr, 0, none⟩) R.length cr]) ∧ (Below W.heap.size W w' ∧ PM w' I O R gi ci go co gr cr Q)) := Lib.hid (fun W hW2 => (cq_program I O R a0 a1 a2 c0 c1 c2 W (hI.below hW2.bel) (hO.below hW2.bel) (hR.below hW2.bel)).mono fun e w' h => by
    obtain ⟨gi, ci, go, co, gr, cr, Q, h1, h2, h3⟩ := h
    exact ⟨gi, ci, go, co, gr, cr, Q, h1, h3, h2⟩)
  have f3 : Hid (∀ W (gi ci go co gr cr : Nat) (Q : List RQ), B3 w W #[.slice a0 I.length c0, .slice a1 O.length c1, .slice a2 R.length c2] 26 → PM W I O R gi ci go co gr cr Q → Calls Tryd.prog 8 #[.agg #[.slice (some ⟨gi, 0, none⟩) I.length ci, .slice (some ⟨go, 0, none⟩) O.length co, .slice (some ⟨gr, 0, none⟩) R.length cr]] W fun e w' => e = .returned (.tuple #[.string (progS I O R), .int .i64 (progE I O R)]) ∧ (Below W.heap.size W w' ∧ True)) := Lib.hid (fun W gi ci go co gr cr Q hW2 hP => (pt_Program I O R (some ⟨gi, 0, none⟩) (some ⟨go, 0, none⟩) (some ⟨gr, 0, none⟩) ci co cr W (hP.i.inps hlI hI.size) (hP.o.outs hlO hO.size) (hP.ruls hlR hR.size)).mono fun e w' h => ⟨h.1, h.2, trivial⟩)
  have f4 : Hid (∀ W (gi ci go co gr cr : Nat) (Q : List RQ), B3 w W #[.slice a0 I.length c0, .slice a1 O.length c1, .slice a2 R.length c2] 26 → PM W I O R gi ci go co gr cr Q → Calls Tryd.prog 9 #[.agg #[.slice (some ⟨gi, 0, none⟩) I.length ci, .slice (some ⟨go, 0, none⟩) O.length co, .slice (some ⟨gr, 0, none⟩) R.length cr], .agg #[.slice a0 I.length c0, .slice a1 O.length c1, .slice a2 R.length c2]] W fun e w' => e = .returned (.bool true) ∧ (Below W.heap.size W w' ∧ True)) := Lib.hid (fun W gi ci go co gr cr Q hW2 hP => (kp_program I O R a0 a1 a2 c0 c1 c2 gi ci go co gr cr Q W (hI.below hW2.bel) (hO.below hW2.bel) (hR.below hW2.bel) hP).mono fun e w' h => ⟨h.1, h.2, trivial⟩)
  have f5 : Hid (∀ W, B3 w W #[.slice a0 I.length c0, .slice a1 O.length c1, .slice a2 R.length c2] 26 → Calls Tryd.prog 10 #[] W fun e w' => e = .returned (.bool true) ∧ (Below W.heap.size W w' ∧ True)) := Lib.hid (fun W hW2 => (lw_known W).mono fun e w' h => ⟨h.1, h.2, trivial⟩)
  generalize progS I O R = PS at f1 f3
  generalize progE I O R = PE at f1 f3
  have hpe : (PE == PE) = true := by simp
  have hps : (PS.toList == PS.toList) = true := by simp
  clear hI hO hR hW
  go_enter Tryd.func3, Tryd.ntmps3
  go_wp2_with (first
    | (have hg := D4.out; clear hg; go_at_call 10; refine (f5.out _ (by first | exact D4.out | exact D4.out.al _ | exact (B4.out.al _).al _)).mono ?_; rintro e w5 ⟨rfl, h5⟩; clear x04 x14 x24; have D5 := Lib.hid (((by first | exact D4.out | exact D4.out.al _ | exact (B4.out.al _).al _) : B3 w _ #[.slice a0 I.length c0, .slice a1 O.length c1, .slice a2 R.length c2] 26).below h5.1); obtain ⟨x05, x15, x25⟩ := D5.out.cells; clear h5)
    | (have hg := D3.out; clear hg; go_at_call 9; refine (f4.out _ gi ci go co gr cr Q (by first | exact D3.out | exact D3.out.al _ | exact (B3.out.al _).al _) hP3.out).mono ?_; rintro e w4 ⟨rfl, h4⟩; clear x03 x13 x23; have D4 := Lib.hid (((by first | exact D3.out | exact D3.out.al _ | exact (B3.out.al _).al _) : B3 w _ #[.slice a0 I.length c0, .slice a1 O.length c1, .slice a2 R.length c2] 26).below h4.1); obtain ⟨x04, x14, x24⟩ := D4.out.cells; clear h4)
    | (have hg := D2.out; clear hg; go_at_call 8; refine (f3.out _ gi ci go co gr cr Q (by first | exact D2.out | exact D2.out.al _ | exact (B2.out.al _).al _) (by first | exact hP2.out | exact hP2.out.below ((Below.refl _ _).al _))).mono ?_; rintro e w3 ⟨rfl, h3⟩; clear x02 x12 x22; have D3 := Lib.hid (((by first | exact D2.out | exact D2.out.al _ | exact (B2.out.al _).al _) : B3 w _ #[.slice a0 I.length c0, .slice a1 O.length c1, .slice a2 R.length c2] 26).below h3.1); obtain ⟨x03, x13, x23⟩ := D3.out.cells; have hP3 := Lib.hid ((show PM _ I O R gi ci go co gr cr Q from (by first | exact hP2.out | exact hP2.out.below ((Below.refl _ _).al _))).below h3.1); obtain ⟨t0, t1, t2⟩ := new_cells3 h3.1; clear h3)
    | (have hg := D1.out; clear hg; go_at_call 7; refine (f2.out _ (by first | exact D1.out | exact D1.out.al _ | exact (B1.out.al _).al _)).mono ?_; rintro e w2 ⟨gi, ci, go, co, gr, cr, Q, rfl, h2⟩; clear x01 x11 x21; have D2 := Lib.hid (((by first | exact D1.out | exact D1.out.al _ | exact (B1.out.al _).al _) : B3 w _ #[.slice a0 I.length c0, .slice a1 O.length c1, .slice a2 R.length c2] 26).below h2.1); obtain ⟨x02, x12, x22⟩ := D2.out.cells; have hP2 := Lib.hid h2.2; clear h2)
    | (go_at_call 6; refine (f1.out _ (B3.start w #[.slice a0 I.length c0, .slice a1 O.length c1, .slice a2 R.length c2] 26)).mono ?_; rintro e w1 ⟨rfl, h1⟩; have D1 := Lib.hid (((B3.start w #[.slice a0 I.length c0, .slice a1 O.length c1, .slice a2 R.length c2] 26) : B3 w _ #[.slice a0 I.length c0, .slice a1 O.length c1, .slice a2 R.length c2] 26).below h1.1); obtain ⟨x01, x11, x21⟩ := D1.out.cells; clear h1))
  go_ret
  exact ⟨rfl, D5.out.bel⟩
end Go.Proofs.YtclioihichcpiaaDoor
