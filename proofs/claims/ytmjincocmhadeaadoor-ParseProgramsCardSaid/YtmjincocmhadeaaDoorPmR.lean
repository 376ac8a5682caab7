/- Parse: the document's reader: a statement. (gen_pev.py) -/
import Derived.Test.YtmjincocmhadeaaDoorPmQ
import Derived.Deep.Cut
import Derived.Deep.CutRange
import Derived.Test.YtmjincocmhadeaaDoorPmP
set_option maxHeartbeats 8000000
set_option maxRecDepth 100000
namespace Go.Proofs.YtmjincocmhadeaaDoor
open Go.RowKit Lx
/-- what a statement leaves -/
def StP (w0 : World) (l0 lo b gp gq : Nat) (s : ByteArray) (A : List (ByteArray × Int × ByteArray)) (B : List (ByteArray × Int)) (C : List PRule) (a1 a2 a3 : List Nat) (R : Except Int (Stmt × Nat)) (e : Ending) (w' : World) : Prop :=
  e = .returned (.tuple #[]) ∧ match R with
  | .ok y => ∃ R0 R1 R2 R3 R4 R5,SQ w0 w' l0 lo b gp gq s (.ok y.2) R0 R1 R2 R3 R4 R5 (A ++ inpsOf [y.1]) (B ++ outsOf [y.1]) (C ++ rulesOf [y.1]) (a1 ++ inAts [y.1]) (a2 ++ outAts [y.1]) (a3 ++ ruAts [y.1])
  | .error x => ∃ R0 R1 R2 R3 R4 R5,SQ w0 w' l0 lo b gp gq s (.error x) R0 R1 R2 R3 R4 R5 A B C a1 a2 a3
theorem StP.err {w0 w' : World} {l0 lo b gp gq : Nat} {s : ByteArray} {R0 R1 R2 R3 R4 R5 : Value} {A : List (ByteArray × Int × ByteArray)} {B : List (ByteArray × Int)} {C : List PRule} {a1 a2 a3 : List Nat} {R : Except Int (Stmt × Nat)} {x : Int} (hR : R = .error x) (h : SQ w0 w' l0 lo b gp gq s (.error x) R0 R1 R2 R3 R4 R5 A B C a1 a2 a3) : StP w0 l0 lo b gp gq s A B C a1 a2 a3 R (.returned (.tuple #[])) w' := by
 subst hR;exact ⟨rfl,_,_,_,_,_,_,h⟩
/-- behind the first word -/
def rStmt2 (L : Bs) (p : Nat) (x : Bs × Nat) : Except Int (Stmt × Nat) :=
  if (x.1 = sInput ∨ x.1 = sOutput) ∧ (pk L x.2 = -1 ∨ blankB (pk L x.2) = true ∨ pk L x.2 = 37) then
    (rSlash L x.2).bind fun a =>
      if x.1 = sInput then (rText L a.2).bind fun f => (rSign 46 L (rSkip L f.2)).bind fun q => .ok (.inp a.1.1 a.1.2 (mk f.1) p,q)
      else (rSign 46 L a.2).bind fun q => .ok (.outp a.1.1 a.1.2 p,q)
  else if reservedB x.1 then .error (x.2 : Int)
  else (rRuleOf L (mk x.1) x.2).bind fun r => .ok (.rule r.1 p,r.2)
theorem rStmt_run {L : Bs} {p : Nat} (h : smallB (pk L p) = true) : rStmt L p = (rRun L p).bind (rStmt2 L p) := by
 unfold rStmt;rw [if_pos h];rfl
theorem st_no {w0 w : World} {l0 lo b gp gq : Nat} {s : ByteArray} {p : Nat} {R0 R1 R2 R3 R4 R5 : Value} {A : List (ByteArray × Int × ByteArray)} {B : List (ByteArray × Int)} {C : List PRule} {a1 a2 a3 : List Nat} (h : SQ w0 w l0 lo b gp gq s (.ok p) R0 R1 R2 R3 R4 R5 A B C a1 a2 a3) (hs : smallB (pk (bl s) p) = false) :
    Calls Tryd.prog 24 #[.pointer (some ⟨b,0,none⟩),.pointer (some ⟨gp,0,none⟩),.pointer (some ⟨gq,0,none⟩)] w (StP w0 l0 lo b gp gq s A B C a1 a2 a3 (rStmt (bl s) p)) := by
 have hA : Rd w b s (p : Int) false := h.rd;have hA' := Lh hA;replace h := Lh h;have hen := fun wA h => re_end (w := wA) (b := b) (s := s) (p := (p : Int)) (d := false) h;have hpk := fun wA h => re_peek (w := wA) (b := b) (s := s) (p := (p : Int)) (d := false) h;have hdc : Hid (Drawn w w) := Lh (Drawn.refl _);have hple : (p : Int) ≤ s.size := hA.le
 obtain ⟨c0,c1,c2,-⟩ := hA.cells;have hR : rStmt (bl s) p = .error (p : Int) := by unfold rStmt;rw [if_neg (by rw [hs];decide)]
 have hR' := Lh hR;clear hR
 by_cases hlt : p < s.size
 · rw [show decide ((s.size : Int) ≤ (p : Int)) = false from decide_eq_false (by omega)] at hen;rw [pe_in s p hlt] at hpk;have hsm := fun wA => r8_small (pk (bl s) p) wA;rw [hs] at hsm;clear hs;generalize pk (bl s) p = c at hpk hsm;go_enter Tryd.func24,Tryd.ntmps24
   go_wp2_with (first
     | (go_at_call 23;refine (hen _ (hA'.out.drawn hdc.out)).mono ?_;rintro e w1 ⟨rfl,hd1⟩;replace hdc := Lh (hdc.out.trans hd1);have hr1 := hA'.out.drawn hdc.out;obtain ⟨e0,e1,e2,e3,e4⟩ := hr1.cells;clear hd1)
     | (go_at_call 38;refine (hpk _ (hA'.out.drawn hdc.out)).mono ?_;rintro e w1 ⟨rfl,hd1⟩;replace hdc := Lh (hdc.out.trans hd1);have hr1 := hA'.out.drawn hdc.out;obtain ⟨e0,e1,e2,e3,e4⟩ := hr1.cells;clear hd1)
     | (go_at_call 39;refine (hsm _).mono ?_;rintro e w' ⟨rfl,rfl⟩)
     | (go_at_call 40;refine (re_stop hr1 (p : Int) (by omega) hple).mono ?_;rintro e w2 ⟨rfl,hr20,hm20⟩;have h2 : Hid (SQ w0 w2 l0 lo b gp gq s (.error (p : Int)) R0 R1 R2 R3 R4 R5 A B C a1 a2 a3) := Lh ((h.out.below (hdc.out.below _)).step hm20 hr20);clear hm20 hr20))
   refine bodyPost_ret (results_none (by kernel_rfl) _ _ _) rfl ?_;exact StP.err hR'.out h2.out
 · rw [show decide ((s.size : Int) ≤ (p : Int)) = true from decide_eq_true (by omega)] at hen;clear hs hpk;go_enter Tryd.func24,Tryd.ntmps24
   go_wp2_with (first
     | (go_at_call 23;refine (hen _ (hA'.out.drawn hdc.out)).mono ?_;rintro e w1 ⟨rfl,hd1⟩;replace hdc := Lh (hdc.out.trans hd1);have hr1 := hA'.out.drawn hdc.out;obtain ⟨e0,e1,e2,e3,e4⟩ := hr1.cells;clear hd1)
     | (go_at_call 40;refine (re_stop hr1 (p : Int) (by omega) hple).mono ?_;rintro e w2 ⟨rfl,hr20,hm20⟩;have h2 : Hid (SQ w0 w2 l0 lo b gp gq s (.error (p : Int)) R0 R1 R2 R3 R4 R5 A B C a1 a2 a3) := Lh ((h.out.below (hdc.out.below _)).step hm20 hr20);clear hm20 hr20))
   refine bodyPost_ret (results_none (by kernel_rfl) _ _ _) rfl ?_;exact StP.err hR'.out h2.out
theorem st_run {w0 w : World} {l0 lo b gp gq : Nat} {s : ByteArray} {p : Nat} {R0 R1 R2 R3 R4 R5 : Value} {A : List (ByteArray × Int × ByteArray)} {B : List (ByteArray × Int)} {C : List PRule} {a1 a2 a3 : List Nat} (h : SQ w0 w l0 lo b gp gq s (.ok p) R0 R1 R2 R3 R4 R5 A B C a1 a2 a3) {er : Int} (hs : smallB (pk (bl s) p) = true) (hx : rRun (bl s) p = .error er) :
    Calls Tryd.prog 24 #[.pointer (some ⟨b,0,none⟩),.pointer (some ⟨gp,0,none⟩),.pointer (some ⟨gq,0,none⟩)] w (StP w0 l0 lo b gp gq s A B C a1 a2 a3 (rStmt (bl s) p)) := by
 have hA : Rd w b s (p : Int) false := h.rd;have hA' := Lh hA;replace h := Lh h;have hen := fun wA h => re_end (w := wA) (b := b) (s := s) (p := (p : Int)) (d := false) h;have hpk := fun wA h => re_peek (w := wA) (b := b) (s := s) (p := (p : Int)) (d := false) h;have hdc : Hid (Drawn w w) := Lh (Drawn.refl _);have hple : (p : Int) ≤ s.size := hA.le
 obtain ⟨c0,c1,c2,-⟩ := hA.cells
 have hlt : p < s.size := by
  rcases Nat.lt_or_ge p s.size with h | h
  · exact h
  · rw [(pe_out s p (by omega)).2] at hs;cases hs
 rw [show decide ((s.size : Int) ≤ (p : Int)) = false from decide_eq_false (by omega)] at hen;rw [pe_in s p hlt] at hpk;have hsm := fun wA => r8_small (pk (bl s) p) wA;rw [hs] at hsm;have hrn := fun wA h => re_run (w := wA) (b := b) (s := s) (p := p) h;rw [hx] at hrn;unfold RePost at hrn;have hst0 := rStmt_run hs;rw [hx] at hst0;obtain ⟨R,hRd⟩ : ∃ R,R = rStmt (bl s) p := ⟨_,rfl⟩
 rw [← hRd] at hst0 ⊢;clear hx hs hRd;generalize pk (bl s) p = c at hpk hsm;replace hrn := Lh hrn;have hR : Hid (R = .error er) := Lh hst0;clear hst0;go_enter Tryd.func24,Tryd.ntmps24
 go_wp2_with (first
   | (go_at_call 23;refine (hen _ (hA'.out.drawn hdc.out)).mono ?_;rintro e w1 ⟨rfl,hd1⟩;replace hdc := Lh (hdc.out.trans hd1);have hr1 := hA'.out.drawn hdc.out;obtain ⟨e0,e1,e2,e3,e4⟩ := hr1.cells;clear hd1)
   | (go_at_call 38;refine (hpk _ (hA'.out.drawn hdc.out)).mono ?_;rintro e w1 ⟨rfl,hd1⟩;replace hdc := Lh (hdc.out.trans hd1);have hr1 := hA'.out.drawn hdc.out;obtain ⟨e0,e1,e2,e3,e4⟩ := hr1.cells;clear hd1)
   | (go_at_call 39;refine (hsm _).mono ?_;rintro e w' ⟨rfl,rfl⟩)
   | (go_at_call 41;refine (hrn.out _ (hA'.out.drawn hdc.out)).mono ?_;rintro e w3 ⟨v3,x3,rfl,hv3,-,hr30,hm30⟩;unfold VStr at hv3;subst hv3;have hr3 : Rd w3 b s er true := hr30;obtain ⟨g0,g1,g2,g3,g4⟩ := hr3.cells;have h3 : Hid (SQ w0 w3 l0 lo b gp gq s (.error er) R0 R1 R2 R3 R4 R5 A B C a1 a2 a3) := Lh ((h.out.below (hdc.out.below _)).step hm30 hr30);clear hm30 hr30))
 refine bodyPost_ret (results_none (by kernel_rfl) _ _ _) rfl ?_;exact StP.err hR.out h3.out
theorem st_res {w0 w : World} {l0 lo b gp gq : Nat} {s : ByteArray} {p : Nat} {R0 R1 R2 R3 R4 R5 : Value} {A : List (ByteArray × Int × ByteArray)} {B : List (ByteArray × Int)} {C : List PRule} {a1 a2 a3 : List Nat} (h : SQ w0 w l0 lo b gp gq s (.ok p) R0 R1 R2 R3 R4 R5 A B C a1 a2 a3) {x : Bs} {q : Nat} (hs : smallB (pk (bl s) p) = true) (hx : rRun (bl s) p = .ok (x,q)) (hxi : ¬ x = sInput) (hxo : ¬ x = sOutput) (hres : reservedB x = true) (hbl : q = s.size ∨ (q < s.size ∧ blankB (pk (bl s) q) = true) ∨ (q < s.size ∧ blankB (pk (bl s) q) = false ∧ pk (bl s) q = 37) ∨ (q < s.size ∧ blankB (pk (bl s) q) = false ∧ ¬ pk (bl s) q = 37)) :
    Calls Tryd.prog 24 #[.pointer (some ⟨b,0,none⟩),.pointer (some ⟨gp,0,none⟩),.pointer (some ⟨gq,0,none⟩)] w (StP w0 l0 lo b gp gq s A B C a1 a2 a3 (rStmt (bl s) p)) := by
 have hA : Rd w b s (p : Int) false := h.rd;have hA' := Lh hA;replace h := Lh h;have hen := fun wA h => re_end (w := wA) (b := b) (s := s) (p := (p : Int)) (d := false) h;have hpk := fun wA h => re_peek (w := wA) (b := b) (s := s) (p := (p : Int)) (d := false) h;have hdc : Hid (Drawn w w) := Lh (Drawn.refl _);have hple : (p : Int) ≤ s.size := hA.le
 obtain ⟨c0,c1,c2,-⟩ := hA.cells
 have hlt : p < s.size := by
  rcases Nat.lt_or_ge p s.size with h | h
  · exact h
  · rw [(pe_out s p (by omega)).2] at hs;cases hs
 rw [show decide ((s.size : Int) ≤ (p : Int)) = false from decide_eq_false (by omega)] at hen;rw [pe_in s p hlt] at hpk;have hsm := fun wA => r8_small (pk (bl s) p) wA;rw [hs] at hsm;have hrn := fun wA h => re_run (w := wA) (b := b) (s := s) (p := p) h;rw [hx] at hrn;unfold RePost at hrn;have hst0 := rStmt_run hs;rw [hx] at hst0;obtain ⟨R,hRd⟩ : ∃ R,R = rStmt (bl s) p := ⟨_,rfl⟩
 rw [← hRd] at hst0 ⊢;clear hx hs hRd;generalize pk (bl s) p = c at hpk hsm;replace hrn := Lh hrn;have hin := eq_str (mk x) sInput;have hou := eq_str (mk x) sOutput;rw [bl_mk] at hin hou;rw [decide_eq_false hxi] at hin;rw [decide_eq_false hxo] at hou;unfold sInput at hin;unfold sOutput at hou;have hrs := fun wA => r8_Reserved (mk x) wA;rw [bl_mk,hres] at hrs
 have hR : Hid (R = .error (q : Int)) := Lh (by rw [hst0];show rStmt2 (bl s) p (x,q) = _;unfold rStmt2;dsimp only;rw [if_neg (fun hh => by rcases hh.1 with h1 | h1 <;> contradiction),if_pos hres]);clear hst0 hres hxi hxo;go_enter Tryd.func24,Tryd.ntmps24
 go_upto_region 5 with (first
   | (go_at_call 23;refine (hen _ (hA'.out.drawn hdc.out)).mono ?_;rintro e w1 ⟨rfl,hd1⟩;replace hdc := Lh (hdc.out.trans hd1);have hr1 := hA'.out.drawn hdc.out;obtain ⟨e0,e1,e2,e3,e4⟩ := hr1.cells;clear hd1)
   | (go_at_call 38;refine (hpk _ (hA'.out.drawn hdc.out)).mono ?_;rintro e w1 ⟨rfl,hd1⟩;replace hdc := Lh (hdc.out.trans hd1);have hr1 := hA'.out.drawn hdc.out;obtain ⟨e0,e1,e2,e3,e4⟩ := hr1.cells;clear hd1)
   | (go_at_call 39;refine (hsm _).mono ?_;rintro e w' ⟨rfl,rfl⟩)
   | (go_at_call 41;refine (hrn.out _ (hA'.out.drawn hdc.out)).mono ?_;rintro e w3 ⟨v3,x3,rfl,hv3,hx3,hr30,hm30⟩;unfold VStr at hv3;subst hv3;obtain rfl : x3 = x := hx3 _ rfl;have hr3 : Rd w3 b s (q : Int) false := hr30;obtain ⟨g0,g1,g2,g3,g4⟩ := hr3.cells
      have h3 : Hid (SQ w0 w3 l0 lo b gp gq s (.ok q) R0 R1 R2 R3 R4 R5 A B C a1 a2 a3) := Lh ((h.out.below (hdc.out.below _)).step hm30 hr30);have hB' := Lh hr3;have hdc3 : Hid (Drawn w3 w3) := Lh (Drawn.refl _);clear hm30 hx3 hr30 hrn hen hpk hsm hdc))
 go_cut [8] from 37 to 48 (fun v8 wx => ∃ bv : Bool,v8 = .bool bv ∧ Hid (SQ w0 wx l0 lo b gp gq s (.ok q) R0 R1 R2 R3 R4 R5 A B C a1 a2 a3))
 case first =>
  rcases hbl with hq | ⟨hq,hb⟩ | ⟨hq,hb,hc⟩ | ⟨hq,hb,hc⟩
  · have hen3 := fun wA h => re_end (w := wA) (b := b) (s := s) (p := (q : Int)) (d := false) h;rw [show decide ((s.size : Int) ≤ (q : Int)) = true from decide_eq_true (by omega)] at hen3;clear hq
    go_wp2_with (first
      | (go_at_call 23;refine (hen3 _ (hB'.out.drawn hdc3.out)).mono ?_;rintro e w4 ⟨rfl,hd1⟩;replace hdc3 := Lh (hdc3.out.trans hd1);replace hr3 := hB'.out.drawn hdc3.out;obtain ⟨e0,e1,e2,e3,e4⟩ := hr3.cells;clear hd1))
    go_meet
    case rel => exact ⟨_,rfl,Lh (h3.out.below (hdc3.out.below _))⟩
  · have hen3 := fun wA h => re_end (w := wA) (b := b) (s := s) (p := (q : Int)) (d := false) h;have hpk3 := fun wA h => re_peek (w := wA) (b := b) (s := s) (p := (q : Int)) (d := false) h;rw [show decide ((s.size : Int) ≤ (q : Int)) = false from decide_eq_false (by omega)] at hen3;rw [pe_in s q hq] at hpk3;have hbk := fun wA => r8_blank (pk (bl s) q) wA;rw [hb] at hbk;clear hb
    generalize pk (bl s) q = cq at *
    go_wp2_with (first
      | (go_at_call 23;refine (hen3 _ (hB'.out.drawn hdc3.out)).mono ?_;rintro e w4 ⟨rfl,hd1⟩;replace hdc3 := Lh (hdc3.out.trans hd1);replace hr3 := hB'.out.drawn hdc3.out;obtain ⟨e0,e1,e2,e3,e4⟩ := hr3.cells;clear hd1)
      | (go_at_call 38;refine (hpk3 _ (hB'.out.drawn hdc3.out)).mono ?_;rintro e w4 ⟨rfl,hd1⟩;replace hdc3 := Lh (hdc3.out.trans hd1);replace hr3 := hB'.out.drawn hdc3.out;obtain ⟨e0,e1,e2,e3,e4⟩ := hr3.cells;clear hd1)
      | (go_at_call 37;refine (hbk _).mono ?_;rintro e w' ⟨rfl,rfl⟩))
    go_meet
    case rel => exact ⟨_,rfl,Lh (h3.out.below (hdc3.out.below _))⟩
  · have hen3 := fun wA h => re_end (w := wA) (b := b) (s := s) (p := (q : Int)) (d := false) h;have hpk3 := fun wA h => re_peek (w := wA) (b := b) (s := s) (p := (q : Int)) (d := false) h;rw [show decide ((s.size : Int) ≤ (q : Int)) = false from decide_eq_false (by omega)] at hen3;rw [pe_in s q hq] at hpk3;have hbk := fun wA => r8_blank (pk (bl s) q) wA;rw [hb] at hbk;clear hb
    generalize pk (bl s) q = cq at *;subst hc
    go_wp2_with (first
      | (go_at_call 23;refine (hen3 _ (hB'.out.drawn hdc3.out)).mono ?_;rintro e w4 ⟨rfl,hd1⟩;replace hdc3 := Lh (hdc3.out.trans hd1);replace hr3 := hB'.out.drawn hdc3.out;obtain ⟨e0,e1,e2,e3,e4⟩ := hr3.cells;clear hd1)
      | (go_at_call 38;refine (hpk3 _ (hB'.out.drawn hdc3.out)).mono ?_;rintro e w4 ⟨rfl,hd1⟩;replace hdc3 := Lh (hdc3.out.trans hd1);replace hr3 := hB'.out.drawn hdc3.out;obtain ⟨e0,e1,e2,e3,e4⟩ := hr3.cells;clear hd1)
      | (go_at_call 37;refine (hbk _).mono ?_;rintro e w' ⟨rfl,rfl⟩))
    go_meet
    case rel => exact ⟨_,rfl,Lh (h3.out.below (hdc3.out.below _))⟩
  · have hen3 := fun wA h => re_end (w := wA) (b := b) (s := s) (p := (q : Int)) (d := false) h;have hpk3 := fun wA h => re_peek (w := wA) (b := b) (s := s) (p := (q : Int)) (d := false) h;rw [show decide ((s.size : Int) ≤ (q : Int)) = false from decide_eq_false (by omega)] at hen3;rw [pe_in s q hq] at hpk3;have hbk := fun wA => r8_blank (pk (bl s) q) wA;rw [hb] at hbk;clear hb
    generalize pk (bl s) q = cq at *;have hcq : (cq == 37) = false := by rw [beq_eq_false_iff_ne];exact hc
    go_wp2_with (first
      | (go_at_call 23;refine (hen3 _ (hB'.out.drawn hdc3.out)).mono ?_;rintro e w4 ⟨rfl,hd1⟩;replace hdc3 := Lh (hdc3.out.trans hd1);replace hr3 := hB'.out.drawn hdc3.out;obtain ⟨e0,e1,e2,e3,e4⟩ := hr3.cells;clear hd1)
      | (go_at_call 38;refine (hpk3 _ (hB'.out.drawn hdc3.out)).mono ?_;rintro e w4 ⟨rfl,hd1⟩;replace hdc3 := Lh (hdc3.out.trans hd1);replace hr3 := hB'.out.drawn hdc3.out;obtain ⟨e0,e1,e2,e3,e4⟩ := hr3.cells;clear hd1)
      | (go_at_call 37;refine (hbk _).mono ?_;rintro e w' ⟨rfl,rfl⟩))
    go_meet
    case rel => exact ⟨_,rfl,Lh (h3.out.below (hdc3.out.below _))⟩
 case rest =>
  clear h3 hB' hdc3 hr3 g0 g1 g2 g3 g4 hbl;obtain ⟨bv,rfl,h3⟩ := hcut;have hr3 : Rd wc b s (q : Int) false := h3.out.rd;obtain ⟨g0,g1,g2,g3,g4⟩ := hr3.cells;have hB' := Lh hr3;have hdc3 : Hid (Drawn wc wc) := Lh (Drawn.refl _)
  go_wp2_with (first
    | (go_at_call 45;refine (hrs _).mono ?_;rintro e w' ⟨rfl,rfl⟩)
    | (go_at_call 40;refine (re_stop hr3 (q : Int) (by omega) hr3.le).mono ?_;rintro e w5 ⟨rfl,hr50,hm50⟩;have h5 : Hid (SQ w0 w5 l0 lo b gp gq s (.error (q : Int)) R0 R1 R2 R3 R4 R5 A B C a1 a2 a3) := Lh ((h3.out.below (hdc3.out.below _)).step hm50 hr50);clear hm50 hr50))
  refine bodyPost_ret (results_none (by kernel_rfl) _ _ _) rfl ?_;exact StP.err hR.out h5.out
theorem st_resI {w0 w : World} {l0 lo b gp gq : Nat} {s : ByteArray} {p : Nat} {R0 R1 R2 R3 R4 R5 : Value} {A : List (ByteArray × Int × ByteArray)} {B : List (ByteArray × Int)} {C : List PRule} {a1 a2 a3 : List Nat} (h : SQ w0 w l0 lo b gp gq s (.ok p) R0 R1 R2 R3 R4 R5 A B C a1 a2 a3) {x : Bs} {q : Nat} (hs : smallB (pk (bl s) p) = true) (hx : rRun (bl s) p = .ok (x,q)) (hxi : x = sInput) (hxo : ¬ x = sOutput) (hres : reservedB x = true) (hbl : (q < s.size ∧ blankB (pk (bl s) q) = false ∧ ¬ pk (bl s) q = 37)) :
    Calls Tryd.prog 24 #[.pointer (some ⟨b,0,none⟩),.pointer (some ⟨gp,0,none⟩),.pointer (some ⟨gq,0,none⟩)] w (StP w0 l0 lo b gp gq s A B C a1 a2 a3 (rStmt (bl s) p)) := by
 have hA : Rd w b s (p : Int) false := h.rd;have hA' := Lh hA;replace h := Lh h;have hen := fun wA h => re_end (w := wA) (b := b) (s := s) (p := (p : Int)) (d := false) h;have hpk := fun wA h => re_peek (w := wA) (b := b) (s := s) (p := (p : Int)) (d := false) h;have hdc : Hid (Drawn w w) := Lh (Drawn.refl _);have hple : (p : Int) ≤ s.size := hA.le
 obtain ⟨c0,c1,c2,-⟩ := hA.cells
 have hlt : p < s.size := by
  rcases Nat.lt_or_ge p s.size with h | h
  · exact h
  · rw [(pe_out s p (by omega)).2] at hs;cases hs
 rw [show decide ((s.size : Int) ≤ (p : Int)) = false from decide_eq_false (by omega)] at hen;rw [pe_in s p hlt] at hpk;have hsm := fun wA => r8_small (pk (bl s) p) wA;rw [hs] at hsm;have hrn := fun wA h => re_run (w := wA) (b := b) (s := s) (p := p) h;rw [hx] at hrn;unfold RePost at hrn;have hst0 := rStmt_run hs;rw [hx] at hst0;obtain ⟨R,hRd⟩ : ∃ R,R = rStmt (bl s) p := ⟨_,rfl⟩
 rw [← hRd] at hst0 ⊢;clear hx hs hRd;generalize pk (bl s) p = c at hpk hsm;replace hrn := Lh hrn
 have hno : Hid (¬ (pk (bl s) q = -1 ∨ blankB (pk (bl s) q) = true ∨ pk (bl s) q = 37)) := Lh (by
  obtain ⟨h1,h2,h3⟩ := hbl;rintro (h4 | h4 | h4)
  · rw [pk_bat,if_pos h1] at h4;have := (bat_range s q).1;omega
  · rw [h2] at h4;cases h4
  · exact h3 h4)
 have hin := eq_str (mk x) sInput;have hou := eq_str (mk x) sOutput;rw [bl_mk] at hin hou;rw [decide_eq_true hxi] at hin;rw [decide_eq_false hxo] at hou;unfold sInput at hin;unfold sOutput at hou;have hrs := fun wA => r8_Reserved (mk x) wA;rw [bl_mk,hres] at hrs
 have hR : Hid (R = .error (q : Int)) := Lh (by rw [hst0];show rStmt2 (bl s) p (x,q) = _;unfold rStmt2;dsimp only;rw [if_neg (fun hh => hno.out hh.2),if_pos hres]);clear hst0 hres hxi hxo hno;obtain ⟨hq,hb,hc⟩ := hbl;have hen3 := fun wA h => re_end (w := wA) (b := b) (s := s) (p := (q : Int)) (d := false) h
 have hpk3 := fun wA h => re_peek (w := wA) (b := b) (s := s) (p := (q : Int)) (d := false) h;rw [show decide ((s.size : Int) ≤ (q : Int)) = false from decide_eq_false (by omega)] at hen3;rw [pe_in s q hq] at hpk3;have hbk := fun wA => r8_blank (pk (bl s) q) wA;rw [hb] at hbk;clear hb;generalize pk (bl s) q = cq at *;have hcq : (cq == 37) = false := by rw [beq_eq_false_iff_ne];exact hc
 go_enter Tryd.func24,Tryd.ntmps24
 go_wp2_with (first
   | (go_at_call 23;refine (hen _ (hA'.out.drawn hdc.out)).mono ?_;rintro e w1 ⟨rfl,hd1⟩;replace hdc := Lh (hdc.out.trans hd1);have hr1 := hA'.out.drawn hdc.out;obtain ⟨e0,e1,e2,e3,e4⟩ := hr1.cells;clear hd1)
   | (go_at_call 38;refine (hpk _ (hA'.out.drawn hdc.out)).mono ?_;rintro e w1 ⟨rfl,hd1⟩;replace hdc := Lh (hdc.out.trans hd1);have hr1 := hA'.out.drawn hdc.out;obtain ⟨e0,e1,e2,e3,e4⟩ := hr1.cells;clear hd1)
   | (go_at_call 39;refine (hsm _).mono ?_;rintro e w' ⟨rfl,rfl⟩)
   | (go_at_call 41;refine (hrn.out _ (hA'.out.drawn hdc.out)).mono ?_;rintro e w3 ⟨v3,x3,rfl,hv3,hx3,hr30,hm30⟩;unfold VStr at hv3;subst hv3;obtain rfl : x3 = x := hx3 _ rfl;have hr3 : Rd w3 b s (q : Int) false := hr30;obtain ⟨g0,g1,g2,g3,g4⟩ := hr3.cells
      have h3 : Hid (SQ w0 w3 l0 lo b gp gq s (.ok q) R0 R1 R2 R3 R4 R5 A B C a1 a2 a3) := Lh ((h.out.below (hdc.out.below _)).step hm30 hr30);have hB' := Lh hr3;have hdc3 : Hid (Drawn w3 w3) := Lh (Drawn.refl _);clear hm30 hx3 hr30 hrn hen hpk hsm hdc)
   | (go_at_call 23;refine (hen3 _ (hB'.out.drawn hdc3.out)).mono ?_;rintro e w4 ⟨rfl,hd1⟩;replace hdc3 := Lh (hdc3.out.trans hd1);replace hr3 := hB'.out.drawn hdc3.out;obtain ⟨e0,e1,e2,e3,e4⟩ := hr3.cells;clear hd1)
   | (go_at_call 38;refine (hpk3 _ (hB'.out.drawn hdc3.out)).mono ?_;rintro e w4 ⟨rfl,hd1⟩;replace hdc3 := Lh (hdc3.out.trans hd1);replace hr3 := hB'.out.drawn hdc3.out;obtain ⟨e0,e1,e2,e3,e4⟩ := hr3.cells;clear hd1)
   | (go_at_call 37;refine (hbk _).mono ?_;rintro e w' ⟨rfl,rfl⟩)
   | (go_at_call 45;refine (hrs _).mono ?_;rintro e w' ⟨rfl,rfl⟩)
   | (go_at_call 40;refine (re_stop hr3 (q : Int) (by omega) hr3.le).mono ?_;rintro e w5 ⟨rfl,hr50,hm50⟩;have h5 : Hid (SQ w0 w5 l0 lo b gp gq s (.error (q : Int)) R0 R1 R2 R3 R4 R5 A B C a1 a2 a3) := Lh ((h3.out.below (hdc3.out.below _)).step hm50 hr50);clear hm50 hr50))
 refine bodyPost_ret (results_none (by kernel_rfl) _ _ _) rfl ?_;exact StP.err hR.out h5.out
theorem st_resO {w0 w : World} {l0 lo b gp gq : Nat} {s : ByteArray} {p : Nat} {R0 R1 R2 R3 R4 R5 : Value} {A : List (ByteArray × Int × ByteArray)} {B : List (ByteArray × Int)} {C : List PRule} {a1 a2 a3 : List Nat} (h : SQ w0 w l0 lo b gp gq s (.ok p) R0 R1 R2 R3 R4 R5 A B C a1 a2 a3) {x : Bs} {q : Nat} (hs : smallB (pk (bl s) p) = true) (hx : rRun (bl s) p = .ok (x,q)) (hxi : ¬ x = sInput) (hxo : x = sOutput) (hres : reservedB x = true) (hbl : (q < s.size ∧ blankB (pk (bl s) q) = false ∧ ¬ pk (bl s) q = 37)) :
    Calls Tryd.prog 24 #[.pointer (some ⟨b,0,none⟩),.pointer (some ⟨gp,0,none⟩),.pointer (some ⟨gq,0,none⟩)] w (StP w0 l0 lo b gp gq s A B C a1 a2 a3 (rStmt (bl s) p)) := by
 have hA : Rd w b s (p : Int) false := h.rd;have hA' := Lh hA;replace h := Lh h;have hen := fun wA h => re_end (w := wA) (b := b) (s := s) (p := (p : Int)) (d := false) h;have hpk := fun wA h => re_peek (w := wA) (b := b) (s := s) (p := (p : Int)) (d := false) h;have hdc : Hid (Drawn w w) := Lh (Drawn.refl _);have hple : (p : Int) ≤ s.size := hA.le
 obtain ⟨c0,c1,c2,-⟩ := hA.cells
 have hlt : p < s.size := by
  rcases Nat.lt_or_ge p s.size with h | h
  · exact h
  · rw [(pe_out s p (by omega)).2] at hs;cases hs
 rw [show decide ((s.size : Int) ≤ (p : Int)) = false from decide_eq_false (by omega)] at hen;rw [pe_in s p hlt] at hpk;have hsm := fun wA => r8_small (pk (bl s) p) wA;rw [hs] at hsm;have hrn := fun wA h => re_run (w := wA) (b := b) (s := s) (p := p) h;rw [hx] at hrn;unfold RePost at hrn;have hst0 := rStmt_run hs;rw [hx] at hst0;obtain ⟨R,hRd⟩ : ∃ R,R = rStmt (bl s) p := ⟨_,rfl⟩
 rw [← hRd] at hst0 ⊢;clear hx hs hRd;generalize pk (bl s) p = c at hpk hsm;replace hrn := Lh hrn
 have hno : Hid (¬ (pk (bl s) q = -1 ∨ blankB (pk (bl s) q) = true ∨ pk (bl s) q = 37)) := Lh (by
  obtain ⟨h1,h2,h3⟩ := hbl;rintro (h4 | h4 | h4)
  · rw [pk_bat,if_pos h1] at h4;have := (bat_range s q).1;omega
  · rw [h2] at h4;cases h4
  · exact h3 h4)
 have hin := eq_str (mk x) sInput;have hou := eq_str (mk x) sOutput;rw [bl_mk] at hin hou;rw [decide_eq_false hxi] at hin;rw [decide_eq_true hxo] at hou;unfold sInput at hin;unfold sOutput at hou;have hrs := fun wA => r8_Reserved (mk x) wA;rw [bl_mk,hres] at hrs
 have hR : Hid (R = .error (q : Int)) := Lh (by rw [hst0];show rStmt2 (bl s) p (x,q) = _;unfold rStmt2;dsimp only;rw [if_neg (fun hh => hno.out hh.2),if_pos hres]);clear hst0 hres hxi hxo hno;obtain ⟨hq,hb,hc⟩ := hbl;have hen3 := fun wA h => re_end (w := wA) (b := b) (s := s) (p := (q : Int)) (d := false) h
 have hpk3 := fun wA h => re_peek (w := wA) (b := b) (s := s) (p := (q : Int)) (d := false) h;rw [show decide ((s.size : Int) ≤ (q : Int)) = false from decide_eq_false (by omega)] at hen3;rw [pe_in s q hq] at hpk3;have hbk := fun wA => r8_blank (pk (bl s) q) wA;rw [hb] at hbk;clear hb;generalize pk (bl s) q = cq at *;have hcq : (cq == 37) = false := by rw [beq_eq_false_iff_ne];exact hc
 go_enter Tryd.func24,Tryd.ntmps24
 go_wp2_with (first
   | (go_at_call 23;refine (hen _ (hA'.out.drawn hdc.out)).mono ?_;rintro e w1 ⟨rfl,hd1⟩;replace hdc := Lh (hdc.out.trans hd1);have hr1 := hA'.out.drawn hdc.out;obtain ⟨e0,e1,e2,e3,e4⟩ := hr1.cells;clear hd1)
   | (go_at_call 38;refine (hpk _ (hA'.out.drawn hdc.out)).mono ?_;rintro e w1 ⟨rfl,hd1⟩;replace hdc := Lh (hdc.out.trans hd1);have hr1 := hA'.out.drawn hdc.out;obtain ⟨e0,e1,e2,e3,e4⟩ := hr1.cells;clear hd1)
   | (go_at_call 39;refine (hsm _).mono ?_;rintro e w' ⟨rfl,rfl⟩)
   | (go_at_call 41;refine (hrn.out _ (hA'.out.drawn hdc.out)).mono ?_;rintro e w3 ⟨v3,x3,rfl,hv3,hx3,hr30,hm30⟩;unfold VStr at hv3;subst hv3;obtain rfl : x3 = x := hx3 _ rfl;have hr3 : Rd w3 b s (q : Int) false := hr30;obtain ⟨g0,g1,g2,g3,g4⟩ := hr3.cells
      have h3 : Hid (SQ w0 w3 l0 lo b gp gq s (.ok q) R0 R1 R2 R3 R4 R5 A B C a1 a2 a3) := Lh ((h.out.below (hdc.out.below _)).step hm30 hr30);have hB' := Lh hr3;have hdc3 : Hid (Drawn w3 w3) := Lh (Drawn.refl _);clear hm30 hx3 hr30 hrn hen hpk hsm hdc)
   | (go_at_call 23;refine (hen3 _ (hB'.out.drawn hdc3.out)).mono ?_;rintro e w4 ⟨rfl,hd1⟩;replace hdc3 := Lh (hdc3.out.trans hd1);replace hr3 := hB'.out.drawn hdc3.out;obtain ⟨e0,e1,e2,e3,e4⟩ := hr3.cells;clear hd1)
   | (go_at_call 38;refine (hpk3 _ (hB'.out.drawn hdc3.out)).mono ?_;rintro e w4 ⟨rfl,hd1⟩;replace hdc3 := Lh (hdc3.out.trans hd1);replace hr3 := hB'.out.drawn hdc3.out;obtain ⟨e0,e1,e2,e3,e4⟩ := hr3.cells;clear hd1)
   | (go_at_call 37;refine (hbk _).mono ?_;rintro e w' ⟨rfl,rfl⟩)
   | (go_at_call 45;refine (hrs _).mono ?_;rintro e w' ⟨rfl,rfl⟩)
   | (go_at_call 40;refine (re_stop hr3 (q : Int) (by omega) hr3.le).mono ?_;rintro e w5 ⟨rfl,hr50,hm50⟩;have h5 : Hid (SQ w0 w5 l0 lo b gp gq s (.error (q : Int)) R0 R1 R2 R3 R4 R5 A B C a1 a2 a3) := Lh ((h3.out.below (hdc3.out.below _)).step hm50 hr50);clear hm50 hr50))
 refine bodyPost_ret (results_none (by kernel_rfl) _ _ _) rfl ?_;exact StP.err hR.out h5.out
end Go.Proofs.YtmjincocmhadeaaDoor
/- Parse: the document's reader: a statement: output. (gen_pew.py) -/
namespace Go.Proofs.YtmjincocmhadeaaDoor
open Go.RowKit Lx
theorem StP.outp {w0 w' : World} {l0 lo b gp gq : Nat} {s : ByteArray} {R0 R1 R2 R3 R4 R5 : Value} {A : List (ByteArray × Int × ByteArray)} {B : List (ByteArray × Int)} {C : List PRule} {a1 a2 a3 : List Nat} {R : Except Int (Stmt × Nat)} {pr : ByteArray} {n : Int} {p q : Nat} (hR : R = .ok (.outp pr n p,q)) (h : SQ w0 w' l0 lo b gp gq s (.ok q) R0 R1 R2 R3 R4 R5 A (B ++ [(pr,n)]) C a1 (a2 ++ [p]) a3) : StP w0 l0 lo b gp gq s A B C a1 a2 a3 R (.returned (.tuple #[])) w' := by
 subst hR;refine ⟨rfl,R0,R1,R2,R3,R4,R5,?_⟩;show SQ w0 w' l0 lo b gp gq s (.ok q) R0 R1 R2 R3 R4 R5 (A ++ []) (B ++ [(pr,n)]) (C ++ []) (a1 ++ []) (a2 ++ [p]) (a3 ++ []);rw [List.append_nil,List.append_nil,List.append_nil,List.append_nil];exact h
theorem StP.inp {w0 w' : World} {l0 lo b gp gq : Nat} {s : ByteArray} {R0 R1 R2 R3 R4 R5 : Value} {A : List (ByteArray × Int × ByteArray)} {B : List (ByteArray × Int)} {C : List PRule} {a1 a2 a3 : List Nat} {R : Except Int (Stmt × Nat)} {pr f : ByteArray} {n : Int} {p q : Nat} (hR : R = .ok (.inp pr n f p,q)) (h : SQ w0 w' l0 lo b gp gq s (.ok q) R0 R1 R2 R3 R4 R5 (A ++ [(pr,n,f)]) B C (a1 ++ [p]) a2 a3) : StP w0 l0 lo b gp gq s A B C a1 a2 a3 R (.returned (.tuple #[])) w' := by
 subst hR;refine ⟨rfl,R0,R1,R2,R3,R4,R5,?_⟩;show SQ w0 w' l0 lo b gp gq s (.ok q) R0 R1 R2 R3 R4 R5 (A ++ [(pr,n,f)]) (B ++ []) (C ++ []) (a1 ++ [p]) (a2 ++ []) (a3 ++ []);rw [List.append_nil,List.append_nil,List.append_nil,List.append_nil];exact h
theorem StP.rul {w0 w' : World} {l0 lo b gp gq : Nat} {s : ByteArray} {R0 R1 R2 R3 R4 R5 : Value} {A : List (ByteArray × Int × ByteArray)} {B : List (ByteArray × Int)} {C : List PRule} {a1 a2 a3 : List Nat} {R : Except Int (Stmt × Nat)} {r : PRule} {p q : Nat} (hR : R = .ok (.rule r p,q)) (h : SQ w0 w' l0 lo b gp gq s (.ok q) R0 R1 R2 R3 R4 R5 A B (C ++ [r]) a1 a2 (a3 ++ [p])) : StP w0 l0 lo b gp gq s A B C a1 a2 a3 R (.returned (.tuple #[])) w' := by
 subst hR;refine ⟨rfl,R0,R1,R2,R3,R4,R5,?_⟩;show SQ w0 w' l0 lo b gp gq s (.ok q) R0 R1 R2 R3 R4 R5 (A ++ []) (B ++ []) (C ++ [r]) (a1 ++ []) (a2 ++ []) (a3 ++ [p]);rw [List.append_nil,List.append_nil,List.append_nil,List.append_nil];exact h
theorem rStmt2_out {L : Bs} {p q : Nat} {x : Bs} (hxi : ¬ x = sInput) (hxo : x = sOutput) (hy : pk L q = -1 ∨ blankB (pk L q) = true ∨ pk L q = 37) : rStmt2 L p (x,q) = (rSlash L q).bind fun a => (rSign 46 L a.2).bind fun q => .ok (.outp a.1.1 a.1.2 p,q) := by
 unfold rStmt2;dsimp only;rw [if_pos ⟨.inr hxo,hy⟩];simp only [if_neg hxi]
theorem rStmt2_in {L : Bs} {p q : Nat} {x : Bs} (hxi : x = sInput) (hy : pk L q = -1 ∨ blankB (pk L q) = true ∨ pk L q = 37) : rStmt2 L p (x,q) = (rSlash L q).bind fun a => (rText L a.2).bind fun f => (rSign 46 L (rSkip L f.2)).bind fun q => .ok (.inp a.1.1 a.1.2 (mk f.1) p,q) := by
 unfold rStmt2;dsimp only;rw [if_pos ⟨.inl hxi,hy⟩];simp only [if_pos hxi]
theorem st_out_slash {w0 w : World} {l0 lo b gp gq : Nat} {s : ByteArray} {p : Nat} {R0 R1 R2 R3 R4 R5 : Value} {A : List (ByteArray × Int × ByteArray)} {B : List (ByteArray × Int)} {C : List PRule} {a1 a2 a3 : List Nat} (h : SQ w0 w l0 lo b gp gq s (.ok p) R0 R1 R2 R3 R4 R5 A B C a1 a2 a3) {x : Bs} {q : Nat} (hs : smallB (pk (bl s) p) = true) (hx : rRun (bl s) p = .ok (x,q)) (hxi : ¬ x = sInput) (hxo : x = sOutput) {er : Int} (hsle : rSlash (bl s) q = .error er) (hbl : q = s.size ∨ (q < s.size ∧ blankB (pk (bl s) q) = true) ∨ (q < s.size ∧ blankB (pk (bl s) q) = false ∧ pk (bl s) q = 37)) :
    Calls Tryd.prog 24 #[.pointer (some ⟨b,0,none⟩),.pointer (some ⟨gp,0,none⟩),.pointer (some ⟨gq,0,none⟩)] w (StP w0 l0 lo b gp gq s A B C a1 a2 a3 (rStmt (bl s) p)) := by
 have hA : Rd w b s (p : Int) false := h.rd;have hA' := Lh hA;replace h := Lh h;have hen := fun wA h => re_end (w := wA) (b := b) (s := s) (p := (p : Int)) (d := false) h;have hpk := fun wA h => re_peek (w := wA) (b := b) (s := s) (p := (p : Int)) (d := false) h;have hdc : Hid (Drawn w w) := Lh (Drawn.refl _);have hple : (p : Int) ≤ s.size := hA.le
 obtain ⟨c0,c1,c2,-⟩ := hA.cells
 have hlt : p < s.size := by
  rcases Nat.lt_or_ge p s.size with h | h
  · exact h
  · rw [(pe_out s p (by omega)).2] at hs;cases hs
 rw [show decide ((s.size : Int) ≤ (p : Int)) = false from decide_eq_false (by omega)] at hen;rw [pe_in s p hlt] at hpk;have hsm := fun wA => r8_small (pk (bl s) p) wA;rw [hs] at hsm;have hrn := fun wA h => re_run (w := wA) (b := b) (s := s) (p := p) h;rw [hx] at hrn;unfold RePost at hrn;have hst0 := rStmt_run hs;rw [hx] at hst0;obtain ⟨R,hRd⟩ : ∃ R,R = rStmt (bl s) p := ⟨_,rfl⟩
 rw [← hRd] at hst0 ⊢;clear hx hs hRd;generalize pk (bl s) p = c at hpk hsm;replace hrn := Lh hrn
 have hyes : pk (bl s) q = -1 ∨ blankB (pk (bl s) q) = true ∨ pk (bl s) q = 37 := by
  rcases hbl with h1 | ⟨h1,h2⟩ | ⟨h1,h2,h3⟩
  · left;rw [(pe_out s q (by omega)).2]
  · exact .inr (.inl h2)
  · exact .inr (.inr h3)
 have hst1 : R = rStmt2 (bl s) p (x,q) := hst0;rw [rStmt2_out hxi hxo hyes] at hst1;have hin := eq_str (mk x) sInput;have hou := eq_str (mk x) sOutput;rw [bl_mk] at hin hou;rw [decide_eq_false hxi] at hin;rw [decide_eq_true hxo] at hou;unfold sInput at hin;unfold sOutput at hou;have hsl := fun wA h => re_slash (w := wA) (b := b) (s := s) (p := q) h;rw [hsle] at hsl hst1
 unfold RePost at hsl;replace hsl := Lh hsl;have hsg := fun wA h => re_sign (w := wA) (b := b) (s := s) (S := .error er) 46 (by decide) h;replace hsg := Lh hsg;have hR : Hid (R = .error er) := Lh hst1;clear hst0 hst1 hxi hxo hsle hyes;go_enter Tryd.func24,Tryd.ntmps24
 go_upto_region 5 with (first
   | (go_at_call 23;refine (hen _ (hA'.out.drawn hdc.out)).mono ?_;rintro e w1 ⟨rfl,hd1⟩;replace hdc := Lh (hdc.out.trans hd1);have hr1 := hA'.out.drawn hdc.out;obtain ⟨e0,e1,e2,e3,e4⟩ := hr1.cells;clear hd1)
   | (go_at_call 38;refine (hpk _ (hA'.out.drawn hdc.out)).mono ?_;rintro e w1 ⟨rfl,hd1⟩;replace hdc := Lh (hdc.out.trans hd1);have hr1 := hA'.out.drawn hdc.out;obtain ⟨e0,e1,e2,e3,e4⟩ := hr1.cells;clear hd1)
   | (go_at_call 39;refine (hsm _).mono ?_;rintro e w' ⟨rfl,rfl⟩)
   | (go_at_call 41;refine (hrn.out _ (hA'.out.drawn hdc.out)).mono ?_;rintro e w3 ⟨v3,x3,rfl,hv3,hx3,hr30,hm30⟩;unfold VStr at hv3;subst hv3;obtain rfl : x3 = x := hx3 _ rfl;have hr3 : Rd w3 b s (q : Int) false := hr30;obtain ⟨g0,g1,g2,g3,g4⟩ := hr3.cells
      have h3 : Hid (SQ w0 w3 l0 lo b gp gq s (.ok q) R0 R1 R2 R3 R4 R5 A B C a1 a2 a3) := Lh ((h.out.below (hdc.out.below _)).step hm30 hr30);have hB' := Lh hr3;have hdc3 : Hid (Drawn w3 w3) := Lh (Drawn.refl _);clear hm30 hx3 hr30 hrn hen hpk hsm hdc))
 go_cut [8] from 37 to 48 (fun v8 wx => v8 = .bool true ∧ Hid (SQ w0 wx l0 lo b gp gq s (.ok q) R0 R1 R2 R3 R4 R5 A B C a1 a2 a3))
 case first =>
  rcases hbl with hq | ⟨hq,hb⟩ | ⟨hq,hb,hc⟩
  · have hen3 := fun wA h => re_end (w := wA) (b := b) (s := s) (p := (q : Int)) (d := false) h;rw [show decide ((s.size : Int) ≤ (q : Int)) = true from decide_eq_true (by omega)] at hen3;clear hq
    go_wp2_with (first
      | (go_at_call 23;refine (hen3 _ (hB'.out.drawn hdc3.out)).mono ?_;rintro e w4 ⟨rfl,hd1⟩;replace hdc3 := Lh (hdc3.out.trans hd1);replace hr3 := hB'.out.drawn hdc3.out;obtain ⟨e0,e1,e2,e3,e4⟩ := hr3.cells;clear hd1))
    go_meet
    case rel => exact ⟨rfl,Lh (h3.out.below (hdc3.out.below _))⟩
  · have hen3 := fun wA h => re_end (w := wA) (b := b) (s := s) (p := (q : Int)) (d := false) h;have hpk3 := fun wA h => re_peek (w := wA) (b := b) (s := s) (p := (q : Int)) (d := false) h;rw [show decide ((s.size : Int) ≤ (q : Int)) = false from decide_eq_false (by omega)] at hen3;rw [pe_in s q hq] at hpk3;have hbk := fun wA => r8_blank (pk (bl s) q) wA;rw [hb] at hbk;clear hb
    generalize pk (bl s) q = cq at *
    go_wp2_with (first
      | (go_at_call 23;refine (hen3 _ (hB'.out.drawn hdc3.out)).mono ?_;rintro e w4 ⟨rfl,hd1⟩;replace hdc3 := Lh (hdc3.out.trans hd1);replace hr3 := hB'.out.drawn hdc3.out;obtain ⟨e0,e1,e2,e3,e4⟩ := hr3.cells;clear hd1)
      | (go_at_call 38;refine (hpk3 _ (hB'.out.drawn hdc3.out)).mono ?_;rintro e w4 ⟨rfl,hd1⟩;replace hdc3 := Lh (hdc3.out.trans hd1);replace hr3 := hB'.out.drawn hdc3.out;obtain ⟨e0,e1,e2,e3,e4⟩ := hr3.cells;clear hd1)
      | (go_at_call 37;refine (hbk _).mono ?_;rintro e w' ⟨rfl,rfl⟩))
    go_meet
    case rel => exact ⟨rfl,Lh (h3.out.below (hdc3.out.below _))⟩
  · have hen3 := fun wA h => re_end (w := wA) (b := b) (s := s) (p := (q : Int)) (d := false) h;have hpk3 := fun wA h => re_peek (w := wA) (b := b) (s := s) (p := (q : Int)) (d := false) h;rw [show decide ((s.size : Int) ≤ (q : Int)) = false from decide_eq_false (by omega)] at hen3;rw [pe_in s q hq] at hpk3;have hbk := fun wA => r8_blank (pk (bl s) q) wA;rw [hb] at hbk;clear hb
    generalize pk (bl s) q = cq at *;subst hc
    go_wp2_with (first
      | (go_at_call 23;refine (hen3 _ (hB'.out.drawn hdc3.out)).mono ?_;rintro e w4 ⟨rfl,hd1⟩;replace hdc3 := Lh (hdc3.out.trans hd1);replace hr3 := hB'.out.drawn hdc3.out;obtain ⟨e0,e1,e2,e3,e4⟩ := hr3.cells;clear hd1)
      | (go_at_call 38;refine (hpk3 _ (hB'.out.drawn hdc3.out)).mono ?_;rintro e w4 ⟨rfl,hd1⟩;replace hdc3 := Lh (hdc3.out.trans hd1);replace hr3 := hB'.out.drawn hdc3.out;obtain ⟨e0,e1,e2,e3,e4⟩ := hr3.cells;clear hd1)
      | (go_at_call 37;refine (hbk _).mono ?_;rintro e w' ⟨rfl,rfl⟩))
    go_meet
    case rel => exact ⟨rfl,Lh (h3.out.below (hdc3.out.below _))⟩
 case rest =>
  clear h3 hB' hdc3 hr3 g0 g1 g2 g3 g4 hbl;obtain ⟨rfl,h3⟩ := hcut;have hr3 : Rd wc b s (q : Int) false := h3.out.rd;obtain ⟨g0,g1,g2,g3,g4⟩ := hr3.cells;have hB' := Lh hr3;have hdc3 : Hid (Drawn wc wc) := Lh (Drawn.refl _)
  go_wp2_with (first
    | (go_at_call 42;refine (hsl.out _ (hB'.out.drawn hdc3.out)).mono ?_;rintro e w5 ⟨v5,x5,rfl,hv5,hx5,hr50,hm50⟩;unfold VSlash at hv5;subst hv5
       skip
       have hr5 : Rd w5 b s er true := hr50;obtain ⟨i0,i1,i2,-⟩ := hr5.cells;have h5 : Hid (SQ w0 w5 l0 lo b gp gq s (.error er) R0 R1 R2 R3 R4 R5 A B C a1 a2 a3) := Lh ((h3.out.below (hdc3.out.below _)).step hm50 hr50);clear hm50 hr50 hr5 hx5)
    | (go_at_call 44;refine (hsg.out _ h5.out.rd).mono ?_;rintro e w6 ⟨rfl,hr60,hm60⟩;have h6 : Hid (SQ w0 w6 l0 lo b gp gq s (.error er) R0 R1 R2 R3 R4 R5 A B C a1 a2 a3) := Lh (h5.out.step hm60 hr60);have hr6 : Rd w6 b s er true := hr60;obtain ⟨j0,j1,j2,-⟩ := hr6.cells;clear hm60 hr60 hr6))
  refine bodyPost_ret (results_none (by kernel_rfl) _ _ _) rfl ?_;exact StP.err hR.out h6.out
theorem st_out_dot {w0 w : World} {l0 lo b gp gq : Nat} {s : ByteArray} {p : Nat} {R0 R1 R2 R3 R4 R5 : Value} {A : List (ByteArray × Int × ByteArray)} {B : List (ByteArray × Int)} {C : List PRule} {a1 a2 a3 : List Nat} (h : SQ w0 w l0 lo b gp gq s (.ok p) R0 R1 R2 R3 R4 R5 A B C a1 a2 a3) {x : Bs} {q : Nat} (hs : smallB (pk (bl s) p) = true) (hx : rRun (bl s) p = .ok (x,q)) (hxi : ¬ x = sInput) (hxo : x = sOutput) {a : ByteArray × Int} {r : Nat} {er : Int} (hsle : rSlash (bl s) q = .ok (a,r)) (hdt : rSign 46 (bl s) r = .error er) (hbl : q = s.size ∨ (q < s.size ∧ blankB (pk (bl s) q) = true) ∨ (q < s.size ∧ blankB (pk (bl s) q) = false ∧ pk (bl s) q = 37)) :
    Calls Tryd.prog 24 #[.pointer (some ⟨b,0,none⟩),.pointer (some ⟨gp,0,none⟩),.pointer (some ⟨gq,0,none⟩)] w (StP w0 l0 lo b gp gq s A B C a1 a2 a3 (rStmt (bl s) p)) := by
 have hA : Rd w b s (p : Int) false := h.rd;have hA' := Lh hA;replace h := Lh h;have hen := fun wA h => re_end (w := wA) (b := b) (s := s) (p := (p : Int)) (d := false) h;have hpk := fun wA h => re_peek (w := wA) (b := b) (s := s) (p := (p : Int)) (d := false) h;have hdc : Hid (Drawn w w) := Lh (Drawn.refl _);have hple : (p : Int) ≤ s.size := hA.le
 obtain ⟨c0,c1,c2,-⟩ := hA.cells
 have hlt : p < s.size := by
  rcases Nat.lt_or_ge p s.size with h | h
  · exact h
  · rw [(pe_out s p (by omega)).2] at hs;cases hs
 rw [show decide ((s.size : Int) ≤ (p : Int)) = false from decide_eq_false (by omega)] at hen;rw [pe_in s p hlt] at hpk;have hsm := fun wA => r8_small (pk (bl s) p) wA;rw [hs] at hsm;have hrn := fun wA h => re_run (w := wA) (b := b) (s := s) (p := p) h;rw [hx] at hrn;unfold RePost at hrn;have hst0 := rStmt_run hs;rw [hx] at hst0;obtain ⟨R,hRd⟩ : ∃ R,R = rStmt (bl s) p := ⟨_,rfl⟩
 rw [← hRd] at hst0 ⊢;clear hx hs hRd;generalize pk (bl s) p = c at hpk hsm;replace hrn := Lh hrn
 have hyes : pk (bl s) q = -1 ∨ blankB (pk (bl s) q) = true ∨ pk (bl s) q = 37 := by
  rcases hbl with h1 | ⟨h1,h2⟩ | ⟨h1,h2,h3⟩
  · left;rw [(pe_out s q (by omega)).2]
  · exact .inr (.inl h2)
  · exact .inr (.inr h3)
 have hst1 : R = rStmt2 (bl s) p (x,q) := hst0;rw [rStmt2_out hxi hxo hyes] at hst1;have hin := eq_str (mk x) sInput;have hou := eq_str (mk x) sOutput;rw [bl_mk] at hin hou;rw [decide_eq_false hxi] at hin;rw [decide_eq_true hxo] at hou;unfold sInput at hin;unfold sOutput at hou;have hsl := fun wA h => re_slash (w := wA) (b := b) (s := s) (p := q) h;rw [hsle] at hsl hst1
 unfold RePost at hsl;replace hsl := Lh hsl;have hsg := fun wA h => re_sign (w := wA) (b := b) (s := s) (S := .ok r) 46 (by decide) h;rw [show (Except.ok r : Except Int Nat).bind (rSign 46 (bl s)) = .error er from hdt] at hsg;replace hsg := Lh hsg;have hR : Hid (R = .error er) := Lh (by rw [hst1];show (rSign 46 (bl s) r).bind _ = _;rw [hdt];rfl)
 clear hst0 hst1 hxi hxo hsle hyes hdt;go_enter Tryd.func24,Tryd.ntmps24
 go_upto_region 5 with (first
   | (go_at_call 23;refine (hen _ (hA'.out.drawn hdc.out)).mono ?_;rintro e w1 ⟨rfl,hd1⟩;replace hdc := Lh (hdc.out.trans hd1);have hr1 := hA'.out.drawn hdc.out;obtain ⟨e0,e1,e2,e3,e4⟩ := hr1.cells;clear hd1)
   | (go_at_call 38;refine (hpk _ (hA'.out.drawn hdc.out)).mono ?_;rintro e w1 ⟨rfl,hd1⟩;replace hdc := Lh (hdc.out.trans hd1);have hr1 := hA'.out.drawn hdc.out;obtain ⟨e0,e1,e2,e3,e4⟩ := hr1.cells;clear hd1)
   | (go_at_call 39;refine (hsm _).mono ?_;rintro e w' ⟨rfl,rfl⟩)
   | (go_at_call 41;refine (hrn.out _ (hA'.out.drawn hdc.out)).mono ?_;rintro e w3 ⟨v3,x3,rfl,hv3,hx3,hr30,hm30⟩;unfold VStr at hv3;subst hv3;obtain rfl : x3 = x := hx3 _ rfl;have hr3 : Rd w3 b s (q : Int) false := hr30;obtain ⟨g0,g1,g2,g3,g4⟩ := hr3.cells
      have h3 : Hid (SQ w0 w3 l0 lo b gp gq s (.ok q) R0 R1 R2 R3 R4 R5 A B C a1 a2 a3) := Lh ((h.out.below (hdc.out.below _)).step hm30 hr30);have hB' := Lh hr3;have hdc3 : Hid (Drawn w3 w3) := Lh (Drawn.refl _);clear hm30 hx3 hr30 hrn hen hpk hsm hdc))
 go_cut [8] from 37 to 48 (fun v8 wx => v8 = .bool true ∧ Hid (SQ w0 wx l0 lo b gp gq s (.ok q) R0 R1 R2 R3 R4 R5 A B C a1 a2 a3))
 case first =>
  rcases hbl with hq | ⟨hq,hb⟩ | ⟨hq,hb,hc⟩
  · have hen3 := fun wA h => re_end (w := wA) (b := b) (s := s) (p := (q : Int)) (d := false) h;rw [show decide ((s.size : Int) ≤ (q : Int)) = true from decide_eq_true (by omega)] at hen3;clear hq
    go_wp2_with (first
      | (go_at_call 23;refine (hen3 _ (hB'.out.drawn hdc3.out)).mono ?_;rintro e w4 ⟨rfl,hd1⟩;replace hdc3 := Lh (hdc3.out.trans hd1);replace hr3 := hB'.out.drawn hdc3.out;obtain ⟨e0,e1,e2,e3,e4⟩ := hr3.cells;clear hd1))
    go_meet
    case rel => exact ⟨rfl,Lh (h3.out.below (hdc3.out.below _))⟩
  · have hen3 := fun wA h => re_end (w := wA) (b := b) (s := s) (p := (q : Int)) (d := false) h;have hpk3 := fun wA h => re_peek (w := wA) (b := b) (s := s) (p := (q : Int)) (d := false) h;rw [show decide ((s.size : Int) ≤ (q : Int)) = false from decide_eq_false (by omega)] at hen3;rw [pe_in s q hq] at hpk3;have hbk := fun wA => r8_blank (pk (bl s) q) wA;rw [hb] at hbk;clear hb
    generalize pk (bl s) q = cq at *
    go_wp2_with (first
      | (go_at_call 23;refine (hen3 _ (hB'.out.drawn hdc3.out)).mono ?_;rintro e w4 ⟨rfl,hd1⟩;replace hdc3 := Lh (hdc3.out.trans hd1);replace hr3 := hB'.out.drawn hdc3.out;obtain ⟨e0,e1,e2,e3,e4⟩ := hr3.cells;clear hd1)
      | (go_at_call 38;refine (hpk3 _ (hB'.out.drawn hdc3.out)).mono ?_;rintro e w4 ⟨rfl,hd1⟩;replace hdc3 := Lh (hdc3.out.trans hd1);replace hr3 := hB'.out.drawn hdc3.out;obtain ⟨e0,e1,e2,e3,e4⟩ := hr3.cells;clear hd1)
      | (go_at_call 37;refine (hbk _).mono ?_;rintro e w' ⟨rfl,rfl⟩))
    go_meet
    case rel => exact ⟨rfl,Lh (h3.out.below (hdc3.out.below _))⟩
  · have hen3 := fun wA h => re_end (w := wA) (b := b) (s := s) (p := (q : Int)) (d := false) h;have hpk3 := fun wA h => re_peek (w := wA) (b := b) (s := s) (p := (q : Int)) (d := false) h;rw [show decide ((s.size : Int) ≤ (q : Int)) = false from decide_eq_false (by omega)] at hen3;rw [pe_in s q hq] at hpk3;have hbk := fun wA => r8_blank (pk (bl s) q) wA;rw [hb] at hbk;clear hb
    generalize pk (bl s) q = cq at *;subst hc
    go_wp2_with (first
      | (go_at_call 23;refine (hen3 _ (hB'.out.drawn hdc3.out)).mono ?_;rintro e w4 ⟨rfl,hd1⟩;replace hdc3 := Lh (hdc3.out.trans hd1);replace hr3 := hB'.out.drawn hdc3.out;obtain ⟨e0,e1,e2,e3,e4⟩ := hr3.cells;clear hd1)
      | (go_at_call 38;refine (hpk3 _ (hB'.out.drawn hdc3.out)).mono ?_;rintro e w4 ⟨rfl,hd1⟩;replace hdc3 := Lh (hdc3.out.trans hd1);replace hr3 := hB'.out.drawn hdc3.out;obtain ⟨e0,e1,e2,e3,e4⟩ := hr3.cells;clear hd1)
      | (go_at_call 37;refine (hbk _).mono ?_;rintro e w' ⟨rfl,rfl⟩))
    go_meet
    case rel => exact ⟨rfl,Lh (h3.out.below (hdc3.out.below _))⟩
 case rest =>
  clear h3 hB' hdc3 hr3 g0 g1 g2 g3 g4 hbl;obtain ⟨rfl,h3⟩ := hcut;have hr3 : Rd wc b s (q : Int) false := h3.out.rd;obtain ⟨g0,g1,g2,g3,g4⟩ := hr3.cells;have hB' := Lh hr3;have hdc3 : Hid (Drawn wc wc) := Lh (Drawn.refl _)
  go_wp2_with (first
    | (go_at_call 42;refine (hsl.out _ (hB'.out.drawn hdc3.out)).mono ?_;rintro e w5 ⟨v5,x5,rfl,hv5,hx5,hr50,hm50⟩;unfold VSlash at hv5;subst hv5;obtain rfl : x5 = a := hx5 _ rfl;have hr5 : Rd w5 b s (r : Nat) false := hr50;obtain ⟨i0,i1,i2,-⟩ := hr5.cells
       have h5 : Hid (SQ w0 w5 l0 lo b gp gq s (.ok r) R0 R1 R2 R3 R4 R5 A B C a1 a2 a3) := Lh ((h3.out.below (hdc3.out.below _)).step hm50 hr50);clear hm50 hr50 hr5 hx5)
    | (go_at_call 44;refine (hsg.out _ h5.out.rd).mono ?_;rintro e w6 ⟨rfl,hr60,hm60⟩;have h6 : Hid (SQ w0 w6 l0 lo b gp gq s (.error er) R0 R1 R2 R3 R4 R5 A B C a1 a2 a3) := Lh (h5.out.step hm60 hr60);have hr6 : Rd w6 b s er true := hr60;obtain ⟨j0,j1,j2,-⟩ := hr6.cells;clear hm60 hr60 hr6))
  refine bodyPost_ret (results_none (by kernel_rfl) _ _ _) rfl ?_;exact StP.err hR.out h6.out
theorem st_out_ok {w0 w : World} {l0 lo b gp gq : Nat} {s : ByteArray} {p : Nat} {R0 R1 R2 R3 R4 R5 : Value} {A : List (ByteArray × Int × ByteArray)} {B : List (ByteArray × Int)} {C : List PRule} {a1 a2 a3 : List Nat} (h : SQ w0 w l0 lo b gp gq s (.ok p) R0 R1 R2 R3 R4 R5 A B C a1 a2 a3) {x : Bs} {q : Nat} (hs : smallB (pk (bl s) p) = true) (hx : rRun (bl s) p = .ok (x,q)) (hxi : ¬ x = sInput) (hxo : x = sOutput) {a : ByteArray × Int} {r q4 : Nat} (hsle : rSlash (bl s) q = .ok (a,r)) (hdt : rSign 46 (bl s) r = .ok q4) (hBl : B.length ≤ 4194304) (h2l : a2.length ≤ 4194304) (hbl : q = s.size ∨ (q < s.size ∧ blankB (pk (bl s) q) = true) ∨ (q < s.size ∧ blankB (pk (bl s) q) = false ∧ pk (bl s) q = 37)) :
    Calls Tryd.prog 24 #[.pointer (some ⟨b,0,none⟩),.pointer (some ⟨gp,0,none⟩),.pointer (some ⟨gq,0,none⟩)] w (StP w0 l0 lo b gp gq s A B C a1 a2 a3 (rStmt (bl s) p)) := by
 obtain ⟨io,hio,io0,io1,io2⟩ := info_parts infoOutput;obtain ⟨it,hit,it0,it1,it2⟩ := info_parts infoInt;have hA : Rd w b s (p : Int) false := h.rd;have hA' := Lh hA;replace h := Lh h;have hen := fun wA h => re_end (w := wA) (b := b) (s := s) (p := (p : Int)) (d := false) h;have hpk := fun wA h => re_peek (w := wA) (b := b) (s := s) (p := (p : Int)) (d := false) h
 have hdc : Hid (Drawn w w) := Lh (Drawn.refl _);have hple : (p : Int) ≤ s.size := hA.le;obtain ⟨c0,c1,c2,-⟩ := hA.cells
 have hlt : p < s.size := by
  rcases Nat.lt_or_ge p s.size with h | h
  · exact h
  · rw [(pe_out s p (by omega)).2] at hs;cases hs
 rw [show decide ((s.size : Int) ≤ (p : Int)) = false from decide_eq_false (by omega)] at hen;rw [pe_in s p hlt] at hpk;have hsm := fun wA => r8_small (pk (bl s) p) wA;rw [hs] at hsm;have hrn := fun wA h => re_run (w := wA) (b := b) (s := s) (p := p) h;rw [hx] at hrn;unfold RePost at hrn;have hst0 := rStmt_run hs;rw [hx] at hst0;obtain ⟨R,hRd⟩ : ∃ R,R = rStmt (bl s) p := ⟨_,rfl⟩
 rw [← hRd] at hst0 ⊢;clear hx hs hRd;generalize pk (bl s) p = c at hpk hsm;replace hrn := Lh hrn
 have hyes : pk (bl s) q = -1 ∨ blankB (pk (bl s) q) = true ∨ pk (bl s) q = 37 := by
  rcases hbl with h1 | ⟨h1,h2⟩ | ⟨h1,h2,h3⟩
  · left;rw [(pe_out s q (by omega)).2]
  · exact .inr (.inl h2)
  · exact .inr (.inr h3)
 have hst1 : R = rStmt2 (bl s) p (x,q) := hst0;rw [rStmt2_out hxi hxo hyes] at hst1;have hin := eq_str (mk x) sInput;have hou := eq_str (mk x) sOutput;rw [bl_mk] at hin hou;rw [decide_eq_false hxi] at hin;rw [decide_eq_true hxo] at hou;unfold sInput at hin;unfold sOutput at hou;have hsl := fun wA h => re_slash (w := wA) (b := b) (s := s) (p := q) h
 have h63B : Hid (B.length + 1 ≤ maxLen) := Lh (by unfold maxLen;omega);have h63a2 : Hid (a2.length + 1 ≤ maxLen) := Lh (by unfold maxLen;omega);rw [hsle] at hsl hst1;unfold RePost at hsl;replace hsl := Lh hsl;have hsg := fun wA h => re_sign (w := wA) (b := b) (s := s) (S := .ok r) 46 (by decide) h
 rw [show (Except.ok r : Except Int Nat).bind (rSign 46 (bl s)) = .ok q4 from hdt] at hsg;replace hsg := Lh hsg;have hR : Hid (R = .ok (.outp a.1 a.2 p,q4)) := Lh (by rw [hst1];show (rSign 46 (bl s) r).bind _ = _;rw [hdt];rfl);clear hst0 hst1 hxi hxo hsle hyes hdt;go_enter Tryd.func24,Tryd.ntmps24
 go_upto_region 5 with (first
   | (go_at_call 23;refine (hen _ (hA'.out.drawn hdc.out)).mono ?_;rintro e w1 ⟨rfl,hd1⟩;replace hdc := Lh (hdc.out.trans hd1);have hr1 := hA'.out.drawn hdc.out;obtain ⟨e0,e1,e2,e3,e4⟩ := hr1.cells;clear hd1)
   | (go_at_call 38;refine (hpk _ (hA'.out.drawn hdc.out)).mono ?_;rintro e w1 ⟨rfl,hd1⟩;replace hdc := Lh (hdc.out.trans hd1);have hr1 := hA'.out.drawn hdc.out;obtain ⟨e0,e1,e2,e3,e4⟩ := hr1.cells;clear hd1)
   | (go_at_call 39;refine (hsm _).mono ?_;rintro e w' ⟨rfl,rfl⟩)
   | (go_at_call 41;refine (hrn.out _ (hA'.out.drawn hdc.out)).mono ?_;rintro e w3 ⟨v3,x3,rfl,hv3,hx3,hr30,hm30⟩;unfold VStr at hv3;subst hv3;obtain rfl : x3 = x := hx3 _ rfl;have hr3 : Rd w3 b s (q : Int) false := hr30;obtain ⟨g0,g1,g2,g3,g4⟩ := hr3.cells
      have h3 : Hid (SQ w0 w3 l0 lo b gp gq s (.ok q) R0 R1 R2 R3 R4 R5 A B C a1 a2 a3) := Lh ((h.out.below (hdc.out.below _)).step hm30 hr30);have hB' := Lh hr3;have hdc3 : Hid (Drawn w3 w3) := Lh (Drawn.refl _);clear hm30 hx3 hr30 hrn hen hpk hsm hdc))
 go_cut [8] from 37 to 48 (fun v8 wx => v8 = .bool true ∧ Hid (SQ w0 wx l0 lo b gp gq s (.ok q) R0 R1 R2 R3 R4 R5 A B C a1 a2 a3))
 case first =>
  rcases hbl with hq | ⟨hq,hb⟩ | ⟨hq,hb,hc⟩
  · have hen3 := fun wA h => re_end (w := wA) (b := b) (s := s) (p := (q : Int)) (d := false) h;rw [show decide ((s.size : Int) ≤ (q : Int)) = true from decide_eq_true (by omega)] at hen3;clear hq
    go_wp2_with (first
      | (go_at_call 23;refine (hen3 _ (hB'.out.drawn hdc3.out)).mono ?_;rintro e w4 ⟨rfl,hd1⟩;replace hdc3 := Lh (hdc3.out.trans hd1);replace hr3 := hB'.out.drawn hdc3.out;obtain ⟨e0,e1,e2,e3,e4⟩ := hr3.cells;clear hd1))
    go_meet
    case rel => exact ⟨rfl,Lh (h3.out.below (hdc3.out.below _))⟩
  · have hen3 := fun wA h => re_end (w := wA) (b := b) (s := s) (p := (q : Int)) (d := false) h;have hpk3 := fun wA h => re_peek (w := wA) (b := b) (s := s) (p := (q : Int)) (d := false) h;rw [show decide ((s.size : Int) ≤ (q : Int)) = false from decide_eq_false (by omega)] at hen3;rw [pe_in s q hq] at hpk3;have hbk := fun wA => r8_blank (pk (bl s) q) wA;rw [hb] at hbk;clear hb
    generalize pk (bl s) q = cq at *
    go_wp2_with (first
      | (go_at_call 23;refine (hen3 _ (hB'.out.drawn hdc3.out)).mono ?_;rintro e w4 ⟨rfl,hd1⟩;replace hdc3 := Lh (hdc3.out.trans hd1);replace hr3 := hB'.out.drawn hdc3.out;obtain ⟨e0,e1,e2,e3,e4⟩ := hr3.cells;clear hd1)
      | (go_at_call 38;refine (hpk3 _ (hB'.out.drawn hdc3.out)).mono ?_;rintro e w4 ⟨rfl,hd1⟩;replace hdc3 := Lh (hdc3.out.trans hd1);replace hr3 := hB'.out.drawn hdc3.out;obtain ⟨e0,e1,e2,e3,e4⟩ := hr3.cells;clear hd1)
      | (go_at_call 37;refine (hbk _).mono ?_;rintro e w' ⟨rfl,rfl⟩))
    go_meet
    case rel => exact ⟨rfl,Lh (h3.out.below (hdc3.out.below _))⟩
  · have hen3 := fun wA h => re_end (w := wA) (b := b) (s := s) (p := (q : Int)) (d := false) h;have hpk3 := fun wA h => re_peek (w := wA) (b := b) (s := s) (p := (q : Int)) (d := false) h;rw [show decide ((s.size : Int) ≤ (q : Int)) = false from decide_eq_false (by omega)] at hen3;rw [pe_in s q hq] at hpk3;have hbk := fun wA => r8_blank (pk (bl s) q) wA;rw [hb] at hbk;clear hb
    generalize pk (bl s) q = cq at *;subst hc
    go_wp2_with (first
      | (go_at_call 23;refine (hen3 _ (hB'.out.drawn hdc3.out)).mono ?_;rintro e w4 ⟨rfl,hd1⟩;replace hdc3 := Lh (hdc3.out.trans hd1);replace hr3 := hB'.out.drawn hdc3.out;obtain ⟨e0,e1,e2,e3,e4⟩ := hr3.cells;clear hd1)
      | (go_at_call 38;refine (hpk3 _ (hB'.out.drawn hdc3.out)).mono ?_;rintro e w4 ⟨rfl,hd1⟩;replace hdc3 := Lh (hdc3.out.trans hd1);replace hr3 := hB'.out.drawn hdc3.out;obtain ⟨e0,e1,e2,e3,e4⟩ := hr3.cells;clear hd1)
      | (go_at_call 37;refine (hbk _).mono ?_;rintro e w' ⟨rfl,rfl⟩))
    go_meet
    case rel => exact ⟨rfl,Lh (h3.out.below (hdc3.out.below _))⟩
 case rest =>
  clear h3 hB' hdc3 hr3 g0 g1 g2 g3 g4 hbl;obtain ⟨rfl,h3⟩ := hcut;have hr3 : Rd wc b s (q : Int) false := h3.out.rd;obtain ⟨g0,g1,g2,g3,g4⟩ := hr3.cells;have hB' := Lh hr3;have hdc3 : Hid (Drawn wc wc) := Lh (Drawn.refl _)
  go_wp2_with (first
    | (go_at_call 42;refine (hsl.out _ (hB'.out.drawn hdc3.out)).mono ?_;rintro e w5 ⟨v5,x5,rfl,hv5,hx5,hr50,hm50⟩;unfold VSlash at hv5;subst hv5;obtain rfl : x5 = a := hx5 _ rfl;have hr5 : Rd w5 b s (r : Nat) false := hr50;obtain ⟨i0,i1,i2,-⟩ := hr5.cells
       have h5 : Hid (SQ w0 w5 l0 lo b gp gq s (.ok r) R0 R1 R2 R3 R4 R5 A B C a1 a2 a3) := Lh ((h3.out.below (hdc3.out.below _)).step hm50 hr50);clear hm50 hr50 hr5 hx5)
    | (go_at_call 44;refine (hsg.out _ h5.out.rd).mono ?_;rintro e w6 ⟨rfl,hr60,hm60⟩;have h6 : Hid (SQ w0 w6 l0 lo b gp gq s (.ok q4) R0 R1 R2 R3 R4 R5 A B C a1 a2 a3) := Lh (h5.out.step hm60 hr60);have hr6 : Rd w6 b s (q4 : Nat) false := hr60;obtain ⟨j0,j1,j2,-⟩ := hr6.cells;obtain ⟨-,⟨m60,m61,m62⟩,⟨n60,n61,n62⟩,fp6,fq6⟩ := h6.out.cells;clear hm60 hr60 hr6)
    | (at_builtin;refine wpList_append_anyD rfl (.tmp 115) (.tmp 119) 25 rfl lo 80 io (.agg #[.string ⟨#[]⟩,.int .i64 0]) 2 24 Tryd.underlying25 hio io0 io1 io2 rfl (by decide) _ B.length (outL B) rfl (h6.out.pg.r1.alloc _) ⟨w6.heap.size,0,none⟩ 1 1 [.string x5.1,.int .i64 x5.2] rfl rfl (fun j u hj => own_cells_row rfl rfl j u hj) (by intro u hu;simp at hu;rcases hu with rfl | rfl <;> rfl) h63B.out (by omega) (by rw [World.size_alloc];have := h6.out.size;omega) ?_))
  intro v7 w7 hown7 hgr7 hat7;obtain ⟨va7,vc7,rfl,-⟩ := own_slice hown7;have hg := h6.out.grow hgr7 (fun j e => own_ge h6.out.pg.r1 j e);have z7 : w7.cell? ⟨gp,1,none⟩ = some R1 := (cell_of_row _ _ 1 _ _ _ hg.2.2.1).trans rfl;have f7 : w7.frozen? ⟨gp,1,none⟩ = false := by have := hg.2.2.1;simp [World.frozen?,this]
  have h7 := Lh (h6.out.put1 hgr7 (x := (x5.1,x5.2)) hown7);clear hg hown7 hgr7 hat7;have q7 := h7.out.cells.2.2.1.2.1
  go_wp2_with (at_builtin;refine wpList_append_anyD rfl (.tmp 127) (.tmp 129) 29 rfl lo 3 it (.int .i64 0) 1 8 Tryd.underlying29 hit it0 it1 it2 rfl (by decide) _ a2.length (atL a2) rfl (h7.out.pg.r4.alloc _) ⟨w7.heap.size,0,none⟩ 1 1 [.int .i64 (p : Int)] rfl rfl (fun j u hj => own_cells_row (World.size_setCell _ _ _) rfl j u hj) (by intro u hu;simp at hu;rcases hu with rfl <;> rfl) h63a2.out (by omega) (by rw [World.size_alloc];have := h7.out.size;omega) ?_)
  intro v8 w8 hown8 hgr8 hat8;obtain ⟨gN8,cN8,rfl,-⟩ := own_shape hown8 (by omega)
  have hatN : R4.ownBlock = some gN8 ∨ gN8 = (w7.setCell ⟨gp,1,none⟩ (.slice va7 (B.length + 1) vc7)).heap.size + 1 := by
   rcases hat8 with e | e
   · exact .inl e.symm
   · exact .inr (by have e2 : gN8 = _ := Option.some.inj e;exact e2.trans (by simp))
  have hg := h7.out.grow hgr8 (fun j e => own_ge h7.out.pg.r4 j e);have z8 : w8.cell? ⟨gq,1,none⟩ = some R4 := (cell_of_row _ _ 1 _ _ _ hg.2.2.2.1).trans rfl;have f8 : w8.frozen? ⟨gq,1,none⟩ = false := by have := hg.2.2.2.1;simp [World.frozen?,this]
  have h8 := Lh (h7.out.put4 hgr8 (x := p) hown8 hatN);clear hg hown8 hgr8 hat8 hatN;go_wp2_with fail;refine bodyPost_ret (results_none (by kernel_rfl) _ _ _) rfl ?_;exact StP.outp hR.out h8.out
end Go.Proofs.YtmjincocmhadeaaDoor
/- Parse: the document's reader: a statement: input. (gen_pex.py) -/
namespace Go.Proofs.YtmjincocmhadeaaDoor
open Go.RowKit Lx
theorem st_in_slash {w0 w : World} {l0 lo b gp gq : Nat} {s : ByteArray} {p : Nat} {R0 R1 R2 R3 R4 R5 : Value} {A : List (ByteArray × Int × ByteArray)} {B : List (ByteArray × Int)} {C : List PRule} {a1 a2 a3 : List Nat} (h : SQ w0 w l0 lo b gp gq s (.ok p) R0 R1 R2 R3 R4 R5 A B C a1 a2 a3) {x : Bs} {q : Nat} (hs : smallB (pk (bl s) p) = true) (hx : rRun (bl s) p = .ok (x,q)) (hxi : x = sInput) (hxo : ¬ x = sOutput) {er : Int} (hsle : rSlash (bl s) q = .error er) (hbl : q = s.size ∨ (q < s.size ∧ blankB (pk (bl s) q) = true) ∨ (q < s.size ∧ blankB (pk (bl s) q) = false ∧ pk (bl s) q = 37)) :
    Calls Tryd.prog 24 #[.pointer (some ⟨b,0,none⟩),.pointer (some ⟨gp,0,none⟩),.pointer (some ⟨gq,0,none⟩)] w (StP w0 l0 lo b gp gq s A B C a1 a2 a3 (rStmt (bl s) p)) := by
 have hA : Rd w b s (p : Int) false := h.rd;have hA' := Lh hA;replace h := Lh h;have hen := fun wA h => re_end (w := wA) (b := b) (s := s) (p := (p : Int)) (d := false) h;have hpk := fun wA h => re_peek (w := wA) (b := b) (s := s) (p := (p : Int)) (d := false) h;have hdc : Hid (Drawn w w) := Lh (Drawn.refl _);have hple : (p : Int) ≤ s.size := hA.le
 obtain ⟨c0,c1,c2,-⟩ := hA.cells
 have hlt : p < s.size := by
  rcases Nat.lt_or_ge p s.size with h | h
  · exact h
  · rw [(pe_out s p (by omega)).2] at hs;cases hs
 rw [show decide ((s.size : Int) ≤ (p : Int)) = false from decide_eq_false (by omega)] at hen;rw [pe_in s p hlt] at hpk;have hsm := fun wA => r8_small (pk (bl s) p) wA;rw [hs] at hsm;have hrn := fun wA h => re_run (w := wA) (b := b) (s := s) (p := p) h;rw [hx] at hrn;unfold RePost at hrn;have hst0 := rStmt_run hs;rw [hx] at hst0;obtain ⟨R,hRd⟩ : ∃ R,R = rStmt (bl s) p := ⟨_,rfl⟩
 rw [← hRd] at hst0 ⊢;clear hx hs hRd;generalize pk (bl s) p = c at hpk hsm;replace hrn := Lh hrn
 have hyes : pk (bl s) q = -1 ∨ blankB (pk (bl s) q) = true ∨ pk (bl s) q = 37 := by
  rcases hbl with h1 | ⟨h1,h2⟩ | ⟨h1,h2,h3⟩
  · left;rw [(pe_out s q (by omega)).2]
  · exact .inr (.inl h2)
  · exact .inr (.inr h3)
 have hst1 : R = rStmt2 (bl s) p (x,q) := hst0;rw [rStmt2_in hxi hyes] at hst1;have hin := eq_str (mk x) sInput;have hou := eq_str (mk x) sOutput;rw [bl_mk] at hin hou;rw [decide_eq_true hxi] at hin;rw [decide_eq_false hxo] at hou;unfold sInput at hin;unfold sOutput at hou;have hsl := fun wA h => re_slash (w := wA) (b := b) (s := s) (p := q) h;rw [hsle] at hsl hst1
 unfold RePost at hsl;replace hsl := Lh hsl;have hsg := fun wA h => re_sign (w := wA) (b := b) (s := s) (S := .error er) 46 (by decide) h;replace hsg := Lh hsg;have hR : Hid (R = .error er) := Lh hst1;clear hst0 hst1 hxi hxo hsle hyes;go_enter Tryd.func24,Tryd.ntmps24
 go_upto_region 5 with (first
   | (go_at_call 23;refine (hen _ (hA'.out.drawn hdc.out)).mono ?_;rintro e w1 ⟨rfl,hd1⟩;replace hdc := Lh (hdc.out.trans hd1);have hr1 := hA'.out.drawn hdc.out;obtain ⟨e0,e1,e2,e3,e4⟩ := hr1.cells;clear hd1)
   | (go_at_call 38;refine (hpk _ (hA'.out.drawn hdc.out)).mono ?_;rintro e w1 ⟨rfl,hd1⟩;replace hdc := Lh (hdc.out.trans hd1);have hr1 := hA'.out.drawn hdc.out;obtain ⟨e0,e1,e2,e3,e4⟩ := hr1.cells;clear hd1)
   | (go_at_call 39;refine (hsm _).mono ?_;rintro e w' ⟨rfl,rfl⟩)
   | (go_at_call 41;refine (hrn.out _ (hA'.out.drawn hdc.out)).mono ?_;rintro e w3 ⟨v3,x3,rfl,hv3,hx3,hr30,hm30⟩;unfold VStr at hv3;subst hv3;obtain rfl : x3 = x := hx3 _ rfl;have hr3 : Rd w3 b s (q : Int) false := hr30;obtain ⟨g0,g1,g2,g3,g4⟩ := hr3.cells
      have h3 : Hid (SQ w0 w3 l0 lo b gp gq s (.ok q) R0 R1 R2 R3 R4 R5 A B C a1 a2 a3) := Lh ((h.out.below (hdc.out.below _)).step hm30 hr30);have hB' := Lh hr3;have hdc3 : Hid (Drawn w3 w3) := Lh (Drawn.refl _);clear hm30 hx3 hr30 hrn hen hpk hsm hdc))
 go_cut [8] from 37 to 48 (fun v8 wx => v8 = .bool true ∧ Hid (SQ w0 wx l0 lo b gp gq s (.ok q) R0 R1 R2 R3 R4 R5 A B C a1 a2 a3))
 case first =>
  rcases hbl with hq | ⟨hq,hb⟩ | ⟨hq,hb,hc⟩
  · have hen3 := fun wA h => re_end (w := wA) (b := b) (s := s) (p := (q : Int)) (d := false) h;rw [show decide ((s.size : Int) ≤ (q : Int)) = true from decide_eq_true (by omega)] at hen3;clear hq
    go_wp2_with (first
      | (go_at_call 23;refine (hen3 _ (hB'.out.drawn hdc3.out)).mono ?_;rintro e w4 ⟨rfl,hd1⟩;replace hdc3 := Lh (hdc3.out.trans hd1);replace hr3 := hB'.out.drawn hdc3.out;obtain ⟨e0,e1,e2,e3,e4⟩ := hr3.cells;clear hd1))
    go_meet
    case rel => exact ⟨rfl,Lh (h3.out.below (hdc3.out.below _))⟩
  · have hen3 := fun wA h => re_end (w := wA) (b := b) (s := s) (p := (q : Int)) (d := false) h;have hpk3 := fun wA h => re_peek (w := wA) (b := b) (s := s) (p := (q : Int)) (d := false) h;rw [show decide ((s.size : Int) ≤ (q : Int)) = false from decide_eq_false (by omega)] at hen3;rw [pe_in s q hq] at hpk3;have hbk := fun wA => r8_blank (pk (bl s) q) wA;rw [hb] at hbk;clear hb
    generalize pk (bl s) q = cq at *
    go_wp2_with (first
      | (go_at_call 23;refine (hen3 _ (hB'.out.drawn hdc3.out)).mono ?_;rintro e w4 ⟨rfl,hd1⟩;replace hdc3 := Lh (hdc3.out.trans hd1);replace hr3 := hB'.out.drawn hdc3.out;obtain ⟨e0,e1,e2,e3,e4⟩ := hr3.cells;clear hd1)
      | (go_at_call 38;refine (hpk3 _ (hB'.out.drawn hdc3.out)).mono ?_;rintro e w4 ⟨rfl,hd1⟩;replace hdc3 := Lh (hdc3.out.trans hd1);replace hr3 := hB'.out.drawn hdc3.out;obtain ⟨e0,e1,e2,e3,e4⟩ := hr3.cells;clear hd1)
      | (go_at_call 37;refine (hbk _).mono ?_;rintro e w' ⟨rfl,rfl⟩))
    go_meet
    case rel => exact ⟨rfl,Lh (h3.out.below (hdc3.out.below _))⟩
  · have hen3 := fun wA h => re_end (w := wA) (b := b) (s := s) (p := (q : Int)) (d := false) h;have hpk3 := fun wA h => re_peek (w := wA) (b := b) (s := s) (p := (q : Int)) (d := false) h;rw [show decide ((s.size : Int) ≤ (q : Int)) = false from decide_eq_false (by omega)] at hen3;rw [pe_in s q hq] at hpk3;have hbk := fun wA => r8_blank (pk (bl s) q) wA;rw [hb] at hbk;clear hb
    generalize pk (bl s) q = cq at *;subst hc
    go_wp2_with (first
      | (go_at_call 23;refine (hen3 _ (hB'.out.drawn hdc3.out)).mono ?_;rintro e w4 ⟨rfl,hd1⟩;replace hdc3 := Lh (hdc3.out.trans hd1);replace hr3 := hB'.out.drawn hdc3.out;obtain ⟨e0,e1,e2,e3,e4⟩ := hr3.cells;clear hd1)
      | (go_at_call 38;refine (hpk3 _ (hB'.out.drawn hdc3.out)).mono ?_;rintro e w4 ⟨rfl,hd1⟩;replace hdc3 := Lh (hdc3.out.trans hd1);replace hr3 := hB'.out.drawn hdc3.out;obtain ⟨e0,e1,e2,e3,e4⟩ := hr3.cells;clear hd1)
      | (go_at_call 37;refine (hbk _).mono ?_;rintro e w' ⟨rfl,rfl⟩))
    go_meet
    case rel => exact ⟨rfl,Lh (h3.out.below (hdc3.out.below _))⟩
 case rest =>
  clear h3 hB' hdc3 hr3 g0 g1 g2 g3 g4 hbl;obtain ⟨rfl,h3⟩ := hcut;have hr3 : Rd wc b s (q : Int) false := h3.out.rd;obtain ⟨g0,g1,g2,g3,g4⟩ := hr3.cells;have hB' := Lh hr3;have hdc3 : Hid (Drawn wc wc) := Lh (Drawn.refl _)
  go_wp2_with (first
    | (go_at_call 42;refine (hsl.out _ (hB'.out.drawn hdc3.out)).mono ?_;rintro e w5 ⟨v5,x5,rfl,hv5,hx5,hr50,hm50⟩;unfold VSlash at hv5;subst hv5
       skip
       have hr5 : Rd w5 b s er true := hr50;obtain ⟨i0,i1,i2,-⟩ := hr5.cells;have h5 : Hid (SQ w0 w5 l0 lo b gp gq s (.error er) R0 R1 R2 R3 R4 R5 A B C a1 a2 a3) := Lh ((h3.out.below (hdc3.out.below _)).step hm50 hr50);clear hm50 hr50 hr5 hx5)
    | (go_at_call 44;refine (hsg.out _ h5.out.rd).mono ?_;rintro e w6 ⟨rfl,hr60,hm60⟩;have h6 : Hid (SQ w0 w6 l0 lo b gp gq s (.error er) R0 R1 R2 R3 R4 R5 A B C a1 a2 a3) := Lh (h5.out.step hm60 hr60);have hr6 : Rd w6 b s er true := hr60;obtain ⟨j0,j1,j2,-⟩ := hr6.cells;clear hm60 hr60 hr6))
  refine bodyPost_ret (results_none (by kernel_rfl) _ _ _) rfl ?_;exact StP.err hR.out h6.out
theorem st_in_text {w0 w : World} {l0 lo b gp gq : Nat} {s : ByteArray} {p : Nat} {R0 R1 R2 R3 R4 R5 : Value} {A : List (ByteArray × Int × ByteArray)} {B : List (ByteArray × Int)} {C : List PRule} {a1 a2 a3 : List Nat} (h : SQ w0 w l0 lo b gp gq s (.ok p) R0 R1 R2 R3 R4 R5 A B C a1 a2 a3) {x : Bs} {q : Nat} (hs : smallB (pk (bl s) p) = true) (hx : rRun (bl s) p = .ok (x,q)) (hxi : x = sInput) (hxo : ¬ x = sOutput) {a : ByteArray × Int} {r : Nat} {er : Int} (hsle : rSlash (bl s) q = .ok (a,r)) (hte : rText (bl s) r = .error er) (hbl : q = s.size ∨ (q < s.size ∧ blankB (pk (bl s) q) = true) ∨ (q < s.size ∧ blankB (pk (bl s) q) = false ∧ pk (bl s) q = 37)) :
    Calls Tryd.prog 24 #[.pointer (some ⟨b,0,none⟩),.pointer (some ⟨gp,0,none⟩),.pointer (some ⟨gq,0,none⟩)] w (StP w0 l0 lo b gp gq s A B C a1 a2 a3 (rStmt (bl s) p)) := by
 have hA : Rd w b s (p : Int) false := h.rd;have hA' := Lh hA;replace h := Lh h;have hen := fun wA h => re_end (w := wA) (b := b) (s := s) (p := (p : Int)) (d := false) h;have hpk := fun wA h => re_peek (w := wA) (b := b) (s := s) (p := (p : Int)) (d := false) h;have hdc : Hid (Drawn w w) := Lh (Drawn.refl _);have hple : (p : Int) ≤ s.size := hA.le
 obtain ⟨c0,c1,c2,-⟩ := hA.cells
 have hlt : p < s.size := by
  rcases Nat.lt_or_ge p s.size with h | h
  · exact h
  · rw [(pe_out s p (by omega)).2] at hs;cases hs
 rw [show decide ((s.size : Int) ≤ (p : Int)) = false from decide_eq_false (by omega)] at hen;rw [pe_in s p hlt] at hpk;have hsm := fun wA => r8_small (pk (bl s) p) wA;rw [hs] at hsm;have hrn := fun wA h => re_run (w := wA) (b := b) (s := s) (p := p) h;rw [hx] at hrn;unfold RePost at hrn;have hst0 := rStmt_run hs;rw [hx] at hst0;obtain ⟨R,hRd⟩ : ∃ R,R = rStmt (bl s) p := ⟨_,rfl⟩
 rw [← hRd] at hst0 ⊢;clear hx hs hRd;generalize pk (bl s) p = c at hpk hsm;replace hrn := Lh hrn
 have hyes : pk (bl s) q = -1 ∨ blankB (pk (bl s) q) = true ∨ pk (bl s) q = 37 := by
  rcases hbl with h1 | ⟨h1,h2⟩ | ⟨h1,h2,h3⟩
  · left;rw [(pe_out s q (by omega)).2]
  · exact .inr (.inl h2)
  · exact .inr (.inr h3)
 have hst1 : R = rStmt2 (bl s) p (x,q) := hst0;rw [rStmt2_in hxi hyes] at hst1;have hin := eq_str (mk x) sInput;have hou := eq_str (mk x) sOutput;rw [bl_mk] at hin hou;rw [decide_eq_true hxi] at hin;rw [decide_eq_false hxo] at hou;unfold sInput at hin;unfold sOutput at hou;have hsl := fun wA h => re_slash (w := wA) (b := b) (s := s) (p := q) h;rw [hsle] at hsl hst1
 unfold RePost at hsl;replace hsl := Lh hsl;have htx := fun wA h => re_text (w := wA) (b := b) (s := s) (p := r) h;rw [hte] at htx;unfold RePost at htx;replace htx := Lh htx;have hsk := Lh fun wA h => re_skip (w := wA) (b := b) (s := s) (S := .error er) h;have hsg := fun wA h => re_sign (w := wA) (b := b) (s := s) (S := .error er) 46 (by decide) h;replace hsg := Lh hsg
 have hR : Hid (R = .error er) := Lh (by rw [hst1];show (rText (bl s) r).bind _ = _;rw [hte];rfl);clear hst0 hst1 hxi hxo hsle hyes hte;go_enter Tryd.func24,Tryd.ntmps24
 go_upto_region 5 with (first
   | (go_at_call 23;refine (hen _ (hA'.out.drawn hdc.out)).mono ?_;rintro e w1 ⟨rfl,hd1⟩;replace hdc := Lh (hdc.out.trans hd1);have hr1 := hA'.out.drawn hdc.out;obtain ⟨e0,e1,e2,e3,e4⟩ := hr1.cells;clear hd1)
   | (go_at_call 38;refine (hpk _ (hA'.out.drawn hdc.out)).mono ?_;rintro e w1 ⟨rfl,hd1⟩;replace hdc := Lh (hdc.out.trans hd1);have hr1 := hA'.out.drawn hdc.out;obtain ⟨e0,e1,e2,e3,e4⟩ := hr1.cells;clear hd1)
   | (go_at_call 39;refine (hsm _).mono ?_;rintro e w' ⟨rfl,rfl⟩)
   | (go_at_call 41;refine (hrn.out _ (hA'.out.drawn hdc.out)).mono ?_;rintro e w3 ⟨v3,x3,rfl,hv3,hx3,hr30,hm30⟩;unfold VStr at hv3;subst hv3;obtain rfl : x3 = x := hx3 _ rfl;have hr3 : Rd w3 b s (q : Int) false := hr30;obtain ⟨g0,g1,g2,g3,g4⟩ := hr3.cells
      have h3 : Hid (SQ w0 w3 l0 lo b gp gq s (.ok q) R0 R1 R2 R3 R4 R5 A B C a1 a2 a3) := Lh ((h.out.below (hdc.out.below _)).step hm30 hr30);have hB' := Lh hr3;have hdc3 : Hid (Drawn w3 w3) := Lh (Drawn.refl _);clear hm30 hx3 hr30 hrn hen hpk hsm hdc))
 go_cut [8] from 37 to 48 (fun v8 wx => v8 = .bool true ∧ Hid (SQ w0 wx l0 lo b gp gq s (.ok q) R0 R1 R2 R3 R4 R5 A B C a1 a2 a3))
 case first =>
  rcases hbl with hq | ⟨hq,hb⟩ | ⟨hq,hb,hc⟩
  · have hen3 := fun wA h => re_end (w := wA) (b := b) (s := s) (p := (q : Int)) (d := false) h;rw [show decide ((s.size : Int) ≤ (q : Int)) = true from decide_eq_true (by omega)] at hen3;clear hq
    go_wp2_with (first
      | (go_at_call 23;refine (hen3 _ (hB'.out.drawn hdc3.out)).mono ?_;rintro e w4 ⟨rfl,hd1⟩;replace hdc3 := Lh (hdc3.out.trans hd1);replace hr3 := hB'.out.drawn hdc3.out;obtain ⟨e0,e1,e2,e3,e4⟩ := hr3.cells;clear hd1))
    go_meet
    case rel => exact ⟨rfl,Lh (h3.out.below (hdc3.out.below _))⟩
  · have hen3 := fun wA h => re_end (w := wA) (b := b) (s := s) (p := (q : Int)) (d := false) h;have hpk3 := fun wA h => re_peek (w := wA) (b := b) (s := s) (p := (q : Int)) (d := false) h;rw [show decide ((s.size : Int) ≤ (q : Int)) = false from decide_eq_false (by omega)] at hen3;rw [pe_in s q hq] at hpk3;have hbk := fun wA => r8_blank (pk (bl s) q) wA;rw [hb] at hbk;clear hb
    generalize pk (bl s) q = cq at *
    go_wp2_with (first
      | (go_at_call 23;refine (hen3 _ (hB'.out.drawn hdc3.out)).mono ?_;rintro e w4 ⟨rfl,hd1⟩;replace hdc3 := Lh (hdc3.out.trans hd1);replace hr3 := hB'.out.drawn hdc3.out;obtain ⟨e0,e1,e2,e3,e4⟩ := hr3.cells;clear hd1)
      | (go_at_call 38;refine (hpk3 _ (hB'.out.drawn hdc3.out)).mono ?_;rintro e w4 ⟨rfl,hd1⟩;replace hdc3 := Lh (hdc3.out.trans hd1);replace hr3 := hB'.out.drawn hdc3.out;obtain ⟨e0,e1,e2,e3,e4⟩ := hr3.cells;clear hd1)
      | (go_at_call 37;refine (hbk _).mono ?_;rintro e w' ⟨rfl,rfl⟩))
    go_meet
    case rel => exact ⟨rfl,Lh (h3.out.below (hdc3.out.below _))⟩
  · have hen3 := fun wA h => re_end (w := wA) (b := b) (s := s) (p := (q : Int)) (d := false) h;have hpk3 := fun wA h => re_peek (w := wA) (b := b) (s := s) (p := (q : Int)) (d := false) h;rw [show decide ((s.size : Int) ≤ (q : Int)) = false from decide_eq_false (by omega)] at hen3;rw [pe_in s q hq] at hpk3;have hbk := fun wA => r8_blank (pk (bl s) q) wA;rw [hb] at hbk;clear hb
    generalize pk (bl s) q = cq at *;subst hc
    go_wp2_with (first
      | (go_at_call 23;refine (hen3 _ (hB'.out.drawn hdc3.out)).mono ?_;rintro e w4 ⟨rfl,hd1⟩;replace hdc3 := Lh (hdc3.out.trans hd1);replace hr3 := hB'.out.drawn hdc3.out;obtain ⟨e0,e1,e2,e3,e4⟩ := hr3.cells;clear hd1)
      | (go_at_call 38;refine (hpk3 _ (hB'.out.drawn hdc3.out)).mono ?_;rintro e w4 ⟨rfl,hd1⟩;replace hdc3 := Lh (hdc3.out.trans hd1);replace hr3 := hB'.out.drawn hdc3.out;obtain ⟨e0,e1,e2,e3,e4⟩ := hr3.cells;clear hd1)
      | (go_at_call 37;refine (hbk _).mono ?_;rintro e w' ⟨rfl,rfl⟩))
    go_meet
    case rel => exact ⟨rfl,Lh (h3.out.below (hdc3.out.below _))⟩
 case rest =>
  clear h3 hB' hdc3 hr3 g0 g1 g2 g3 g4 hbl;obtain ⟨rfl,h3⟩ := hcut;have hr3 : Rd wc b s (q : Int) false := h3.out.rd;obtain ⟨g0,g1,g2,g3,g4⟩ := hr3.cells;have hB' := Lh hr3;have hdc3 : Hid (Drawn wc wc) := Lh (Drawn.refl _)
  go_wp2_with (first
    | (go_at_call 42;refine (hsl.out _ (hB'.out.drawn hdc3.out)).mono ?_;rintro e w5 ⟨v5,x5,rfl,hv5,hx5,hr50,hm50⟩;unfold VSlash at hv5;subst hv5;obtain rfl : x5 = a := hx5 _ rfl;have hr5 : Rd w5 b s (r : Nat) false := hr50;obtain ⟨i0,i1,i2,-⟩ := hr5.cells
       have h5 : Hid (SQ w0 w5 l0 lo b gp gq s (.ok r) R0 R1 R2 R3 R4 R5 A B C a1 a2 a3) := Lh ((h3.out.below (hdc3.out.below _)).step hm50 hr50);clear hm50 hr50 hr5 hx5)
    | (go_at_call 43;refine (htx.out _ h5.out.rd).mono ?_;rintro e w6 ⟨v6,x6,rfl,hv6,hx6,hr60,hm60⟩;unfold VStr at hv6;subst hv6
       skip
       have h6 : Hid (SQ w0 w6 l0 lo b gp gq s (.error er) R0 R1 R2 R3 R4 R5 A B C a1 a2 a3) := Lh (h5.out.step hm60 hr60);clear hm60 hr60 hx6)
    | (go_at_call 22;refine (hsk.out _ h6.out.rd).mono ?_;rintro e w7 ⟨rfl,hr70,hm70⟩;have h7 : Hid (SQ w0 w7 l0 lo b gp gq s (.error er) R0 R1 R2 R3 R4 R5 A B C a1 a2 a3) := Lh (h6.out.step hm70 hr70);clear hm70 hr70)
    | (go_at_call 44;refine (hsg.out _ h7.out.rd).mono ?_;rintro e w8 ⟨rfl,hr80,hm80⟩;have h8 : Hid (SQ w0 w8 l0 lo b gp gq s (.error er) R0 R1 R2 R3 R4 R5 A B C a1 a2 a3) := Lh (h7.out.step hm80 hr80);have hr8 : Rd w8 b s er true := hr80;obtain ⟨j0,j1,j2,-⟩ := hr8.cells;clear hm80 hr80 hr8))
  refine bodyPost_ret (results_none (by kernel_rfl) _ _ _) rfl ?_;exact StP.err hR.out h8.out
theorem st_in_dot {w0 w : World} {l0 lo b gp gq : Nat} {s : ByteArray} {p : Nat} {R0 R1 R2 R3 R4 R5 : Value} {A : List (ByteArray × Int × ByteArray)} {B : List (ByteArray × Int)} {C : List PRule} {a1 a2 a3 : List Nat} (h : SQ w0 w l0 lo b gp gq s (.ok p) R0 R1 R2 R3 R4 R5 A B C a1 a2 a3) {x : Bs} {q : Nat} (hs : smallB (pk (bl s) p) = true) (hx : rRun (bl s) p = .ok (x,q)) (hxi : x = sInput) (hxo : ¬ x = sOutput) {a : ByteArray × Int} {f : Bs} {r t : Nat} {er : Int} (hsle : rSlash (bl s) q = .ok (a,r)) (hte : rText (bl s) r = .ok (f,t)) (hdt : rSign 46 (bl s) (rSkip (bl s) t) = .error er) (hbl : q = s.size ∨ (q < s.size ∧ blankB (pk (bl s) q) = true) ∨ (q < s.size ∧ blankB (pk (bl s) q) = false ∧ pk (bl s) q = 37)) :
    Calls Tryd.prog 24 #[.pointer (some ⟨b,0,none⟩),.pointer (some ⟨gp,0,none⟩),.pointer (some ⟨gq,0,none⟩)] w (StP w0 l0 lo b gp gq s A B C a1 a2 a3 (rStmt (bl s) p)) := by
 have hA : Rd w b s (p : Int) false := h.rd;have hA' := Lh hA;replace h := Lh h;have hen := fun wA h => re_end (w := wA) (b := b) (s := s) (p := (p : Int)) (d := false) h;have hpk := fun wA h => re_peek (w := wA) (b := b) (s := s) (p := (p : Int)) (d := false) h;have hdc : Hid (Drawn w w) := Lh (Drawn.refl _);have hple : (p : Int) ≤ s.size := hA.le
 obtain ⟨c0,c1,c2,-⟩ := hA.cells
 have hlt : p < s.size := by
  rcases Nat.lt_or_ge p s.size with h | h
  · exact h
  · rw [(pe_out s p (by omega)).2] at hs;cases hs
 rw [show decide ((s.size : Int) ≤ (p : Int)) = false from decide_eq_false (by omega)] at hen;rw [pe_in s p hlt] at hpk;have hsm := fun wA => r8_small (pk (bl s) p) wA;rw [hs] at hsm;have hrn := fun wA h => re_run (w := wA) (b := b) (s := s) (p := p) h;rw [hx] at hrn;unfold RePost at hrn;have hst0 := rStmt_run hs;rw [hx] at hst0;obtain ⟨R,hRd⟩ : ∃ R,R = rStmt (bl s) p := ⟨_,rfl⟩
 rw [← hRd] at hst0 ⊢;clear hx hs hRd;generalize pk (bl s) p = c at hpk hsm;replace hrn := Lh hrn
 have hyes : pk (bl s) q = -1 ∨ blankB (pk (bl s) q) = true ∨ pk (bl s) q = 37 := by
  rcases hbl with h1 | ⟨h1,h2⟩ | ⟨h1,h2,h3⟩
  · left;rw [(pe_out s q (by omega)).2]
  · exact .inr (.inl h2)
  · exact .inr (.inr h3)
 have hst1 : R = rStmt2 (bl s) p (x,q) := hst0;rw [rStmt2_in hxi hyes] at hst1;have hin := eq_str (mk x) sInput;have hou := eq_str (mk x) sOutput;rw [bl_mk] at hin hou;rw [decide_eq_true hxi] at hin;rw [decide_eq_false hxo] at hou;unfold sInput at hin;unfold sOutput at hou;have hsl := fun wA h => re_slash (w := wA) (b := b) (s := s) (p := q) h;rw [hsle] at hsl hst1
 unfold RePost at hsl;replace hsl := Lh hsl;have htx := fun wA h => re_text (w := wA) (b := b) (s := s) (p := r) h;rw [hte] at htx;unfold RePost at htx;replace htx := Lh htx;have hsk := Lh fun wA h => re_skip (w := wA) (b := b) (s := s) (S := .ok t) h;have hsg := fun wA h => re_sign (w := wA) (b := b) (s := s) (S := .ok (rSkip (bl s) t)) 46 (by decide) h
 rw [show (Except.ok (rSkip (bl s) t) : Except Int Nat).bind (rSign 46 (bl s)) = .error er from hdt] at hsg;replace hsg := Lh hsg;have hR : Hid (R = .error er) := Lh (by rw [hst1];show (rText (bl s) r).bind _ = _;rw [hte];show (rSign 46 (bl s) (rSkip (bl s) t)).bind _ = _;rw [hdt];rfl);clear hst0 hst1 hxi hxo hsle hyes hte hdt;go_enter Tryd.func24,Tryd.ntmps24
 go_upto_region 5 with (first
   | (go_at_call 23;refine (hen _ (hA'.out.drawn hdc.out)).mono ?_;rintro e w1 ⟨rfl,hd1⟩;replace hdc := Lh (hdc.out.trans hd1);have hr1 := hA'.out.drawn hdc.out;obtain ⟨e0,e1,e2,e3,e4⟩ := hr1.cells;clear hd1)
   | (go_at_call 38;refine (hpk _ (hA'.out.drawn hdc.out)).mono ?_;rintro e w1 ⟨rfl,hd1⟩;replace hdc := Lh (hdc.out.trans hd1);have hr1 := hA'.out.drawn hdc.out;obtain ⟨e0,e1,e2,e3,e4⟩ := hr1.cells;clear hd1)
   | (go_at_call 39;refine (hsm _).mono ?_;rintro e w' ⟨rfl,rfl⟩)
   | (go_at_call 41;refine (hrn.out _ (hA'.out.drawn hdc.out)).mono ?_;rintro e w3 ⟨v3,x3,rfl,hv3,hx3,hr30,hm30⟩;unfold VStr at hv3;subst hv3;obtain rfl : x3 = x := hx3 _ rfl;have hr3 : Rd w3 b s (q : Int) false := hr30;obtain ⟨g0,g1,g2,g3,g4⟩ := hr3.cells
      have h3 : Hid (SQ w0 w3 l0 lo b gp gq s (.ok q) R0 R1 R2 R3 R4 R5 A B C a1 a2 a3) := Lh ((h.out.below (hdc.out.below _)).step hm30 hr30);have hB' := Lh hr3;have hdc3 : Hid (Drawn w3 w3) := Lh (Drawn.refl _);clear hm30 hx3 hr30 hrn hen hpk hsm hdc))
 go_cut [8] from 37 to 48 (fun v8 wx => v8 = .bool true ∧ Hid (SQ w0 wx l0 lo b gp gq s (.ok q) R0 R1 R2 R3 R4 R5 A B C a1 a2 a3))
 case first =>
  rcases hbl with hq | ⟨hq,hb⟩ | ⟨hq,hb,hc⟩
  · have hen3 := fun wA h => re_end (w := wA) (b := b) (s := s) (p := (q : Int)) (d := false) h;rw [show decide ((s.size : Int) ≤ (q : Int)) = true from decide_eq_true (by omega)] at hen3;clear hq
    go_wp2_with (first
      | (go_at_call 23;refine (hen3 _ (hB'.out.drawn hdc3.out)).mono ?_;rintro e w4 ⟨rfl,hd1⟩;replace hdc3 := Lh (hdc3.out.trans hd1);replace hr3 := hB'.out.drawn hdc3.out;obtain ⟨e0,e1,e2,e3,e4⟩ := hr3.cells;clear hd1))
    go_meet
    case rel => exact ⟨rfl,Lh (h3.out.below (hdc3.out.below _))⟩
  · have hen3 := fun wA h => re_end (w := wA) (b := b) (s := s) (p := (q : Int)) (d := false) h;have hpk3 := fun wA h => re_peek (w := wA) (b := b) (s := s) (p := (q : Int)) (d := false) h;rw [show decide ((s.size : Int) ≤ (q : Int)) = false from decide_eq_false (by omega)] at hen3;rw [pe_in s q hq] at hpk3;have hbk := fun wA => r8_blank (pk (bl s) q) wA;rw [hb] at hbk;clear hb
    generalize pk (bl s) q = cq at *
    go_wp2_with (first
      | (go_at_call 23;refine (hen3 _ (hB'.out.drawn hdc3.out)).mono ?_;rintro e w4 ⟨rfl,hd1⟩;replace hdc3 := Lh (hdc3.out.trans hd1);replace hr3 := hB'.out.drawn hdc3.out;obtain ⟨e0,e1,e2,e3,e4⟩ := hr3.cells;clear hd1)
      | (go_at_call 38;refine (hpk3 _ (hB'.out.drawn hdc3.out)).mono ?_;rintro e w4 ⟨rfl,hd1⟩;replace hdc3 := Lh (hdc3.out.trans hd1);replace hr3 := hB'.out.drawn hdc3.out;obtain ⟨e0,e1,e2,e3,e4⟩ := hr3.cells;clear hd1)
      | (go_at_call 37;refine (hbk _).mono ?_;rintro e w' ⟨rfl,rfl⟩))
    go_meet
    case rel => exact ⟨rfl,Lh (h3.out.below (hdc3.out.below _))⟩
  · have hen3 := fun wA h => re_end (w := wA) (b := b) (s := s) (p := (q : Int)) (d := false) h;have hpk3 := fun wA h => re_peek (w := wA) (b := b) (s := s) (p := (q : Int)) (d := false) h;rw [show decide ((s.size : Int) ≤ (q : Int)) = false from decide_eq_false (by omega)] at hen3;rw [pe_in s q hq] at hpk3;have hbk := fun wA => r8_blank (pk (bl s) q) wA;rw [hb] at hbk;clear hb
    generalize pk (bl s) q = cq at *;subst hc
    go_wp2_with (first
      | (go_at_call 23;refine (hen3 _ (hB'.out.drawn hdc3.out)).mono ?_;rintro e w4 ⟨rfl,hd1⟩;replace hdc3 := Lh (hdc3.out.trans hd1);replace hr3 := hB'.out.drawn hdc3.out;obtain ⟨e0,e1,e2,e3,e4⟩ := hr3.cells;clear hd1)
      | (go_at_call 38;refine (hpk3 _ (hB'.out.drawn hdc3.out)).mono ?_;rintro e w4 ⟨rfl,hd1⟩;replace hdc3 := Lh (hdc3.out.trans hd1);replace hr3 := hB'.out.drawn hdc3.out;obtain ⟨e0,e1,e2,e3,e4⟩ := hr3.cells;clear hd1)
      | (go_at_call 37;refine (hbk _).mono ?_;rintro e w' ⟨rfl,rfl⟩))
    go_meet
    case rel => exact ⟨rfl,Lh (h3.out.below (hdc3.out.below _))⟩
 case rest =>
  clear h3 hB' hdc3 hr3 g0 g1 g2 g3 g4 hbl;obtain ⟨rfl,h3⟩ := hcut;have hr3 : Rd wc b s (q : Int) false := h3.out.rd;obtain ⟨g0,g1,g2,g3,g4⟩ := hr3.cells;have hB' := Lh hr3;have hdc3 : Hid (Drawn wc wc) := Lh (Drawn.refl _)
  go_wp2_with (first
    | (go_at_call 42;refine (hsl.out _ (hB'.out.drawn hdc3.out)).mono ?_;rintro e w5 ⟨v5,x5,rfl,hv5,hx5,hr50,hm50⟩;unfold VSlash at hv5;subst hv5;obtain rfl : x5 = a := hx5 _ rfl;have hr5 : Rd w5 b s (r : Nat) false := hr50;obtain ⟨i0,i1,i2,-⟩ := hr5.cells
       have h5 : Hid (SQ w0 w5 l0 lo b gp gq s (.ok r) R0 R1 R2 R3 R4 R5 A B C a1 a2 a3) := Lh ((h3.out.below (hdc3.out.below _)).step hm50 hr50);clear hm50 hr50 hr5 hx5)
    | (go_at_call 43;refine (htx.out _ h5.out.rd).mono ?_;rintro e w6 ⟨v6,x6,rfl,hv6,hx6,hr60,hm60⟩;unfold VStr at hv6;subst hv6
       skip
       have h6 : Hid (SQ w0 w6 l0 lo b gp gq s (.ok t) R0 R1 R2 R3 R4 R5 A B C a1 a2 a3) := Lh (h5.out.step hm60 hr60);clear hm60 hr60 hx6)
    | (go_at_call 22;refine (hsk.out _ h6.out.rd).mono ?_;rintro e w7 ⟨rfl,hr70,hm70⟩;have h7 : Hid (SQ w0 w7 l0 lo b gp gq s (.ok (rSkip (bl s) t)) R0 R1 R2 R3 R4 R5 A B C a1 a2 a3) := Lh (h6.out.step hm70 hr70);clear hm70 hr70)
    | (go_at_call 44;refine (hsg.out _ h7.out.rd).mono ?_;rintro e w8 ⟨rfl,hr80,hm80⟩;have h8 : Hid (SQ w0 w8 l0 lo b gp gq s (.error er) R0 R1 R2 R3 R4 R5 A B C a1 a2 a3) := Lh (h7.out.step hm80 hr80);have hr8 : Rd w8 b s er true := hr80;obtain ⟨j0,j1,j2,-⟩ := hr8.cells;clear hm80 hr80 hr8))
  refine bodyPost_ret (results_none (by kernel_rfl) _ _ _) rfl ?_;exact StP.err hR.out h8.out
theorem st_in_ok {w0 w : World} {l0 lo b gp gq : Nat} {s : ByteArray} {p : Nat} {R0 R1 R2 R3 R4 R5 : Value} {A : List (ByteArray × Int × ByteArray)} {B : List (ByteArray × Int)} {C : List PRule} {a1 a2 a3 : List Nat} (h : SQ w0 w l0 lo b gp gq s (.ok p) R0 R1 R2 R3 R4 R5 A B C a1 a2 a3) {x : Bs} {q : Nat} (hs : smallB (pk (bl s) p) = true) (hx : rRun (bl s) p = .ok (x,q)) (hxi : x = sInput) (hxo : ¬ x = sOutput) {a : ByteArray × Int} {f : Bs} {r t : Nat} {q4 : Nat} (hsle : rSlash (bl s) q = .ok (a,r)) (hte : rText (bl s) r = .ok (f,t)) (hdt : rSign 46 (bl s) (rSkip (bl s) t) = .ok q4) (hAl : A.length ≤ 4194304) (h1l : a1.length ≤ 4194304) (hbl : q = s.size ∨ (q < s.size ∧ blankB (pk (bl s) q) = true) ∨ (q < s.size ∧ blankB (pk (bl s) q) = false ∧ pk (bl s) q = 37)) :
    Calls Tryd.prog 24 #[.pointer (some ⟨b,0,none⟩),.pointer (some ⟨gp,0,none⟩),.pointer (some ⟨gq,0,none⟩)] w (StP w0 l0 lo b gp gq s A B C a1 a2 a3 (rStmt (bl s) p)) := by
 obtain ⟨ii,hii,ii0,ii1,ii2⟩ := info_parts infoInput;obtain ⟨it,hit,it0,it1,it2⟩ := info_parts infoInt;have hA : Rd w b s (p : Int) false := h.rd;have hA' := Lh hA;replace h := Lh h;have hen := fun wA h => re_end (w := wA) (b := b) (s := s) (p := (p : Int)) (d := false) h;have hpk := fun wA h => re_peek (w := wA) (b := b) (s := s) (p := (p : Int)) (d := false) h
 have hdc : Hid (Drawn w w) := Lh (Drawn.refl _);have hple : (p : Int) ≤ s.size := hA.le;obtain ⟨c0,c1,c2,-⟩ := hA.cells
 have hlt : p < s.size := by
  rcases Nat.lt_or_ge p s.size with h | h
  · exact h
  · rw [(pe_out s p (by omega)).2] at hs;cases hs
 rw [show decide ((s.size : Int) ≤ (p : Int)) = false from decide_eq_false (by omega)] at hen;rw [pe_in s p hlt] at hpk;have hsm := fun wA => r8_small (pk (bl s) p) wA;rw [hs] at hsm;have hrn := fun wA h => re_run (w := wA) (b := b) (s := s) (p := p) h;rw [hx] at hrn;unfold RePost at hrn;have hst0 := rStmt_run hs;rw [hx] at hst0;obtain ⟨R,hRd⟩ : ∃ R,R = rStmt (bl s) p := ⟨_,rfl⟩
 rw [← hRd] at hst0 ⊢;clear hx hs hRd;generalize pk (bl s) p = c at hpk hsm;replace hrn := Lh hrn
 have hyes : pk (bl s) q = -1 ∨ blankB (pk (bl s) q) = true ∨ pk (bl s) q = 37 := by
  rcases hbl with h1 | ⟨h1,h2⟩ | ⟨h1,h2,h3⟩
  · left;rw [(pe_out s q (by omega)).2]
  · exact .inr (.inl h2)
  · exact .inr (.inr h3)
 have hst1 : R = rStmt2 (bl s) p (x,q) := hst0;rw [rStmt2_in hxi hyes] at hst1;have hin := eq_str (mk x) sInput;have hou := eq_str (mk x) sOutput;rw [bl_mk] at hin hou;rw [decide_eq_true hxi] at hin;rw [decide_eq_false hxo] at hou;unfold sInput at hin;unfold sOutput at hou;have hsl := fun wA h => re_slash (w := wA) (b := b) (s := s) (p := q) h
 have h63A : Hid (A.length + 1 ≤ maxLen) := Lh (by unfold maxLen;omega);have h63a1 : Hid (a1.length + 1 ≤ maxLen) := Lh (by unfold maxLen;omega);rw [hsle] at hsl hst1;unfold RePost at hsl;replace hsl := Lh hsl;have htx := fun wA h => re_text (w := wA) (b := b) (s := s) (p := r) h;rw [hte] at htx;unfold RePost at htx;replace htx := Lh htx
 have hsk := Lh fun wA h => re_skip (w := wA) (b := b) (s := s) (S := .ok t) h;have hsg := fun wA h => re_sign (w := wA) (b := b) (s := s) (S := .ok (rSkip (bl s) t)) 46 (by decide) h;rw [show (Except.ok (rSkip (bl s) t) : Except Int Nat).bind (rSign 46 (bl s)) = .ok q4 from hdt] at hsg;replace hsg := Lh hsg
 have hR : Hid (R = .ok (.inp a.1 a.2 (mk f) p,q4)) := Lh (by rw [hst1];show (rText (bl s) r).bind _ = _;rw [hte];show (rSign 46 (bl s) (rSkip (bl s) t)).bind _ = _;rw [hdt];rfl);clear hst0 hst1 hxi hxo hsle hyes hte hdt;go_enter Tryd.func24,Tryd.ntmps24
 go_upto_region 5 with (first
   | (go_at_call 23;refine (hen _ (hA'.out.drawn hdc.out)).mono ?_;rintro e w1 ⟨rfl,hd1⟩;replace hdc := Lh (hdc.out.trans hd1);have hr1 := hA'.out.drawn hdc.out;obtain ⟨e0,e1,e2,e3,e4⟩ := hr1.cells;clear hd1)
   | (go_at_call 38;refine (hpk _ (hA'.out.drawn hdc.out)).mono ?_;rintro e w1 ⟨rfl,hd1⟩;replace hdc := Lh (hdc.out.trans hd1);have hr1 := hA'.out.drawn hdc.out;obtain ⟨e0,e1,e2,e3,e4⟩ := hr1.cells;clear hd1)
   | (go_at_call 39;refine (hsm _).mono ?_;rintro e w' ⟨rfl,rfl⟩)
   | (go_at_call 41;refine (hrn.out _ (hA'.out.drawn hdc.out)).mono ?_;rintro e w3 ⟨v3,x3,rfl,hv3,hx3,hr30,hm30⟩;unfold VStr at hv3;subst hv3;obtain rfl : x3 = x := hx3 _ rfl;have hr3 : Rd w3 b s (q : Int) false := hr30;obtain ⟨g0,g1,g2,g3,g4⟩ := hr3.cells
      have h3 : Hid (SQ w0 w3 l0 lo b gp gq s (.ok q) R0 R1 R2 R3 R4 R5 A B C a1 a2 a3) := Lh ((h.out.below (hdc.out.below _)).step hm30 hr30);have hB' := Lh hr3;have hdc3 : Hid (Drawn w3 w3) := Lh (Drawn.refl _);clear hm30 hx3 hr30 hrn hen hpk hsm hdc))
 go_cut [8] from 37 to 48 (fun v8 wx => v8 = .bool true ∧ Hid (SQ w0 wx l0 lo b gp gq s (.ok q) R0 R1 R2 R3 R4 R5 A B C a1 a2 a3))
 case first =>
  rcases hbl with hq | ⟨hq,hb⟩ | ⟨hq,hb,hc⟩
  · have hen3 := fun wA h => re_end (w := wA) (b := b) (s := s) (p := (q : Int)) (d := false) h;rw [show decide ((s.size : Int) ≤ (q : Int)) = true from decide_eq_true (by omega)] at hen3;clear hq
    go_wp2_with (first
      | (go_at_call 23;refine (hen3 _ (hB'.out.drawn hdc3.out)).mono ?_;rintro e w4 ⟨rfl,hd1⟩;replace hdc3 := Lh (hdc3.out.trans hd1);replace hr3 := hB'.out.drawn hdc3.out;obtain ⟨e0,e1,e2,e3,e4⟩ := hr3.cells;clear hd1))
    go_meet
    case rel => exact ⟨rfl,Lh (h3.out.below (hdc3.out.below _))⟩
  · have hen3 := fun wA h => re_end (w := wA) (b := b) (s := s) (p := (q : Int)) (d := false) h;have hpk3 := fun wA h => re_peek (w := wA) (b := b) (s := s) (p := (q : Int)) (d := false) h;rw [show decide ((s.size : Int) ≤ (q : Int)) = false from decide_eq_false (by omega)] at hen3;rw [pe_in s q hq] at hpk3;have hbk := fun wA => r8_blank (pk (bl s) q) wA;rw [hb] at hbk;clear hb
    generalize pk (bl s) q = cq at *
    go_wp2_with (first
      | (go_at_call 23;refine (hen3 _ (hB'.out.drawn hdc3.out)).mono ?_;rintro e w4 ⟨rfl,hd1⟩;replace hdc3 := Lh (hdc3.out.trans hd1);replace hr3 := hB'.out.drawn hdc3.out;obtain ⟨e0,e1,e2,e3,e4⟩ := hr3.cells;clear hd1)
      | (go_at_call 38;refine (hpk3 _ (hB'.out.drawn hdc3.out)).mono ?_;rintro e w4 ⟨rfl,hd1⟩;replace hdc3 := Lh (hdc3.out.trans hd1);replace hr3 := hB'.out.drawn hdc3.out;obtain ⟨e0,e1,e2,e3,e4⟩ := hr3.cells;clear hd1)
      | (go_at_call 37;refine (hbk _).mono ?_;rintro e w' ⟨rfl,rfl⟩))
    go_meet
    case rel => exact ⟨rfl,Lh (h3.out.below (hdc3.out.below _))⟩
  · have hen3 := fun wA h => re_end (w := wA) (b := b) (s := s) (p := (q : Int)) (d := false) h;have hpk3 := fun wA h => re_peek (w := wA) (b := b) (s := s) (p := (q : Int)) (d := false) h;rw [show decide ((s.size : Int) ≤ (q : Int)) = false from decide_eq_false (by omega)] at hen3;rw [pe_in s q hq] at hpk3;have hbk := fun wA => r8_blank (pk (bl s) q) wA;rw [hb] at hbk;clear hb
    generalize pk (bl s) q = cq at *;subst hc
    go_wp2_with (first
      | (go_at_call 23;refine (hen3 _ (hB'.out.drawn hdc3.out)).mono ?_;rintro e w4 ⟨rfl,hd1⟩;replace hdc3 := Lh (hdc3.out.trans hd1);replace hr3 := hB'.out.drawn hdc3.out;obtain ⟨e0,e1,e2,e3,e4⟩ := hr3.cells;clear hd1)
      | (go_at_call 38;refine (hpk3 _ (hB'.out.drawn hdc3.out)).mono ?_;rintro e w4 ⟨rfl,hd1⟩;replace hdc3 := Lh (hdc3.out.trans hd1);replace hr3 := hB'.out.drawn hdc3.out;obtain ⟨e0,e1,e2,e3,e4⟩ := hr3.cells;clear hd1)
      | (go_at_call 37;refine (hbk _).mono ?_;rintro e w' ⟨rfl,rfl⟩))
    go_meet
    case rel => exact ⟨rfl,Lh (h3.out.below (hdc3.out.below _))⟩
 case rest =>
  clear h3 hB' hdc3 hr3 g0 g1 g2 g3 g4 hbl;obtain ⟨rfl,h3⟩ := hcut;have hr3 : Rd wc b s (q : Int) false := h3.out.rd;obtain ⟨g0,g1,g2,g3,g4⟩ := hr3.cells;have hB' := Lh hr3;have hdc3 : Hid (Drawn wc wc) := Lh (Drawn.refl _)
  go_wp2_with (first
    | (go_at_call 42;refine (hsl.out _ (hB'.out.drawn hdc3.out)).mono ?_;rintro e w5 ⟨v5,x5,rfl,hv5,hx5,hr50,hm50⟩;unfold VSlash at hv5;subst hv5;obtain rfl : x5 = a := hx5 _ rfl;have hr5 : Rd w5 b s (r : Nat) false := hr50;obtain ⟨i0,i1,i2,-⟩ := hr5.cells
       have h5 : Hid (SQ w0 w5 l0 lo b gp gq s (.ok r) R0 R1 R2 R3 R4 R5 A B C a1 a2 a3) := Lh ((h3.out.below (hdc3.out.below _)).step hm50 hr50);clear hm50 hr50 hr5 hx5)
    | (go_at_call 43;refine (htx.out _ h5.out.rd).mono ?_;rintro e w6 ⟨v6,x6,rfl,hv6,hx6,hr60,hm60⟩;unfold VStr at hv6;subst hv6;obtain rfl : x6 = f := hx6 _ rfl;have h6 : Hid (SQ w0 w6 l0 lo b gp gq s (.ok t) R0 R1 R2 R3 R4 R5 A B C a1 a2 a3) := Lh (h5.out.step hm60 hr60);clear hm60 hr60 hx6)
    | (go_at_call 22;refine (hsk.out _ h6.out.rd).mono ?_;rintro e w7 ⟨rfl,hr70,hm70⟩;have h7 : Hid (SQ w0 w7 l0 lo b gp gq s (.ok (rSkip (bl s) t)) R0 R1 R2 R3 R4 R5 A B C a1 a2 a3) := Lh (h6.out.step hm70 hr70);clear hm70 hr70)
    | (go_at_call 44;refine (hsg.out _ h7.out.rd).mono ?_;rintro e w8 ⟨rfl,hr80,hm80⟩;have h8 : Hid (SQ w0 w8 l0 lo b gp gq s (.ok q4) R0 R1 R2 R3 R4 R5 A B C a1 a2 a3) := Lh (h7.out.step hm80 hr80);have hr8 : Rd w8 b s (q4 : Nat) false := hr80;obtain ⟨j0,j1,j2,-⟩ := hr8.cells;obtain ⟨-,⟨m60,m61,m62⟩,⟨n60,n61,n62⟩,fp6,fq6⟩ := h8.out.cells;clear hm80 hr80 hr8)
    | (at_builtin;refine wpList_append_anyD rfl (.tmp 92) (.tmp 97) 24 rfl lo 78 ii (.agg #[.string ⟨#[]⟩,.int .i64 0,.string ⟨#[]⟩]) 3 40 Tryd.underlying24 hii ii0 ii1 ii2 rfl (by decide) _ A.length (inL A) rfl (h8.out.pg.r0.alloc _) ⟨w8.heap.size,0,none⟩ 1 1 [.string x5.1,.int .i64 x5.2,.string (mk x6)] rfl rfl (fun j u hj => own_cells_row rfl rfl j u hj) (by intro u hu;simp at hu;rcases hu with rfl | rfl | rfl <;> rfl) h63A.out (by omega) (by rw [World.size_alloc];have := h8.out.size;omega) ?_))
  intro v9 w9 hown9 hgr9 hat9;obtain ⟨va9,vc9,rfl,-⟩ := own_slice hown9;have hg := h8.out.grow hgr9 (fun j e => own_ge h8.out.pg.r0 j e);have z9 : w9.cell? ⟨gp,0,none⟩ = some R0 := (cell_of_row _ _ 0 _ _ _ hg.2.2.1).trans rfl;have f9 : w9.frozen? ⟨gp,0,none⟩ = false := by have := hg.2.2.1;simp [World.frozen?,this]
  have h9 := Lh (h8.out.put0 hgr9 (x := (x5.1,x5.2,mk x6)) hown9);clear hg hown9 hgr9 hat9;have q7 := h9.out.cells.2.2.1.1
  go_wp2_with (at_builtin;refine wpList_append_anyD rfl (.tmp 105) (.tmp 107) 29 rfl lo 3 it (.int .i64 0) 1 8 Tryd.underlying29 hit it0 it1 it2 rfl (by decide) _ a1.length (atL a1) rfl (h9.out.pg.r3.alloc _) ⟨w9.heap.size,0,none⟩ 1 1 [.int .i64 (p : Int)] rfl rfl (fun j u hj => own_cells_row (World.size_setCell _ _ _) rfl j u hj) (by intro u hu;simp at hu;rcases hu with rfl <;> rfl) h63a1.out (by omega) (by rw [World.size_alloc];have := h9.out.size;omega) ?_)
  intro v10 w10 hown10 hgr10 hat10;obtain ⟨gN10,cN10,rfl,-⟩ := own_shape hown10 (by omega)
  have hatN : R3.ownBlock = some gN10 ∨ gN10 = (w9.setCell ⟨gp,0,none⟩ (.slice va9 (A.length + 1) vc9)).heap.size + 1 := by
   rcases hat10 with e | e
   · exact .inl e.symm
   · exact .inr (by have e2 : gN10 = _ := Option.some.inj e;exact e2.trans (by simp))
  have hg := h9.out.grow hgr10 (fun j e => own_ge h9.out.pg.r3 j e);have z10 : w10.cell? ⟨gq,0,none⟩ = some R3 := (cell_of_row _ _ 0 _ _ _ hg.2.2.2.1).trans rfl;have f10 : w10.frozen? ⟨gq,0,none⟩ = false := by have := hg.2.2.2.1;simp [World.frozen?,this]
  have h10 := Lh (h9.out.put3 hgr10 (x := p) hown10 hatN);clear hg hown10 hgr10 hat10 hatN;go_wp2_with fail;refine bodyPost_ret (results_none (by kernel_rfl) _ _ _) rfl ?_;exact StP.inp hR.out h10.out
end Go.Proofs.YtmjincocmhadeaaDoor
