/- Parse: the document's reader: a statement: a rule. (gen_pey.py) -/
import Derived.Test.YtmjincocmhadeaaDoorPmR
set_option maxHeartbeats 8000000
set_option maxRecDepth 100000
namespace Go.Proofs.YtmjincocmhadeaaDoor
open Go.RowKit Lx
theorem rStmt2_rule {L : Bs} {p q : Nat} {x : Bs} (hres : reservedB x = false) : rStmt2 L p (x,q) = (((rArgs L q).map (·.2)).bind (rBody L)).bind fun b => (rArgs L q).bind fun a => .ok (.rule ⟨mk x,a.1,b.1⟩ p,b.2) := by
 unfold rStmt2;dsimp only;have hxi : ¬ x = sInput := fun hh => by rw [hh] at hres;revert hres;decide
 have hxo : ¬ x = sOutput := fun hh => by rw [hh] at hres;revert hres;decide
 rw [if_neg (fun hh => by rcases hh.1 with h1 | h1 <;> contradiction),if_neg (by rw [hres];decide)];unfold rRuleOf
 cases rArgs L q with
 | error e => rfl
 | ok a =>
  show ((rBody L a.2).bind _).bind _ = (rBody L a.2).bind _;cases rBody L a.2 <;> rfl
theorem Bod.base {w : World} {lo lo' : Nat} {v : Value} {L : List (PLit × Value)} (h : Bod w lo v L) (hb : lo' ≤ lo) : Bod w lo' v L := ⟨own_baseP h.own hb,fun y hy => own_baseP (h.inner y hy) hb⟩
section
variable {w0 w w' : World} {l0 lo b gp gq g : Nat} {s : ByteArray} {S : Except Int Nat} {R0 R1 R2 R3 R4 R5 : Value} {A : List (ByteArray × Int × ByteArray)} {B : List (ByteArray × Int)} {C : List PRule} {a1 a2 a3 : List Nat} {cs : Array Value}
theorem PrgV.fresh (h : PrgV w lo R0 R1 R2 R3 R4 R5 A B C a1 a2 a3) : R2.ownBlock ≠ some w.heap.size := fun e => by
  obtain ⟨L,_,h2,_⟩ := h.r2;have := (h2.lt _ e).2;omega
/-- a rule's own box was written to -/
theorem SQ.other (h : SQ w0 w l0 lo b gp gq s S R0 R1 R2 R3 R4 R5 A B C a1 a2 a3) (hg : w.heap[g]? = some (.cells cs 52)) (hne : R2.ownBlock ≠ some g) (hlg : lo ≤ g) (hm : Mvd g w w') : SQ w0 w' l0 lo b gp gq s S R0 R1 R2 R3 R4 R5 A B C a1 a2 a3 := by
 obtain ⟨-,t0,-,-,-,t1,-,-,-,t3,t4,t5,-⟩ := typesIO;obtain ⟨L,hL,h2,h3⟩ := h.pg.r2;have hT : ∀ g' cur,w.heap[g']? = some (.cells cur 57) → some g ≠ some g' := fun g' cur hc e => by injection e with e;subst e;rw [hg] at hc;injection hc with hc;injection hc with _ hc;exact absurd hc (by decide)
 have hLi : ∀ g' cur,w.heap[g']? = some (.cells cur 59) → some g ≠ some g' := fun g' cur hc e => by injection e with e;subst e;rw [hg] at hc;injection hc with hc;injection hc with _ hc;exact absurd hc (by decide)
 refine ⟨below_mvd h.fr hm (by have := h.lb;omega) (by have := h.size;have := h.lb;omega),Rs.other h.rd hm (by have := h.lb;omega),keepB hm h.bp (by have := h.lp;omega),keepB hm h.bq (by have := h.lq;omega),?_,h.lb,h.lp,h.lq,Nat.le_trans h.size hm.size⟩
 refine ⟨own_stays h.pg.r0 hm fun k hk e => own_apart h.pg.r0 hg t0 (by rw [hk];exact e.symm),own_stays h.pg.r1 hm fun k hk e => own_apart h.pg.r1 hg t1 (by rw [hk];exact e.symm),⟨L,hL,own_stays h2 hm fun k hk e => hne (by rw [hk];exact e.symm),fun y hy => (h3 y hy).stays hm hT hLi⟩,
   own_stays h.pg.r3 hm fun k hk e => own_apart h.pg.r3 hg (Ne.symm t3) (by rw [hk];exact e.symm),own_stays h.pg.r4 hm fun k hk e => own_apart h.pg.r4 hg (Ne.symm t3) (by rw [hk];exact e.symm),own_stays h.pg.r5 hm fun k hk e => own_apart h.pg.r5 hg (Ne.symm t3) (by rw [hk];exact e.symm),h.pg.d34,h.pg.d35,h.pg.d45⟩
end
theorem st_rule_bad {w0 w : World} {l0 lo b gp gq : Nat} {s : ByteArray} {p : Nat} {R0 R1 R2 R3 R4 R5 : Value} {A : List (ByteArray × Int × ByteArray)} {B : List (ByteArray × Int)} {C : List PRule} {a1 a2 a3 : List Nat} (h : SQ w0 w l0 lo b gp gq s (.ok p) R0 R1 R2 R3 R4 R5 A B C a1 a2 a3) {x : Bs} {q : Nat} (hs : smallB (pk (bl s) p) = true) (hx : rRun (bl s) p = .ok (x,q)) (hres : reservedB x = false) {er : Int} (hbd : ((rArgs (bl s) q).map (·.2)).bind (rBody (bl s)) = .error er) (hbl : q = s.size ∨ (q < s.size ∧ blankB (pk (bl s) q) = true) ∨ (q < s.size ∧ blankB (pk (bl s) q) = false ∧ pk (bl s) q = 37) ∨ (q < s.size ∧ blankB (pk (bl s) q) = false ∧ ¬ pk (bl s) q = 37)) :
    Calls Tryd.prog 24 #[.pointer (some ⟨b,0,none⟩),.pointer (some ⟨gp,0,none⟩),.pointer (some ⟨gq,0,none⟩)] w (StP w0 l0 lo b gp gq s A B C a1 a2 a3 (rStmt (bl s) p)) := by
 have hA : Rd w b s (p : Int) false := h.rd;have hA' := Lh hA;replace h := Lh h;have hen := fun wA h => re_end (w := wA) (b := b) (s := s) (p := (p : Int)) (d := false) h;have hpk := fun wA h => re_peek (w := wA) (b := b) (s := s) (p := (p : Int)) (d := false) h;have hdc : Hid (Drawn w w) := Lh (Drawn.refl _);have hple : (p : Int) ≤ s.size := hA.le
 obtain ⟨c0,c1,c2,-⟩ := hA.cells
 have hlt : p < s.size := by
  rcases Nat.lt_or_ge p s.size with h | h
  · exact h
  · rw [(pe_out s p (by omega)).2] at hs;cases hs
 rw [show decide ((s.size : Int) ≤ (p : Int)) = false from decide_eq_false (by omega)] at hen;rw [pe_in s p hlt] at hpk;have hsm := fun wA => r8_small (pk (bl s) p) wA;rw [hs] at hsm;have hrn := fun wA h => re_run (w := wA) (b := b) (s := s) (p := p) h;rw [hx] at hrn;unfold RePost at hrn;have hst0 := rStmt_run hs;rw [hx] at hst0;obtain ⟨R,hRd⟩ : ∃ R,R = rStmt (bl s) p := ⟨_,rfl⟩
 rw [← hRd] at hst0 ⊢;clear hx hs hRd;generalize pk (bl s) p = c at hpk hsm;replace hrn := Lh hrn;have hst1 : R = rStmt2 (bl s) p (x,q) := hst0;rw [rStmt2_rule hres] at hst1;have hxi : ¬ x = sInput := fun hh => by rw [hh] at hres;revert hres;decide
 have hxo : ¬ x = sOutput := fun hh => by rw [hh] at hres;revert hres;decide
 have hrs := fun wA => r8_Reserved (mk x) wA;rw [bl_mk,hres] at hrs;have hin := eq_str (mk x) sInput;have hou := eq_str (mk x) sOutput;rw [bl_mk] at hin hou;rw [decide_eq_false hxi] at hin;rw [decide_eq_false hxo] at hou;unfold sInput at hin;unfold sOutput at hou;have har := fun wA h => re_args (w := wA) (b := b) (s := s) (S := .ok q) h
 have hbo := fun wA h => re_body (w := wA) (b := b) (s := s) (S := (rArgs (bl s) q).map (·.2)) h;unfold RePost at har hbo;unfold VBody at hbo;rw [hbd] at hst1 hbo;obtain ⟨S1,hS1⟩ : ∃ S1,S1 = (rArgs (bl s) q).map (·.2) := ⟨_,rfl⟩
 have har' : ∀ wA,Rs wA b s (.ok q) → Calls Tryd.prog 46 #[.pointer (some ⟨b,0,none⟩)] wA fun e w' => ∃ v x,e = .returned v ∧ VArgs wA.heap.size w' v x ∧ (∀ y,(rArgs (bl s) q) = .ok y → x = y.1) ∧ Rs w' b s S1 ∧ Mvd b wA w' := fun wA h => by rw [hS1];exact har wA h
 rw [← hS1] at hbo;replace har := Lh har';replace hbo := Lh hbo;have hR : Hid (R = .error er) := Lh hst1;clear hst0 hst1 hxi hxo hres hbd har' hS1;go_enter Tryd.func24,Tryd.ntmps24
 go_upto_region 5 with (first
   | (go_at_call 23;refine (hen _ (hA'.out.drawn hdc.out)).mono ?_;rintro e w1 ⟨rfl,hd1⟩;replace hdc := Lh (hdc.out.trans hd1);have hr1 := hA'.out.drawn hdc.out;obtain ⟨e0,e1,e2,e3,e4⟩ := hr1.cells;clear hd1)
   | (go_at_call 38;refine (hpk _ (hA'.out.drawn hdc.out)).mono ?_;rintro e w1 ⟨rfl,hd1⟩;replace hdc := Lh (hdc.out.trans hd1);have hr1 := hA'.out.drawn hdc.out;obtain ⟨e0,e1,e2,e3,e4⟩ := hr1.cells;clear hd1)
   | (go_at_call 39;refine (hsm _).mono ?_;rintro e w' ⟨rfl,rfl⟩)
   | (go_at_call 41;refine (hrn.out _ (hA'.out.drawn hdc.out)).mono ?_;rintro e w3 ⟨v3,x3,rfl,hv3,hx3,hr30,hm30⟩;unfold VStr at hv3;subst hv3;obtain rfl : x3 = x := hx3 _ rfl;have hr3 : Rd w3 b s (q : Int) false := hr30;obtain ⟨g0,g1,g2,g3,g4⟩ := hr3.cells
      have h3 : Hid (SQ w0 w3 l0 lo b gp gq s (.ok q) R0 R1 R2 R3 R4 R5 A B C a1 a2 a3) := Lh ((h.out.below (hdc.out.below _)).step hm30 hr30);have hB' := Lh hr3;have hdc3 : Hid (Drawn w3 w3) := Lh (Drawn.refl _);clear hm30 hx3 hr30 hrn hen hpk hsm hdc))
 go_cut [8] from 37 to 48 (fun v8 wx => ∃ bv : Bool,v8 = .bool bv ∧ Hid (SQ w0 wx l0 lo b gp gq s (.ok q) R0 R1 R2 R3 R4 R5 A B C a1 a2 a3))
 case first =>
  rcases hbl with hq | ⟨hq,hb⟩ | ⟨hq,hb,hc⟩ | ⟨hq,hb,hc⟩
  · have hen3 := fun wA h => re_end (w := wA) (b := b) (s := s) (p := (q : Int)) (d := false) h;rw [show decide ((s.size : Int) ≤ (q : Int)) = true from decide_eq_true (by omega)] at hen3;clear hq
    go_wp2_with (first
      | (go_at_call 23;refine (hen3 _ (hB'.out.drawn hdc3.out)).mono ?_;rintro e w4 ⟨rfl,hd1⟩;replace hdc3 := Lh (hdc3.out.trans hd1);replace hr3 := hB'.out.drawn hdc3.out;obtain ⟨e0,e1,e2,e3,e4⟩ := hr3.cells;clear hd1))
    go_meet
    case rel => exact ⟨_,rfl,Lh (h3.out.below (hdc3.out.below _))⟩
  · have hen3 := fun wA h => re_end (w := wA) (b := b) (s := s) (p := (q : Int)) (d := false) h;have hpk3 := fun wA h => re_peek (w := wA) (b := b) (s := s) (p := (q : Int)) (d := false) h;rw [show decide ((s.size : Int) ≤ (q : Int)) = false from decide_eq_false (by omega)] at hen3;rw [pe_in s q hq] at hpk3;have hbk := fun wA => r8_blank (pk (bl s) q) wA;rw [hb] at hbk;clear hb
    generalize pk (bl s) q = cq at *
    go_wp2_with (first
      | (go_at_call 23;refine (hen3 _ (hB'.out.drawn hdc3.out)).mono ?_;rintro e w4 ⟨rfl,hd1⟩;replace hdc3 := Lh (hdc3.out.trans hd1);replace hr3 := hB'.out.drawn hdc3.out;obtain ⟨e0,e1,e2,e3,e4⟩ := hr3.cells;clear hd1)
      | (go_at_call 38;refine (hpk3 _ (hB'.out.drawn hdc3.out)).mono ?_;rintro e w4 ⟨rfl,hd1⟩;replace hdc3 := Lh (hdc3.out.trans hd1);replace hr3 := hB'.out.drawn hdc3.out;obtain ⟨e0,e1,e2,e3,e4⟩ := hr3.cells;clear hd1)
      | (go_at_call 37;refine (hbk _).mono ?_;rintro e w' ⟨rfl,rfl⟩))
    go_meet
    case rel => exact ⟨_,rfl,Lh (h3.out.below (hdc3.out.below _))⟩
  · have hen3 := fun wA h => re_end (w := wA) (b := b) (s := s) (p := (q : Int)) (d := false) h;have hpk3 := fun wA h => re_peek (w := wA) (b := b) (s := s) (p := (q : Int)) (d := false) h;rw [show decide ((s.size : Int) ≤ (q : Int)) = false from decide_eq_false (by omega)] at hen3;rw [pe_in s q hq] at hpk3;have hbk := fun wA => r8_blank (pk (bl s) q) wA;rw [hb] at hbk;clear hb
    generalize pk (bl s) q = cq at *;subst hc
    go_wp2_with (first
      | (go_at_call 23;refine (hen3 _ (hB'.out.drawn hdc3.out)).mono ?_;rintro e w4 ⟨rfl,hd1⟩;replace hdc3 := Lh (hdc3.out.trans hd1);replace hr3 := hB'.out.drawn hdc3.out;obtain ⟨e0,e1,e2,e3,e4⟩ := hr3.cells;clear hd1)
      | (go_at_call 38;refine (hpk3 _ (hB'.out.drawn hdc3.out)).mono ?_;rintro e w4 ⟨rfl,hd1⟩;replace hdc3 := Lh (hdc3.out.trans hd1);replace hr3 := hB'.out.drawn hdc3.out;obtain ⟨e0,e1,e2,e3,e4⟩ := hr3.cells;clear hd1)
      | (go_at_call 37;refine (hbk _).mono ?_;rintro e w' ⟨rfl,rfl⟩))
    go_meet
    case rel => exact ⟨_,rfl,Lh (h3.out.below (hdc3.out.below _))⟩
  · have hen3 := fun wA h => re_end (w := wA) (b := b) (s := s) (p := (q : Int)) (d := false) h;have hpk3 := fun wA h => re_peek (w := wA) (b := b) (s := s) (p := (q : Int)) (d := false) h;rw [show decide ((s.size : Int) ≤ (q : Int)) = false from decide_eq_false (by omega)] at hen3;rw [pe_in s q hq] at hpk3;have hbk := fun wA => r8_blank (pk (bl s) q) wA;rw [hb] at hbk;clear hb
    generalize pk (bl s) q = cq at *;have hcq : (cq == 37) = false := by rw [beq_eq_false_iff_ne];exact hc
    go_wp2_with (first
      | (go_at_call 23;refine (hen3 _ (hB'.out.drawn hdc3.out)).mono ?_;rintro e w4 ⟨rfl,hd1⟩;replace hdc3 := Lh (hdc3.out.trans hd1);replace hr3 := hB'.out.drawn hdc3.out;obtain ⟨e0,e1,e2,e3,e4⟩ := hr3.cells;clear hd1)
      | (go_at_call 38;refine (hpk3 _ (hB'.out.drawn hdc3.out)).mono ?_;rintro e w4 ⟨rfl,hd1⟩;replace hdc3 := Lh (hdc3.out.trans hd1);replace hr3 := hB'.out.drawn hdc3.out;obtain ⟨e0,e1,e2,e3,e4⟩ := hr3.cells;clear hd1)
      | (go_at_call 37;refine (hbk _).mono ?_;rintro e w' ⟨rfl,rfl⟩))
    go_meet
    case rel => exact ⟨_,rfl,Lh (h3.out.below (hdc3.out.below _))⟩
 case rest =>
  clear h3 hB' hdc3 hr3 g0 g1 g2 g3 g4 hbl;obtain ⟨bv,rfl,h3⟩ := hcut;have hr3 : Rd wc b s (q : Int) false := h3.out.rd;obtain ⟨g0,g1,g2,g3,g4⟩ := hr3.cells;have hB' := Lh hr3;have hdc3 : Hid (Drawn wc wc) := Lh (Drawn.refl _)
  go_wp2_with (first
    | (go_at_call 45;refine (hrs _).mono ?_;rintro e w' ⟨rfl,rfl⟩;have h4 : SQ w0 wc l0 lo b gp gq s (.ok q) R0 R1 R2 R3 R4 R5 A B C a1 a2 a3 := h3.out.below (hdc3.out.below _);have hgs : Hid (wc.heap.size = wc.heap.size) := Lh rfl
       have hW : Hid (SQ w0 (wc.alloc (.cells #[.string (mk x3),.slice none 0 0,.slice none 0 0] 52)) l0 lo b gp gq s (.ok q) R0 R1 R2 R3 R4 R5 A B C a1 a2 a3) := Lh (h4.below ((Below.refl _ _).al (.cells #[.string (mk x3),.slice none 0 0,.slice none 0 0] 52)))
       have hgb : Hid ((wc.alloc (.cells #[.string (mk x3),.slice none 0 0,.slice none 0 0] 52)).heap[wc.heap.size]? = some (.cells #[.string (mk x3),.slice none 0 0,.slice none 0 0] 52)) := Lh (heap_alloc_new _ _);have hne : Hid (R2.ownBlock ≠ some wc.heap.size) := Lh (h4.pg.fresh);have hgl : Hid (lo ≤ wc.heap.size) := Lh h4.size;have hlb : Hid (b < lo) := Lh h4.lb.2
       clear h4 hrs)
    | (go_at_call 46;refine (har.out _ hW.out.rd).mono ?_;rintro e w6 ⟨v6,x6,rfl,hv6,hx6,hr60,hm60⟩;unfold VArgs at hv6;obtain ⟨va,vc,rfl,-⟩ := own_slice hv6;have hg6 := keepB hm60 hgb.out (by have := hgl.out;have := hlb.out;omega);obtain ⟨⟨c0,c1,c2⟩,f0,f1,f2⟩ := three_new hg6;have h6 : SQ w0 w6 l0 lo b gp gq s S1 R0 R1 R2 R3 R4 R5 A B C a1 a2 a3 := hW.out.step hm60 hr60
       have hmm : Mvd wc.heap.size w6 (w6.setCell ⟨wc.heap.size,1,none⟩ (.slice va x6.length vc)) := (Mvd.refl wc.heap.size w6).set _ _;have h7 : Hid (SQ w0 (w6.setCell ⟨wc.heap.size,1,none⟩ (.slice va x6.length vc)) l0 lo b gp gq s S1 R0 R1 R2 R3 R4 R5 A B C a1 a2 a3) := Lh (h6.other hg6 hne.out hgl.out hmm)
       have hg7 := Lh (Go.heap_setCell_same w6 wc.heap.size 1 _ _ (.slice va x6.length vc) hg6);have hown7 := Lh (own_stays hv6 hmm (fun k hk e => own_apart hv6 hg6 typesTR (by rw [hk];exact e.symm)));have hx6' := Lh hx6
       have hs7 : Hid (wc.heap.size + 1 ≤ (w6.setCell ⟨wc.heap.size,1,none⟩ (.slice va x6.length vc)).heap.size) := Lh (Nat.le_trans (by rw [World.size_alloc];omega) (Nat.le_trans hm60.size hmm.size));clear hv6 hx6 hr60 hm60 hmm h6 hg6 hW hgb)
    | (go_at_call 47;refine (hbo.out _ h7.out.rd).mono ?_;rintro e w8 ⟨v8,x8,rfl,⟨L8,hL8,hv8⟩,hx8,hr80,hm80⟩;obtain ⟨vb,vd,rfl,-⟩ := own_slice hv8.own;have hg8 := keepB hm80 hg7.out (by have := hgl.out;have := hlb.out;omega);obtain ⟨⟨c0,c1,c2⟩,f0,f1,f2⟩ := three_new hg8
       have h8 : SQ w0 w8 l0 lo b gp gq s (.error er) R0 R1 R2 R3 R4 R5 A B C a1 a2 a3 := h7.out.step hm80 hr80;have hmm : Mvd wc.heap.size w8 (w8.setCell ⟨wc.heap.size,2,none⟩ (.slice vb L8.length vd)) := (Mvd.refl wc.heap.size w8).set _ _
       have h9 : Hid (SQ w0 (w8.setCell ⟨wc.heap.size,2,none⟩ (.slice vb L8.length vd)) l0 lo b gp gq s (.error er) R0 R1 R2 R3 R4 R5 A B C a1 a2 a3) := Lh (h8.other hg8 hne.out hgl.out hmm);have hg9 := Go.heap_setCell_same w8 wc.heap.size 2 _ _ (.slice vb L8.length vd) hg8;obtain ⟨⟨k0,k1,k2⟩,l0',l1',l2'⟩ := three_new hg9
       have hown8 := own_mvd hown7.out hm80 (by rw [World.size_alloc];have := hgs.out;have := hgl.out;have := hlb.out;omega);have hown9 := own_stays hown8 hmm (fun k hk e => own_apart hown8 hg8 typesTR (by rw [hk];exact e.symm))
       have hru : Hid (RuleV (w8.setCell ⟨wc.heap.size,2,none⟩ (.slice vb L8.length vd)) lo (.slice va x6.length vc) (.slice vb L8.length vd) ⟨mk x3,x6,x8⟩) := Lh ⟨own_baseP hown9 (by rw [World.size_alloc];have := hgs.out;have := hgl.out;omega),L8,hL8,(hv8.rule hmm hg8).base (by have := hs7.out;have := hgs.out;have := hgl.out;omega)⟩;have hx8' := Lh hx8
       have hrd9 : Rd (w8.setCell ⟨wc.heap.size,2,none⟩ (.slice vb L8.length vd)) b s er true := h9.out.rd;obtain ⟨j0,j1,j2,-⟩ := hrd9.cells;clear hx8 hr80 hm80 hmm h8 hg8 hown8 hown9 hv8 hL8 h7 hg7 hown7 hs7 hrd9 hg9))
  go_end0;exact StP.err hR.out h9.out
theorem st_rule_ok {w0 w : World} {l0 lo b gp gq : Nat} {s : ByteArray} {p : Nat} {R0 R1 R2 R3 R4 R5 : Value} {A : List (ByteArray × Int × ByteArray)} {B : List (ByteArray × Int)} {C : List PRule} {a1 a2 a3 : List Nat} (h : SQ w0 w l0 lo b gp gq s (.ok p) R0 R1 R2 R3 R4 R5 A B C a1 a2 a3) {x : Bs} {q : Nat} (hs : smallB (pk (bl s) p) = true) (hx : rRun (bl s) p = .ok (x,q)) (hres : reservedB x = false) {aa : List (Bool × ByteArray) × Nat} {bb : List PLit × Nat} (hag : rArgs (bl s) q = .ok aa) (hbd : rBody (bl s) aa.2 = .ok bb) (hCl : C.length ≤ 4194304) (h3l : a3.length ≤ 4194304) (hbl : q = s.size ∨ (q < s.size ∧ blankB (pk (bl s) q) = true) ∨ (q < s.size ∧ blankB (pk (bl s) q) = false ∧ pk (bl s) q = 37) ∨ (q < s.size ∧ blankB (pk (bl s) q) = false ∧ ¬ pk (bl s) q = 37)) :
    Calls Tryd.prog 24 #[.pointer (some ⟨b,0,none⟩),.pointer (some ⟨gp,0,none⟩),.pointer (some ⟨gq,0,none⟩)] w (StP w0 l0 lo b gp gq s A B C a1 a2 a3 (rStmt (bl s) p)) := by
 obtain ⟨ir,hir,ir0,ir1,ir2⟩ := info_parts infoRule;obtain ⟨it,hit,it0,it1,it2⟩ := info_parts infoInt;have hA : Rd w b s (p : Int) false := h.rd;have hA' := Lh hA;replace h := Lh h;have hen := fun wA h => re_end (w := wA) (b := b) (s := s) (p := (p : Int)) (d := false) h;have hpk := fun wA h => re_peek (w := wA) (b := b) (s := s) (p := (p : Int)) (d := false) h
 have hdc : Hid (Drawn w w) := Lh (Drawn.refl _);have hple : (p : Int) ≤ s.size := hA.le;obtain ⟨c0,c1,c2,-⟩ := hA.cells
 have hlt : p < s.size := by
  rcases Nat.lt_or_ge p s.size with h | h
  · exact h
  · rw [(pe_out s p (by omega)).2] at hs;cases hs
 rw [show decide ((s.size : Int) ≤ (p : Int)) = false from decide_eq_false (by omega)] at hen;rw [pe_in s p hlt] at hpk;have hsm := fun wA => r8_small (pk (bl s) p) wA;rw [hs] at hsm;have hrn := fun wA h => re_run (w := wA) (b := b) (s := s) (p := p) h;rw [hx] at hrn;unfold RePost at hrn;have hst0 := rStmt_run hs;rw [hx] at hst0;obtain ⟨R,hRd⟩ : ∃ R,R = rStmt (bl s) p := ⟨_,rfl⟩
 rw [← hRd] at hst0 ⊢;clear hx hs hRd;generalize pk (bl s) p = c at hpk hsm;replace hrn := Lh hrn;have hst1 : R = rStmt2 (bl s) p (x,q) := hst0;rw [rStmt2_rule hres] at hst1;have hxi : ¬ x = sInput := fun hh => by rw [hh] at hres;revert hres;decide
 have hxo : ¬ x = sOutput := fun hh => by rw [hh] at hres;revert hres;decide
 have hrs := fun wA => r8_Reserved (mk x) wA;rw [bl_mk,hres] at hrs;have hin := eq_str (mk x) sInput;have hou := eq_str (mk x) sOutput;rw [bl_mk] at hin hou;rw [decide_eq_false hxi] at hin;rw [decide_eq_false hxo] at hou;unfold sInput at hin;unfold sOutput at hou;have har := fun wA h => re_args (w := wA) (b := b) (s := s) (S := .ok q) h
 have hbo := fun wA h => re_body (w := wA) (b := b) (s := s) (S := (rArgs (bl s) q).map (·.2)) h;unfold RePost at har hbo;unfold VBody at hbo;have h63C : Hid (C.length + 1 ≤ maxLen) := Lh (by unfold maxLen;omega);have h63a3 : Hid (a3.length + 1 ≤ maxLen) := Lh (by unfold maxLen;omega);rw [hag] at hst1 hbo
 have hbd' : ((Except.ok aa : Except Int (List (Bool × ByteArray) × Nat)).map (·.2)).bind (rBody (bl s)) = .ok bb := hbd;rw [hbd'] at hst1 hbo
 have har2 : ∀ wA,Rs wA b s (.ok q) → Calls Tryd.prog 46 #[.pointer (some ⟨b,0,none⟩)] wA fun e w' => ∃ v x,e = .returned v ∧ VArgs wA.heap.size w' v x ∧ (∀ y,(Except.ok aa : Except Int (List (Bool × ByteArray) × Nat)) = .ok y → x = y.1) ∧ Rs w' b s (.ok aa.2) ∧ Mvd b wA w' := fun wA h => by
  refine (har wA h).mono ?_;rintro e w' ⟨v,x,h1,h2,h3,h4,h5⟩;exact ⟨v,x,h1,h2,fun y hy => h3 y (by show rArgs (bl s) q = _;rw [hag];exact hy),by rw [show (Except.ok q : Except Int Nat).bind (rArgs (bl s)) = .ok aa from hag] at h4;exact h4,h5⟩
 replace har := Lh har2;replace hbo := Lh hbo;have hR : Hid (R = .ok (.rule ⟨mk x,aa.1,bb.1⟩ p,bb.2)) := Lh hst1;clear hst0 hst1 hxi hxo hres hbd hbd' har2 hag;go_enter Tryd.func24,Tryd.ntmps24
 go_upto_region 5 with (first
   | (go_at_call 23;refine (hen _ (hA'.out.drawn hdc.out)).mono ?_;rintro e w1 ⟨rfl,hd1⟩;replace hdc := Lh (hdc.out.trans hd1);have hr1 := hA'.out.drawn hdc.out;obtain ⟨e0,e1,e2,e3,e4⟩ := hr1.cells;clear hd1)
   | (go_at_call 38;refine (hpk _ (hA'.out.drawn hdc.out)).mono ?_;rintro e w1 ⟨rfl,hd1⟩;replace hdc := Lh (hdc.out.trans hd1);have hr1 := hA'.out.drawn hdc.out;obtain ⟨e0,e1,e2,e3,e4⟩ := hr1.cells;clear hd1)
   | (go_at_call 39;refine (hsm _).mono ?_;rintro e w' ⟨rfl,rfl⟩)
   | (go_at_call 41;refine (hrn.out _ (hA'.out.drawn hdc.out)).mono ?_;rintro e w3 ⟨v3,x3,rfl,hv3,hx3,hr30,hm30⟩;unfold VStr at hv3;subst hv3;obtain rfl : x3 = x := hx3 _ rfl;have hr3 : Rd w3 b s (q : Int) false := hr30;obtain ⟨g0,g1,g2,g3,g4⟩ := hr3.cells
      have h3 : Hid (SQ w0 w3 l0 lo b gp gq s (.ok q) R0 R1 R2 R3 R4 R5 A B C a1 a2 a3) := Lh ((h.out.below (hdc.out.below _)).step hm30 hr30);have hB' := Lh hr3;have hdc3 : Hid (Drawn w3 w3) := Lh (Drawn.refl _);clear hm30 hx3 hr30 hrn hen hpk hsm hdc))
 go_cut [8] from 37 to 48 (fun v8 wx => ∃ bv : Bool,v8 = .bool bv ∧ Hid (SQ w0 wx l0 lo b gp gq s (.ok q) R0 R1 R2 R3 R4 R5 A B C a1 a2 a3))
 case first =>
  rcases hbl with hq | ⟨hq,hb⟩ | ⟨hq,hb,hc⟩ | ⟨hq,hb,hc⟩
  · have hen3 := fun wA h => re_end (w := wA) (b := b) (s := s) (p := (q : Int)) (d := false) h;rw [show decide ((s.size : Int) ≤ (q : Int)) = true from decide_eq_true (by omega)] at hen3;clear hq
    go_wp2_with (first
      | (go_at_call 23;refine (hen3 _ (hB'.out.drawn hdc3.out)).mono ?_;rintro e w4 ⟨rfl,hd1⟩;replace hdc3 := Lh (hdc3.out.trans hd1);replace hr3 := hB'.out.drawn hdc3.out;obtain ⟨e0,e1,e2,e3,e4⟩ := hr3.cells;clear hd1))
    go_meet
    case rel => exact ⟨_,rfl,Lh (h3.out.below (hdc3.out.below _))⟩
  · have hen3 := fun wA h => re_end (w := wA) (b := b) (s := s) (p := (q : Int)) (d := false) h;have hpk3 := fun wA h => re_peek (w := wA) (b := b) (s := s) (p := (q : Int)) (d := false) h;rw [show decide ((s.size : Int) ≤ (q : Int)) = false from decide_eq_false (by omega)] at hen3;rw [pe_in s q hq] at hpk3;have hbk := fun wA => r8_blank (pk (bl s) q) wA;rw [hb] at hbk;clear hb
    generalize pk (bl s) q = cq at *
    go_wp2_with (first
      | (go_at_call 23;refine (hen3 _ (hB'.out.drawn hdc3.out)).mono ?_;rintro e w4 ⟨rfl,hd1⟩;replace hdc3 := Lh (hdc3.out.trans hd1);replace hr3 := hB'.out.drawn hdc3.out;obtain ⟨e0,e1,e2,e3,e4⟩ := hr3.cells;clear hd1)
      | (go_at_call 38;refine (hpk3 _ (hB'.out.drawn hdc3.out)).mono ?_;rintro e w4 ⟨rfl,hd1⟩;replace hdc3 := Lh (hdc3.out.trans hd1);replace hr3 := hB'.out.drawn hdc3.out;obtain ⟨e0,e1,e2,e3,e4⟩ := hr3.cells;clear hd1)
      | (go_at_call 37;refine (hbk _).mono ?_;rintro e w' ⟨rfl,rfl⟩))
    go_meet
    case rel => exact ⟨_,rfl,Lh (h3.out.below (hdc3.out.below _))⟩
  · have hen3 := fun wA h => re_end (w := wA) (b := b) (s := s) (p := (q : Int)) (d := false) h;have hpk3 := fun wA h => re_peek (w := wA) (b := b) (s := s) (p := (q : Int)) (d := false) h;rw [show decide ((s.size : Int) ≤ (q : Int)) = false from decide_eq_false (by omega)] at hen3;rw [pe_in s q hq] at hpk3;have hbk := fun wA => r8_blank (pk (bl s) q) wA;rw [hb] at hbk;clear hb
    generalize pk (bl s) q = cq at *;subst hc
    go_wp2_with (first
      | (go_at_call 23;refine (hen3 _ (hB'.out.drawn hdc3.out)).mono ?_;rintro e w4 ⟨rfl,hd1⟩;replace hdc3 := Lh (hdc3.out.trans hd1);replace hr3 := hB'.out.drawn hdc3.out;obtain ⟨e0,e1,e2,e3,e4⟩ := hr3.cells;clear hd1)
      | (go_at_call 38;refine (hpk3 _ (hB'.out.drawn hdc3.out)).mono ?_;rintro e w4 ⟨rfl,hd1⟩;replace hdc3 := Lh (hdc3.out.trans hd1);replace hr3 := hB'.out.drawn hdc3.out;obtain ⟨e0,e1,e2,e3,e4⟩ := hr3.cells;clear hd1)
      | (go_at_call 37;refine (hbk _).mono ?_;rintro e w' ⟨rfl,rfl⟩))
    go_meet
    case rel => exact ⟨_,rfl,Lh (h3.out.below (hdc3.out.below _))⟩
  · have hen3 := fun wA h => re_end (w := wA) (b := b) (s := s) (p := (q : Int)) (d := false) h;have hpk3 := fun wA h => re_peek (w := wA) (b := b) (s := s) (p := (q : Int)) (d := false) h;rw [show decide ((s.size : Int) ≤ (q : Int)) = false from decide_eq_false (by omega)] at hen3;rw [pe_in s q hq] at hpk3;have hbk := fun wA => r8_blank (pk (bl s) q) wA;rw [hb] at hbk;clear hb
    generalize pk (bl s) q = cq at *;have hcq : (cq == 37) = false := by rw [beq_eq_false_iff_ne];exact hc
    go_wp2_with (first
      | (go_at_call 23;refine (hen3 _ (hB'.out.drawn hdc3.out)).mono ?_;rintro e w4 ⟨rfl,hd1⟩;replace hdc3 := Lh (hdc3.out.trans hd1);replace hr3 := hB'.out.drawn hdc3.out;obtain ⟨e0,e1,e2,e3,e4⟩ := hr3.cells;clear hd1)
      | (go_at_call 38;refine (hpk3 _ (hB'.out.drawn hdc3.out)).mono ?_;rintro e w4 ⟨rfl,hd1⟩;replace hdc3 := Lh (hdc3.out.trans hd1);replace hr3 := hB'.out.drawn hdc3.out;obtain ⟨e0,e1,e2,e3,e4⟩ := hr3.cells;clear hd1)
      | (go_at_call 37;refine (hbk _).mono ?_;rintro e w' ⟨rfl,rfl⟩))
    go_meet
    case rel => exact ⟨_,rfl,Lh (h3.out.below (hdc3.out.below _))⟩
 case rest =>
  clear h3 hB' hdc3 hr3 g0 g1 g2 g3 g4 hbl;obtain ⟨bv,rfl,h3⟩ := hcut;have hr3 : Rd wc b s (q : Int) false := h3.out.rd;obtain ⟨g0,g1,g2,g3,g4⟩ := hr3.cells;have hB' := Lh hr3;have hdc3 : Hid (Drawn wc wc) := Lh (Drawn.refl _)
  go_wp2_with (first
    | (go_at_call 45;refine (hrs _).mono ?_;rintro e w' ⟨rfl,rfl⟩;have h4 : SQ w0 wc l0 lo b gp gq s (.ok q) R0 R1 R2 R3 R4 R5 A B C a1 a2 a3 := h3.out.below (hdc3.out.below _);have hgs : Hid (wc.heap.size = wc.heap.size) := Lh rfl
       have hW : Hid (SQ w0 (wc.alloc (.cells #[.string (mk x3),.slice none 0 0,.slice none 0 0] 52)) l0 lo b gp gq s (.ok q) R0 R1 R2 R3 R4 R5 A B C a1 a2 a3) := Lh (h4.below ((Below.refl _ _).al (.cells #[.string (mk x3),.slice none 0 0,.slice none 0 0] 52)))
       have hgb : Hid ((wc.alloc (.cells #[.string (mk x3),.slice none 0 0,.slice none 0 0] 52)).heap[wc.heap.size]? = some (.cells #[.string (mk x3),.slice none 0 0,.slice none 0 0] 52)) := Lh (heap_alloc_new _ _);have hne : Hid (R2.ownBlock ≠ some wc.heap.size) := Lh (h4.pg.fresh);have hgl : Hid (lo ≤ wc.heap.size) := Lh h4.size;have hlb : Hid (b < lo) := Lh h4.lb.2
       clear h4 hrs)
    | (go_at_call 46;refine (har.out _ hW.out.rd).mono ?_;rintro e w6 ⟨v6,x6,rfl,hv6,hx6,hr60,hm60⟩;unfold VArgs at hv6;obtain ⟨va,vc,rfl,-⟩ := own_slice hv6;have hg6 := keepB hm60 hgb.out (by have := hgl.out;have := hlb.out;omega);obtain ⟨⟨c0,c1,c2⟩,f0,f1,f2⟩ := three_new hg6
       have h6 : SQ w0 w6 l0 lo b gp gq s (.ok aa.2) R0 R1 R2 R3 R4 R5 A B C a1 a2 a3 := hW.out.step hm60 hr60;have hmm : Mvd wc.heap.size w6 (w6.setCell ⟨wc.heap.size,1,none⟩ (.slice va x6.length vc)) := (Mvd.refl wc.heap.size w6).set _ _
       have h7 : Hid (SQ w0 (w6.setCell ⟨wc.heap.size,1,none⟩ (.slice va x6.length vc)) l0 lo b gp gq s (.ok aa.2) R0 R1 R2 R3 R4 R5 A B C a1 a2 a3) := Lh (h6.other hg6 hne.out hgl.out hmm);have hg7 := Lh (Go.heap_setCell_same w6 wc.heap.size 1 _ _ (.slice va x6.length vc) hg6)
       have hown7 := Lh (own_stays hv6 hmm (fun k hk e => own_apart hv6 hg6 typesTR (by rw [hk];exact e.symm)));have e6 := Lh (hx6 _ rfl);have hs7 : Hid (wc.heap.size + 1 ≤ (w6.setCell ⟨wc.heap.size,1,none⟩ (.slice va x6.length vc)).heap.size) := Lh (Nat.le_trans (by rw [World.size_alloc];omega) (Nat.le_trans hm60.size hmm.size));clear hv6 hx6 hr60 hm60 hmm h6 hg6 hW hgb)
    | (go_at_call 47;refine (hbo.out _ h7.out.rd).mono ?_;rintro e w8 ⟨v8,x8,rfl,⟨L8,hL8,hv8⟩,hx8,hr80,hm80⟩;obtain ⟨vb,vd,rfl,-⟩ := own_slice hv8.own;have hg8 := keepB hm80 hg7.out (by have := hgl.out;have := hlb.out;omega);obtain ⟨⟨c0,c1,c2⟩,f0,f1,f2⟩ := three_new hg8;have h8 : SQ w0 w8 l0 lo b gp gq s (.ok bb.2) R0 R1 R2 R3 R4 R5 A B C a1 a2 a3 := h7.out.step hm80 hr80
       have hmm : Mvd wc.heap.size w8 (w8.setCell ⟨wc.heap.size,2,none⟩ (.slice vb L8.length vd)) := (Mvd.refl wc.heap.size w8).set _ _;have h9 : Hid (SQ w0 (w8.setCell ⟨wc.heap.size,2,none⟩ (.slice vb L8.length vd)) l0 lo b gp gq s (.ok bb.2) R0 R1 R2 R3 R4 R5 A B C a1 a2 a3) := Lh (h8.other hg8 hne.out hgl.out hmm)
       have hg9 := Go.heap_setCell_same w8 wc.heap.size 2 _ _ (.slice vb L8.length vd) hg8;obtain ⟨⟨k0,k1,k2⟩,l0',l1',l2'⟩ := three_new hg9;have hown8 := own_mvd hown7.out hm80 (by rw [World.size_alloc];have := hgs.out;have := hgl.out;have := hlb.out;omega);have hown9 := own_stays hown8 hmm (fun k hk e => own_apart hown8 hg8 typesTR (by rw [hk];exact e.symm))
       have hru : Hid (RuleV (w8.setCell ⟨wc.heap.size,2,none⟩ (.slice vb L8.length vd)) lo (.slice va x6.length vc) (.slice vb L8.length vd) ⟨mk x3,x6,x8⟩) := Lh ⟨own_baseP hown9 (by rw [World.size_alloc];have := hgs.out;have := hgl.out;omega),L8,hL8,(hv8.rule hmm hg8).base (by have := hs7.out;have := hgs.out;have := hgl.out;omega)⟩;have e8 := Lh (hx8 _ rfl)
       have hgw := Lh (Array.getElem?_eq_some_iff.1 hg9).1;have hrd9 : Rd (w8.setCell ⟨wc.heap.size,2,none⟩ (.slice vb L8.length vd)) b s (bb.2 : Nat) false := h9.out.rd;obtain ⟨j0,j1,j2,-⟩ := hrd9.cells;clear hx8 hr80 hm80 hmm h8 hg8 hown8 hown9 hv8 hL8 h7 hg7 hown7 hs7 hrd9 hg9))
  have zz0 := h9.out.cells.2.1.2.2;obtain ⟨Lr,hLr,ho2,hin2⟩ := h9.out.pg.r2;replace hLr := Lh hLr;have hLn : Lr.length = C.length := by rw [← hLr.out,List.length_map]
  replace ho2 := Lh ho2;replace hin2 := Lh hin2;have h63L : Hid (Lr.length + 1 ≤ maxLen) := Lh (by unfold maxLen;omega);have h64L : Hid ((Lr.length + 1) * 64 ≤ 140737488355328) := Lh (by omega);clear hLn;generalize wc.heap.size = g at *;generalize hwA : (w8.setCell ⟨g,2,none⟩ (.slice vb L8.length vd)) = wA at *;clear hwA;have zz1 := k0;have zz2 := k1
  have zz3 := k2;refine wp_region_T (fun w' => w'.cell? ⟨gp,2,none⟩ = some R2 ∧ w'.cell? ⟨g,0,none⟩ = some (.string (mk x3)) ∧ w'.cell? ⟨g,1,none⟩ = some (.slice va x6.length vc) ∧ w'.cell? ⟨g,2,none⟩ = some (.slice vb L8.length vd)) [0,1,2,3,4,5] (by kernel_rfl) ⟨zz0,zz1,zz2,zz3⟩ (fun hHeld => ?_)
  refine wpAnyT_take (i := 0) (oi := _) (v := ?_) rfl rfl (by kernel_rfl) (by kernel_rfl) (by kernel_rfl) (fun _ _ _ h => h) (Or.inl ⟨by rfl,?_⟩) (by assumption) ?_;rotate_left
  · intro w hSw
    try dsimp only at hSw
    go_simp
    try with_reducible rfl
  refine wpAnyT_take (i := 1) (oi := _) (v := ?_) rfl rfl (by kernel_rfl) (by kernel_rfl) (by kernel_rfl) (fun _ _ _ h => h) (Or.inl ⟨by rfl,?_⟩) (by assumption) ?_;rotate_left
  · intro w hSw
    try dsimp only at hSw
    go_simp
    try with_reducible rfl
  refine wpAnyT_take (i := 2) (oi := _) (v := ?_) rfl rfl (by kernel_rfl) (by kernel_rfl) (by kernel_rfl) (fun _ _ _ h => h) (Or.inl ⟨by rfl,?_⟩) (by assumption) ?_;rotate_left
  · intro w hSw
    try dsimp only at hSw
    go_simp
    try with_reducible rfl
  refine wpAnyT_take (i := 3) (oi := _) (v := ?_) rfl rfl (by kernel_rfl) (by kernel_rfl) (by kernel_rfl) (fun _ _ _ h => h) (Or.inl ⟨by rfl,?_⟩) (by assumption) ?_;rotate_left
  · intro w hSw
    try dsimp only at hSw
    go_simp
    try with_reducible rfl
  refine wpAnyT_take (i := 4) (oi := _) (v := ?_) rfl rfl (by kernel_rfl) (by kernel_rfl) (by kernel_rfl) (fun _ _ _ h => h) (Or.inl ⟨by rfl,?_⟩) (by assumption) ?_;rotate_left
  · intro w hSw
    try dsimp only at hSw
    go_simp
    try with_reducible rfl
  refine wpAnyT_take (i := 5) (oi := _) (v := ?_) rfl rfl (by kernel_rfl) (by kernel_rfl) (by kernel_rfl) (fun _ _ _ h => h) (Or.inl ⟨by rfl,?_⟩) (by assumption) ?_;rotate_left
  · intro w hSw
    try dsimp only at hSw
    go_simp
    try with_reducible rfl
  refine wpAnyT_one (i := 6) (o := _) (by kernel_rfl) rfl (fun K hK => ?_);go_simp;refine hK.out _ _ (by have hb := ((Below.refl wA.heap.size wA).al (.cells #[.string (mk x3),(.slice va x6.length vc),(.slice vb L8.length vd)] 52)).drew;exact ⟨cell_below hb rfl zz0,cell_below hb rfl zz1,cell_below hb rfl zz2,cell_below hb rfl zz3⟩) ?_;clear hK K
  refine wpAnyT_one (i := 7) (o := _) (by kernel_rfl) rfl (fun K hK => ?_)
  refine step_append_lies (wA.alloc (.cells #[.string (mk x3),(.slice va x6.length vc),(.slice vb L8.length vd)] 52)).drew ?guardIX (.tmp 160) (.tmp 162) 26 ?opIX lo 52 ir (.agg #[.string ⟨#[]⟩,.slice none 0 0,.slice none 0 0]) 3 64 Tryd.underlying26 hir ir0 ir1 ir2 (by rfl) (by omega) R2 Lr.length (ruL Lr) ?evI1X (own_below (ho2.out.alloc _) (Below.refl _ _).drew) ⟨wA.heap.size,0,none⟩ 1 1 (ruC (⟨mk x3,x6,x8⟩,(.slice va x6.length vc),(.slice vb L8.length vd))) ?evI2X (by rfl) (own_cells_row (w := wA) rfl rfl) (by intro u hu;simp [ruC] at hu;rcases hu with rfl | rfl | rfl <;> rfl) (by omega) h63L.out h64L.out (by have := h9.out.size;show _ ≤ (wA.alloc _).heap.size;rw [World.size_alloc];omega) (wA.heap.size + 1) (by show (wA.alloc _).heap.size = _;rw [World.size_alloc]) ?restIX
  case guardIX => rfl
  case opIX => rfl
  case evI1X => rfl
  case evI2X => rfl
  intro gi ci wB hownB hgrowB hatB hltB;have hh9 := h9.out.below (Below.refl wA.heap.size wA).drew;have ho9 := own_below ho2.out (Below.refl wA.heap.size wA).drew;have hg := SQ.grow (w3 := wA.drew) (ob := (.cells #[.string (mk x3),(.slice va x6.length vc),(.slice vb L8.length vd)] 52)) hh9 hgrowB (fun j e => own_ge ho9 j e)
  have y2 : wB.cell? ⟨gp,2,none⟩ = some R2 := (cell_of_row _ _ 2 _ _ _ hg.2.2.1).trans rfl;have y3 : wB.frozen? ⟨gp,2,none⟩ = false := by have := hg.2.2.1;simp [World.frozen?,this]
  have hgg : ∀ n,wB.cell? ⟨g,n,none⟩ = wA.cell? ⟨g,n,none⟩ := fun n => World.cell?_of_block ((hgrowB.block g (by show g < (wA.alloc _).heap.size;rw [World.size_alloc];have := hgw.out;omega) (fun e => hne.out e.symm)).trans (heap_alloc_old wA _ hgw.out));have y4 : wB.cell? ⟨g,0,none⟩ = some (.string (mk x3)) := (hgg 0).trans zz1
  have y5 : wB.cell? ⟨g,1,none⟩ = some (.slice va x6.length vc) := (hgg 1).trans zz2;have y6 : wB.cell? ⟨g,2,none⟩ = some (.slice vb L8.length vd) := (hgg 2).trans zz3
  have h10 := Lh (SQ.put2 (w3 := wA.drew) (ob := (.cells #[.string (mk x3),(.slice va x6.length vc),(.slice vb L8.length vd)] 52)) (x := ⟨mk x3,x6,x8⟩) (av := (.slice va x6.length vc)) (bv := (.slice vb L8.length vd)) hh9 hgrowB hLr.out ho9 (fun y hy => (hin2.out y hy).below (Below.refl wA.heap.size wA).drew) (hru.out.below (Below.refl wA.heap.size wA).drew) hownB)
  clear hownB hgrowB hatB hltB hg hh9 ho9 hgg;refine hK.out _ _ ⟨y2,y4,y5,y6⟩ ?_;clear hK K;refine wpAnyT_free (i := 8) (o := _) (by kernel_rfl) rfl (by kernel_rfl) (fun K hK => ?_);go_simp;refine hK.out _ _ ?_;clear hK K;refine wpAnyT_free (i := 9) (o := _) (by kernel_rfl) rfl (by kernel_rfl) (fun K hK => ?_);go_simp;refine hK.out _ _ ?_;clear hK K
  refine wpAnyT_free (i := 10) (o := _) (by kernel_rfl) rfl (by kernel_rfl) (fun K hK => ?_);go_simp;refine hK.out _ _ ?_;clear hK K;refine wpAnyT_done (by kernel_rfl) ?_ _;clear hHeld;have q7 := h10.out.cells.2.2.1.2.2
  go_wp2_with (at_builtin;refine wpList_append_anyD rfl (.tmp 170) (.tmp 172) 29 rfl lo 3 it (.int .i64 0) 1 8 Tryd.underlying29 hit it0 it1 it2 rfl (by decide) _ a3.length (atL a3) rfl (h10.out.pg.r5.alloc _) ⟨wB.heap.size,0,none⟩ 1 1 [.int .i64 (p : Int)] rfl rfl (fun j u hj => own_cells_row (World.size_setCell _ _ _) rfl j u hj) (by intro u hu;simp at hu;rcases hu with rfl <;> rfl) h63a3.out (by omega) (by rw [World.size_alloc];have := h10.out.size;omega) ?_)
  intro v11 w11 hown11 hgr11 hat11;obtain ⟨gN11,cN11,rfl,-⟩ := own_shape hown11 (by omega)
  have hatN : R5.ownBlock = some gN11 ∨ gN11 = (wB.setCell ⟨gp,2,none⟩ (.slice (some ⟨gi,0,none⟩) (Lr.length + 1) ci)).heap.size + 1 := by
   rcases hat11 with e | e
   · exact .inl e.symm
   · exact .inr (by have e2 : gN11 = _ := Option.some.inj e;exact e2.trans (by simp))
  have hg := h10.out.grow hgr11 (fun j e => own_ge h10.out.pg.r5 j e);have z11 : w11.cell? ⟨gq,2,none⟩ = some R5 := (cell_of_row _ _ 2 _ _ _ hg.2.2.2.1).trans rfl;have f11 : w11.frozen? ⟨gq,2,none⟩ = false := by have := hg.2.2.2.1;simp [World.frozen?,this]
  have h11 := Lh (h10.out.put5 hgr11 (x := p) hown11 hatN);clear hg hown11 hgr11 hat11 hatN;go_wp2_with fail;go_end0;exact StP.rul (by rw [hR.out,e6.out,e8.out]) h11.out
end Go.Proofs.YtmjincocmhadeaaDoor
/- Parse: the document's reader: any statement. (gen_pez.py) -/
namespace Go.Proofs.YtmjincocmhadeaaDoor
open Go.RowKit Lx
theorem re_statement {w0 w : World} {l0 lo b gp gq : Nat} {s : ByteArray} {p : Nat} {R0 R1 R2 R3 R4 R5 : Value} {A : List (ByteArray × Int × ByteArray)} {B : List (ByteArray × Int)} {C : List PRule} {a1 a2 a3 : List Nat} (h : SQ w0 w l0 lo b gp gq s (.ok p) R0 R1 R2 R3 R4 R5 A B C a1 a2 a3) (hAl : A.length ≤ 4194304) (hBl : B.length ≤ 4194304) (hCl : C.length ≤ 4194304) (h1l : a1.length ≤ 4194304) (h2l : a2.length ≤ 4194304) (h3l : a3.length ≤ 4194304) :
    Calls Tryd.prog 24 #[.pointer (some ⟨b,0,none⟩),.pointer (some ⟨gp,0,none⟩),.pointer (some ⟨gq,0,none⟩)] w (StP w0 l0 lo b gp gq s A B C a1 a2 a3 (rStmt (bl s) p)) := by
 have hA : Rd w b s (p : Int) false := h.rd;have hple := hA.le
 cases hs : smallB (pk (bl s) p) with
 | false => exact st_no h hs
 | true =>
  cases hx : rRun (bl s) p with
  | error er => exact st_run h hs hx
  | ok y =>
   obtain ⟨x,q⟩ := y
   have hq : q ≤ s.size := by
    have h1 := (good_run.mono (bl s) p (by rw [bl_length];omega)).2;rw [hx,bl_length] at h1;have h2 : (q : Int) ≤ s.size := h1;omega
   have hbl : (q = s.size ∨ (q < s.size ∧ blankB (pk (bl s) q) = true) ∨ (q < s.size ∧ blankB (pk (bl s) q) = false ∧ pk (bl s) q = 37)) ∨ (q < s.size ∧ blankB (pk (bl s) q) = false ∧ ¬ pk (bl s) q = 37) := by
    rcases Nat.lt_or_ge q s.size with h1 | h1
    · cases hb : blankB (pk (bl s) q) with
      | true => exact .inl (.inr (.inl ⟨h1,rfl⟩))
      | false =>
       by_cases hc : pk (bl s) q = 37
       · exact .inl (.inr (.inr ⟨h1,rfl,hc⟩))
       · exact .inr ⟨h1,rfl,hc⟩
    · exact .inl (.inl (by omega))
   have hbl4 : q = s.size ∨ (q < s.size ∧ blankB (pk (bl s) q) = true) ∨ (q < s.size ∧ blankB (pk (bl s) q) = false ∧ pk (bl s) q = 37) ∨ (q < s.size ∧ blankB (pk (bl s) q) = false ∧ ¬ pk (bl s) q = 37) := by
    rcases hbl with (h1 | h1 | h1) | h1
    · exact .inl h1
    · exact .inr (.inl h1)
    · exact .inr (.inr (.inl h1))
    · exact .inr (.inr (.inr h1))
   by_cases hxi : x = sInput
   · have hxo : ¬ x = sOutput := by rw [hxi];decide
     rcases hbl with hbl | hbl
     · cases hsle : rSlash (bl s) q with
       | error er => exact st_in_slash h hs hx hxi hxo hsle hbl
       | ok ar =>
        obtain ⟨a,r⟩ := ar
        cases hte : rText (bl s) r with
        | error er => exact st_in_text h hs hx hxi hxo hsle hte hbl
        | ok ft =>
         obtain ⟨f,t⟩ := ft
         cases hdt : rSign 46 (bl s) (rSkip (bl s) t) with
         | error er => exact st_in_dot h hs hx hxi hxo hsle hte hdt hbl
         | ok q4 => exact st_in_ok h hs hx hxi hxo hsle hte hdt hAl h1l hbl
     · exact st_resI h hs hx hxi hxo (by rw [hxi];decide) hbl
   · by_cases hxo : x = sOutput
     · rcases hbl with hbl | hbl
       · cases hsle : rSlash (bl s) q with
         | error er => exact st_out_slash h hs hx hxi hxo hsle hbl
         | ok ar =>
          obtain ⟨a,r⟩ := ar
          cases hdt : rSign 46 (bl s) r with
          | error er => exact st_out_dot h hs hx hxi hxo hsle hdt hbl
          | ok q4 => exact st_out_ok h hs hx hxi hxo hsle hdt hBl h2l hbl
       · exact st_resO h hs hx hxi hxo (by rw [hxo];decide) hbl
     · cases hres : reservedB x with
       | true => exact st_res h hs hx hxi hxo hres hbl4
       | false =>
        cases hag : rArgs (bl s) q with
        | error er => exact st_rule_bad h hs hx hres (er := er) (by rw [hag];rfl) hbl4
        | ok aa =>
         cases hbd : rBody (bl s) aa.2 with
         | error er => exact st_rule_bad h hs hx hres (er := er) (by rw [hag];exact hbd) hbl4
         | ok bb => exact st_rule_ok h hs hx hres hag hbd hCl h3l hbl4
/-- what Program tells -/
def RpPost (w0 : World) (R : Except Int (List Stmt × Nat)) (e : Ending) (w' : World) : Prop :=
  match R with
  | .ok y => ∃ R0 R1 R2 R3 R4 R5,e = .returned (.tuple #[.agg #[R0,R1,R2],.agg #[R3,R4,R5],.int .i64 0,.bool true]) ∧ Below w0.heap.size w0 w' ∧ PrgVS w' w0.heap.size R0 R1 R2 R3 R4 R5 y.1
  | .error x => e = .returned (.tuple #[.agg #[.slice none 0 0,.slice none 0 0,.slice none 0 0],.agg #[.slice none 0 0,.slice none 0 0,.slice none 0 0],.int .i64 x,.bool false]) ∧ Below w0.heap.size w0 w'
/-- where the reader stands in a program: a place, the statements so far; or it has stopped -/
def Pos (L : Bs) (S : Except Int Nat) (l : List Stmt) : Prop :=
  match S with
  | .ok p => l.length ≤ p ∧ ∃ f,L.length < f + p ∧ rProg L = rProgN L f p l
  | .error x => rProg L = .error x
theorem Pos.start (L : Bs) : Pos L (.ok (rSkip L 0)) [] := ⟨Nat.zero_le _,L.length + 1,by omega,rfl⟩
theorem Pos.done {L : Bs} {p : Nat} {l : List Stmt} (h : Pos L (.ok p) l) (hp : p ≤ L.length) (he : pk L p = -1) : rProg L = .ok (l,p) := by
 obtain ⟨-,f,hf,h⟩ := h;obtain ⟨g,rfl⟩ : ∃ g,f = g + 1 := ⟨f - 1,by omega⟩;rw [h];show (if _ then _ else _) = _;rw [if_pos he]
theorem Pos.bad {L : Bs} {p : Nat} {l : List Stmt} {x : Int} (h : Pos L (.ok p) l) (hp : p ≤ L.length) (he : ¬ pk L p = -1) (hs : rStmt L p = .error x) : Pos L (.error x) l := by
 obtain ⟨-,f,hf,h⟩ := h;obtain ⟨g,rfl⟩ : ∃ g,f = g + 1 := ⟨f - 1,by omega⟩;show rProg L = _;rw [h];show (if _ then _ else _) = _;rw [if_neg he,hs];rfl
theorem Pos.next {L : Bs} {p q : Nat} {l : List Stmt} {x : Stmt} (h : Pos L (.ok p) l) (hp : p ≤ L.length) (he : ¬ pk L p = -1) (hs : rStmt L p = .ok (x,q)) : Pos L (.ok (rSkip L q)) (l ++ [x]) ∧ p < rSkip L q ∧ rSkip L q ≤ L.length := by
 obtain ⟨hl,f,hf,h⟩ := h;obtain ⟨g,rfl⟩ : ∃ g,f = g + 1 := ⟨f - 1,by omega⟩;obtain ⟨h1,h2⟩ := stmt_lt hp hs;obtain ⟨h3,h4⟩ := rskip_le L q h2;refine ⟨⟨by rw [List.length_append];simp;omega,g,by omega,?_⟩,by omega,h4⟩;rw [h];show (if _ then _ else _) = _;rw [if_neg he,hs];rfl
end Go.Proofs.YtmjincocmhadeaaDoor
/- Parse: the document's reader: a program. (gen_pga.py) -/
namespace Go.Proofs.YtmjincocmhadeaaDoor
open Go.RowKit Lx
theorem SQ.start (w : World) (s : ByteArray) (hs : s.size ≤ 4194304) : SQ ((w.alloc (.cells #[.slice none 0 0,.slice none 0 0,.slice none 0 0] 28)).alloc (.cells #[.slice none 0 0,.slice none 0 0,.slice none 0 0] 31)) (((((w.alloc (.cells #[.slice none 0 0,.slice none 0 0,.slice none 0 0] 28)).alloc (.cells #[.slice none 0 0,.slice none 0 0,.slice none 0 0] 31)).alloc (.cells #[.string s,.int .i64 0,.bool false] 73)).alloc (.cells #[.slice none 0 0,.slice none 0 0,.slice none 0 0] 28)).alloc (.cells #[.slice none 0 0,.slice none 0 0,.slice none 0 0] 31)) (w.heap.size + 2) (w.heap.size + 5) (w.heap.size + 2) (w.heap.size + 3) (w.heap.size + 4) s (.ok 0) (.slice none 0 0) (.slice none 0 0) (.slice none 0 0) (.slice none 0 0) (.slice none 0 0) (.slice none 0 0) [] [] [] [] [] [] := by
 have z2 : ((w.alloc (.cells #[.slice none 0 0,.slice none 0 0,.slice none 0 0] 28)).alloc (.cells #[.slice none 0 0,.slice none 0 0,.slice none 0 0] 31)).heap.size = w.heap.size + 2 := by simp [World.size_alloc]
 generalize ((w.alloc (.cells #[.slice none 0 0,.slice none 0 0,.slice none 0 0] 28)).alloc (.cells #[.slice none 0 0,.slice none 0 0,.slice none 0 0] 31)) = w2 at z2 ⊢;have z3 : (w2.alloc (.cells #[.string s,.int .i64 0,.bool false] 73)).heap.size = w.heap.size + 3 := by rw [World.size_alloc,z2]
 have z4 : ((w2.alloc (.cells #[.string s,.int .i64 0,.bool false] 73)).alloc (.cells #[.slice none 0 0,.slice none 0 0,.slice none 0 0] 28)).heap.size = w.heap.size + 4 := by rw [World.size_alloc,z3]
 have n3 : (w2.alloc (.cells #[.string s,.int .i64 0,.bool false] 73)).heap[w.heap.size + 2]? = some (.cells #[.string s,.int .i64 0,.bool false] 73) := by rw [← z2];exact heap_alloc_new _ _
 have n4 : ((w2.alloc (.cells #[.string s,.int .i64 0,.bool false] 73)).alloc (.cells #[.slice none 0 0,.slice none 0 0,.slice none 0 0] 28)).heap[w.heap.size + 3]? = some (.cells #[.slice none 0 0,.slice none 0 0,.slice none 0 0] 28) := by rw [← z3];exact heap_alloc_new _ _
 have n5 : (((w2.alloc (.cells #[.string s,.int .i64 0,.bool false] 73)).alloc (.cells #[.slice none 0 0,.slice none 0 0,.slice none 0 0] 28)).alloc (.cells #[.slice none 0 0,.slice none 0 0,.slice none 0 0] 31)).heap[w.heap.size + 4]? = some (.cells #[.slice none 0 0,.slice none 0 0,.slice none 0 0] 31) := by rw [← z4];exact heap_alloc_new _ _
 have b4 : ((w2.alloc (.cells #[.string s,.int .i64 0,.bool false] 73)).alloc (.cells #[.slice none 0 0,.slice none 0 0,.slice none 0 0] 28)).heap[w.heap.size + 2]? = some (.cells #[.string s,.int .i64 0,.bool false] 73) := by rw [heap_alloc_old _ _ (by rw [z3];omega)];exact n3
 have b5 : (((w2.alloc (.cells #[.string s,.int .i64 0,.bool false] 73)).alloc (.cells #[.slice none 0 0,.slice none 0 0,.slice none 0 0] 28)).alloc (.cells #[.slice none 0 0,.slice none 0 0,.slice none 0 0] 31)).heap[w.heap.size + 2]? = some (.cells #[.string s,.int .i64 0,.bool false] 73) := by rw [heap_alloc_old _ _ (by rw [z4];omega)];exact b4
 have p5 : (((w2.alloc (.cells #[.string s,.int .i64 0,.bool false] 73)).alloc (.cells #[.slice none 0 0,.slice none 0 0,.slice none 0 0] 28)).alloc (.cells #[.slice none 0 0,.slice none 0 0,.slice none 0 0] 31)).heap[w.heap.size + 3]? = some (.cells #[.slice none 0 0,.slice none 0 0,.slice none 0 0] 28) := by rw [heap_alloc_old _ _ (by rw [z4];omega)];exact n4
 have hb := (((Below.refl w2.heap.size w2).al (.cells #[.string s,.int .i64 0,.bool false] 73)).al (.cells #[.slice none 0 0,.slice none 0 0,.slice none 0 0] 28)).al (.cells #[.slice none 0 0,.slice none 0 0,.slice none 0 0] 31);rw [z2] at hb;exact ⟨hb,⟨b5,by decide,Int.natCast_nonneg _,hs⟩,p5,n5,PrgV.nil _ _,by omega,by omega,by omega,by rw [World.size_alloc,z4];omega⟩
section
variable {w : World} {lo : Nat} {R0 R1 R2 R3 R4 R5 : Value} {A : List (ByteArray × Int × ByteArray)} {B : List (ByteArray × Int)} {C : List PRule} {a1 a2 a3 : List Nat}
theorem PrgV.form0 (h : PrgV w lo R0 R1 R2 R3 R4 R5 A B C a1 a2 a3) : ∃ va vc,R0 = .slice va A.length vc := (own_slice h.r0).elim fun va h => h.elim fun vc h => ⟨va,vc,h.1⟩
theorem PrgV.form1 (h : PrgV w lo R0 R1 R2 R3 R4 R5 A B C a1 a2 a3) : ∃ va vc,R1 = .slice va B.length vc := (own_slice h.r1).elim fun va h => h.elim fun vc h => ⟨va,vc,h.1⟩
theorem PrgV.form2 (h : PrgV w lo R0 R1 R2 R3 R4 R5 A B C a1 a2 a3) : ∃ va vc,R2 = .slice va C.length vc := by
 obtain ⟨L,hL,h2,_⟩ := h.r2;obtain ⟨va,vc,e,_⟩ := own_slice h2;refine ⟨va,vc,?_⟩;rw [e,← hL,List.length_map]
theorem PrgV.form3 (h : PrgV w lo R0 R1 R2 R3 R4 R5 A B C a1 a2 a3) : ∃ va vc,R3 = .slice va a1.length vc := (own_slice h.r3).elim fun va h => h.elim fun vc h => ⟨va,vc,h.1⟩
theorem PrgV.form4 (h : PrgV w lo R0 R1 R2 R3 R4 R5 A B C a1 a2 a3) : ∃ va vc,R4 = .slice va a2.length vc := (own_slice h.r4).elim fun va h => h.elim fun vc h => ⟨va,vc,h.1⟩
theorem PrgV.form5 (h : PrgV w lo R0 R1 R2 R3 R4 R5 A B C a1 a2 a3) : ∃ va vc,R5 = .slice va a3.length vc := (own_slice h.r5).elim fun va h => h.elim fun vc h => ⟨va,vc,h.1⟩
end
theorem SQ.boxes {w wr : World} {b gp gq lo : Nat} {s : ByteArray} {S : Except Int Nat} {R0 R1 R2 R3 R4 R5 : Value} {A : List (ByteArray × Int × ByteArray)} {B : List (ByteArray × Int)} {C : List PRule} {a1 a2 a3 : List Nat} (h : SQ ((w.alloc (.cells #[.slice none 0 0,.slice none 0 0,.slice none 0 0] 28)).alloc (.cells #[.slice none 0 0,.slice none 0 0,.slice none 0 0] 31)) wr (w.heap.size + 2) lo b gp gq s S R0 R1 R2 R3 R4 R5 A B C a1 a2 a3) : wr.heap[w.heap.size]? = some (.cells #[.slice none 0 0,.slice none 0 0,.slice none 0 0] 28) ∧ wr.heap[w.heap.size + 1]? = some (.cells #[.slice none 0 0,.slice none 0 0,.slice none 0 0] 31) ∧ Below w.heap.size w wr := by
 have h1 := h.fr;have z1 : (w.alloc (.cells #[.slice none 0 0,.slice none 0 0,.slice none 0 0] 28)).heap.size = w.heap.size + 1 := World.size_alloc _ _
 have n1 : ((w.alloc (.cells #[.slice none 0 0,.slice none 0 0,.slice none 0 0] 28)).alloc (.cells #[.slice none 0 0,.slice none 0 0,.slice none 0 0] 31)).heap[w.heap.size]? = some (.cells #[.slice none 0 0,.slice none 0 0,.slice none 0 0] 28) := by rw [heap_alloc_old _ _ (by rw [z1];omega)];exact heap_alloc_new _ _
 have n2 : ((w.alloc (.cells #[.slice none 0 0,.slice none 0 0,.slice none 0 0] 28)).alloc (.cells #[.slice none 0 0,.slice none 0 0,.slice none 0 0] 31)).heap[w.heap.size + 1]? = some (.cells #[.slice none 0 0,.slice none 0 0,.slice none 0 0] 31) := by rw [← z1];exact heap_alloc_new _ _
 refine ⟨(h1.block _ (by omega)).trans n1,(h1.block _ (by omega)).trans n2,(((Below.refl w.heap.size w).al (.cells #[.slice none 0 0,.slice none 0 0,.slice none 0 0] 28)).al (.cells #[.slice none 0 0,.slice none 0 0,.slice none 0 0] 31)).trans (h1.mono (by omega))⟩
theorem PrgV.base {w : World} {lo lo' : Nat} {R0 R1 R2 R3 R4 R5 : Value} {A : List (ByteArray × Int × ByteArray)} {B : List (ByteArray × Int)} {C : List PRule} {a1 a2 a3 : List Nat} (h : PrgV w lo R0 R1 R2 R3 R4 R5 A B C a1 a2 a3) (hb : lo' ≤ lo) : PrgV w lo' R0 R1 R2 R3 R4 R5 A B C a1 a2 a3 := by
 obtain ⟨L,hL,h2,h3⟩ := h.r2;exact ⟨own_baseP h.r0 hb,own_baseP h.r1 hb,⟨L,hL,own_baseP h2 hb,fun y hy => (h3 y hy).base hb⟩,own_baseP h.r3 hb,own_baseP h.r4 hb,own_baseP h.r5 hb,h.d34,h.d35,h.d45⟩
/-- a statement more, or the end -/
theorem SQ.next {w0 w : World} {l0 lo b gp gq : Nat} {s : ByteArray} {p : Nat} {R0 R1 R2 R3 R4 R5 : Value} {l : List Stmt} (hpos : Pos (bl s) (.ok p) l) (hp : p < s.size) (hs : s.size ≤ 4194304) (h : SQ w0 w l0 lo b gp gq s (.ok p) R0 R1 R2 R3 R4 R5 (inpsOf l) (outsOf l) (rulesOf l) (inAts l) (outAts l) (ruAts l)) :
    Calls Tryd.prog 24 #[.pointer (some ⟨b,0,none⟩),.pointer (some ⟨gp,0,none⟩),.pointer (some ⟨gq,0,none⟩)] w fun e w' => e = .returned (.tuple #[]) ∧ ∃ (S' : Except Int Nat) (Q0 Q1 Q2 Q3 Q4 Q5 : Value) (l' : List Stmt),SQ w0 w' l0 lo b gp gq s S' Q0 Q1 Q2 Q3 Q4 Q5 (inpsOf l') (outsOf l') (rulesOf l') (inAts l') (outAts l') (ruAts l') ∧ Pos (bl s) (S'.map (rSkip (bl s))) l' ∧ ∀ q,S' = .ok q → p < rSkip (bl s) q ∧ rSkip (bl s) q ≤ s.size := by
 have hl := hpos.1;have hpl : p ≤ (bl s).length := by rw [bl_length];omega
 obtain ⟨n1,n2,n3⟩ := parts_le l;have n4 := in_len l;have n5 := out_len l;have n6 := ru_len l
 have hne : ¬ pk (bl s) p = -1 := by
  rw [pk_bat,if_pos hp];have := bat_range s p;omega
 refine (re_statement h (by omega) (by omega) (by omega) (by omega) (by omega) (by omega)).mono ?_;rintro e w' ⟨rfl,hR⟩;refine ⟨rfl,?_⟩
 cases hx : rStmt (bl s) p with
 | error x =>
  rw [hx] at hR;obtain ⟨Q0,Q1,Q2,Q3,Q4,Q5,h1⟩ := hR;exact ⟨.error x,Q0,Q1,Q2,Q3,Q4,Q5,l,h1,hpos.bad hpl hne hx,fun q hq => by cases hq⟩
 | ok y =>
  obtain ⟨x,q⟩ := y;rw [hx] at hR;obtain ⟨Q0,Q1,Q2,Q3,Q4,Q5,h1⟩ := hR;obtain ⟨h2,h3,h4⟩ := hpos.next hpl hne hx;rw [bl_length] at h4;refine ⟨.ok q,Q0,Q1,Q2,Q3,Q4,Q5,l ++ [x],?_,h2,fun q' hq => by injection hq with hq;rw [← hq];exact ⟨h3,h4⟩⟩;have t0 : inpsOf (l ++ [x]) = inpsOf l ++ inpsOf [x] := List.filterMap_append
  have t1 : outsOf (l ++ [x]) = outsOf l ++ outsOf [x] := List.filterMap_append;have t2 : rulesOf (l ++ [x]) = rulesOf l ++ rulesOf [x] := List.filterMap_append;have t3 : inAts (l ++ [x]) = inAts l ++ inAts [x] := List.filterMap_append;have t4 : outAts (l ++ [x]) = outAts l ++ outAts [x] := List.filterMap_append;have t5 : ruAts (l ++ [x]) = ruAts l ++ ruAts [x] := List.filterMap_append
  rw [t0,t1,t2,t3,t4,t5];exact h1
/-- has the reader stopped? -/
def badOf (w : World) (b : Nat) : Bool := match w.cell? ⟨b,2,none⟩ with
  | some (.bool x) => x
  | _ => false
theorem badOf_rd {w : World} {b : Nat} {s : ByteArray} {p : Int} {d : Bool} (h : Rd w b s p d) : badOf w b = d := by
 unfold badOf;rw [h.cells.2.2.1]
theorem re_Program (s : ByteArray) (w : World) (hs : s.size ≤ 4194304) : Calls Tryd.prog 7 #[.string s] w (RpPost w (rProg (bl s))) := by
 have hq0 : Hid (SQ ((w.alloc (.cells #[.slice none 0 0,.slice none 0 0,.slice none 0 0] 28)).alloc (.cells #[.slice none 0 0,.slice none 0 0,.slice none 0 0] 31)) (((((w.alloc (.cells #[.slice none 0 0,.slice none 0 0,.slice none 0 0] 28)).alloc (.cells #[.slice none 0 0,.slice none 0 0,.slice none 0 0] 31)).alloc (.cells #[.string s,.int .i64 0,.bool false] 73)).alloc (.cells #[.slice none 0 0,.slice none 0 0,.slice none 0 0] 28)).alloc (.cells #[.slice none 0 0,.slice none 0 0,.slice none 0 0] 31)) (w.heap.size + 2) (w.heap.size + 5) (w.heap.size + 1 + 1) (w.heap.size + 1 + 1 + 1) (w.heap.size + 1 + 1 + 1 + 1) s (.ok 0) (.slice none 0 0) (.slice none 0 0) (.slice none 0 0) (.slice none 0 0) (.slice none 0 0) (.slice none 0 0) [] [] [] [] [] []) := Lh (SQ.start w s hs)
 have hsk := Lh fun wA h => re_skip (w := wA) (b := w.heap.size + 1 + 1) (s := s) (S := .ok 0) h;go_enter Tryd.func7,Tryd.ntmps7
 go_wp2_with (go_at_call 22
              refine (hsk.out _ hq0.out.rd).mono ?_;rintro e w1 ⟨rfl,hr10,hm10⟩
              have hq1 : Hid (SQ ((w.alloc (.cells #[.slice none 0 0,.slice none 0 0,.slice none 0 0] 28)).alloc (.cells #[.slice none 0 0,.slice none 0 0,.slice none 0 0] 31)) w1 (w.heap.size + 2) (w.heap.size + 5) (w.heap.size + 1 + 1) (w.heap.size + 1 + 1 + 1) (w.heap.size + 1 + 1 + 1 + 1) s (.ok (rSkip (bl s) 0)) (.slice none 0 0) (.slice none 0 0) (.slice none 0 0) (.slice none 0 0) (.slice none 0 0) (.slice none 0 0) [] [] [] [] [] []) := Lh (hq0.out.step hm10 hr10)
              clear hr10 hm10 hsk hq0)
 go_loopw [] (fun wr => ∃ (S : Except Int Nat) (R0 R1 R2 R3 R4 R5 : Value) (l : List Stmt),Hid (SQ ((w.alloc (.cells #[.slice none 0 0,.slice none 0 0,.slice none 0 0] 28)).alloc (.cells #[.slice none 0 0,.slice none 0 0,.slice none 0 0] 31)) wr (w.heap.size + 2) (w.heap.size + 5) (w.heap.size + 1 + 1) (w.heap.size + 1 + 1 + 1) (w.heap.size + 1 + 1 + 1 + 1) s S R0 R1 R2 R3 R4 R5 (inpsOf l) (outsOf l) (rulesOf l) (inAts l) (outAts l) (ruAts l)) ∧ Hid (Pos (bl s) S l)) (fun wr => if badOf wr (w.heap.size + 1 + 1) then 0 else s.size + 1 - placeOf wr (w.heap.size + 1 + 1))
 case atStart => exact ⟨_,_,_,_,_,_,_,[],hq1,Lh (Pos.start _)⟩
 case round =>
  clear hq1;obtain ⟨S,R0,R1,R2,R3,R4,R5,l,hsq,hpos⟩ := hrel;have hbx := Lh (SQ.boxes hsq.out);have hlen : Hid (s.size ≤ 4194304) := Lh hs
  cases S with
  | error er =>
   have hR : Hid (rProg (bl s) = .error er) := Lh hpos.out;have hrd : Rd wr (w.heap.size + 1 + 1) s er true := hsq.out.rd;obtain ⟨e0,e1,e2,e3,e4⟩ := hrd.cells;clear hrd hpos hsq;go_wp2_with fail;have hp0 : Hid (wr.drew.heap[w.heap.size]? = some (.cells #[.slice none 0 0,.slice none 0 0,.slice none 0 0] 28)) := Lh hbx.out.1
   have hq0 : Hid (wr.drew.heap[w.heap.size + 1]? = some (.cells #[.slice none 0 0,.slice none 0 0,.slice none 0 0] 31)) := Lh hbx.out.2.1;have hfb0 : Hid (Below w.heap.size w wr.drew) := Lh hbx.out.2.2.drew;clear hbx hlen;refine wp_region_T (fun w' => w'.cell? ⟨w.heap.size + 1 + 1,1,none⟩ = some (.int .i64 er)) [0,1,2,3,4,5] (by kernel_rfl) e1 (fun hHeld => ?_)
   refine wpAnyT_take (i := 0) (oi := _) (v := ?_) rfl rfl (by kernel_rfl) (by kernel_rfl) (by kernel_rfl) (fun _ _ _ h => h) (Or.inl ⟨by rfl,?_⟩) (by assumption) ?_;rotate_left
   · intro w hSw
     try dsimp only at hSw
     go_simp
     try with_reducible rfl
   refine wpAnyT_take (i := 1) (oi := _) (v := ?_) rfl rfl (by kernel_rfl) (by kernel_rfl) (by kernel_rfl) (fun _ _ _ h => h) (Or.inl ⟨by rfl,?_⟩) (by assumption) ?_;rotate_left
   · intro w hSw
     try dsimp only at hSw
     go_simp
     try with_reducible rfl
   refine wpAnyT_take (i := 2) (oi := _) (v := ?_) rfl rfl (by kernel_rfl) (by kernel_rfl) (by kernel_rfl) (fun _ _ _ h => h) (Or.inl ⟨by rfl,?_⟩) (by assumption) ?_;rotate_left
   · intro w hSw
     try dsimp only at hSw
     go_simp
     try with_reducible rfl
   refine wpAnyT_take (i := 3) (oi := _) (v := ?_) rfl rfl (by kernel_rfl) (by kernel_rfl) (by kernel_rfl) (fun _ _ _ h => h) (Or.inl ⟨by rfl,?_⟩) (by assumption) ?_;rotate_left
   · intro w hSw
     try dsimp only at hSw
     go_simp
     try with_reducible rfl
   refine wpAnyT_take (i := 4) (oi := _) (v := ?_) rfl rfl (by kernel_rfl) (by kernel_rfl) (by kernel_rfl) (fun _ _ _ h => h) (Or.inl ⟨by rfl,?_⟩) (by assumption) ?_;rotate_left
   · intro w hSw
     try dsimp only at hSw
     go_simp
     try with_reducible rfl
   refine wpAnyT_take (i := 5) (oi := _) (v := ?_) rfl rfl (by kernel_rfl) (by kernel_rfl) (by kernel_rfl) (fun _ _ _ h => h) (Or.inl ⟨by rfl,?_⟩) (by assumption) ?_;rotate_left
   · intro w hSw
     try dsimp only at hSw
     go_simp
     try with_reducible rfl
   refine wpAnyT_one (i := 6) (o := _) (by kernel_rfl) rfl (fun K hK => ?_)
   with_reducible refine step_store_row ?gA6 28 (.tmp 2) (.tmp 32) ?oA6 (w.heap.size) #[.slice none 0 0,.slice none 0 0,.slice none 0 0] ?xA6 ?yA6 28 #[.slice none 0 0,.slice none 0 0,.slice none 0 0] hp0.out ?sA6 ?dA6 ?nA6 ?rA6
   case gA6 => rfl
   case oA6 => rfl
   case xA6 => kernel_rfl
   case yA6 => kernel_rfl
   case sA6 => exact sizeProg
   case dA6 => kernel_rfl
   case nA6 => simp [Value.oneCell']
   intro wz6 hbx6 hgr6 hsz6;have hoth6 : Hid (wz6.heap[w.heap.size + 1]? = some (.cells #[.slice none 0 0,.slice none 0 0,.slice none 0 0] 31)) := Lh ((hgr6.block _ (Array.getElem?_eq_some_iff.1 hq0.out).1 (fun e => by injection e with e;omega)).trans hq0.out);have hfb6 := Lh (hfb0.out.trans (Below.of_grown hgr6 (by omega) hfb0.out.size))
   have hc6 : wz6.cell? ⟨w.heap.size + 1 + 1,1,none⟩ = some (.int .i64 er) := mvd_cell hgr6 e1 (by omega);clear hgr6 hsz6;refine hK.out _ _ hc6 ?_;clear hK K;refine wpAnyT_one (i := 7) (o := _) (by kernel_rfl) rfl (fun K hK => ?_)
   with_reducible refine step_store_row ?gA7 31 (.tmp 3) (.tmp 33) ?oA7 (w.heap.size + 1) #[.slice none 0 0,.slice none 0 0,.slice none 0 0] ?xA7 ?yA7 31 #[.slice none 0 0,.slice none 0 0,.slice none 0 0] hoth6.out ?sA7 ?dA7 ?nA7 ?rA7
   case gA7 => rfl
   case oA7 => rfl
   case xA7 => kernel_rfl
   case yA7 => kernel_rfl
   case sA7 => exact sizePlaces
   case dA7 => kernel_rfl
   case nA7 => simp [Value.oneCell']
   intro wz7 hbx7 hgr7 hsz7;have hoth7 : Hid (wz7.heap[w.heap.size]? = some (.cells #[.slice none 0 0,.slice none 0 0,.slice none 0 0] 28)) := Lh ((hgr7.block _ (Array.getElem?_eq_some_iff.1 hbx6.out).1 (fun e => by injection e with e;omega)).trans hbx6.out);have hfb7 := Lh (hfb6.out.trans (Below.of_grown hgr7 (by omega) hfb6.out.size))
   have hc7 : wz7.cell? ⟨w.heap.size + 1 + 1,1,none⟩ = some (.int .i64 er) := mvd_cell hgr7 hc6 (by omega);clear hgr7 hsz7;refine hK.out _ _ hc7 ?_;clear hK K;refine wpAnyT_free (i := 8) (o := _) (by kernel_rfl) rfl (by kernel_rfl) (fun K hK => ?_);go_simp;refine hK.out _ _ ?_;clear hK K;refine wpAnyT_free (i := 9) (o := _) (by kernel_rfl) rfl (by kernel_rfl) (fun K hK => ?_);go_simp
   refine hK.out _ _ ?_;clear hK K;refine wpAnyT_done (by kernel_rfl) ?_ _;clear hHeld e1 hc6 hc7;go_wp2_with fail
   refine bodyPost_ret (v := .tuple #[.agg #[.slice none 0 0,.slice none 0 0,.slice none 0 0],.agg #[.slice none 0 0,.slice none 0 0,.slice none 0 0],.int .i64 er,.bool false]) (results_cellA4 rfl _ _ (w.heap.size) (w.heap.size + 1) 28 31 _ _ (0,0) (0,0) _ _ rfl rfl hoth7.out hbx7.out Tryd.underlying28 Tryd.underlying31 rfl rfl sizeProg sizePlaces _ _ rfl rfl) rfl ?_;rw [hR.out]
   exact ⟨rfl,hfb7.out⟩
  | ok p =>
   have hrd : Rd wr (w.heap.size + 1 + 1) s (p : Int) false := hsq.out.rd;have hme := Lh (placeOf_rd hrd);have hbd := Lh (badOf_rd hrd);have hple := hrd.le;obtain ⟨c0,c1,c2,-⟩ := hrd.cells;have hen := fun wA h => re_end (w := wA) (b := w.heap.size + 1 + 1) (s := s) (p := (p : Int)) (d := false) h;replace hrd := Lh hrd
   by_cases hp : p < s.size
   · rw [show decide ((s.size : Int) ≤ (p : Int)) = false from decide_eq_false (by omega)] at hen
     have hst := Lh fun wA h => SQ.next (w := wA) (w0 := ((w.alloc (.cells #[.slice none 0 0,.slice none 0 0,.slice none 0 0] 28)).alloc (.cells #[.slice none 0 0,.slice none 0 0,.slice none 0 0] 31))) (l0 := w.heap.size + 2) (lo := w.heap.size + 5) (b := w.heap.size + 1 + 1) (gp := w.heap.size + 1 + 1 + 1) (gq := w.heap.size + 1 + 1 + 1 + 1) (R0 := R0) (R1 := R1) (R2 := R2) (R3 := R3) (R4 := R4) (R5 := R5) hpos.out hp hlen.out h
     have hsk := Lh fun wA S' h => re_skip (w := wA) (b := w.heap.size + 1 + 1) (s := s) (S := S') h;have hlt : Hid (p < s.size) := Lh hp;clear hp
     go_wp2_with (first
       | (go_at_call 23;refine (hen _ hrd.out).mono ?_;rintro e w1 ⟨rfl,hd1⟩;have hsq1 := Lh (hsq.out.below (hd1.below _));clear hen hd1)
       | (go_at_call 24;refine (hst.out _ hsq1.out).mono ?_;rintro e w2 ⟨rfl,S',Q0,Q1,Q2,Q3,Q4,Q5,l',hsq20,hpos20,hm20⟩;have hsq2 := Lh hsq20;have hpos2 := Lh hpos20;have hm2 := Lh hm20;clear hst hsq20 hpos20 hm20)
       | (go_at_call 22;refine (hsk.out _ S' hsq2.out.rd).mono ?_;rintro e w3 ⟨rfl,hr30,hm30⟩;have hsq3 := Lh (hsq2.out.step hm30 hr30);clear hr30 hm30))
     go_roundw
     case rel => exact ⟨S'.map (rSkip (bl s)),Q0,Q1,Q2,Q3,Q4,Q5,l',hsq3,hpos2⟩
     case measure =>
      have hr := hsq3.out.rd;rw [hbd.out,hme.out];have hlt' := hlt.out
      cases S' with
      | error x =>
       have hr' : Rd w3 (w.heap.size + 1 + 1) s x true := hr;rw [badOf_rd hr'];simp;omega
      | ok q =>
       have hr' : Rd w3 (w.heap.size + 1 + 1) s ((rSkip (bl s) q : Nat) : Int) false := hr;have h1 := hm2.out q rfl;rw [badOf_rd hr',placeOf_rd hr'];simp only [Bool.false_eq_true,if_false];omega
   · rw [show decide ((s.size : Int) ≤ (p : Int)) = true from decide_eq_true (by omega)] at hen;have hR : Hid (rProg (bl s) = .ok (l,p)) := Lh (Pos.done hpos.out (by rw [bl_length];omega) (pe_out s p hp).2);clear hpos hp
     go_wp2_with (go_at_call 23
                  refine (hen _ hrd.out).mono ?_;rintro e w1 ⟨rfl,hd1⟩;have hsq1 := Lh (hsq.out.below (hd1.below _));have hr1 := hrd.out.drawn hd1;obtain ⟨e0,e1,e2,e3,e4⟩ := hr1.cells;clear hen hd1)
     obtain ⟨va0,vc0,rfl⟩ := PrgV.form0 hsq1.out.pg;obtain ⟨va1,vc1,rfl⟩ := PrgV.form1 hsq1.out.pg;obtain ⟨va2,vc2,rfl⟩ := PrgV.form2 hsq1.out.pg;obtain ⟨va3,vc3,rfl⟩ := PrgV.form3 hsq1.out.pg;obtain ⟨va4,vc4,rfl⟩ := PrgV.form4 hsq1.out.pg;obtain ⟨va5,vc5,rfl⟩ := PrgV.form5 hsq1.out.pg;go_wp2_with fail;have hbx1 := SQ.boxes hsq1.out
     have hp0 : Hid (w1.drew.heap[w.heap.size]? = some (.cells #[.slice none 0 0,.slice none 0 0,.slice none 0 0] 28)) := Lh hbx1.1;have hq0 : Hid (w1.drew.heap[w.heap.size + 1]? = some (.cells #[.slice none 0 0,.slice none 0 0,.slice none 0 0] 31)) := Lh hbx1.2.1;have hfb0 : Hid (Below w.heap.size w w1.drew) := Lh hbx1.2.2.drew
     have hpg0 : Hid (PrgVS w1.drew (w.heap.size + 5) (.slice va0 (inpsOf l).length vc0) (.slice va1 (outsOf l).length vc1) (.slice va2 (rulesOf l).length vc2) (.slice va3 (inAts l).length vc3) (.slice va4 (outAts l).length vc4) (.slice va5 (ruAts l).length vc5) l) := Lh (hsq1.out.below (Below.refl w1.heap.size w1).drew).pg
     have hbp1 := (hsq1.out.below (Below.refl w1.heap.size w1).drew).bp;have hbq1 := (hsq1.out.below (Below.refl w1.heap.size w1).drew).bq
     have hS0 : w1.drew.cell? ⟨w.heap.size + 1 + 1 + 1,0,none⟩ = some (.slice va0 (inpsOf l).length vc0) ∧ w1.drew.cell? ⟨w.heap.size + 1 + 1 + 1,1,none⟩ = some (.slice va1 (outsOf l).length vc1) ∧ w1.drew.cell? ⟨w.heap.size + 1 + 1 + 1,2,none⟩ = some (.slice va2 (rulesOf l).length vc2) ∧ w1.drew.cell? ⟨w.heap.size + 1 + 1 + 1 + 1,0,none⟩ = some (.slice va3 (inAts l).length vc3) ∧ w1.drew.cell? ⟨w.heap.size + 1 + 1 + 1 + 1,1,none⟩ = some (.slice va4 (outAts l).length vc4) ∧ w1.drew.cell? ⟨w.heap.size + 1 + 1 + 1 + 1,2,none⟩ = some (.slice va5 (ruAts l).length vc5) := ⟨(cell_of_row _ _ _ _ _ _ hbp1).trans rfl,(cell_of_row _ _ _ _ _ _ hbp1).trans rfl,(cell_of_row _ _ _ _ _ _ hbp1).trans rfl,(cell_of_row _ _ _ _ _ _ hbq1).trans rfl,(cell_of_row _ _ _ _ _ _ hbq1).trans rfl,(cell_of_row _ _ _ _ _ _ hbq1).trans rfl⟩
     clear hbp1 hbq1;clear hbx hbx1 hlen hsq hsq1
     refine wp_region_T (fun w' => w'.cell? ⟨w.heap.size + 1 + 1 + 1,0,none⟩ = some (.slice va0 (inpsOf l).length vc0) ∧ w'.cell? ⟨w.heap.size + 1 + 1 + 1,1,none⟩ = some (.slice va1 (outsOf l).length vc1) ∧ w'.cell? ⟨w.heap.size + 1 + 1 + 1,2,none⟩ = some (.slice va2 (rulesOf l).length vc2) ∧ w'.cell? ⟨w.heap.size + 1 + 1 + 1 + 1,0,none⟩ = some (.slice va3 (inAts l).length vc3) ∧ w'.cell? ⟨w.heap.size + 1 + 1 + 1 + 1,1,none⟩ = some (.slice va4 (outAts l).length vc4) ∧ w'.cell? ⟨w.heap.size + 1 + 1 + 1 + 1,2,none⟩ = some (.slice va5 (ruAts l).length vc5)) [0,1] (by kernel_rfl) hS0 (fun hHeld => ?_)
     refine wpAnyT_take (i := 0) (oi := _) (v := ?_) rfl rfl (by kernel_rfl) (by kernel_rfl) (by kernel_rfl) (fun _ _ _ h => h) (Or.inl ⟨by rfl,?_⟩) (by assumption) ?_;rotate_left
     · intro w hSw
       try dsimp only at hSw
       go_simp
       try with_reducible rfl
     refine wpAnyT_take (i := 1) (oi := _) (v := ?_) rfl rfl (by kernel_rfl) (by kernel_rfl) (by kernel_rfl) (fun _ _ _ h => h) (Or.inl ⟨by rfl,?_⟩) (by assumption) ?_;rotate_left
     · intro w hSw
       try dsimp only at hSw
       go_simp
       try with_reducible rfl
     refine wpAnyT_one (i := 2) (o := _) (by kernel_rfl) rfl (fun K hK => ?_)
     with_reducible refine step_store_row ?gA2 28 (.tmp 2) (.tmp 38) ?oA2 (w.heap.size) #[.slice va0 (inpsOf l).length vc0,.slice va1 (outsOf l).length vc1,.slice va2 (rulesOf l).length vc2] ?xA2 ?yA2 28 #[.slice none 0 0,.slice none 0 0,.slice none 0 0] hp0.out ?sA2 ?dA2 ?nA2 ?rA2
     case gA2 => rfl
     case oA2 => rfl
     case xA2 => kernel_rfl
     case yA2 => kernel_rfl
     case sA2 => exact sizeProg
     case dA2 => kernel_rfl
     case nA2 => simp [Value.oneCell']
     intro wz2 hbx2 hgr2 hsz2;have hoth2 : Hid (wz2.heap[w.heap.size + 1]? = some (.cells #[.slice none 0 0,.slice none 0 0,.slice none 0 0] 31)) := Lh ((hgr2.block _ (Array.getElem?_eq_some_iff.1 hq0.out).1 (fun e => by injection e with e;omega)).trans hq0.out);have hfb2 := Lh (hfb0.out.trans (Below.of_grown hgr2 (by omega) hfb0.out.size))
     have hpg2 := Lh (hpg0.out.mvd hgr2 (by omega))
     have hS2 : wz2.cell? ⟨w.heap.size + 1 + 1 + 1,0,none⟩ = some (.slice va0 (inpsOf l).length vc0) ∧ wz2.cell? ⟨w.heap.size + 1 + 1 + 1,1,none⟩ = some (.slice va1 (outsOf l).length vc1) ∧ wz2.cell? ⟨w.heap.size + 1 + 1 + 1,2,none⟩ = some (.slice va2 (rulesOf l).length vc2) ∧ wz2.cell? ⟨w.heap.size + 1 + 1 + 1 + 1,0,none⟩ = some (.slice va3 (inAts l).length vc3) ∧ wz2.cell? ⟨w.heap.size + 1 + 1 + 1 + 1,1,none⟩ = some (.slice va4 (outAts l).length vc4) ∧ wz2.cell? ⟨w.heap.size + 1 + 1 + 1 + 1,2,none⟩ = some (.slice va5 (ruAts l).length vc5) := ⟨mvd_cell hgr2 hS0.1 (by omega),mvd_cell hgr2 hS0.2.1 (by omega),mvd_cell hgr2 hS0.2.2.1 (by omega),mvd_cell hgr2 hS0.2.2.2.1 (by omega),mvd_cell hgr2 hS0.2.2.2.2.1 (by omega),mvd_cell hgr2 hS0.2.2.2.2.2 (by omega)⟩
     clear hgr2 hsz2;refine hK.out _ _ hS2 ?_;clear hK K;refine wpAnyT_one (i := 3) (o := _) (by kernel_rfl) rfl (fun K hK => ?_)
     with_reducible refine step_store_row ?gA3 31 (.tmp 3) (.tmp 39) ?oA3 (w.heap.size + 1) #[.slice va3 (inAts l).length vc3,.slice va4 (outAts l).length vc4,.slice va5 (ruAts l).length vc5] ?xA3 ?yA3 31 #[.slice none 0 0,.slice none 0 0,.slice none 0 0] hoth2.out ?sA3 ?dA3 ?nA3 ?rA3
     case gA3 => rfl
     case oA3 => rfl
     case xA3 => kernel_rfl
     case yA3 => kernel_rfl
     case sA3 => exact sizePlaces
     case dA3 => kernel_rfl
     case nA3 => simp [Value.oneCell']
     intro wz3 hbx3 hgr3 hsz3;have hoth3 : Hid (wz3.heap[w.heap.size]? = some (.cells #[.slice va0 (inpsOf l).length vc0,.slice va1 (outsOf l).length vc1,.slice va2 (rulesOf l).length vc2] 28)) := Lh ((hgr3.block _ (Array.getElem?_eq_some_iff.1 hbx2.out).1 (fun e => by injection e with e;omega)).trans hbx2.out)
     have hfb3 := Lh (hfb2.out.trans (Below.of_grown hgr3 (by omega) hfb2.out.size));have hpg3 := Lh (hpg2.out.mvd hgr3 (by omega))
     have hS3 : wz3.cell? ⟨w.heap.size + 1 + 1 + 1,0,none⟩ = some (.slice va0 (inpsOf l).length vc0) ∧ wz3.cell? ⟨w.heap.size + 1 + 1 + 1,1,none⟩ = some (.slice va1 (outsOf l).length vc1) ∧ wz3.cell? ⟨w.heap.size + 1 + 1 + 1,2,none⟩ = some (.slice va2 (rulesOf l).length vc2) ∧ wz3.cell? ⟨w.heap.size + 1 + 1 + 1 + 1,0,none⟩ = some (.slice va3 (inAts l).length vc3) ∧ wz3.cell? ⟨w.heap.size + 1 + 1 + 1 + 1,1,none⟩ = some (.slice va4 (outAts l).length vc4) ∧ wz3.cell? ⟨w.heap.size + 1 + 1 + 1 + 1,2,none⟩ = some (.slice va5 (ruAts l).length vc5) := ⟨mvd_cell hgr3 hS2.1 (by omega),mvd_cell hgr3 hS2.2.1 (by omega),mvd_cell hgr3 hS2.2.2.1 (by omega),mvd_cell hgr3 hS2.2.2.2.1 (by omega),mvd_cell hgr3 hS2.2.2.2.2.1 (by omega),mvd_cell hgr3 hS2.2.2.2.2.2 (by omega)⟩
     clear hgr3 hsz3;refine hK.out _ _ hS3 ?_;clear hK K;refine wpAnyT_free (i := 4) (o := _) (by kernel_rfl) rfl (by kernel_rfl) (fun K hK => ?_);go_simp;refine hK.out _ _ ?_;clear hK K;refine wpAnyT_free (i := 5) (o := _) (by kernel_rfl) rfl (by kernel_rfl) (fun K hK => ?_);go_simp;refine hK.out _ _ ?_;clear hK K;refine wpAnyT_done (by kernel_rfl) ?_ _;clear hHeld hS0 hS2 hS3
     go_wp2_with fail
     refine bodyPost_ret (v := .tuple #[.agg #[.slice va0 (inpsOf l).length vc0,.slice va1 (outsOf l).length vc1,.slice va2 (rulesOf l).length vc2],.agg #[.slice va3 (inAts l).length vc3,.slice va4 (outAts l).length vc4,.slice va5 (ruAts l).length vc5],.int .i64 0,.bool true]) (results_cellA4 rfl _ _ (w.heap.size) (w.heap.size + 1) 28 31 _ _ (0,0) (0,0) _ _ rfl rfl hoth3.out hbx3.out Tryd.underlying28 Tryd.underlying31 rfl rfl sizeProg sizePlaces _ _ rfl rfl) rfl ?_
     rw [hR.out];exact ⟨_,_,_,_,_,_,rfl,hfb3.out,PrgV.base hpg3.out (by omega)⟩
end Go.Proofs.YtmjincocmhadeaaDoor
