/- Parse: the document's reader: name, term. (gen_pei.py) -/
import Derived.Test.YtmjincocmhadeaaDoorPmK
set_option maxHeartbeats 8000000
set_option maxRecDepth 100000
namespace Go.Proofs.YtmjincocmhadeaaDoor
open Go.RowKit Lx
theorem re_name_bad {w : World} {b : Nat} {s : ByteArray} {p : Int} (h : Rd w b s p true) :
    Calls Tryd.prog 58 #[.pointer (some ⟨b,0,none⟩)] w fun e w' => e = .returned (.string ⟨#[]⟩) ∧ w = w' := by
 obtain ⟨c0,c1,c2,-⟩ := h.cells;go_enter Tryd.func58,Tryd.ntmps58;go_wp2_with fail;go_ret;exact ⟨rfl,rfl⟩
theorem re_name_ok {w : World} {b : Nat} {s : ByteArray} {p : Nat} (h : Rd w b s (p : Int) false) :
    Calls Tryd.prog 58 #[.pointer (some ⟨b,0,none⟩)] w (RePost b s w VStr (rName (bl s) p)) := by
 have hen := fun w h => re_end (w := w) (b := b) (s := s) (p := (p : Int)) (d := false) h;have hpk := fun w h => re_peek (w := w) (b := b) (s := s) (p := (p : Int)) (d := false) h;have hqs : (p : Int) ≤ s.size := h.le;have hlen := h.len;have hst := fun w h => re_stop (w := w) (b := b) (s := s) (p := (p : Int)) h (p : Int) (by omega) hqs;have hdc : Hid (Drawn w w) := Lh (Drawn.refl w)
 obtain ⟨c0,c1,c2,-⟩ := h.cells
 by_cases hlt : p < s.size
 · rw [show decide ((s.size : Int) ≤ (p : Int)) = false from decide_eq_false (by omega)] at hen;rw [pe_in s p hlt] at hpk;have hsm := fun w => r8_small (pk (bl s) p) w
   cases hs : smallB (pk (bl s) p) with
   | false =>
    have hR : Hid (rName (bl s) p = .error (p : Int)) := Lh (by unfold rName;rw [if_neg (by rw [hs];decide)]);rw [hs] at hsm;clear hs;generalize pk (bl s) p = c at hpk hsm;go_enter Tryd.func58,Tryd.ntmps58
    go_wp2_with (first
        | (go_at_call 23;refine (hen _ (h.drawn hdc.out)).mono ?_;rintro e w1 ⟨rfl,hd1⟩;replace hdc := Lh (hdc.out.trans hd1);have hr1 := h.drawn hdc.out;obtain ⟨e0,e1,e2,e3,e4⟩ := hr1.cells;clear hd1)
        | (go_at_call 38;refine (hpk _ (h.drawn hdc.out)).mono ?_;rintro e w1 ⟨rfl,hd1⟩;replace hdc := Lh (hdc.out.trans hd1);have hr1 := h.drawn hdc.out;obtain ⟨e0,e1,e2,e3,e4⟩ := hr1.cells;clear hd1)
        | (go_at_call 39;refine (hsm _).mono ?_;rintro e w' ⟨rfl,rfl⟩)
        | (go_at_call 40;refine (hst _ hr1).mono ?_;rintro e w2 ⟨rfl,hr2,hm2⟩;replace hr2 := Lh hr2;replace hm2 := Lh ((Mvd.of (hdc.out.below _)).trans hm2)))
    go_ret;rw [hR.out];exact ⟨_,[],rfl,rfl,fun y h => (by cases h),hr2.out,hm2.out⟩
   | true =>
    have hR : Hid (rName (bl s) p = (rRun (bl s) p).bind fun x => if reservedB x.1 then .error (x.2 : Int) else .ok x) := Lh (by unfold rName;rw [if_pos hs]);rw [hs] at hsm;clear hs hst;have hrn := fun w h => re_run (w := w) (b := b) (s := s) (p := p) h;unfold RePost at hrn;generalize pk (bl s) p = c at hpk hsm;generalize rName (bl s) p = R at hR ⊢
    cases hx : rRun (bl s) p with
    | error er =>
     rw [hx] at hR hrn;replace hrn := Lh hrn;clear hx;go_enter Tryd.func58,Tryd.ntmps58
     go_wp2_with (first
         | (go_at_call 23;refine (hen _ (h.drawn hdc.out)).mono ?_;rintro e w1 ⟨rfl,hd1⟩;replace hdc := Lh (hdc.out.trans hd1);have hr1 := h.drawn hdc.out;obtain ⟨e0,e1,e2,e3,e4⟩ := hr1.cells;clear hd1)
         | (go_at_call 38;refine (hpk _ (h.drawn hdc.out)).mono ?_;rintro e w1 ⟨rfl,hd1⟩;replace hdc := Lh (hdc.out.trans hd1);have hr1 := h.drawn hdc.out;obtain ⟨e0,e1,e2,e3,e4⟩ := hr1.cells;clear hd1)
         | (go_at_call 39;refine (hsm _).mono ?_;rintro e w' ⟨rfl,rfl⟩)
         | (go_at_call 41;refine (hrn.out _ (h.drawn hdc.out)).mono ?_;rintro e w3 ⟨v3,x3,rfl,hv3,-,hr3,hm3⟩;unfold VStr at hv3;subst hv3;have hr3' : Rd w3 b s er true := hr3;obtain ⟨g0,g1,g2,g3,g4⟩ := hr3'.cells;replace hm3 := Lh ((Mvd.of (hdc.out.below _)).trans hm3)))
     go_ret;rw [hR.out];exact ⟨_,x3,rfl,rfl,fun y h => (by cases h),hr3',hm3.out⟩
    | ok y =>
     obtain ⟨x,q⟩ := y;rw [hx] at hR hrn;replace hrn := Lh hrn;clear hx;have hrs := fun w => r8_Reserved (mk x) w;rw [bl_mk] at hrs
     cases hres : reservedB x with
     | true =>
      have hR2 : Hid (R = .error (q : Int)) := Lh (by rw [hR.out];show (if reservedB x then _ else _) = _;rw [hres];rfl);rw [hres] at hrs;clear hres;go_enter Tryd.func58,Tryd.ntmps58
      go_wp2_with (first
          | (go_at_call 23;refine (hen _ (h.drawn hdc.out)).mono ?_;rintro e w1 ⟨rfl,hd1⟩;replace hdc := Lh (hdc.out.trans hd1);have hr1 := h.drawn hdc.out;obtain ⟨e0,e1,e2,e3,e4⟩ := hr1.cells;clear hd1)
          | (go_at_call 38;refine (hpk _ (h.drawn hdc.out)).mono ?_;rintro e w1 ⟨rfl,hd1⟩;replace hdc := Lh (hdc.out.trans hd1);have hr1 := h.drawn hdc.out;obtain ⟨e0,e1,e2,e3,e4⟩ := hr1.cells;clear hd1)
          | (go_at_call 39;refine (hsm _).mono ?_;rintro e w' ⟨rfl,rfl⟩)
          | (go_at_call 41;refine (hrn.out _ (h.drawn hdc.out)).mono ?_;rintro e w3 ⟨v3,x3,rfl,hv3,hx3,hr3,hm3⟩;unfold VStr at hv3;subst hv3;obtain rfl : x3 = x := hx3 _ rfl;have hr3' : Rd w3 b s (q : Int) false := hr3;obtain ⟨g0,g1,g2,g3,g4⟩ := hr3'.cells;have hst2 := re_stop hr3' (q : Int) (by omega) hr3'.le;replace hm3 := Lh ((Mvd.of (hdc.out.below _)).trans hm3)
             clear hx3 hr3)
          | (go_at_call 45;refine (hrs _).mono ?_;rintro e w' ⟨rfl,rfl⟩)
          | (go_at_call 40;refine hst2.mono ?_;rintro e w4 ⟨rfl,hr4,hm4⟩;replace hr4 := Lh hr4;replace hm4 := Lh (hm3.out.trans hm4)))
      go_ret;rw [hR2.out];exact ⟨_,x3,rfl,rfl,fun y h => (by cases h),hr4.out,hm4.out⟩
     | false =>
      have hR2 : Hid (R = .ok (x,q)) := Lh (by rw [hR.out];show (if reservedB x then _ else _) = _;rw [hres];rfl);rw [hres] at hrs;clear hres;go_enter Tryd.func58,Tryd.ntmps58
      go_wp2_with (first
          | (go_at_call 23;refine (hen _ (h.drawn hdc.out)).mono ?_;rintro e w1 ⟨rfl,hd1⟩;replace hdc := Lh (hdc.out.trans hd1);have hr1 := h.drawn hdc.out;obtain ⟨e0,e1,e2,e3,e4⟩ := hr1.cells;clear hd1)
          | (go_at_call 38;refine (hpk _ (h.drawn hdc.out)).mono ?_;rintro e w1 ⟨rfl,hd1⟩;replace hdc := Lh (hdc.out.trans hd1);have hr1 := h.drawn hdc.out;obtain ⟨e0,e1,e2,e3,e4⟩ := hr1.cells;clear hd1)
          | (go_at_call 39;refine (hsm _).mono ?_;rintro e w' ⟨rfl,rfl⟩)
          | (go_at_call 41;refine (hrn.out _ (h.drawn hdc.out)).mono ?_;rintro e w3 ⟨v3,x3,rfl,hv3,hx3,hr3,hm3⟩;unfold VStr at hv3;subst hv3;obtain rfl : x3 = x := hx3 _ rfl;have hr3' : Rd w3 b s (q : Int) false := hr3;obtain ⟨g0,g1,g2,g3,g4⟩ := hr3'.cells;replace hm3 := Lh ((Mvd.of (hdc.out.below _)).trans hm3);clear hx3 hr3)
          | (go_at_call 45;refine (hrs _).mono ?_;rintro e w' ⟨rfl,rfl⟩))
      go_ret;rw [hR2.out];exact ⟨_,x3,rfl,rfl,fun y h => (by injection h with h;rw [← h]),hr3',hm3.out⟩
 · rw [show decide ((s.size : Int) ≤ (p : Int)) = true from decide_eq_true (by omega)] at hen;have hR : Hid (rName (bl s) p = .error (p : Int)) := Lh (by unfold rName;rw [if_neg (by rw [(pe_out s p hlt).2];decide)]);clear hpk;go_enter Tryd.func58,Tryd.ntmps58
   go_wp2_with (first
       | (go_at_call 23;refine (hen _ (h.drawn hdc.out)).mono ?_;rintro e w1 ⟨rfl,hd1⟩;replace hdc := Lh (hdc.out.trans hd1);have hr1 := h.drawn hdc.out;obtain ⟨e0,e1,e2,e3,e4⟩ := hr1.cells;clear hd1)
       | (go_at_call 40;refine (hst _ hr1).mono ?_;rintro e w2 ⟨rfl,hr2,hm2⟩;replace hr2 := Lh hr2;replace hm2 := Lh ((Mvd.of (hdc.out.below _)).trans hm2)))
   go_ret;rw [hR.out];exact ⟨_,[],rfl,rfl,fun y h => (by cases h),hr2.out,hm2.out⟩
theorem re_name {w : World} {b : Nat} {s : ByteArray} {S : Except Int Nat} (h : Rs w b s S) :
    Calls Tryd.prog 58 #[.pointer (some ⟨b,0,none⟩)] w (RePost b s w VStr (S.bind (rName (bl s)))) := by
 cases S with
 | error x => exact (re_name_bad h).mono fun e w' ⟨h1,h2⟩ => ⟨_,[],h1,rfl,fun y h => (by cases h),h2 ▸ h,h2 ▸ Mvd.refl _ _⟩
 | ok p => exact re_name_ok h
/-! ### term -/
def VTerm (_ : World) (v : Value) (x : Bool × ByteArray) : Prop := v = .agg #[.bool x.1,.string x.2]
theorem map_pos {α β : Type} (R : Except Int (α × Nat)) (f : α × Nat → β) : (R.bind fun x => .ok (f x,x.2)).map (·.2) = R.map (·.2) := by cases R <;> rfl
theorem cell_res {b : Nat} {w w1 : World} {o : Obj} (h : Mvd b (w.alloc o) w1) (hb : b < w.heap.size) : w1.heap[w.heap.size]? = some o ∧ Mvd b w w1 :=
  ⟨(h.block w.heap.size (by rw [World.size_alloc];omega) (fun e => by injection e with e;omega)).trans (heap_alloc_new _ _),(Mvd.of ((Below.refl _ _).al _)).trans h⟩
theorem Rd.other {w w' : World} {b g : Nat} {s : ByteArray} {p : Int} {d : Bool} (h : Rd w b s p d) (hg : w.grownBy w' (some g)) (hne : b ≠ g) : Rd w' b s p d :=
  ⟨(hg.block _ h.lt (fun e => by injection e with e;exact hne e)).trans h.blk,h.le0,h.le,h.len⟩
abbrev termZ : Array Value := #[.bool false,.string ⟨#[]⟩]
theorem re_term_bad {w : World} {b : Nat} {s : ByteArray} {p : Int} (h : Rd w b s p true) :
    Calls Tryd.prog 61 #[.pointer (some ⟨b,0,none⟩)] w (RePost b s w VTerm (.error p)) := by
 have hbl := h.lt;have hA := h.below ((Below.refl w.heap.size w).al (.cells termZ 57));have hpk := fun w h => re_peek (w := w) (b := b) (s := s) (p := p) (d := true) h;have hdc : Hid (Drawn (w.alloc (.cells termZ 57)) (w.alloc (.cells termZ 57))) := Lh (Drawn.refl _);generalize pe s p = c at hpk;go_enter Tryd.func61,Tryd.ntmps61
 go_wp2_with (first
   | (go_at_call 38;refine (hpk _ (hA.drawn hdc.out)).mono ?_;rintro e w1 ⟨rfl,hd1⟩;replace hdc := Lh (hdc.out.trans hd1);have hr1 := hA.drawn hdc.out;obtain ⟨e0,e1,e2,e3,e4⟩ := hr1.cells;have hcr := Lh (cell_res (Mvd.of (b := b) (hdc.out.below _)) hbl);have hrz := hcr.out.1;have hm1 := Lh hcr.out.2;replace hr1 := Lh hr1;clear hd1)
   | (refine wpList_store_rowA rfl 57 (.tmp 2) (.tmp 11) rfl w.heap.size #[.bool false,.string ⟨#[]⟩] rfl rfl 57 #[.bool false,.string ⟨#[]⟩] hrz sizeTerm rfl (by simp [Value.oneCell']) ?_))
 intro w5 hg5 hgr5 hsz5;have hr5 := Lh (Rd.other hr1.out hgr5 (by omega));have hm5 := Lh (hm1.out.new hgr5);clear hgr5 hsz5;go_wp2_with fail;refine bodyPost_ret (v := .agg #[.bool false,.string ⟨#[]⟩]) (results_cell_row rfl _ _ w.heap.size 57 _ (0,0) _ rfl hg5.out Tryd.underlying57 rfl sizeTerm) rfl ?_
 exact ⟨_,(false,⟨#[]⟩),rfl,rfl,fun y h => (by cases h),hr5.out,hm5.out⟩
theorem re_term_end {w : World} {b : Nat} {s : ByteArray} {p : Nat} (h : Rd w b s (p : Int) false) (hlt : ¬ p < s.size) :
    Calls Tryd.prog 61 #[.pointer (some ⟨b,0,none⟩)] w (RePost b s w VTerm (rTerm (bl s) p)) := by
 have hen := fun w h => re_end (w := w) (b := b) (s := s) (p := (p : Int)) (d := false) h;have hpk := fun w h => re_peek (w := w) (b := b) (s := s) (p := (p : Int)) (d := false) h;have hqs : (p : Int) ≤ s.size := h.le;have hlen := h.len;have hst := fun w h => re_stop (w := w) (b := b) (s := s) (p := (p : Int)) h (p : Int) (by omega) hqs;have hbl := h.lt
 have hR : Hid (rTerm (bl s) p = .error (p : Int)) := Lh (by unfold rTerm rName;rw [(pe_out s p hlt).2];rfl);have hA := h.below ((Below.refl w.heap.size w).al (.cells termZ 57));have hdc : Hid (Drawn (w.alloc (.cells termZ 57)) (w.alloc (.cells termZ 57))) := Lh (Drawn.refl _);rw [show decide ((s.size : Int) ≤ (p : Int)) = true from decide_eq_true (by omega)] at hen
 generalize pe s (p : Int) = c at hpk;go_enter Tryd.func61,Tryd.ntmps61
 go_wp2_with (first
   | (go_at_call 23;refine (hen _ (hA.drawn hdc.out)).mono ?_;rintro e w1 ⟨rfl,hd1⟩;replace hdc := Lh (hdc.out.trans hd1);have hr1 := hA.drawn hdc.out;obtain ⟨e0,e1,e2,e3,e4⟩ := hr1.cells;clear hd1)
   | (go_at_call 38;refine (hpk _ (hA.drawn hdc.out)).mono ?_;rintro e w1 ⟨rfl,hd1⟩;replace hdc := Lh (hdc.out.trans hd1);have hr1 := hA.drawn hdc.out;obtain ⟨e0,e1,e2,e3,e4⟩ := hr1.cells;clear hd1)
   | (go_at_call 40;refine (hst _ hr1).mono ?_;rintro e w2 ⟨rfl,hr2,hm2⟩;have hcr := Lh (cell_res ((Mvd.of (b := b) (hdc.out.below _)).trans hm2) hbl);have hrz := hcr.out.1;have hm1 := Lh hcr.out.2;replace hr2 := Lh hr2;clear hm2)
   | (refine wpList_store_rowA rfl 57 (.tmp 2) (.tmp 21) rfl w.heap.size #[.bool false,.string ⟨#[]⟩] rfl rfl 57 #[.bool false,.string ⟨#[]⟩] hrz sizeTerm rfl (by simp [Value.oneCell']) ?_))
 intro w5 hg5 hgr5 hsz5;have hr5 := Lh (Rd.other hr2.out hgr5 (by omega));have hm5 := Lh (hm1.out.new hgr5);clear hgr5 hsz5;go_wp2_with fail;refine bodyPost_ret (v := .agg #[.bool false,.string ⟨#[]⟩]) (results_cell_row rfl _ _ w.heap.size 57 _ (0,0) _ rfl hg5.out Tryd.underlying57 rfl sizeTerm) rfl ?_;rw [hR.out]
 exact ⟨_,(false,⟨#[]⟩),rfl,rfl,fun y h => (by cases h),hr5.out,hm5.out⟩
theorem re_term_var {w : World} {b : Nat} {s : ByteArray} {p : Nat} (h : Rd w b s (p : Int) false) (hlt : p < s.size) (hg : greatB (pk (bl s) p) = true) :
    Calls Tryd.prog 61 #[.pointer (some ⟨b,0,none⟩)] w (RePost b s w VTerm (rTerm (bl s) p)) := by
 have hen := fun w h => re_end (w := w) (b := b) (s := s) (p := (p : Int)) (d := false) h;have hpk := fun w h => re_peek (w := w) (b := b) (s := s) (p := (p : Int)) (d := false) h;have hbl := h.lt;have hR : Hid (rTerm (bl s) p = (rRun (bl s) p).bind fun x => .ok ((true,mk x.1),x.2)) := Lh (by unfold rTerm;rw [if_pos hg])
 have hA := h.below ((Below.refl w.heap.size w).al (.cells termZ 57));have hdc : Hid (Drawn (w.alloc (.cells termZ 57)) (w.alloc (.cells termZ 57))) := Lh (Drawn.refl _);rw [show decide ((s.size : Int) ≤ (p : Int)) = false from decide_eq_false (by omega)] at hen;rw [pe_in s p hlt] at hpk;have hgr := fun w => r8_great (pk (bl s) p) w;rw [hg] at hgr;clear hg
 generalize pk (bl s) p = c at hpk hgr;have hcl := fun w h => re_run (w := w) (b := b) (s := s) (p := p) h;unfold RePost at hcl;generalize rRun (bl s) p = Z at hcl hR;generalize rTerm (bl s) p = R at hR ⊢;replace hcl := Lh hcl;go_enter Tryd.func61,Tryd.ntmps61
 go_wp2_with (first
   | (go_at_call 23;refine (hen _ (hA.drawn hdc.out)).mono ?_;rintro e w1 ⟨rfl,hd1⟩;replace hdc := Lh (hdc.out.trans hd1);have hr1 := hA.drawn hdc.out;obtain ⟨e0,e1,e2,e3,e4⟩ := hr1.cells;clear hd1)
   | (go_at_call 38;refine (hpk _ (hA.drawn hdc.out)).mono ?_;rintro e w1 ⟨rfl,hd1⟩;replace hdc := Lh (hdc.out.trans hd1);have hr1 := hA.drawn hdc.out;obtain ⟨e0,e1,e2,e3,e4⟩ := hr1.cells;clear hd1)
   | (go_at_call 71;refine (hgr _).mono ?_;rintro e w' ⟨rfl,rfl⟩)
   | (go_at_call 41;refine (hcl.out _ (hA.drawn hdc.out)).mono ?_;rintro e w3 ⟨v3,x3,rfl,hv3,hx3,hr3,hm3⟩;unfold VStr at hv3;subst hv3;have hcr := Lh (cell_res ((Mvd.of (b := b) (hdc.out.below _)).trans hm3) hbl);have hrz := hcr.out.1;have hm1 := Lh hcr.out.2;replace hr3 : Hid (Rd w3 b s _ _) := Lh hr3;replace hx3 := Lh hx3;clear hm3)
   | (refine wpList_store_rowA rfl 57 (.tmp 2) (.tmp 27) rfl w.heap.size #[.bool true,.string (mk x3)] rfl rfl 57 #[.bool false,.string ⟨#[]⟩] hrz sizeTerm rfl (by simp [Value.oneCell']) ?_))
 intro w5 hg5 hgr5 hsz5;have hr5 := Lh (Rd.other hr3.out hgr5 (by omega));have hm5 := Lh (hm1.out.new hgr5);clear hgr5 hsz5;go_wp2_with fail;refine bodyPost_ret (v := .agg #[.bool true,.string (mk x3)]) (results_cell_row rfl _ _ w.heap.size 57 _ (0,0) _ rfl hg5.out Tryd.underlying57 rfl sizeTerm) rfl ?_;rw [hR.out]
 refine ⟨_,(true,mk x3),rfl,rfl,fun y hy => ?_,by rw [map_pos];exact hr5.out,hm5.out⟩
 cases Z with
 | error e => cases hy
 | ok z => injection hy with hy;rw [← hy,hx3.out _ rfl]
theorem re_term_num {w : World} {b : Nat} {s : ByteArray} {p : Nat} (h : Rd w b s (p : Int) false) (hlt : p < s.size) (hg : greatB (pk (bl s) p) = false) (hd : digitB (pk (bl s) p) = true) :
    Calls Tryd.prog 61 #[.pointer (some ⟨b,0,none⟩)] w (RePost b s w VTerm (rTerm (bl s) p)) := by
 have hen := fun w h => re_end (w := w) (b := b) (s := s) (p := (p : Int)) (d := false) h;have hpk := fun w h => re_peek (w := w) (b := b) (s := s) (p := (p : Int)) (d := false) h;have hbl := h.lt;have hR : Hid (rTerm (bl s) p = (rDigits (bl s) p).bind fun x => .ok ((false,mk x.1),x.2)) := Lh (by unfold rTerm;rw [if_neg (by rw [hg];decide),if_pos hd])
 have hA := h.below ((Below.refl w.heap.size w).al (.cells termZ 57));have hdc : Hid (Drawn (w.alloc (.cells termZ 57)) (w.alloc (.cells termZ 57))) := Lh (Drawn.refl _);rw [show decide ((s.size : Int) ≤ (p : Int)) = false from decide_eq_false (by omega)] at hen;rw [pe_in s p hlt] at hpk;have hgr := fun w => r8_great (pk (bl s) p) w;rw [hg] at hgr
 have hdg := fun w => r8_digit (pk (bl s) p) w;rw [hd] at hdg;clear hg hd;generalize pk (bl s) p = c at hpk hgr hdg;have hcl := fun w h => re_digits (w := w) (b := b) (s := s) (p := p) h;unfold RePost at hcl;generalize rDigits (bl s) p = Z at hcl hR;generalize rTerm (bl s) p = R at hR ⊢;replace hcl := Lh hcl;go_enter Tryd.func61,Tryd.ntmps61
 go_wp2_with (first
   | (go_at_call 23;refine (hen _ (hA.drawn hdc.out)).mono ?_;rintro e w1 ⟨rfl,hd1⟩;replace hdc := Lh (hdc.out.trans hd1);have hr1 := hA.drawn hdc.out;obtain ⟨e0,e1,e2,e3,e4⟩ := hr1.cells;clear hd1)
   | (go_at_call 38;refine (hpk _ (hA.drawn hdc.out)).mono ?_;rintro e w1 ⟨rfl,hd1⟩;replace hdc := Lh (hdc.out.trans hd1);have hr1 := hA.drawn hdc.out;obtain ⟨e0,e1,e2,e3,e4⟩ := hr1.cells;clear hd1)
   | (go_at_call 71;refine (hgr _).mono ?_;rintro e w' ⟨rfl,rfl⟩)
   | (go_at_call 72;refine (hdg _).mono ?_;rintro e w' ⟨rfl,rfl⟩)
   | (go_at_call 74;refine (hcl.out _ (hA.drawn hdc.out)).mono ?_;rintro e w3 ⟨v3,x3,rfl,hv3,hx3,hr3,hm3⟩;unfold VStr at hv3;subst hv3;have hcr := Lh (cell_res ((Mvd.of (b := b) (hdc.out.below _)).trans hm3) hbl);have hrz := hcr.out.1;have hm1 := Lh hcr.out.2;replace hr3 : Hid (Rd w3 b s _ _) := Lh hr3;replace hx3 := Lh hx3;clear hm3)
   | (refine wpList_store_rowA rfl 57 (.tmp 2) (.tmp 33) rfl w.heap.size #[.bool false,.string (mk x3)] rfl rfl 57 #[.bool false,.string ⟨#[]⟩] hrz sizeTerm rfl (by simp [Value.oneCell']) ?_))
 intro w5 hg5 hgr5 hsz5;have hr5 := Lh (Rd.other hr3.out hgr5 (by omega));have hm5 := Lh (hm1.out.new hgr5);clear hgr5 hsz5;go_wp2_with fail;refine bodyPost_ret (v := .agg #[.bool false,.string (mk x3)]) (results_cell_row rfl _ _ w.heap.size 57 _ (0,0) _ rfl hg5.out Tryd.underlying57 rfl sizeTerm) rfl ?_;rw [hR.out]
 refine ⟨_,(false,mk x3),rfl,rfl,fun y hy => ?_,by rw [map_pos];exact hr5.out,hm5.out⟩
 cases Z with
 | error e => cases hy
 | ok z => injection hy with hy;rw [← hy,hx3.out _ rfl]
theorem re_term_str {w : World} {b : Nat} {s : ByteArray} {p : Nat} (h : Rd w b s (p : Int) false) (hlt : p < s.size) (h34 : pk (bl s) p = 34) :
    Calls Tryd.prog 61 #[.pointer (some ⟨b,0,none⟩)] w (RePost b s w VTerm (rTerm (bl s) p)) := by
 have hen := fun w h => re_end (w := w) (b := b) (s := s) (p := (p : Int)) (d := false) h;have hpk := fun w h => re_peek (w := w) (b := b) (s := s) (p := (p : Int)) (d := false) h;have hbl := h.lt;have hR : Hid (rTerm (bl s) p = (rText (bl s) p).bind fun x => .ok ((false,mk x.1),x.2)) := Lh (by unfold rTerm;rw [h34];rfl)
 have hA := h.below ((Below.refl w.heap.size w).al (.cells termZ 57));have hdc : Hid (Drawn (w.alloc (.cells termZ 57)) (w.alloc (.cells termZ 57))) := Lh (Drawn.refl _);rw [show decide ((s.size : Int) ≤ (p : Int)) = false from decide_eq_false (by omega)] at hen;rw [pe_in s p hlt] at hpk;rw [h34] at hpk;have hgr := fun w => r8_great 34 w;have hdg := fun w => r8_digit 34 w
 rw [show greatB 34 = false from by decide] at hgr;rw [show digitB 34 = false from by decide] at hdg;clear h34;have hcl := fun w h => re_text (w := w) (b := b) (s := s) (p := p) h;unfold RePost at hcl;generalize rText (bl s) p = Z at hcl hR;generalize rTerm (bl s) p = R at hR ⊢;replace hcl := Lh hcl;go_enter Tryd.func61,Tryd.ntmps61
 go_wp2_with (first
   | (go_at_call 23;refine (hen _ (hA.drawn hdc.out)).mono ?_;rintro e w1 ⟨rfl,hd1⟩;replace hdc := Lh (hdc.out.trans hd1);have hr1 := hA.drawn hdc.out;obtain ⟨e0,e1,e2,e3,e4⟩ := hr1.cells;clear hd1)
   | (go_at_call 38;refine (hpk _ (hA.drawn hdc.out)).mono ?_;rintro e w1 ⟨rfl,hd1⟩;replace hdc := Lh (hdc.out.trans hd1);have hr1 := hA.drawn hdc.out;obtain ⟨e0,e1,e2,e3,e4⟩ := hr1.cells;clear hd1)
   | (go_at_call 71;refine (hgr _).mono ?_;rintro e w' ⟨rfl,rfl⟩)
   | (go_at_call 72;refine (hdg _).mono ?_;rintro e w' ⟨rfl,rfl⟩)
   | (go_at_call 43;refine (hcl.out _ (hA.drawn hdc.out)).mono ?_;rintro e w3 ⟨v3,x3,rfl,hv3,hx3,hr3,hm3⟩;unfold VStr at hv3;subst hv3;have hcr := Lh (cell_res ((Mvd.of (b := b) (hdc.out.below _)).trans hm3) hbl);have hrz := hcr.out.1;have hm1 := Lh hcr.out.2;replace hr3 : Hid (Rd w3 b s _ _) := Lh hr3;replace hx3 := Lh hx3;clear hm3)
   | (refine wpList_store_rowA rfl 57 (.tmp 2) (.tmp 39) rfl w.heap.size #[.bool false,.string (mk x3)] rfl rfl 57 #[.bool false,.string ⟨#[]⟩] hrz sizeTerm rfl (by simp [Value.oneCell']) ?_))
 intro w5 hg5 hgr5 hsz5;have hr5 := Lh (Rd.other hr3.out hgr5 (by omega));have hm5 := Lh (hm1.out.new hgr5);clear hgr5 hsz5;go_wp2_with fail;refine bodyPost_ret (v := .agg #[.bool false,.string (mk x3)]) (results_cell_row rfl _ _ w.heap.size 57 _ (0,0) _ rfl hg5.out Tryd.underlying57 rfl sizeTerm) rfl ?_;rw [hR.out]
 refine ⟨_,(false,mk x3),rfl,rfl,fun y hy => ?_,by rw [map_pos];exact hr5.out,hm5.out⟩
 cases Z with
 | error e => cases hy
 | ok z => injection hy with hy;rw [← hy,hx3.out _ rfl]
theorem re_term_name {w : World} {b : Nat} {s : ByteArray} {p : Nat} (h : Rd w b s (p : Int) false) (hlt : p < s.size) (hg : greatB (pk (bl s) p) = false) (hd : digitB (pk (bl s) p) = false) (h34 : ¬ pk (bl s) p = 34) :
    Calls Tryd.prog 61 #[.pointer (some ⟨b,0,none⟩)] w (RePost b s w VTerm (rTerm (bl s) p)) := by
 have hen := fun w h => re_end (w := w) (b := b) (s := s) (p := (p : Int)) (d := false) h;have hpk := fun w h => re_peek (w := w) (b := b) (s := s) (p := (p : Int)) (d := false) h;have hbl := h.lt;have hR : Hid (rTerm (bl s) p = (rName (bl s) p).bind fun x => .ok ((false,mk x.1),x.2)) := Lh (by unfold rTerm;rw [if_neg (by rw [hg];decide),if_neg (by rw [hd];decide),if_neg h34])
 have hA := h.below ((Below.refl w.heap.size w).al (.cells termZ 57));have hdc : Hid (Drawn (w.alloc (.cells termZ 57)) (w.alloc (.cells termZ 57))) := Lh (Drawn.refl _);rw [show decide ((s.size : Int) ≤ (p : Int)) = false from decide_eq_false (by omega)] at hen;rw [pe_in s p hlt] at hpk;have hgr := fun w => r8_great (pk (bl s) p) w;rw [hg] at hgr
 have hdg := fun w => r8_digit (pk (bl s) p) w;rw [hd] at hdg;have hne : (pk (bl s) p == 34) = false := by rw [beq_eq_false_iff_ne];exact h34
 clear hg hd h34;generalize pk (bl s) p = c at hpk hgr hdg hne;have hcl := fun w h => re_name_ok (w := w) (b := b) (s := s) (p := p) h;unfold RePost at hcl;generalize rName (bl s) p = Z at hcl hR;generalize rTerm (bl s) p = R at hR ⊢;replace hcl := Lh hcl;go_enter Tryd.func61,Tryd.ntmps61
 go_wp2_with (first
   | (go_at_call 23;refine (hen _ (hA.drawn hdc.out)).mono ?_;rintro e w1 ⟨rfl,hd1⟩;replace hdc := Lh (hdc.out.trans hd1);have hr1 := hA.drawn hdc.out;obtain ⟨e0,e1,e2,e3,e4⟩ := hr1.cells;clear hd1)
   | (go_at_call 38;refine (hpk _ (hA.drawn hdc.out)).mono ?_;rintro e w1 ⟨rfl,hd1⟩;replace hdc := Lh (hdc.out.trans hd1);have hr1 := hA.drawn hdc.out;obtain ⟨e0,e1,e2,e3,e4⟩ := hr1.cells;clear hd1)
   | (go_at_call 71;refine (hgr _).mono ?_;rintro e w' ⟨rfl,rfl⟩)
   | (go_at_call 72;refine (hdg _).mono ?_;rintro e w' ⟨rfl,rfl⟩)
   | (go_at_call 58;refine (hcl.out _ (hA.drawn hdc.out)).mono ?_;rintro e w3 ⟨v3,x3,rfl,hv3,hx3,hr3,hm3⟩;unfold VStr at hv3;subst hv3;have hcr := Lh (cell_res ((Mvd.of (b := b) (hdc.out.below _)).trans hm3) hbl);have hrz := hcr.out.1;have hm1 := Lh hcr.out.2;replace hr3 : Hid (Rd w3 b s _ _) := Lh hr3;replace hx3 := Lh hx3;clear hm3)
   | (refine wpList_store_rowA rfl 57 (.tmp 2) (.tmp 42) rfl w.heap.size #[.bool false,.string (mk x3)] rfl rfl 57 #[.bool false,.string ⟨#[]⟩] hrz sizeTerm rfl (by simp [Value.oneCell']) ?_))
 intro w5 hg5 hgr5 hsz5;have hr5 := Lh (Rd.other hr3.out hgr5 (by omega));have hm5 := Lh (hm1.out.new hgr5);clear hgr5 hsz5;go_wp2_with fail;refine bodyPost_ret (v := .agg #[.bool false,.string (mk x3)]) (results_cell_row rfl _ _ w.heap.size 57 _ (0,0) _ rfl hg5.out Tryd.underlying57 rfl sizeTerm) rfl ?_;rw [hR.out]
 refine ⟨_,(false,mk x3),rfl,rfl,fun y hy => ?_,by rw [map_pos];exact hr5.out,hm5.out⟩
 cases Z with
 | error e => cases hy
 | ok z => injection hy with hy;rw [← hy,hx3.out _ rfl]
theorem re_term {w : World} {b : Nat} {s : ByteArray} {S : Except Int Nat} (h : Rs w b s S) :
    Calls Tryd.prog 61 #[.pointer (some ⟨b,0,none⟩)] w (RePost b s w VTerm (S.bind (rTerm (bl s)))) := by
 cases S with
 | error x => exact re_term_bad h
 | ok p =>
  show Calls _ _ _ _ (RePost b s w VTerm (rTerm (bl s) p))
  by_cases hlt : p < s.size
  · cases hg : greatB (pk (bl s) p) with
    | true => exact re_term_var h hlt hg
    | false =>
     cases hd : digitB (pk (bl s) p) with
     | true => exact re_term_num h hlt hg hd
     | false =>
      by_cases h34 : pk (bl s) p = 34
      · exact re_term_str h hlt h34
      · exact re_term_name h hlt hg hd h34
  · exact re_term_end h hlt
end Go.Proofs.YtmjincocmhadeaaDoor
/- Parse: the document's reader: the terms behind a predicate. (gen_pej.py) -/
namespace Go.Proofs.YtmjincocmhadeaaDoor
open Go.RowKit Lx
def VArgs (lo : Nat) (w : World) (v : Value) (x : List (Bool × ByteArray)) : Prop := w.ownsRow lo 57 2 v x.length (flatTT x)
theorem flatTT_snoc (l : List (Bool × ByteArray)) (x : Bool × ByteArray) : flatTT (l ++ [x]) = flatTT l ++ [.bool x.1,.string x.2] := by
 unfold flatTT;rw [List.flatMap_append];rfl
theorem re_args_bad {w : World} {b : Nat} {s : ByteArray} {p : Int} (h : Rd w b s p true) :
    Calls Tryd.prog 46 #[.pointer (some ⟨b,0,none⟩)] w (RePost b s w (VArgs w.heap.size) (.error p)) := by
 have hsk := re_skip_bad h;obtain ⟨c0,c1,c2,-⟩ := h.cells;go_enter Tryd.func46,Tryd.ntmps46
 go_wp2_with (go_at_call 22;refine hsk.mono ?_;rintro e w1 ⟨rfl,rfl⟩)
 go_ret;exact ⟨_,[],rfl,World.ownsRow_nil _ _ _ _,fun y h => (by cases h),h,Mvd.refl _ _⟩
theorem re_args_none {w : World} {b : Nat} {s : ByteArray} {p : Nat} (h : Rd w b s (p : Int) false) (h40 : ¬ pk (bl s) (rSkip (bl s) p) = 40) :
    Calls Tryd.prog 46 #[.pointer (some ⟨b,0,none⟩)] w (RePost b s w (VArgs w.heap.size) (rArgs (bl s) p)) := by
 have hR : Hid (rArgs (bl s) p = .ok ([],rSkip (bl s) p)) := Lh (by unfold rArgs;rw [if_neg h40]);have hsk := re_skip_ok h;have hpk := fun w h => re_peek (w := w) (b := b) (s := s) (p := (rSkip (bl s) p : Nat)) (d := false) h
 have hne : (pe s ((rSkip (bl s) p : Nat) : Int) != 40) = true := by
  simp;exact fun h => h40 ((pe_eq s _ 40 (by decide)).1 h)
 clear h40;generalize rArgs (bl s) p = R at hR ⊢;generalize rSkip (bl s) p = q at hR hsk hpk hne;generalize pe s ((q : Nat) : Int) = c at hpk hne;go_enter Tryd.func46,Tryd.ntmps46
 go_wp2_with (first
   | (go_at_call 22;refine hsk.mono ?_;rintro e w1 ⟨rfl,hr1,hm1⟩;obtain ⟨e0,e1,e2,e3,e4⟩ := hr1.cells;replace hm1 := Lh hm1)
   | (go_at_call 38;refine (hpk _ hr1).mono ?_;rintro e w2 ⟨rfl,hd2⟩;have hr2 := Lh (hr1.drawn hd2);have hm2 := Lh (hm1.out.trans (Mvd.of (hd2.below _)))))
 go_ret;rw [hR.out];exact ⟨_,[],rfl,World.ownsRow_nil _ _ _ _,fun y h => (by injection h with h;rw [← h]),hr2.out,hm2.out⟩
theorem re_args_some {w : World} {b : Nat} {s : ByteArray} {p : Nat} (h : Rd w b s (p : Int) false) (h40 : pk (bl s) (rSkip (bl s) p) = 40) :
    Calls Tryd.prog 46 #[.pointer (some ⟨b,0,none⟩)] w (RePost b s w (VArgs w.heap.size) (rArgs (bl s) p)) := by
 obtain ⟨it,hit,ht0,ht1,ht2⟩ := info_parts infoTerm;have hbl := h.lt;have hlen := h.len
 have hlt : rSkip (bl s) p < s.size := by
  rcases Nat.lt_or_ge (rSkip (bl s) p) s.size with h | h
  · exact h
  · have := (pe_out s (rSkip (bl s) p) (by omega)).2;omega
 have hR0 : rArgs (bl s) p = rArgsN (bl s) 16 (rSkip (bl s) p + 1) [] := by unfold rArgs;rw [if_pos h40]
 rw [hR0];have hsk := re_skip_ok h;have hpk := fun w h => re_peek (w := w) (b := b) (s := s) (p := (rSkip (bl s) p : Nat)) (d := false) h;rw [(pe_eq s _ 40 (by decide)).2 h40] at hpk;clear h40 hR0;generalize rSkip (bl s) p = q at hsk hpk hlt ⊢;have hstep := Lh fun (w : World) (h : Rd w b s (q : Int) false) => h.move ((q : Int) + 1) (by omega) (by omega)
 obtain ⟨R,hR⟩ : ∃ R,R = rArgsN (bl s) 16 (q + 1) [] := ⟨_,rfl⟩;rw [← hR];replace hR := Lh hR;go_enter Tryd.func46,Tryd.ntmps46
 go_wp2_with (first
   | (go_at_call 22;refine hsk.mono ?_;rintro e w1 ⟨rfl,hr1,hm1⟩;obtain ⟨e0,e1,e2,e3,e4⟩ := hr1.cells;replace hm1 := Lh hm1)
   | (go_at_call 38;refine (hpk _ hr1).mono ?_;rintro e w2 ⟨rfl,hd2⟩;have hr2 := hr1.drawn hd2;obtain ⟨f0,f1,f2,f3,f4⟩ := hr2.cells;have hm2 := Lh (hm1.out.trans (Mvd.of (hd2.below _)))))
 have hr3 : Hid (Rd (w2.setCell ⟨b,1,none⟩ (.int .i64 ((q : Int) + 1))) b s ((q + 1 : Nat) : Int) false) := Lh (hstep.out _ hr2);have hm3 := Lh (hm2.out.trans ((Mvd.refl b _).set 1 (.int .i64 ((q : Int) + 1))));clear hr1 hr2 hm1 hm2 hsk hpk hstep e0 e1 e2 e3 e4 f0 f1 f2 f3 f4 hd2
 go_loopw [3] (fun o wr => ∃ (acc : List (Bool × ByteArray)) (va : Option Addr) (vc n j : Nat),o = .slice va acc.length vc ∧ acc.length + (n + 1) = 16 ∧ Hid (Mvd b w wr) ∧ Hid (wr.ownsRow w.heap.size 57 2 (.slice va acc.length vc) acc.length (flatTT acc)) ∧ Hid (Rd wr b s (j : Int) false) ∧ Hid (R = rArgsN (bl s) (n + 1) j acc)) (fun o _ => 16 - (match o with | .slice _ n _ => n | _ => 0))
 case atStart => exact ⟨[],none,0,15,q + 1,rfl,rfl,hm3,Lh (World.ownsRow_nil _ _ _ _),hr3,hR⟩
 case round =>
  clear hr3 hm3 hR;obtain ⟨acc,va,vc,n,j,rfl,hn,hm,hown,hr,hR⟩ := hrel;obtain ⟨c0,c1,c2,-⟩ := hr.out.cells;have hsk1 := Lh fun w h => re_skip_ok (w := w) (b := b) (s := s) (p := j) h
  have hU : Hid (R = (rTerm (bl s) (rSkip (bl s) j)).bind fun x => if pk (bl s) (rSkip (bl s) x.2) = 44 then (if n = 0 then .error (rSkip (bl s) x.2 : Int) else rArgsN (bl s) n (rSkip (bl s) x.2 + 1) (acc ++ [x.1])) else (rSign 41 (bl s) (rSkip (bl s) x.2)).bind fun q => .ok (acc ++ [x.1],q)) := Lh (hR.out.trans rfl)
  have hte := fun w h => re_term (w := w) (b := b) (s := s) (S := .ok (rSkip (bl s) j)) h;have hteq : ∀ S : Except Int Nat,S = .ok (rSkip (bl s) j) → S.bind (rTerm (bl s)) = rTerm (bl s) (rSkip (bl s) j) := fun S h => by rw [h];rfl
  rw [hteq _ rfl] at hte;have h63 : Hid (acc.length + 1 ≤ maxLen) := Lh (by unfold maxLen;omega);clear hR hteq
  cases hx : rTerm (bl s) (rSkip (bl s) j) with
  | error er =>
   rw [hx] at hU hte;unfold RePost at hte;replace hte := Lh hte;clear hx;generalize rSkip (bl s) j = j1 at hsk1 hte
   go_wp2_with (first
     | (go_at_call 22;refine (hsk1.out _ hr.out).mono ?_;rintro e w2 ⟨rfl,hr20,hm20⟩;have hr2 := Lh hr20;have hm2 := Lh (hm.out.trans hm20);have hown2 := Lh (own_mvd hown.out hm20 hbl);clear hsk1 hr20 hm20)
     | (go_at_call 61;refine (hte.out _ hr2.out).mono ?_;rintro e w3 ⟨v3,x3,rfl,hv3,hx30,hr30,hm30⟩;unfold VTerm at hv3;subst hv3;have hx3 := Lh hx30;have hr3 := Lh hr30;have hm3 := Lh (hm2.out.trans hm30);have hown3 := Lh (own_mvd hown2.out hm30 hbl);clear hx30 hr30 hm30)
     | (at_builtin;refine wpList_append_anyP rfl (.tmp 29) (.tmp 32) 47 rfl w.heap.size 57 it (.agg #[.bool false,.string ⟨#[]⟩]) 2 24 Tryd.underlying47 hit ht0 ht1 ht2 rfl (by decide) _ acc.length (flatTT acc) rfl (hown3.out.alloc _) (some ⟨w3.heap.size,0,none⟩) 1 1 [.bool x3.1,.string x3.2] rfl rfl (fun j u hj => ⟨_,rfl,own_cells_row rfl rfl j u hj⟩) (by intro u hu;simp at hu;rcases hu with rfl | rfl <;> rfl) h63.out (by omega) (by rw [World.size_alloc];have := hm3.out.size;omega) ?_))
   intro v4 w4 hown4 hgr4;have hlow := grown_lowG hown3.out hm3.out.size hgr4;have hm4 := Lh (hm3.out.low hgr4 hlow);have hr4 := Lh (hr3.out.low hlow hbl);obtain ⟨vb,vd,rfl,-⟩ := own_slice hown4;have hlen4 : (acc ++ [x3]).length = acc.length + 1 := by rw [List.length_append];rfl
   have hown5 : Hid (w4.ownsRow w.heap.size 57 2 (.slice vb (acc.length + 1) vd) (acc ++ [x3]).length (flatTT (acc ++ [x3]))) := Lh (by
    rw [hlen4,flatTT_snoc];exact hown4)
   clear hgr4 hown4 hlow;have hr4' : Rd w4 b s er true := hr4.out
   go_wp2_with (first
     | (go_at_call 22;refine (re_skip_bad hr4').mono ?_;rintro e w5 ⟨rfl,rfl⟩;obtain ⟨g0,g1,g2,g3,g4⟩ := hr4'.cells)
     | (go_at_call 44;refine (re_sign_bad 41 hr4').mono ?_;rintro e w6 ⟨rfl,rfl⟩))
   go_ret;rw [hU.out];exact ⟨_,acc ++ [x3],rfl,hown5.out,fun y h => (by cases h),hr4',hm4.out⟩
  | ok y =>
   obtain ⟨x,k⟩ := y;rw [hx] at hU hte;unfold RePost at hte;replace hte := Lh hte;clear hx;have hU2 : Hid (R = if pk (bl s) (rSkip (bl s) k) = 44 then (if n = 0 then .error (rSkip (bl s) k : Int) else rArgsN (bl s) n (rSkip (bl s) k + 1) (acc ++ [x])) else (rSign 41 (bl s) (rSkip (bl s) k)).bind fun q => .ok (acc ++ [x],q)) := Lh hU.out;clear hU
   have hsk2 := Lh fun w h => re_skip_ok (w := w) (b := b) (s := s) (p := k) h;have hpk := fun w h => re_peek (w := w) (b := b) (s := s) (p := (rSkip (bl s) k : Nat)) (d := false) h;have hsg := Lh fun w h => re_sign_ok (w := w) (b := b) (s := s) (p := rSkip (bl s) k) 41 (by decide) h
   have hmx : Hid (rSkip (bl s) k < s.size ∨ ¬ pk (bl s) (rSkip (bl s) k) = 44) := Lh (by
    rcases Nat.lt_or_ge (rSkip (bl s) k) s.size with h | h
    · exact .inl h
    · right;rw [(pe_out s (rSkip (bl s) k) (by omega)).2];decide)
   have h44 := pe_eq s (rSkip (bl s) k) 44 (by decide);generalize rSkip (bl s) j = j1 at hsk1 hte;generalize rSkip (bl s) k = k1 at hU2 hsk2 hpk hsg hmx h44
   by_cases hc : pk (bl s) k1 = 44
   · rw [h44.2 hc] at hpk;have hklt : k1 < s.size := by rcases hmx.out with h | h;exact h;exact absurd hc h
     have hU3 : Hid (R = if n = 0 then .error (k1 : Int) else rArgsN (bl s) n (k1 + 1) (acc ++ [x])) := Lh (by rw [hU2.out,if_pos hc]);clear hU2 hc h44 hmx hsg;have hstep := Lh fun (w : World) (h : Rd w b s (k1 : Int) false) => h.move ((k1 : Int) + 1) (by omega) (by omega)
     by_cases hn0 : n = 0
     · have hU4 : Hid (R = .error (k1 : Int)) := Lh (by rw [hU3.out,if_pos hn0]);have hl15 : Hid (acc.length = 15) := Lh (by omega);have hacc16 : acc.length < 16 := by omega
       clear hU3 hn hn0
       go_wp2_with (first
         | (go_at_call 22;refine (hsk1.out _ hr.out).mono ?_;rintro e w2 ⟨rfl,hr20,hm20⟩;have hr2 := Lh hr20;have hm2 := Lh (hm.out.trans hm20);have hown2 := Lh (own_mvd hown.out hm20 hbl);clear hsk1 hr20 hm20)
         | (go_at_call 61;refine (hte.out _ hr2.out).mono ?_;rintro e w3 ⟨v3,x3,rfl,hv3,hx30,hr30,hm30⟩;unfold VTerm at hv3;subst hv3;have hx3 := Lh hx30;have hr3 := Lh hr30;have hm3 := Lh (hm2.out.trans hm30);have hown3 := Lh (own_mvd hown2.out hm30 hbl);clear hx30 hr30 hm30)
         | (at_builtin;refine wpList_append_anyP rfl (.tmp 29) (.tmp 32) 47 rfl w.heap.size 57 it (.agg #[.bool false,.string ⟨#[]⟩]) 2 24 Tryd.underlying47 hit ht0 ht1 ht2 rfl (by decide) _ acc.length (flatTT acc) rfl (hown3.out.alloc _) (some ⟨w3.heap.size,0,none⟩) 1 1 [.bool x3.1,.string x3.2] rfl rfl (fun j u hj => ⟨_,rfl,own_cells_row rfl rfl j u hj⟩) (by intro u hu;simp at hu;rcases hu with rfl | rfl <;> rfl) h63.out (by omega) (by rw [World.size_alloc];have := hm3.out.size;omega) ?_))
       intro v4 w4 hown4 hgr4;have hlow := grown_lowG hown3.out hm3.out.size hgr4;have hm4 := Lh (hm3.out.low hgr4 hlow);have hr4 := Lh (hr3.out.low hlow hbl);obtain ⟨vb,vd,rfl,-⟩ := own_slice hown4;have hlen4 : (acc ++ [x3]).length = acc.length + 1 := by rw [List.length_append];rfl
       have hown5 : Hid (w4.ownsRow w.heap.size 57 2 (.slice vb (acc.length + 1) vd) (acc ++ [x3]).length (flatTT (acc ++ [x3]))) := Lh (by
        rw [hlen4,flatTT_snoc];exact hown4)
       clear hgr4 hown4 hlow;have hr4' : Rd w4 b s (k : Int) false := hr4.out;have h16 : ((acc.length : Int) + 1 == 16) = true := by rw [beq_iff_eq];have := hl15.out;omega
       go_wp2_with (first
         | (go_at_call 22;have hg := hsk2;refine (hsk2.out _ hr4').mono ?_;rintro e w5 ⟨rfl,hr5,hm50⟩;obtain ⟨g0,g1,g2,g3,g4⟩ := hr5.cells;have hm5 := Lh (hm4.out.trans hm50);have hown6 := Lh (own_mvd hown5.out hm50 hbl);clear hsk2 hm50 hg)
         | (go_at_call 38;refine (hpk _ hr5).mono ?_;rintro e w6 ⟨rfl,hd6⟩;have hr6 := hr5.drawn hd6;obtain ⟨kk0,kk1,kk2,kk3,kk4⟩ := hr6.cells;have hm6 := Lh (hm5.out.trans (Mvd.of (hd6.below _)));have hown7 := Lh (own_below hown6.out (hd6.below _));clear hd6)
         | (go_at_call 40;refine (re_stop hr6 _ (by omega) hr6.le).mono ?_;rintro e w7 ⟨rfl,hr7,hm70⟩;have hm7 := Lh (hm6.out.trans hm70);have hown8 := Lh (own_mvd hown7.out hm70 hbl);clear hm70)
         | (go_at_call 44;refine (re_sign_bad 41 hr7).mono ?_;rintro e w8 ⟨rfl,rfl⟩))
       go_ret;rw [hU4.out];exact ⟨_,acc ++ [x3],rfl,hown8.out,fun y h => (by cases h),hr7,hm7.out⟩
     · obtain ⟨n',rfl⟩ : ∃ n',n = n' + 1 := ⟨n - 1,by omega⟩;have hU4 : Hid (R = rArgsN (bl s) (n' + 1) (k1 + 1) (acc ++ [x])) := Lh (by rw [hU3.out,if_neg hn0]);clear hU3
       go_wp2_with (first
         | (go_at_call 22;refine (hsk1.out _ hr.out).mono ?_;rintro e w2 ⟨rfl,hr20,hm20⟩;have hr2 := Lh hr20;have hm2 := Lh (hm.out.trans hm20);have hown2 := Lh (own_mvd hown.out hm20 hbl);clear hsk1 hr20 hm20)
         | (go_at_call 61;refine (hte.out _ hr2.out).mono ?_;rintro e w3 ⟨v3,x3,rfl,hv3,hx30,hr30,hm30⟩;unfold VTerm at hv3;subst hv3;have hx3 := Lh hx30;have hr3 := Lh hr30;have hm3 := Lh (hm2.out.trans hm30);have hown3 := Lh (own_mvd hown2.out hm30 hbl);clear hx30 hr30 hm30)
         | (at_builtin;refine wpList_append_anyP rfl (.tmp 29) (.tmp 32) 47 rfl w.heap.size 57 it (.agg #[.bool false,.string ⟨#[]⟩]) 2 24 Tryd.underlying47 hit ht0 ht1 ht2 rfl (by decide) _ acc.length (flatTT acc) rfl (hown3.out.alloc _) (some ⟨w3.heap.size,0,none⟩) 1 1 [.bool x3.1,.string x3.2] rfl rfl (fun j u hj => ⟨_,rfl,own_cells_row rfl rfl j u hj⟩) (by intro u hu;simp at hu;rcases hu with rfl | rfl <;> rfl) h63.out (by omega) (by rw [World.size_alloc];have := hm3.out.size;omega) ?_))
       intro v4 w4 hown4 hgr4;have hlow := grown_lowG hown3.out hm3.out.size hgr4;have hm4 := Lh (hm3.out.low hgr4 hlow);have hr4 := Lh (hr3.out.low hlow hbl);obtain ⟨vb,vd,rfl,-⟩ := own_slice hown4;have hlen4 : (acc ++ [x3]).length = acc.length + 1 := by rw [List.length_append];rfl
       have hown5 : Hid (w4.ownsRow w.heap.size 57 2 (.slice vb (acc.length + 1) vd) (acc ++ [x3]).length (flatTT (acc ++ [x3]))) := Lh (by
        rw [hlen4,flatTT_snoc];exact hown4)
       clear hgr4 hown4 hlow;have hr4' : Rd w4 b s (k : Int) false := hr4.out;have h16 : ((acc.length : Int) + 1 == 16) = false := by rw [beq_eq_false_iff_ne];omega
       go_wp2_with (first
         | (go_at_call 22;have hg := hsk2;refine (hsk2.out _ hr4').mono ?_;rintro e w5 ⟨rfl,hr5,hm50⟩;obtain ⟨g0,g1,g2,g3,g4⟩ := hr5.cells;have hm5 := Lh (hm4.out.trans hm50);have hown6 := Lh (own_mvd hown5.out hm50 hbl);clear hsk2 hm50 hg)
         | (go_at_call 38;refine (hpk _ hr5).mono ?_;rintro e w6 ⟨rfl,hd6⟩;have hr6 := hr5.drawn hd6;obtain ⟨kk0,kk1,kk2,kk3,kk4⟩ := hr6.cells;have hm6 := Lh (hm5.out.trans (Mvd.of (hd6.below _)));have hown7 := Lh (own_below hown6.out (hd6.below _));clear hd6))
       have hr8 : Hid (Rd (w6.setCell ⟨b,1,none⟩ (.int .i64 ((k1 : Int) + 1))) b s ((k1 + 1 : Nat) : Int) false) := Lh (hstep.out _ hr6);have hm8 := Lh (hm6.out.trans ((Mvd.refl b _).set 1 (.int .i64 ((k1 : Int) + 1))));have hown9 := Lh (own_mvd hown7.out ((Mvd.refl b _).set 1 (.int .i64 ((k1 : Int) + 1))) hbl);go_roundw
       case rel =>
        refine ⟨acc ++ [x3],vb,vd,n',k1 + 1,by rw [hlen4],by omega,hm8,?_,hr8,?_⟩
        · rw [hlen4];have := hown9;rw [hlen4] at this;exact this
        · rw [hx3.out _ rfl];exact hU4
       case measure => simp;omega
   · have hU3 : Hid (R = (rSign 41 (bl s) k1).bind fun q => .ok (acc ++ [x],q)) := Lh (by rw [hU2.out,if_neg hc]);have hne : (pe s (k1 : Int) != 44) = true := by simp;exact fun h => hc (h44.1 h)
     clear hU2 hc h44 hmx;generalize pe s (k1 : Int) = c at hpk hne
     go_wp2_with (first
       | (go_at_call 22;refine (hsk1.out _ hr.out).mono ?_;rintro e w2 ⟨rfl,hr20,hm20⟩;have hr2 := Lh hr20;have hm2 := Lh (hm.out.trans hm20);have hown2 := Lh (own_mvd hown.out hm20 hbl);clear hsk1 hr20 hm20)
       | (go_at_call 61;refine (hte.out _ hr2.out).mono ?_;rintro e w3 ⟨v3,x3,rfl,hv3,hx30,hr30,hm30⟩;unfold VTerm at hv3;subst hv3;have hx3 := Lh hx30;have hr3 := Lh hr30;have hm3 := Lh (hm2.out.trans hm30);have hown3 := Lh (own_mvd hown2.out hm30 hbl);clear hx30 hr30 hm30)
       | (at_builtin;refine wpList_append_anyP rfl (.tmp 29) (.tmp 32) 47 rfl w.heap.size 57 it (.agg #[.bool false,.string ⟨#[]⟩]) 2 24 Tryd.underlying47 hit ht0 ht1 ht2 rfl (by decide) _ acc.length (flatTT acc) rfl (hown3.out.alloc _) (some ⟨w3.heap.size,0,none⟩) 1 1 [.bool x3.1,.string x3.2] rfl rfl (fun j u hj => ⟨_,rfl,own_cells_row rfl rfl j u hj⟩) (by intro u hu;simp at hu;rcases hu with rfl | rfl <;> rfl) h63.out (by omega) (by rw [World.size_alloc];have := hm3.out.size;omega) ?_))
     intro v4 w4 hown4 hgr4;have hlow := grown_lowG hown3.out hm3.out.size hgr4;have hm4 := Lh (hm3.out.low hgr4 hlow);have hr4 := Lh (hr3.out.low hlow hbl);obtain ⟨vb,vd,rfl,-⟩ := own_slice hown4;have hlen4 : (acc ++ [x3]).length = acc.length + 1 := by rw [List.length_append];rfl
     have hown5 : Hid (w4.ownsRow w.heap.size 57 2 (.slice vb (acc.length + 1) vd) (acc ++ [x3]).length (flatTT (acc ++ [x3]))) := Lh (by
      rw [hlen4,flatTT_snoc];exact hown4)
     clear hgr4 hown4 hlow;have hr4' : Rd w4 b s (k : Int) false := hr4.out
     go_wp2_with (first
       | (go_at_call 22;have hg := hsk2;refine (hsk2.out _ hr4').mono ?_;rintro e w5 ⟨rfl,hr5,hm50⟩;obtain ⟨g0,g1,g2,g3,g4⟩ := hr5.cells;have hm5 := Lh (hm4.out.trans hm50);have hown6 := Lh (own_mvd hown5.out hm50 hbl);clear hsk2 hm50 hg)
       | (go_at_call 38;refine (hpk _ hr5).mono ?_;rintro e w6 ⟨rfl,hd6⟩;have hr6 := hr5.drawn hd6;obtain ⟨kk0,kk1,kk2,kk3,kk4⟩ := hr6.cells;have hm6 := Lh (hm5.out.trans (Mvd.of (hd6.below _)));have hown7 := Lh (own_below hown6.out (hd6.below _));clear hd6)
       | (go_at_call 44;refine (hsg.out _ hr6).mono ?_;rintro e w7 ⟨rfl,hr7,hm70⟩;have hm7 := Lh (hm6.out.trans hm70);have hown8 := Lh (own_mvd hown7.out hm70 hbl);replace hr7 := Lh hr7;clear hm70))
     go_ret;rw [hU3.out];have hx4 := hx3.out _ rfl;dsimp only at hx4;subst hx4;generalize rSign 41 (bl s) k1 = Z at hr7;refine ⟨_,acc ++ [x3],rfl,hown8.out,fun y hy => ?_,?_,hm7.out⟩
     · cases Z with
       | error e => cases hy
       | ok z => injection hy with hy;rw [← hy]
     · have := hr7.out
       cases Z with
       | error e => exact this
       | ok z => exact this
theorem re_args {w : World} {b : Nat} {s : ByteArray} {S : Except Int Nat} (h : Rs w b s S) :
    Calls Tryd.prog 46 #[.pointer (some ⟨b,0,none⟩)] w (RePost b s w (VArgs w.heap.size) (S.bind (rArgs (bl s)))) := by
 cases S with
 | error x => exact re_args_bad h
 | ok p =>
  show Calls _ _ _ _ (RePost b s w _ (rArgs (bl s) p))
  by_cases h40 : pk (bl s) (rSkip (bl s) p) = 40
  · exact re_args_some h h40
  · exact re_args_none h h40
end Go.Proofs.YtmjincocmhadeaaDoor
/- Parse: the document's reader: an atom, what stands behind a term. (gen_pek.py) -/
namespace Go.Proofs.YtmjincocmhadeaaDoor
open Go.RowKit Lx
theorem sizeAtom : (Tryd.prog.info? 49).map (fun i => i.size) = some 2 := by kernel_rfl
def VAtom (lo : Nat) (w : World) (v : Value) (x : ByteArray × List (Bool × ByteArray)) : Prop := ∃ av,v = .agg #[.string x.1,av] ∧ w.ownsRow lo 57 2 av x.2.length (flatTT x.2)
theorem Rs.below {w w' : World} {b : Nat} {s : ByteArray} {S : Except Int Nat} (h : Rs w b s S) (hb : Below w.heap.size w w') : Rs w' b s S := Rd.below h hb
theorem Rs.other {w w' : World} {b g : Nat} {s : ByteArray} {S : Except Int Nat} (h : Rs w b s S) (hg : w.grownBy w' (some g)) (hne : b ≠ g) : Rs w' b s S := Rd.other h hg hne
theorem Rs.lt {w : World} {b : Nat} {s : ByteArray} {S : Except Int Nat} (h : Rs w b s S) : b < w.heap.size := Rd.lt h
theorem re_atom {w : World} {b : Nat} {s : ByteArray} {S : Except Int Nat} (h : Rs w b s S) :
    Calls Tryd.prog 76 #[.pointer (some ⟨b,0,none⟩)] w (RePost b s w (VAtom w.heap.size) (S.bind (rAtom (bl s)))) := by
 have hbl := h.lt;have hA := Lh (h.below ((Below.refl w.heap.size w).al (.cells #[.string ⟨#[]⟩,.slice none 0 0] 49)));obtain ⟨N,hN⟩ : ∃ N,N = S.bind (rName (bl s)) := ⟨_,rfl⟩;have hnm := re_name hA.out;rw [← hN] at hnm;unfold RePost at hnm;obtain ⟨R,hR⟩ : ∃ R,R = S.bind (rAtom (bl s)) := ⟨_,rfl⟩;rw [← hR]
 have hRN : Hid (R = N.bind fun x => (rArgs (bl s) x.2).bind fun a => .ok ((mk x.1,a.1),a.2)) := Lh (by rw [hR,hN];cases S <;> rfl);have har := fun w h => re_args (w := w) (b := b) (s := s) (S := N.map (·.2)) h;unfold RePost VArgs at har;replace hnm := Lh hnm;replace har := Lh har;clear hN hR;go_enter Tryd.func76,Tryd.ntmps76
 go_wp2_with (first
   | (go_at_call 58;refine hnm.out.mono ?_;rintro e w3 ⟨v3,x3,rfl,hv3,hx30,hr30,hm30⟩;unfold VStr at hv3;subst hv3;have hx3 := Lh hx30;have hr3 := Lh (Rs.below hr30 ((Below.refl w3.heap.size w3).al (.cells #[.string ⟨#[]⟩,.slice none 0 0] 49)));have hm3 := Lh (hm30.trans (Mvd.of ((Below.refl w3.heap.size w3).al (.cells #[.string ⟨#[]⟩,.slice none 0 0] 49))))
      have hlt3 : Hid (w.heap.size < w3.heap.size) := Lh (Array.getElem?_eq_some_iff.1 (cell_res hm30 hbl).1).1;have hz3 := Lh (heap_alloc_new w3 (.cells #[.string ⟨#[]⟩,.slice none 0 0] 49));clear hx30 hr30 hm30)
   | ((refine wpList_store_rowA rfl 49 (.tmp 3) (.tmp 6) rfl w3.heap.size #[.string (mk x3),.slice none 0 0] rfl rfl 49 #[.string ⟨#[]⟩,.slice none 0 0] hz3.out sizeAtom rfl (by simp [Value.oneCell']) ?_)))
 intro w5 hg5 hgr5 hsz5;have hr5 := Lh (hr3.out.other hgr5 (by have := hlt3.out;omega));have hm5 := Lh (hm3.out.newr hgr5 (by rw [World.size_alloc];have := hlt3.out;omega));have hz5 : Hid (w5.heap.size = w3.heap.size + 1) := Lh hsz5.out;generalize w3.heap.size = g1 at hg5 hlt3 hz5 ⊢;clear hgr5 hsz5 hz3 hr3 hm3
 go_wp2_with (first
   | (go_at_call 46;refine (har.out _ hr5.out).mono ?_;rintro e w6 ⟨v6,x6,rfl,hv6,hx60,hr60,hm60⟩;obtain ⟨va,vc,rfl,-⟩ := own_slice hv6;have hx6 := Lh hx60;have hg6 := (hm60.block g1 (by have := hz5.out;omega) (fun e => by injection e with e;have := hlt3.out;omega)).trans hg5.out;have hm6 := Lh (hm5.out.trans hm60)
      have f1 : w6.frozen? ⟨g1,1,none⟩ = false := by simp [World.frozen?,hg6]
      have f0 : w6.cell? ⟨g1,1,none⟩ = some (.slice none 0 0) := by simp [World.cell?,hg6]
      have hg7 := Go.heap_setCell_same w6 g1 1 _ _ (.slice va x6.length vc) hg6;have k0 := (cell_of_row _ _ 0 _ _ _ hg7).trans rfl;have k1 := (cell_of_row _ _ 1 _ _ _ hg7).trans rfl;have hmm := (Mvd.refl g1 w6).set 1 (.slice va x6.length vc);have hr7 := Lh (Rs.other hr60 hmm (by have := hlt3.out;omega))
      have hm7 := Lh (hm6.out.newr hmm (by have := hlt3.out;rw [World.size_alloc];omega));have hown7 := Lh (own_stays hv6 hmm (fun k hk e => by have := (hv6.lt k hk).1;have := hz5.out;injection e with e;omega));have hcr := Lh (cell_res hm7.out hbl);have hsz6 : Hid (w.heap.size ≤ w5.heap.size) := Lh (by have := hz5.out;have := hlt3.out;omega)
      replace hg7 := Lh hg7;clear hx60 hr60 hm60 hmm hv6 hg6 hm6)
   | (refine wpList_store_rowA rfl 49 (.tmp 2) (.tmp 10) rfl w.heap.size #[.string (mk x3),.slice va x6.length vc] rfl rfl 49 #[.string ⟨#[]⟩,.slice none 0 0] hcr.out.1 sizeAtom rfl (by simp [Value.oneCell']) ?_))
 intro w8 hg8 hgr8 hsz8;have hr8 := Lh (hr7.out.other hgr8 (by omega));have hm8 := Lh (hcr.out.2.new hgr8);have hown8 := Lh (own_baseP (own_stays hown7.out hgr8 (fun k hk e => by have := (hown7.out.lt k hk).1;injection e with e;have := hz5.out;have := hlt3.out;omega)) hsz6.out);clear hgr8 hsz8;go_wp2_with fail
 refine bodyPost_ret (v := .agg #[.string (mk x3),.slice va x6.length vc]) (results_cell_row rfl _ _ w.heap.size 49 _ (0,0) _ rfl hg8.out Tryd.underlying49 rfl sizeAtom) rfl ?_;refine ⟨_,(mk x3,x6),rfl,⟨_,rfl,hown8.out⟩,fun y hy => ?_,?_,hm8.out⟩
 · rw [hRN.out] at hy
   cases N with
   | error e => cases hy
   | ok n =>
    have h1 := hx3.out _ rfl;have hy2 : ((rArgs (bl s) n.2).bind fun a => Except.ok ((mk n.1,a.1),a.2)) = .ok y := hy
    cases hz : rArgs (bl s) n.2 with
    | error e => rw [hz] at hy2;cases hy2
    | ok z =>
     have h2 := hx6.out z hz;rw [hz] at hy2;injection hy2 with hy2;rw [← hy2,h1,h2]
 · have h9 := hr8.out;rw [hRN.out]
   cases N with
   | error e => exact h9
   | ok n =>
    have h10 : Rs w8 b s ((rArgs (bl s) n.2).map (·.2)) := h9;show Rs w8 b s (((rArgs (bl s) n.2).bind fun a => Except.ok ((mk n.1,a.1),a.2)).map (·.2));rw [map_pos];exact h10
/-- a literal that was told -/
def VLit (lo : Nat) (w : World) (v : Value) (x : PLit) : Prop := ∃ av,v = .agg #[.int .i64 x.k,.string x.p,av,.bool x.l.1,.string x.l.2,.bool x.r.1,.string x.r.2] ∧ w.ownsRow lo 57 2 av x.a.length (flatTT x.a)
theorem VLit.slice {lo : Nat} {w : World} {v : Value} {x : PLit} (h : VLit lo w v x) : ∃ va vc,v = .agg #[.int .i64 x.k,.string x.p,.slice va x.a.length vc,.bool x.l.1,.string x.l.2,.bool x.r.1,.string x.r.2] ∧ w.ownsRow lo 57 2 (.slice va x.a.length vc) x.a.length (flatTT x.a) := by
 obtain ⟨av,rfl,h2⟩ := h;obtain ⟨va,vc,rfl,-⟩ := own_slice h2;exact ⟨va,vc,rfl,h2⟩
end Go.Proofs.YtmjincocmhadeaaDoor
/- Parse: the document's reader: what stands behind the first term of an unlike literal. (gen_pel.py) -/
namespace Go.Proofs.YtmjincocmhadeaaDoor
open Go.RowKit Lx
theorem re_unlike {w : World} {b : Nat} {s : ByteArray} {S : Except Int Nat} (t : Bool × ByteArray) (h : Rs w b s S) :
    Calls Tryd.prog 75 #[.pointer (some ⟨b,0,none⟩),.agg #[.bool t.1,.string t.2]] w (RePost b s w (VLit w.heap.size) (S.bind (rUnlike (bl s) t))) := by
 have hbl := h.lt;have hA := Lh ((h.below ((Below.refl w.heap.size w).al (.cells #[.bool t.1,.string t.2] 57))).below ((Below.refl (w.alloc (.cells #[.bool t.1,.string t.2] 57)).heap.size (w.alloc (.cells #[.bool t.1,.string t.2] 57))).al (.cells litZ 59)));obtain ⟨S1,hS1⟩ : ∃ S1,S1 = S.map (rSkip (bl s)) := ⟨_,rfl⟩;obtain ⟨S2,hS2⟩ : ∃ S2,S2 = S1.bind (rSign 33 (bl s)) := ⟨_,rfl⟩
 obtain ⟨S3,hS3⟩ : ∃ S3,S3 = S2.bind (rSign 61 (bl s)) := ⟨_,rfl⟩;obtain ⟨S4,hS4⟩ : ∃ S4,S4 = S3.map (rSkip (bl s)) := ⟨_,rfl⟩;obtain ⟨R5,hR5⟩ : ∃ R5,R5 = S4.bind (rTerm (bl s)) := ⟨_,rfl⟩;have h1 := Lh fun w h => re_skip (w := w) (b := b) (s := s) (S := S) h;rw [← hS1] at h1;have h2 := Lh fun w h => re_sign (w := w) (b := b) (s := s) (S := S1) 33 (by decide) h
 rw [← hS2] at h2;have h3 := Lh fun w h => re_sign (w := w) (b := b) (s := s) (S := S2) 61 (by decide) h;rw [← hS3] at h3;have h4 := Lh fun w h => re_skip (w := w) (b := b) (s := s) (S := S3) h;rw [← hS4] at h4;have hte := fun w h => re_term (w := w) (b := b) (s := s) (S := S4) h;rw [← hR5] at hte;unfold RePost at hte;replace hte := Lh hte
 obtain ⟨R,hR⟩ : ∃ R,R = S.bind (rUnlike (bl s) t) := ⟨_,rfl⟩;rw [← hR]
 have hRR : Hid (R = R5.bind fun u => .ok (⟨3,⟨#[]⟩,[],t,u.1⟩,u.2)) := Lh (by
  rw [hR,hR5,hS4,hS3,hS2,hS1]
  cases S with
  | error e => rfl
  | ok p =>
   show rUnlike (bl s) t p = ((((((rSign 33 (bl s) (rSkip (bl s) p)).bind (rSign 61 (bl s))).map (rSkip (bl s))).bind (rTerm (bl s)))).bind _);unfold rUnlike
   cases rSign 33 (bl s) (rSkip (bl s) p) with
   | error e => rfl
   | ok q =>
    show ((rSign 61 (bl s) q).bind _) = (((((rSign 61 (bl s) q)).map (rSkip (bl s))).bind (rTerm (bl s)))).bind _;cases rSign 61 (bl s) q <;> rfl)
 clear hS1 hS2 hS3 hS4 hR5 hR h
 have hkp : Hid (∀ w',Mvd b ((w.alloc (.cells #[.bool t.1,.string t.2] 57)).alloc (.cells litZ 59)) w' → (w'.cell? ⟨w.heap.size,0,none⟩ = some (.bool t.1) ∧ w'.cell? ⟨w.heap.size,1,none⟩ = some (.string t.2)) ∧ w'.heap[w.heap.size + 1]? = some (.cells litZ 59)) := Lh fun w' hm => by
  have k1 : ((w.alloc (.cells #[.bool t.1,.string t.2] 57)).alloc (.cells litZ 59)).heap[w.heap.size]? = some (.cells #[.bool t.1,.string t.2] 57) := by
   rw [heap_alloc_old _ _ (by rw [World.size_alloc];omega)];exact heap_alloc_new _ _
  have k2 : ((w.alloc (.cells #[.bool t.1,.string t.2] 57)).alloc (.cells litZ 59)).heap[w.heap.size + 1]? = some (.cells litZ 59) := kt_second _ _ _;have j1 := (hm.block w.heap.size (by simp only [World.size_alloc];omega) (fun e => by injection e with e;omega)).trans k1
  have j2 := (hm.block (w.heap.size + 1) (by simp only [World.size_alloc];omega) (fun e => by injection e with e;omega)).trans k2;exact ⟨⟨(cell_of_row _ _ 0 _ _ _ j1).trans rfl,(cell_of_row _ _ 1 _ _ _ j1).trans rfl⟩,j2⟩
 go_enter Tryd.func75,Tryd.ntmps75
 go_wp2_with (first
   | (go_at_call 22;have hg := h1;refine (h1.out _ hA.out).mono ?_;rintro e w1 ⟨rfl,hr10,hm10⟩;have hr1 := Lh hr10;have hm1 := Lh hm10;clear hg h1 hr10 hm10)
   | (go_at_call 44;have hg := h2;refine (h2.out _ hr1.out).mono ?_;rintro e w2 ⟨rfl,hr20,hm20⟩;have hr2 := Lh hr20;have hm2 := Lh (hm1.out.trans hm20);clear hg h2 hr20 hm20)
   | (go_at_call 44;refine (h3.out _ hr2.out).mono ?_;rintro e w3 ⟨rfl,hr30,hm30⟩;have hr3 := Lh hr30;have hm3 := Lh (hm2.out.trans hm30);clear hr30 hm30)
   | (go_at_call 22;refine (h4.out _ hr3.out).mono ?_;rintro e w4 ⟨rfl,hr40,hm40⟩;have hr4 := Lh hr40;have hm4 := Lh (hm3.out.trans hm40);clear hr40 hm40))
 have hk4 := hkp.out _ hm4.out;obtain ⟨⟨z0,z1⟩,-⟩ := hk4;refine wp_region_T (fun w' => w'.cell? ⟨w.heap.size,0,none⟩ = some (.bool t.1) ∧ w'.cell? ⟨w.heap.size,1,none⟩ = some (.string t.2)) [0,1] (by kernel_rfl) ⟨z0,z1⟩ (fun hHeld => ?_)
 refine wpAnyT_take (i := 0) (oi := _) (v := ?_) rfl rfl (by kernel_rfl) (by kernel_rfl) (by kernel_rfl) (fun _ _ _ h => h) (Or.inl ⟨by rfl,?_⟩) (by assumption) ?_;rotate_left
 · intro w hSw
   try dsimp only at hSw
   go_simp
   try with_reducible rfl
 refine wpAnyT_take (i := 1) (oi := _) (v := ?_) rfl rfl (by kernel_rfl) (by kernel_rfl) (by kernel_rfl) (fun _ _ _ h => h) (Or.inl ⟨by rfl,?_⟩) (by assumption) ?_;rotate_left
 · intro w hSw
   try dsimp only at hSw
   go_simp
   try with_reducible rfl
 refine wpAnyT_one (i := 2) (o := _) (by kernel_rfl) rfl (fun K hK => ?_);go_simp
 go_wp2_with (go_at_call 61
              refine (hte.out _ (hr4.out.below (Below.refl _ _).drew)).mono ?_;rintro e w5 ⟨v5,x5,rfl,hv5,hx50,hr50,hm50⟩;unfold VTerm at hv5;subst hv5;have hx5 := Lh hx50;have hr5 := Lh hr50;have hm5 := Lh ((hm4.out.trans (Mvd.of (Below.refl w4.heap.size w4).drew)).trans hm50);have hkk := hkp.out _ hm5.out;clear hx50 hr50 hm50)
 refine hK.out _ _ hkk.1 ?_;clear hK K;refine wpAnyT_one (i := 3) (o := _) (by kernel_rfl) rfl (fun K hK => ?_);go_simp;refine hK.out _ _ hkk.1 ?_;clear hK K;refine wpAnyT_free (i := 4) (o := _) (by kernel_rfl) rfl (by kernel_rfl) (fun K hK => ?_)
 with_reducible refine step_store_row ?gA8 59 (.tmp 4) (.tmp 16) ?oA8 (w.heap.size + 1) #[.int .i64 3,.string ⟨#[]⟩,.slice none 0 0,.bool t.1,.string t.2,.bool x5.1,.string x5.2] ?xA8 ?yA8 59 litZ hkk.2 ?sA8 ?dA8 ?nA8 ?rA8
 case gA8 => rfl
 case oA8 => rfl
 case xA8 => kernel_rfl
 case yA8 => kernel_rfl
 case sA8 => exact sizeLit
 case dA8 => kernel_rfl
 case nA8 => simp [Value.oneCell']
 intro w6 hg6 hgr6 hsz6;have hr6 := Lh (hr5.out.other hgr6 (by omega));have hm50 : Mvd b w w5 := (Mvd.of (((Below.refl _ _).al _).al _)).trans hm5.out;have hm6 := Lh (hm50.newr hgr6 (by omega));refine hK.out _ _ ?_;clear hK K
 refine wpAnyT_done (by kernel_rfl) ?_ _;clear hHeld hkk z0 z1;go_wp2_with fail;refine bodyPost_ret (v := .agg #[.int .i64 3,.string ⟨#[]⟩,.slice none 0 0,.bool t.1,.string t.2,.bool x5.1,.string x5.2]) (results_cell_row rfl _ _ (w.heap.size + 1) 59 _ (0,0) _ rfl hg6.out Tryd.underlying59 rfl sizeLit) rfl ?_
 refine ⟨_,(⟨3,⟨#[]⟩,[],t,x5⟩ : PLit),rfl,⟨_,rfl,World.ownsRow_nil _ _ _ _⟩,fun y hy => ?_,?_,hm6.out⟩
 · rw [hRR.out] at hy
   cases R5 with
   | error e => cases hy
   | ok n =>
    injection hy with hy;rw [← hy,hx5.out _ rfl]
 · rw [hRR.out,map_pos];exact hr6.out
end Go.Proofs.YtmjincocmhadeaaDoor
