/- Parse: the document's reader: hex and piece. -/
import Derived.Test.YtmjincocmhadeaaDoorPmJ
import Derived.Test.YtmjincocmhadeaaDoorPmO
set_option maxHeartbeats 8000000
set_option maxRecDepth 100000
namespace Go.Proofs.YtmjincocmhadeaaDoor
open Go.RowKit Lx
namespace Lx
def rHex (L : Bs) (p : Nat) : Except Int (Int × Nat) := if halfI (pk L p) < 0 then .error (p : Int) else .ok (halfI (pk L p),p + 1)
def rEsc (L : Bs) (p : Nat) : Except Int (Int × Nat) :=
  if pk L p = 34 ∨ pk L p = 92 then .ok (pk L p,p + 1)
  else if pk L p = 110 then .ok (10,p + 1)
  else if pk L p = 116 then .ok (9,p + 1)
  else if pk L p = 120 then (rHex L (p + 1)).bind fun h => (rHex L h.2).bind fun k => .ok (16 * h.1 + k.1,k.2)
  else .error (p : Int)
def rPiece (L : Bs) (p n : Nat) : Except Int (Int × Nat) :=
  if n = 1024 ∨ pk L p < 32 ∨ 126 < pk L p then .error (p : Int)
  else if pk L p = 92 then rEsc L (p + 1)
  else .ok (pk L p,p + 1)
theorem half_range (c : Int) : -1 ≤ halfI c ∧ halfI c ≤ 15 := by
 unfold halfI
 split
 · omega
 · split <;> omega
end Lx
def VInt (_ : World) (v : Value) (x : Int) : Prop := v = .int .u8 x ∧ 0 ≤ x ∧ x < 256
theorem re_hex {w : World} {b : Nat} {s : ByteArray} {p : Nat} (h : Rd w b s (p : Int) false) :
    Calls Tryd.prog 73 #[.pointer (some ⟨b,0,none⟩)] w (RePost b s w VInt (rHex (bl s) p)) := by
 have hen := fun w h => re_end (w := w) (b := b) (s := s) (p := (p : Int)) (d := false) h;have hpk := fun w h => re_peek (w := w) (b := b) (s := s) (p := (p : Int)) (d := false) h;have hdc : Hid (Drawn w w) := Lh (Drawn.refl w);have hqs : (p : Int) ≤ s.size := h.le;have hlen := h.len;have hst := fun w h => re_stop (w := w) (b := b) (s := s) (p := (p : Int)) h (p : Int) (by omega) hqs
 obtain ⟨c0,c1,c2,-⟩ := h.cells
 by_cases hlt : p < s.size
 · rw [show decide ((s.size : Int) ≤ (p : Int)) = false from decide_eq_false (by omega)] at hen;rw [pe_in s p hlt] at hpk;have hstep := Lh fun (w : World) (h : Rd w b s (p : Int) false) => h.move ((p : Int) + 1) (by omega) (by omega);have hRo : Hid (0 ≤ halfI (pk (bl s) p) → rHex (bl s) p = .ok (halfI (pk (bl s) p),p + 1)) := Lh fun h => by unfold rHex;rw [if_neg (by omega)]
   have hRe : Hid (halfI (pk (bl s) p) < 0 → rHex (bl s) p = .error (p : Int)) := Lh fun h => by unfold rHex;rw [if_pos h]
   have hdg := fun w => r8_digit (pk (bl s) p) w;have hr256 := pk_range (bl s) p;generalize rHex (bl s) p = R at hRo hRe ⊢;generalize pk (bl s) p = c at hpk hRo hRe hdg hr256
   by_cases hd : 48 ≤ c ∧ c ≤ 57
   · have hv : halfI c = c - 48 := by unfold halfI;rw [if_pos hd]
     have hR : Hid (R = .ok (c - 48,p + 1)) := Lh (by rw [hRo.out (by omega),hv]);have hw : IntKind.u8.wrap (c - 48) = c - 48 := by rw [IntKind.wrap_u8];omega
     rw [show digitB c = true from by unfold digitB;simp;omega] at hdg;obtain ⟨hd1,hd2⟩ := hd;clear hst hRo hRe hv;go_enter Tryd.func73,Tryd.ntmps73
     go_wp2_with (first
       | (go_at_call 23;refine (hen _ (h.drawn hdc.out)).mono ?_;rintro e w1 ⟨rfl,hd1⟩;replace hdc := Lh (hdc.out.trans hd1);have hr1 := h.drawn hdc.out;obtain ⟨e0,e1,e2,e3,e4⟩ := hr1.cells;clear hd1)
       | (go_at_call 38;refine (hpk _ (h.drawn hdc.out)).mono ?_;rintro e w1 ⟨rfl,hd1⟩;replace hdc := Lh (hdc.out.trans hd1);clear hd1)
       | (go_at_call 72;refine (hdg _).mono ?_;rintro e w' ⟨rfl,rfl⟩))
     go_ret;rw [hR.out];exact ⟨_,c - 48,rfl,⟨rfl,by omega,by omega⟩,fun y h => (by injection h with h;rw [← h]),hstep.out _ hr1,(Mvd.of (hdc.out.below _)).trans ((Mvd.refl b _).set 1 _)⟩
   · rw [show digitB c = false from by rw [Bool.eq_false_iff];unfold digitB;simp;omega] at hdg
     by_cases ha : 97 ≤ c ∧ c ≤ 102
     · have hv : halfI c = c - 97 + 10 := by unfold halfI;rw [if_neg hd,if_pos ha]
       have hR : Hid (R = .ok (c - 97 + 10,p + 1)) := Lh (by rw [hRo.out (by omega),hv]);have hw : IntKind.u8.wrap (c - 97) = c - 97 := by rw [IntKind.wrap_u8];omega
       have hw2 : IntKind.u8.wrap (c - 97 + 10) = c - 97 + 10 := by rw [IntKind.wrap_u8];omega
       obtain ⟨ha1,ha2⟩ := ha;clear hst hRo hRe hv hd;go_enter Tryd.func73,Tryd.ntmps73
       go_wp2_with (first
         | (go_at_call 23;refine (hen _ (h.drawn hdc.out)).mono ?_;rintro e w1 ⟨rfl,hd1⟩;replace hdc := Lh (hdc.out.trans hd1);have hr1 := h.drawn hdc.out;obtain ⟨e0,e1,e2,e3,e4⟩ := hr1.cells;clear hd1)
         | (go_at_call 38;refine (hpk _ (h.drawn hdc.out)).mono ?_;rintro e w1 ⟨rfl,hd1⟩;replace hdc := Lh (hdc.out.trans hd1);clear hd1)
         | (go_at_call 72;refine (hdg _).mono ?_;rintro e w' ⟨rfl,rfl⟩))
       go_ret;rw [hR.out];exact ⟨_,c - 97 + 10,rfl,⟨rfl,by omega,by omega⟩,fun y h => (by injection h with h;rw [← h]),hstep.out _ hr1,(Mvd.of (hdc.out.below _)).trans ((Mvd.refl b _).set 1 _)⟩
     · have hR : Hid (R = .error (p : Int)) := Lh (hRe.out (by unfold halfI;rw [if_neg hd,if_neg ha];omega));have hor : Hid (c < 97 ∨ 102 < c) := Lh (by omega);clear hRo hRe hd ha;go_enter Tryd.func73,Tryd.ntmps73;rcases hor.out with hc1 | hc1
       · go_wp2_with (first
           | (go_at_call 23;refine (hen _ (h.drawn hdc.out)).mono ?_;rintro e w1 ⟨rfl,hd1⟩;replace hdc := Lh (hdc.out.trans hd1);have hr1 := h.drawn hdc.out;obtain ⟨e0,e1,e2,e3,e4⟩ := hr1.cells;clear hd1)
           | (go_at_call 38;refine (hpk _ (h.drawn hdc.out)).mono ?_;rintro e w1 ⟨rfl,hd1⟩;replace hdc := Lh (hdc.out.trans hd1);clear hd1)
           | (go_at_call 72;refine (hdg _).mono ?_;rintro e w' ⟨rfl,rfl⟩)
           | (go_at_call 40;refine (hst _ hr1).mono ?_;rintro e w2 ⟨rfl,hr2,hm2⟩;replace hr2 := Lh hr2;replace hm2 := Lh ((Mvd.of (hdc.out.below _)).trans hm2)))
         go_ret;rw [hR.out];exact ⟨_,0,rfl,⟨rfl,by decide,by decide⟩,fun y h => (by cases h),hr2.out,hm2.out⟩
       · have hc2 : ¬ c < 97 := by omega
         go_wp2_with (first
           | (go_at_call 23;refine (hen _ (h.drawn hdc.out)).mono ?_;rintro e w1 ⟨rfl,hd1⟩;replace hdc := Lh (hdc.out.trans hd1);have hr1 := h.drawn hdc.out;obtain ⟨e0,e1,e2,e3,e4⟩ := hr1.cells;clear hd1)
           | (go_at_call 38;refine (hpk _ (h.drawn hdc.out)).mono ?_;rintro e w1 ⟨rfl,hd1⟩;replace hdc := Lh (hdc.out.trans hd1);clear hd1)
           | (go_at_call 72;refine (hdg _).mono ?_;rintro e w' ⟨rfl,rfl⟩)
           | (go_at_call 40;refine (hst _ hr1).mono ?_;rintro e w2 ⟨rfl,hr2,hm2⟩;replace hr2 := Lh hr2;replace hm2 := Lh ((Mvd.of (hdc.out.below _)).trans hm2)))
         go_ret;rw [hR.out];exact ⟨_,0,rfl,⟨rfl,by decide,by decide⟩,fun y h => (by cases h),hr2.out,hm2.out⟩
 · rw [show decide ((s.size : Int) ≤ (p : Int)) = true from decide_eq_true (by omega)] at hen;have hR : Hid (rHex (bl s) p = .error (p : Int)) := Lh (by unfold rHex;rw [if_pos (by rw [(pe_out s p hlt).2];decide)]);rw [(pe_out s p hlt).1] at hpk;go_enter Tryd.func73,Tryd.ntmps73
   go_wp2_with (first
     | (go_at_call 23;refine (hen _ (h.drawn hdc.out)).mono ?_;rintro e w1 ⟨rfl,hd1⟩;replace hdc := Lh (hdc.out.trans hd1);have hr1 := h.drawn hdc.out;obtain ⟨e0,e1,e2,e3,e4⟩ := hr1.cells;clear hd1)
     | (go_at_call 38;refine (hpk _ (h.drawn hdc.out)).mono ?_;rintro e w1 ⟨rfl,hd1⟩;replace hdc := Lh (hdc.out.trans hd1);clear hd1)
     | (go_at_call 40;refine (hst _ hr1).mono ?_;rintro e w2 ⟨rfl,hr2,hm2⟩;replace hr2 := Lh hr2;replace hm2 := Lh ((Mvd.of (hdc.out.below _)).trans hm2)))
   go_ret;rw [hR.out];exact ⟨_,0,rfl,⟨rfl,by decide,by decide⟩,fun y h => (by cases h),hr2.out,hm2.out⟩
end Go.Proofs.YtmjincocmhadeaaDoor
/- Parse: the document's reader: a piece of a string. (gen_pef.py) -/
namespace Go.Proofs.YtmjincocmhadeaaDoor
open Go.RowKit Lx
theorem re_piece_no (w : World) (b : Nat) (s : ByteArray) (p n : Nat) (h : Rd w b s (p : Int) false) (hb : n = 1024 ∨ pk (bl s) p < 32 ∨ 126 < pk (bl s) p) :
    Calls Tryd.prog 60 #[.pointer (some ⟨b,0,none⟩),.int .i64 (n : Int)] w (RePost b s w VInt (rPiece (bl s) p n)) := by
 have hen := fun w h => re_end (w := w) (b := b) (s := s) (p := (p : Int)) (d := false) h;have hpk := fun w h => re_peek (w := w) (b := b) (s := s) (p := (p : Int)) (d := false) h;have hdc : Hid (Drawn w w) := Lh (Drawn.refl w);have hqs : (p : Int) ≤ s.size := h.le;have hlen := h.len;have hst := fun w h => re_stop (w := w) (b := b) (s := s) (p := (p : Int)) h (p : Int) (by omega) hqs
 have hR : Hid (rPiece (bl s) p n = .error (p : Int)) := Lh (by unfold rPiece;rw [if_pos hb]);generalize rPiece (bl s) p n = R at hR ⊢
 by_cases hlt : p < s.size
 · rw [show decide ((s.size : Int) ≤ (p : Int)) = false from decide_eq_false (by omega)] at hen;rw [pe_in s p hlt] at hpk;generalize pk (bl s) p = c at hpk hb
   by_cases hn : n = 1024
   · subst hn;clear hb;go_enter Tryd.func60,Tryd.ntmps60
     go_wp2_with (first
         | (go_at_call 38;refine (hpk _ (h.drawn hdc.out)).mono ?_;rintro e w1 ⟨rfl,hd1⟩;replace hdc := Lh (hdc.out.trans hd1);clear hd1 hpk)
         | (go_at_call 23;refine (hen _ (h.drawn hdc.out)).mono ?_;rintro e w1 ⟨rfl,hd1⟩;replace hdc := Lh (hdc.out.trans hd1);have hr1 := h.drawn hdc.out;obtain ⟨e0,e1,e2,e3,e4⟩ := hr1.cells;clear hd1 hen)
         | (go_at_call 40;refine (hst _ hr1).mono ?_;rintro e w2 ⟨rfl,hr2,hm2⟩;replace hr2 := Lh hr2;replace hm2 := Lh ((Mvd.of (hdc.out.below _)).trans hm2)))
     go_ret;rw [hR.out];exact ⟨_,0,rfl,⟨rfl,by decide,by decide⟩,fun y h => (by cases h),hr2.out,hm2.out⟩
   · have hn1 : ((n : Int) == 1024) = false := by rw [beq_eq_false_iff_ne];omega
     by_cases hc : c < 32
     · clear hb hn;go_enter Tryd.func60,Tryd.ntmps60
       go_wp2_with (first
           | (go_at_call 38;refine (hpk _ (h.drawn hdc.out)).mono ?_;rintro e w1 ⟨rfl,hd1⟩;replace hdc := Lh (hdc.out.trans hd1);clear hd1 hpk)
           | (go_at_call 23;refine (hen _ (h.drawn hdc.out)).mono ?_;rintro e w1 ⟨rfl,hd1⟩;replace hdc := Lh (hdc.out.trans hd1);have hr1 := h.drawn hdc.out;obtain ⟨e0,e1,e2,e3,e4⟩ := hr1.cells;clear hd1 hen)
           | (go_at_call 40;refine (hst _ hr1).mono ?_;rintro e w2 ⟨rfl,hr2,hm2⟩;replace hr2 := Lh hr2;replace hm2 := Lh ((Mvd.of (hdc.out.below _)).trans hm2)))
       go_ret;rw [hR.out];exact ⟨_,0,rfl,⟨rfl,by decide,by decide⟩,fun y h => (by cases h),hr2.out,hm2.out⟩
     · have hc2 : 126 < c := by omega
       clear hb hn;go_enter Tryd.func60,Tryd.ntmps60
       go_wp2_with (first
           | (go_at_call 38;refine (hpk _ (h.drawn hdc.out)).mono ?_;rintro e w1 ⟨rfl,hd1⟩;replace hdc := Lh (hdc.out.trans hd1);clear hd1 hpk)
           | (go_at_call 23;refine (hen _ (h.drawn hdc.out)).mono ?_;rintro e w1 ⟨rfl,hd1⟩;replace hdc := Lh (hdc.out.trans hd1);have hr1 := h.drawn hdc.out;obtain ⟨e0,e1,e2,e3,e4⟩ := hr1.cells;clear hd1 hen)
           | (go_at_call 40;refine (hst _ hr1).mono ?_;rintro e w2 ⟨rfl,hr2,hm2⟩;replace hr2 := Lh hr2;replace hm2 := Lh ((Mvd.of (hdc.out.below _)).trans hm2)))
       go_ret;rw [hR.out];exact ⟨_,0,rfl,⟨rfl,by decide,by decide⟩,fun y h => (by cases h),hr2.out,hm2.out⟩
 · rw [show decide ((s.size : Int) ≤ (p : Int)) = true from decide_eq_true (by omega)] at hen;clear hb;go_enter Tryd.func60,Tryd.ntmps60
   go_wp2_with (first
       | (go_at_call 38;refine (hpk _ (h.drawn hdc.out)).mono ?_;rintro e w1 ⟨rfl,hd1⟩;replace hdc := Lh (hdc.out.trans hd1);clear hd1 hpk)
       | (go_at_call 23;refine (hen _ (h.drawn hdc.out)).mono ?_;rintro e w1 ⟨rfl,hd1⟩;replace hdc := Lh (hdc.out.trans hd1);have hr1 := h.drawn hdc.out;obtain ⟨e0,e1,e2,e3,e4⟩ := hr1.cells;clear hd1 hen)
       | (go_at_call 40;refine (hst _ hr1).mono ?_;rintro e w2 ⟨rfl,hr2,hm2⟩;replace hr2 := Lh hr2;replace hm2 := Lh ((Mvd.of (hdc.out.below _)).trans hm2)))
   go_ret;rw [hR.out];exact ⟨_,0,rfl,⟨rfl,by decide,by decide⟩,fun y h => (by cases h),hr2.out,hm2.out⟩
theorem re_piece_one (w : World) (b : Nat) (s : ByteArray) (p n : Nat) (h : Rd w b s (p : Int) false) (hb : ¬ (n = 1024 ∨ pk (bl s) p < 32 ∨ 126 < pk (bl s) p)) (h92 : ¬ pk (bl s) p = 92) :
    Calls Tryd.prog 60 #[.pointer (some ⟨b,0,none⟩),.int .i64 (n : Int)] w (RePost b s w VInt (rPiece (bl s) p n)) := by
 have hen := fun w h => re_end (w := w) (b := b) (s := s) (p := (p : Int)) (d := false) h;have hpk := fun w h => re_peek (w := w) (b := b) (s := s) (p := (p : Int)) (d := false) h;have hdc : Hid (Drawn w w) := Lh (Drawn.refl w);have hqs : (p : Int) ≤ s.size := h.le;have hlen := h.len
 have hlt : p < s.size := by
  rcases Nat.lt_or_ge p s.size with h | h
  · exact h
  · have := (pe_out s p (by omega)).2;omega
 rw [show decide ((s.size : Int) ≤ (p : Int)) = false from decide_eq_false (by omega)] at hen;rw [pe_in s p hlt] at hpk;have hR : Hid (rPiece (bl s) p n = .ok (pk (bl s) p,p + 1)) := Lh (by unfold rPiece;rw [if_neg hb,if_neg h92]);have hstep := Lh fun (w : World) (h : Rd w b s (p : Int) false) => h.move ((p : Int) + 1) (by omega) (by omega)
 have hn1 : ((n : Int) == 1024) = false := by rw [beq_eq_false_iff_ne];omega
 generalize rPiece (bl s) p n = R at hR ⊢;generalize pk (bl s) p = c at hpk hb h92 hR;have hc1 : ¬ c < 32 := by omega
 have hc2 : ¬ 126 < c := by omega
 have hc3 : (c == 92) = false := by rw [beq_eq_false_iff_ne];exact h92
 clear hb h92;go_enter Tryd.func60,Tryd.ntmps60
 go_wp2_with (first
     | (go_at_call 38;refine (hpk _ (h.drawn hdc.out)).mono ?_;rintro e w1 ⟨rfl,hd1⟩;replace hdc := Lh (hdc.out.trans hd1);clear hd1 hpk)
     | (go_at_call 23;refine (hen _ (h.drawn hdc.out)).mono ?_;rintro e w1 ⟨rfl,hd1⟩;replace hdc := Lh (hdc.out.trans hd1);have hr1 := h.drawn hdc.out;obtain ⟨e0,e1,e2,e3,e4⟩ := hr1.cells;clear hd1 hen))
 go_ret;rw [hR.out];exact ⟨_,c,rfl,⟨rfl,by omega,by omega⟩,fun y h => (by injection h with h;rw [← h]),hstep.out _ hr1,(Mvd.of (hdc.out.below _)).trans ((Mvd.refl b _).set 1 _)⟩
theorem re_piece_esc (w : World) (b : Nat) (s : ByteArray) (p n : Nat) (h : Rd w b s (p : Int) false) (hn : ¬ n = 1024) (h92 : pk (bl s) p = 92) :
    Calls Tryd.prog 60 #[.pointer (some ⟨b,0,none⟩),.int .i64 (n : Int)] w (RePost b s w VInt (rPiece (bl s) p n)) := by
 have hen := fun w h => re_end (w := w) (b := b) (s := s) (p := (p : Int)) (d := false) h;have hpk := fun w h => re_peek (w := w) (b := b) (s := s) (p := (p : Int)) (d := false) h;have hdc : Hid (Drawn w w) := Lh (Drawn.refl w);have hqs : (p : Int) ≤ s.size := h.le;have hlen := h.len
 have hlt : p < s.size := by
  rcases Nat.lt_or_ge p s.size with h | h
  · exact h
  · have := (pe_out s p (by omega)).2;omega
 rw [show decide ((s.size : Int) ≤ (p : Int)) = false from decide_eq_false (by omega)] at hen;rw [pe_in s p hlt] at hpk;rw [h92] at hpk;have hstep := Lh fun (w : World) (h : Rd w b s (p : Int) false) => h.move ((p : Int) + 1) (by omega) (by omega);have hn1 : ((n : Int) == 1024) = false := by rw [beq_eq_false_iff_ne];omega
 have hR0 : rPiece (bl s) p n = rEsc (bl s) (p + 1) := by unfold rPiece;rw [if_neg (by omega),if_pos h92]
 rw [hR0];clear hR0;have hqs2 : ((p : Int) + 1) ≤ s.size := by omega
 have hen2 := fun w h => re_end (w := w) (b := b) (s := s) (p := (p : Int) + 1) (d := false) h;have hpk2 := fun w h => re_peek (w := w) (b := b) (s := s) (p := (p : Int) + 1) (d := false) h;have hst2 := fun w h => re_stop (w := w) (b := b) (s := s) (p := (p : Int) + 1) h ((p : Int) + 1) (by omega) hqs2
 by_cases hlt2 : p + 1 < s.size
 · rw [show decide ((s.size : Int) ≤ (p : Int) + 1) = false from decide_eq_false (by omega)] at hen2;rw [show pe s ((p : Int) + 1) = pk (bl s) (p + 1) from pe_in s (p + 1) hlt2] at hpk2;have hstep2 := Lh fun (w : World) (h : Rd w b s ((p : Int) + 1) false) => h.move ((p : Int) + 1 + 1) (by omega) (by omega)
   have hRd : Hid (rEsc (bl s) (p + 1) = if pk (bl s) (p + 1) = 34 ∨ pk (bl s) (p + 1) = 92 then .ok (pk (bl s) (p + 1),p + 1 + 1) else if pk (bl s) (p + 1) = 110 then .ok (10,p + 1 + 1) else if pk (bl s) (p + 1) = 116 then .ok (9,p + 1 + 1) else if pk (bl s) (p + 1) = 120 then (rHex (bl s) (p + 1 + 1)).bind fun h => (rHex (bl s) h.2).bind fun k => .ok (16 * h.1 + k.1,k.2) else .error ((p + 1 : Nat) : Int)) := Lh rfl
   generalize rEsc (bl s) (p + 1) = R at hRd ⊢;generalize pk (bl s) (p + 1) = d at hpk2 hRd;have hdR := hRd.out
   by_cases h1 : d = 34
   · subst h1;have hR : Hid (R = .ok (34,p + 1 + 1)) := Lh (by rw [hdR];rfl);clear hdR hRd hst2;go_enter Tryd.func60,Tryd.ntmps60
     go_wp2_with (first
         | (go_at_call 38;refine (hpk _ (h.drawn hdc.out)).mono ?_;rintro e w1 ⟨rfl,hd1⟩;replace hdc := Lh (hdc.out.trans hd1);clear hd1 hpk)
         | (go_at_call 23;refine (hen _ (h.drawn hdc.out)).mono ?_;rintro e w1 ⟨rfl,hd1⟩;replace hdc := Lh (hdc.out.trans hd1);have hr1 := h.drawn hdc.out;obtain ⟨e0,e1,e2,e3,e4⟩ := hr1.cells;clear hd1 hen)
         | (go_at_call 38;refine (hpk2 _ (hstep.out _ hr1)).mono ?_;rintro e wB ⟨rfl,hd1⟩;have hrB := (hstep.out _ hr1).drawn hd1;have hmB := Lh (((Mvd.of (hdc.out.below _)).trans ((Mvd.refl b _).set 1 (.int .i64 ((p : Int) + 1)))).trans (Mvd.of (hd1.below _)));have hdB : Hid (Drawn wB wB) := Lh (Drawn.refl wB);clear hd1 hpk2)
         | (go_at_call 23;refine (hen2 _ (hrB.drawn hdB.out)).mono ?_;rintro e w1 ⟨rfl,hd1⟩;replace hdB := Lh (hdB.out.trans hd1);have hr3 := hrB.drawn hdB.out;obtain ⟨f0,f1,f2,f3,f4⟩ := hr3.cells;clear hd1 hen2))
     go_ret;rw [hR.out];exact ⟨_,34,rfl,⟨rfl,by decide,by decide⟩,fun y h => (by injection h with h;rw [← h]),hstep2.out _ hr3,(hmB.out.trans (Mvd.of (hdB.out.below _))).trans ((Mvd.refl b _).set 1 _)⟩
   by_cases h2 : d = 92
   · subst h2;have hR : Hid (R = .ok (92,p + 1 + 1)) := Lh (by rw [hdR];rfl);clear hdR hRd hst2 h1;go_enter Tryd.func60,Tryd.ntmps60
     go_wp2_with (first
         | (go_at_call 38;refine (hpk _ (h.drawn hdc.out)).mono ?_;rintro e w1 ⟨rfl,hd1⟩;replace hdc := Lh (hdc.out.trans hd1);clear hd1 hpk)
         | (go_at_call 23;refine (hen _ (h.drawn hdc.out)).mono ?_;rintro e w1 ⟨rfl,hd1⟩;replace hdc := Lh (hdc.out.trans hd1);have hr1 := h.drawn hdc.out;obtain ⟨e0,e1,e2,e3,e4⟩ := hr1.cells;clear hd1 hen)
         | (go_at_call 38;refine (hpk2 _ (hstep.out _ hr1)).mono ?_;rintro e wB ⟨rfl,hd1⟩;have hrB := (hstep.out _ hr1).drawn hd1;have hmB := Lh (((Mvd.of (hdc.out.below _)).trans ((Mvd.refl b _).set 1 (.int .i64 ((p : Int) + 1)))).trans (Mvd.of (hd1.below _)));have hdB : Hid (Drawn wB wB) := Lh (Drawn.refl wB);clear hd1 hpk2)
         | (go_at_call 23;refine (hen2 _ (hrB.drawn hdB.out)).mono ?_;rintro e w1 ⟨rfl,hd1⟩;replace hdB := Lh (hdB.out.trans hd1);have hr3 := hrB.drawn hdB.out;obtain ⟨f0,f1,f2,f3,f4⟩ := hr3.cells;clear hd1 hen2))
     go_ret;rw [hR.out];exact ⟨_,92,rfl,⟨rfl,by decide,by decide⟩,fun y h => (by injection h with h;rw [← h]),hstep2.out _ hr3,(hmB.out.trans (Mvd.of (hdB.out.below _))).trans ((Mvd.refl b _).set 1 _)⟩
   rw [if_neg (by omega)] at hdR
   by_cases h3 : d = 110
   · subst h3;have hR : Hid (R = .ok (10,p + 1 + 1)) := Lh (by rw [hdR];rfl);clear hdR hRd hst2 h1 h2;go_enter Tryd.func60,Tryd.ntmps60
     go_wp2_with (first
         | (go_at_call 38;refine (hpk _ (h.drawn hdc.out)).mono ?_;rintro e w1 ⟨rfl,hd1⟩;replace hdc := Lh (hdc.out.trans hd1);clear hd1 hpk)
         | (go_at_call 23;refine (hen _ (h.drawn hdc.out)).mono ?_;rintro e w1 ⟨rfl,hd1⟩;replace hdc := Lh (hdc.out.trans hd1);have hr1 := h.drawn hdc.out;obtain ⟨e0,e1,e2,e3,e4⟩ := hr1.cells;clear hd1 hen)
         | (go_at_call 38;refine (hpk2 _ (hstep.out _ hr1)).mono ?_;rintro e wB ⟨rfl,hd1⟩;have hrB := (hstep.out _ hr1).drawn hd1;have hmB := Lh (((Mvd.of (hdc.out.below _)).trans ((Mvd.refl b _).set 1 (.int .i64 ((p : Int) + 1)))).trans (Mvd.of (hd1.below _)));have hdB : Hid (Drawn wB wB) := Lh (Drawn.refl wB);clear hd1 hpk2)
         | (go_at_call 23;refine (hen2 _ (hrB.drawn hdB.out)).mono ?_;rintro e w1 ⟨rfl,hd1⟩;replace hdB := Lh (hdB.out.trans hd1);have hr3 := hrB.drawn hdB.out;obtain ⟨f0,f1,f2,f3,f4⟩ := hr3.cells;clear hd1 hen2))
     go_ret;rw [hR.out];exact ⟨_,10,rfl,⟨rfl,by decide,by decide⟩,fun y h => (by injection h with h;rw [← h]),hstep2.out _ hr3,(hmB.out.trans (Mvd.of (hdB.out.below _))).trans ((Mvd.refl b _).set 1 _)⟩
   rw [if_neg h3] at hdR
   by_cases h4 : d = 116
   · subst h4;have hR : Hid (R = .ok (9,p + 1 + 1)) := Lh (by rw [hdR];rfl);clear hdR hRd hst2 h1 h2 h3;go_enter Tryd.func60,Tryd.ntmps60
     go_wp2_with (first
         | (go_at_call 38;refine (hpk _ (h.drawn hdc.out)).mono ?_;rintro e w1 ⟨rfl,hd1⟩;replace hdc := Lh (hdc.out.trans hd1);clear hd1 hpk)
         | (go_at_call 23;refine (hen _ (h.drawn hdc.out)).mono ?_;rintro e w1 ⟨rfl,hd1⟩;replace hdc := Lh (hdc.out.trans hd1);have hr1 := h.drawn hdc.out;obtain ⟨e0,e1,e2,e3,e4⟩ := hr1.cells;clear hd1 hen)
         | (go_at_call 38;refine (hpk2 _ (hstep.out _ hr1)).mono ?_;rintro e wB ⟨rfl,hd1⟩;have hrB := (hstep.out _ hr1).drawn hd1;have hmB := Lh (((Mvd.of (hdc.out.below _)).trans ((Mvd.refl b _).set 1 (.int .i64 ((p : Int) + 1)))).trans (Mvd.of (hd1.below _)));have hdB : Hid (Drawn wB wB) := Lh (Drawn.refl wB);clear hd1 hpk2)
         | (go_at_call 23;refine (hen2 _ (hrB.drawn hdB.out)).mono ?_;rintro e w1 ⟨rfl,hd1⟩;replace hdB := Lh (hdB.out.trans hd1);have hr3 := hrB.drawn hdB.out;obtain ⟨f0,f1,f2,f3,f4⟩ := hr3.cells;clear hd1 hen2))
     go_ret;rw [hR.out];exact ⟨_,9,rfl,⟨rfl,by decide,by decide⟩,fun y h => (by injection h with h;rw [← h]),hstep2.out _ hr3,(hmB.out.trans (Mvd.of (hdB.out.below _))).trans ((Mvd.refl b _).set 1 _)⟩
   rw [if_neg h4] at hdR
   by_cases h5 : d = 120
   · subst h5;rw [if_pos rfl] at hdR;clear hRd hst2 h1 h2 h3 h4
     cases hx1 : rHex (bl s) (p + 1 + 1) with
     | error er1 =>
      have hh1 := fun w h => re_hex (w := w) (b := b) (s := s) (p := p + 1 + 1) h;rw [hx1] at hh1;unfold RePost at hh1;have hR : Hid (R = .error er1) := Lh (by rw [hdR,hx1];rfl);replace hh1 := Lh hh1;clear hdR hx1;go_enter Tryd.func60,Tryd.ntmps60
      go_wp2_with (first
          | (go_at_call 38;refine (hpk _ (h.drawn hdc.out)).mono ?_;rintro e w1 ⟨rfl,hd1⟩;replace hdc := Lh (hdc.out.trans hd1);clear hd1 hpk)
          | (go_at_call 23;refine (hen _ (h.drawn hdc.out)).mono ?_;rintro e w1 ⟨rfl,hd1⟩;replace hdc := Lh (hdc.out.trans hd1);have hr1 := h.drawn hdc.out;obtain ⟨e0,e1,e2,e3,e4⟩ := hr1.cells;clear hd1 hen)
          | (go_at_call 38;refine (hpk2 _ (hstep.out _ hr1)).mono ?_;rintro e wB ⟨rfl,hd1⟩;have hrB := (hstep.out _ hr1).drawn hd1;have hmB := Lh (((Mvd.of (hdc.out.below _)).trans ((Mvd.refl b _).set 1 (.int .i64 ((p : Int) + 1)))).trans (Mvd.of (hd1.below _)));have hdB : Hid (Drawn wB wB) := Lh (Drawn.refl wB);clear hd1 hpk2)
          | (go_at_call 23;refine (hen2 _ (hrB.drawn hdB.out)).mono ?_;rintro e w1 ⟨rfl,hd1⟩;replace hdB := Lh (hdB.out.trans hd1);have hr3 := hrB.drawn hdB.out;obtain ⟨f0,f1,f2,f3,f4⟩ := hr3.cells;clear hd1 hen2)
          | (go_at_call 73;refine (hh1.out _ (hstep2.out _ hr3)).mono ?_;rintro e w5 ⟨v5,x5,rfl,hv5,-,hr5,hm5⟩;obtain ⟨rfl,hv51,hv52⟩ := hv5;have hr5' : Rd w5 b s er1 true := hr5;obtain ⟨g0,g1,g2,g3,g4⟩ := hr5'.cells;replace hm5 := Lh ((((hmB.out.trans (Mvd.of (hdB.out.below _))).trans ((Mvd.refl b _).set 1 (.int .i64 ((p : Int) + 1 + 1)))).trans hm5))))
      go_ret;rw [hR.out];exact ⟨_,0,rfl,⟨rfl,by decide,by decide⟩,fun y h => (by cases h),hr5',hm5.out⟩
     | ok y1 =>
      obtain ⟨y1,q1⟩ := y1
      have hq1 : q1 = p + 1 + 1 + 1 ∧ 0 ≤ y1 ∧ y1 ≤ 15 := by
       have hr := half_range (pk (bl s) (p + 1 + 1));unfold rHex at hx1
       split at hx1
       · cases hx1
       · injection hx1 with hx1;injection hx1 with hx1 hx2;omega
      obtain ⟨rfl,hy0,hy1⟩ := hq1;have hh1 := fun w h => re_hex (w := w) (b := b) (s := s) (p := p + 1 + 1) h;rw [hx1] at hh1;unfold RePost at hh1;have hh2 := fun w h => re_hex (w := w) (b := b) (s := s) (p := p + 1 + 1 + 1) h;unfold RePost at hh2;have hR : Hid (R = (rHex (bl s) (p + 1 + 1 + 1)).bind fun k => .ok (16 * y1 + k.1,k.2)) := Lh (by rw [hdR,hx1];rfl)
      have hrng : Hid (∀ y q,rHex (bl s) (p + 1 + 1 + 1) = .ok (y,q) → 0 ≤ y ∧ y ≤ 15) := Lh fun y q hx => by
       have hr := half_range (pk (bl s) (p + 1 + 1 + 1));unfold rHex at hx
       split at hx
       · cases hx
       · injection hx with hx;injection hx with hx1 hx2;omega
      replace hh1 := Lh hh1;replace hh2 := Lh hh2;clear hdR hx1;generalize rHex (bl s) (p + 1 + 1 + 1) = Z at hh2 hR hrng;have hw16 : IntKind.u8.wrap (16 * y1) = 16 * y1 := by rw [IntKind.wrap_u8];omega
      go_enter Tryd.func60,Tryd.ntmps60
      go_wp2_with (first
          | (go_at_call 38;refine (hpk _ (h.drawn hdc.out)).mono ?_;rintro e w1 ⟨rfl,hd1⟩;replace hdc := Lh (hdc.out.trans hd1);clear hd1 hpk)
          | (go_at_call 23;refine (hen _ (h.drawn hdc.out)).mono ?_;rintro e w1 ⟨rfl,hd1⟩;replace hdc := Lh (hdc.out.trans hd1);have hr1 := h.drawn hdc.out;obtain ⟨e0,e1,e2,e3,e4⟩ := hr1.cells;clear hd1 hen)
          | (go_at_call 38;refine (hpk2 _ (hstep.out _ hr1)).mono ?_;rintro e wB ⟨rfl,hd1⟩;have hrB := (hstep.out _ hr1).drawn hd1;have hmB := Lh (((Mvd.of (hdc.out.below _)).trans ((Mvd.refl b _).set 1 (.int .i64 ((p : Int) + 1)))).trans (Mvd.of (hd1.below _)));have hdB : Hid (Drawn wB wB) := Lh (Drawn.refl wB);clear hd1 hpk2)
          | (go_at_call 23;refine (hen2 _ (hrB.drawn hdB.out)).mono ?_;rintro e w1 ⟨rfl,hd1⟩;replace hdB := Lh (hdB.out.trans hd1);have hr3 := hrB.drawn hdB.out;obtain ⟨f0,f1,f2,f3,f4⟩ := hr3.cells;clear hd1 hen2)
          | (go_at_call 73;have hg := hh1;refine (hh1.out _ (hstep2.out _ hr3)).mono ?_;rintro e w5 ⟨v5,x5,rfl,hv5,hx5,hr5,hm5⟩;obtain ⟨rfl,hv51,hv52⟩ := hv5;obtain rfl := hx5 _ rfl;have hr5' : Rd w5 b s ((p + 1 + 1 + 1 : Nat) : Int) false := hr5;obtain ⟨g0,g1,g2,g3,g4⟩ := hr5'.cells
             replace hm5 := Lh ((((hmB.out.trans (Mvd.of (hdB.out.below _))).trans ((Mvd.refl b _).set 1 (.int .i64 ((p : Int) + 1 + 1)))).trans hm5));clear hg hh1 hx5 hr5)
          | (go_at_call 73;refine (hh2.out _ hr5').mono ?_;rintro e w6 ⟨v6,x6,rfl,hv6,hx6,hr6,hm6⟩;obtain ⟨rfl,hv61,hv62⟩ := hv6;replace hr6 := Lh hr6;replace hx6 := Lh hx6;replace hm6 := Lh (hm5.out.trans hm6);clear hh2))
      go_ret;rw [hR.out]
      cases Z with
      | error e => exact ⟨_,IntKind.u8.wrap (16 * x5 + x6),rfl,⟨by first | rfl | simp [IntKind.wrap_u8],by rw [IntKind.wrap_u8];omega,by rw [IntKind.wrap_u8];omega⟩,fun y h => (by cases h),hr6.out,hm6.out⟩
      | ok k =>
       obtain ⟨k1,k2⟩ := k;obtain rfl := hx6.out _ rfl;obtain ⟨k0,k15⟩ := hrng.out _ _ rfl;refine ⟨_,16 * x5 + x6,rfl,?_,fun y h => (by injection h with h;rw [← h]),hr6.out,hm6.out⟩;have hw : IntKind.u8.wrap (16 * x5 + x6) = 16 * x5 + x6 := by rw [IntKind.wrap_u8];omega
       refine ⟨?_,by omega,by omega⟩
       first | rfl | (simp;omega)
   · have hR : Hid (R = .error ((p + 1 : Nat) : Int)) := Lh (by rw [hdR,if_neg h5]);have k1 : (d != 34) = true := by simp [h1]
     have k2 : (d != 92) = true := by simp [h2]
     have k3 : (d != 110) = true := by simp [h3]
     have k4 : (d != 116) = true := by simp [h4]
     have k5 : (d != 120) = true := by simp [h5]
     clear hdR hRd;go_enter Tryd.func60,Tryd.ntmps60
     go_wp2_with (first
         | (go_at_call 38;refine (hpk _ (h.drawn hdc.out)).mono ?_;rintro e w1 ⟨rfl,hd1⟩;replace hdc := Lh (hdc.out.trans hd1);clear hd1 hpk)
         | (go_at_call 23;refine (hen _ (h.drawn hdc.out)).mono ?_;rintro e w1 ⟨rfl,hd1⟩;replace hdc := Lh (hdc.out.trans hd1);have hr1 := h.drawn hdc.out;obtain ⟨e0,e1,e2,e3,e4⟩ := hr1.cells;clear hd1 hen)
         | (go_at_call 38;refine (hpk2 _ (hstep.out _ hr1)).mono ?_;rintro e wB ⟨rfl,hd1⟩;have hrB := (hstep.out _ hr1).drawn hd1;have hmB := Lh (((Mvd.of (hdc.out.below _)).trans ((Mvd.refl b _).set 1 (.int .i64 ((p : Int) + 1)))).trans (Mvd.of (hd1.below _)));have hdB : Hid (Drawn wB wB) := Lh (Drawn.refl wB);clear hd1 hpk2)
         | (go_at_call 23;refine (hen2 _ (hrB.drawn hdB.out)).mono ?_;rintro e w1 ⟨rfl,hd1⟩;replace hdB := Lh (hdB.out.trans hd1);have hr3 := hrB.drawn hdB.out;obtain ⟨f0,f1,f2,f3,f4⟩ := hr3.cells;clear hd1 hen2)
         | (go_at_call 40;refine (hst2 _ hr3).mono ?_;rintro e w2 ⟨rfl,hr2,hm2⟩;replace hr2 := Lh hr2;replace hm2 := Lh ((hmB.out.trans (Mvd.of (hdB.out.below _))).trans hm2)))
     go_ret;rw [hR.out];exact ⟨_,0,rfl,⟨rfl,by decide,by decide⟩,fun y h => (by cases h),hr2.out,hm2.out⟩
 · rw [show decide ((s.size : Int) ≤ (p : Int) + 1) = true from decide_eq_true (by omega)] at hen2;rw [show pe s ((p : Int) + 1) = 0 from (pe_out s (p + 1) hlt2).1] at hpk2;have hR : Hid (rEsc (bl s) (p + 1) = .error ((p + 1 : Nat) : Int)) := Lh (by unfold rEsc;rw [(pe_out s (p + 1) hlt2).2];rfl);go_enter Tryd.func60,Tryd.ntmps60
   go_wp2_with (first
       | (go_at_call 38;refine (hpk _ (h.drawn hdc.out)).mono ?_;rintro e w1 ⟨rfl,hd1⟩;replace hdc := Lh (hdc.out.trans hd1);clear hd1 hpk)
       | (go_at_call 23;refine (hen _ (h.drawn hdc.out)).mono ?_;rintro e w1 ⟨rfl,hd1⟩;replace hdc := Lh (hdc.out.trans hd1);have hr1 := h.drawn hdc.out;obtain ⟨e0,e1,e2,e3,e4⟩ := hr1.cells;clear hd1 hen)
       | (go_at_call 38;refine (hpk2 _ (hstep.out _ hr1)).mono ?_;rintro e wB ⟨rfl,hd1⟩;have hrB := (hstep.out _ hr1).drawn hd1;have hmB := Lh (((Mvd.of (hdc.out.below _)).trans ((Mvd.refl b _).set 1 (.int .i64 ((p : Int) + 1)))).trans (Mvd.of (hd1.below _)));have hdB : Hid (Drawn wB wB) := Lh (Drawn.refl wB);clear hd1 hpk2)
       | (go_at_call 23;refine (hen2 _ (hrB.drawn hdB.out)).mono ?_;rintro e w1 ⟨rfl,hd1⟩;replace hdB := Lh (hdB.out.trans hd1);have hr3 := hrB.drawn hdB.out;obtain ⟨f0,f1,f2,f3,f4⟩ := hr3.cells;clear hd1 hen2)
       | (go_at_call 40;refine (hst2 _ hr3).mono ?_;rintro e w2 ⟨rfl,hr2,hm2⟩;replace hr2 := Lh hr2;replace hm2 := Lh ((hmB.out.trans (Mvd.of (hdB.out.below _))).trans hm2)))
   go_ret;rw [hR.out];exact ⟨_,0,rfl,⟨rfl,by decide,by decide⟩,fun y h => (by cases h),hr2.out,hm2.out⟩
theorem re_piece (w : World) (b : Nat) (s : ByteArray) (p n : Nat) (h : Rd w b s (p : Int) false) :
    Calls Tryd.prog 60 #[.pointer (some ⟨b,0,none⟩),.int .i64 (n : Int)] w (RePost b s w VInt (rPiece (bl s) p n)) := by
 by_cases hb : n = 1024 ∨ pk (bl s) p < 32 ∨ 126 < pk (bl s) p
 · exact re_piece_no w b s p n h hb
 · by_cases h92 : pk (bl s) p = 92
   · exact re_piece_esc w b s p n h (by omega) h92
   · exact re_piece_one w b s p n h hb h92
end Go.Proofs.YtmjincocmhadeaaDoor
/- Parse: the document's reader: a string. -/
namespace Go.Proofs.YtmjincocmhadeaaDoor
open Go.RowKit Lx
namespace Lx
theorem ofNat_bi (c : UInt8) : UInt8.ofNat (bi c).toNat = c := by
 show UInt8.ofNat ((c.toNat : Int)).toNat = c;simp
/-- a string's next piece: as the plain strings are read -/
theorem quo_step (L : Bs) (p n : Nat) (h34 : ¬ pk L p = 34) : match rPiece L p n with
    | .error e => ∃ k : Nat,e = ((p + k : Nat) : Int) ∧ quo (L.drop p) n = ([],k,false)
    | .ok (c,q) => ∃ k : Nat,q = p + k ∧ 0 < k ∧ 0 ≤ c ∧ c < 256 ∧ quo (L.drop p) n = (UInt8.ofNat c.toNat :: (quo (L.drop q) (n + 1)).1,(quo (L.drop q) (n + 1)).2.1 + k,(quo (L.drop q) (n + 1)).2.2) := by
  by_cases hp : p < L.length
  · have hk := pk_get hp;have hd := drop_cons' hp;have hr := pk_range L p
    by_cases hb : n = 1024 ∨ pk L p < 32 ∨ 126 < pk L p
    · have hR : rPiece L p n = .error (p : Int) := by unfold rPiece;rw [if_pos hb]
      rw [hR];exact ⟨0,rfl,by rw [hd];exact quo_bad _ _ _ (by rw [← hk];exact h34) (by rw [← hk];exact hb)⟩
    by_cases h92 : pk L p = 92
    · have hR : rPiece L p n = rEsc L (p + 1) := by unfold rPiece;rw [if_neg hb,if_pos h92]
      rw [hR,hd];have hq := quo_92 L[p] (L.drop (p + 1)) n (by rw [← hk];exact h92) (by omega);rw [hq]
      by_cases hp2 : p + 1 < L.length
      · have hk2 := pk_get hp2;have hd2 := drop_cons' hp2;rw [hd2];unfold rEsc
        by_cases h1 : pk L (p + 1) = 34 ∨ pk L (p + 1) = 92
        · rw [if_pos h1];refine ⟨2,rfl,by decide,by omega,by omega,?_⟩
          have hs : quoS (L[p + 1] :: L.drop (p + 1 + 1)) n = (L[p + 1] :: (quo (L.drop (p + 1 + 1)) (n + 1)).1,(quo (L.drop (p + 1 + 1)) (n + 1)).2.1 + 1,(quo (L.drop (p + 1 + 1)) (n + 1)).2.2) := by
            simp only [quoS];rw [if_pos (by rw [← hk2];exact h1)]
          rw [hs,hk2,ofNat_bi]
        rw [if_neg h1]
        by_cases h2 : pk L (p + 1) = 110
        · rw [if_pos h2];refine ⟨2,rfl,by decide,by decide,by decide,?_⟩
          have hs : quoS (L[p + 1] :: L.drop (p + 1 + 1)) n = (10 :: (quo (L.drop (p + 1 + 1)) (n + 1)).1,(quo (L.drop (p + 1 + 1)) (n + 1)).2.1 + 1,(quo (L.drop (p + 1 + 1)) (n + 1)).2.2) := by
            simp only [quoS];rw [if_neg (by rw [← hk2];exact h1),if_pos (by rw [← hk2];exact h2)]
          rw [hs];rfl
        rw [if_neg h2]
        by_cases h3 : pk L (p + 1) = 116
        · rw [if_pos h3];refine ⟨2,rfl,by decide,by decide,by decide,?_⟩
          have hs : quoS (L[p + 1] :: L.drop (p + 1 + 1)) n = (9 :: (quo (L.drop (p + 1 + 1)) (n + 1)).1,(quo (L.drop (p + 1 + 1)) (n + 1)).2.1 + 1,(quo (L.drop (p + 1 + 1)) (n + 1)).2.2) := by
            simp only [quoS];rw [if_neg (by rw [← hk2];exact h1),if_neg (by rw [← hk2];exact h2),if_pos (by rw [← hk2];exact h3)]
          rw [hs];rfl
        rw [if_neg h3]
        by_cases h4 : pk L (p + 1) = 120
        · rw [if_pos h4,quoS_x _ _ _ (by rw [← hk2];exact h4)];have hh : ∀ q,rHex L q = if halfI (pk L q) < 0 then .error (q : Int) else .ok (halfI (pk L q),q + 1) := fun q => rfl
          by_cases hp3 : p + 1 + 1 < L.length
          · have hk3 := pk_get hp3;rw [drop_cons' hp3,hh]
            by_cases n1 : halfI (pk L (p + 1 + 1)) < 0
            · rw [if_pos n1,quoF_bad _ _ _ (by rw [← hk3];exact n1)];exact ⟨2,rfl,rfl⟩
            · rw [if_neg n1];show match ((rHex L (p + 1 + 1 + 1)).bind fun k => Except.ok (16 * halfI (pk L (p + 1 + 1)) + k.1,k.2)) with | .error e => _ | .ok (c,q) => _;rw [hh];have hr1 := half_range (pk L (p + 1 + 1))
              by_cases hp4 : p + 1 + 1 + 1 < L.length
              · have hk4 := pk_get hp4;have hr2 := half_range (pk L (p + 1 + 1 + 1));rw [drop_cons' hp4]
                by_cases n2 : halfI (pk L (p + 1 + 1 + 1)) < 0
                · rw [if_pos n2,quoF_bad2 _ _ _ _ (by rw [← hk3];exact n1) (by rw [← hk4];exact n2)];exact ⟨3,rfl,rfl⟩
                · rw [if_neg n2,quoF_ok _ _ _ _ _ _ (by rw [hk3]) (by rw [hk4]) n1 n2];exact ⟨4,rfl,by decide,by dsimp only;omega,by dsimp only;omega,rfl⟩
              · rw [pk_end L _ (by omega),List.drop_eq_nil_of_le (by omega),quoF_end _ _ (by rw [← hk3];exact n1)];exact ⟨3,rfl,rfl⟩
          · rw [hh,pk_end L _ (by omega),List.drop_eq_nil_of_le (by omega)];exact ⟨2,rfl,rfl⟩
        · rw [if_neg h4,quoS_bad _ _ _ (by rw [← hk2];omega)];exact ⟨1,rfl,rfl⟩
      · rw [List.drop_eq_nil_of_le (by omega),quoS_end];unfold rEsc;rw [pk_end L _ (by omega)];exact ⟨1,rfl,rfl⟩
    · have hR : rPiece L p n = .ok (pk L p,p + 1) := by unfold rPiece;rw [if_neg hb,if_neg h92]
      rw [hR];refine ⟨1,rfl,by decide,by omega,by omega,?_⟩;rw [hd,quo_chr _ _ _ (by rw [← hk];exact h34) (by rw [← hk];exact hb) (by rw [← hk];exact h92),hk,ofNat_bi]
  · have hR : rPiece L p n = .error (p : Int) := by unfold rPiece;rw [if_pos (.inr (.inl (by rw [pk_end L p (by omega)];decide)))]
    rw [hR];exact ⟨0,rfl,by rw [List.drop_eq_nil_of_le (by omega),quo_nil]⟩
end Lx
theorem grown_lowG {w0 w w' : World} {ob : Obj} {v : Value} {e : TypeId} {n k : Nat} {xs : List Value} (ho : w.ownsRow w0.heap.size e k v n xs) (hs : w0.heap.size ≤ w.heap.size) (hg : (w.alloc ob).grownBy w' v.ownBlock) : ∀ k,k < w0.heap.size → w'.heap[k]? = w.heap[k]? := fun k hk =>
  (hg.block k (by rw [World.size_alloc];omega) (fun e => by have := own_ge ho k e.symm;omega)).trans (heap_alloc_old _ _ (by omega))
theorem Rd.low {w w' : World} {B b : Nat} {s : ByteArray} {p : Int} {d : Bool} (h : Rd w b s p d) (hB : ∀ k,k < B → w'.heap[k]? = w.heap[k]?) (hb : b < B) : Rd w' b s p d :=
  ⟨(hB _ hb).trans h.blk,h.le0,h.le,h.len⟩
end Go.Proofs.YtmjincocmhadeaaDoor
/- Parse: the document's reader: a string, walked. -/
namespace Go.Proofs.YtmjincocmhadeaaDoor
open Go.RowKit Lx
theorem re_text_no {w : World} {b : Nat} {s : ByteArray} {p : Nat} (h : Rd w b s (p : Int) false) (h34 : ¬ pk (bl s) p = 34) :
    Calls Tryd.prog 43 #[.pointer (some ⟨b,0,none⟩)] w (RePost b s w VStr (rText (bl s) p)) := by
 have hR : Hid (rText (bl s) p = .error (p : Int)) := Lh (by unfold rText rSign;rw [if_neg h34];rfl);have hsg := re_sign_ok 34 (by decide) h;rw [show rSign 34 (bl s) p = .error (p : Int) from by unfold rSign;rw [if_neg h34]] at hsg;have hsb := fun w h => re_sign_bad (w := w) (b := b) (s := s) (p := (p : Int)) 34 h
 have hconv := fun w => run_string_own (P := Tryd.prog) (w := w) (base := 0) (et := 5) (v := .slice none 0 0) (n := 0) (l := []) Tryd.underlying113 Tryd.underlying5 Tryd.underlying9 (World.ownsRow_nil _ _ _ _);generalize rText (bl s) p = R at hR ⊢;clear h34;go_enter Tryd.func43,Tryd.ntmps43
 go_wp2_with (first
   | (go_at_call 44;refine hsg.mono ?_;rintro e w1 ⟨rfl,hr0,hm0⟩;have hr1 : Rd w1 b s (p : Int) true := hr0;replace hr1 := Lh hr1;have hm1 := Lh hm0;clear hr0 hm0 hsg))
 go_loopw [3,4] (fun o _ wr => o = .slice none 0 0 ∧ Hid (Rd wr b s (p : Int) true) ∧ Hid (Mvd b w wr)) (fun _ _ _ => 0)
 case atStart => exact ⟨rfl,hr1,hm1⟩
 case round =>
  clear hr1 hm1;obtain ⟨rfl,hr,hm⟩ := hrel;obtain ⟨c0,c1,c2,-⟩ := hr.out.cells
  go_wp2_with (first
    | (go_at_call 44;refine (hsb _ hr.out).mono ?_;rintro e w1 ⟨rfl,rfl⟩))
  go_ret;rw [hR.out];exact ⟨_,[],rfl,rfl,fun y h => (by cases h),hr.out,hm.out⟩
theorem re_text_go {w : World} {b : Nat} {s : ByteArray} {p : Nat} (h : Rd w b s (p : Int) false) (h34 : pk (bl s) p = 34) :
    Calls Tryd.prog 43 #[.pointer (some ⟨b,0,none⟩)] w (RePost b s w VStr (rText (bl s) p)) := by
 obtain ⟨ib,hib,hz0,hz1,hz2⟩ := info_parts infoByte;have hR : Hid (rText (bl s) p = rQuo (bl s) (p + 1)) := Lh (by unfold rText rSign;rw [if_pos h34];rfl);have hsg := re_sign_ok 34 (by decide) h;rw [show rSign 34 (bl s) p = .ok (p + 1) from by unfold rSign;rw [if_pos h34]] at hsg;have hbl := h.lt;have hlen := h.len
 obtain ⟨T,hT⟩ : ∃ T,T = quo ((bl s).drop (p + 1)) 0 := ⟨_,rfl⟩;have hQ : Hid (rQuo (bl s) (p + 1) = if T.2.2 then .ok (T.1,p + 1 + T.2.1) else .error ((p + 1 + T.2.1 : Nat) : Int)) := Lh (by rw [hT];rfl);replace hT := Lh hT;rw [hR.out];generalize rQuo (bl s) (p + 1) = R at hQ ⊢;clear h34 hR;go_enter Tryd.func43,Tryd.ntmps43
 go_wp2_with (first
   | (go_at_call 44;refine hsg.mono ?_;rintro e w1 ⟨rfl,hr0,hm0⟩;have hr1 : Rd w1 b s ((p + 1 : Nat) : Int) false := hr0;replace hr1 := Lh hr1;have hm1 := Lh hm0;clear hr0 hm0 hsg))
 go_loopw [3,4] (fun o _ wr => ∃ (acc : Bs) (va : Option Addr) (vc : Nat),o = .slice va acc.length vc ∧ acc.length ≤ 1024 + 1 ∧ Hid (Mvd b w wr) ∧ Hid (wr.ownsRow w.heap.size 5 1 (.slice va acc.length vc) acc.length (acc.map u8v)) ∧
   ((∃ j : Nat,acc.length ≤ 1024 ∧ p + 1 ≤ j ∧ Hid (Rd wr b s (j : Int) false) ∧ Hid (T = (acc ++ (quo ((bl s).drop j) acc.length).1,j - (p + 1) + (quo ((bl s).drop j) acc.length).2.1,(quo ((bl s).drop j) acc.length).2.2))) ∨ (Hid (Rd wr b s ((p + 1 + T.2.1 : Nat) : Int) true) ∧ Hid (T.2.2 = false)))) (fun _ _ wr => 2 * (s.size + 1 - placeOf wr b) + (match wr.cell? ⟨b,2,none⟩ with | some (.bool true) => 0 | _ => 1))
 case atStart => exact ⟨[],none,0,rfl,by decide,hm1,Lh (World.ownsRow_nil _ _ _ _),.inl ⟨p + 1,Nat.zero_le _,Nat.le_refl _,hr1,Lh (by rw [hT.out];simp)⟩⟩
 case round =>
  clear hr1 hm1;obtain ⟨acc,va,vc,rfl,hacc,hm,hown,hst⟩ := hrel;rcases hst with ⟨j,hacc4,hpj,hr,hrel⟩ | ⟨hr,hf⟩
  · have hmeas := Lh (placeOf_rd hr.out);have hm2 : Hid ((match wr.cell? ⟨b,2,none⟩ with | some (.bool true) => 0 | _ => 1) = 1) := Lh (by rw [hr.out.cells.2.2.1]);obtain ⟨c0,c1,c2,-⟩ := hr.out.cells;have hjs : (j : Int) ≤ s.size := hr.out.le;have hen := fun w h => re_end (w := w) (b := b) (s := s) (p := (j : Int)) (d := false) h
    have hpk := fun w h => re_peek (w := w) (b := b) (s := s) (p := (j : Int)) (d := false) h;have hdc : Hid (Drawn wr wr) := Lh (Drawn.refl wr);have hbw : Hid (b < wr.heap.size) := Lh hr.out.lt;have hszw : Hid (w.heap.size ≤ wr.heap.size) := Lh hm.out.size
    by_cases h34 : pk (bl s) j = 34
    · have hlt : j < s.size := by
        rcases Nat.lt_or_ge j s.size with h | h
        · exact h
        · have := (pe_out s j (by omega)).2;omega
      rw [show decide ((s.size : Int) ≤ (j : Int)) = false from decide_eq_false (by omega)] at hen;rw [pe_in s j hlt,h34] at hpk
      have hRk : Hid (R = .ok (acc,j + 1)) := Lh (by
       have hl : j < (bl s).length := by rw [bl_length];exact hlt
       have hq : quo ((bl s).drop j) acc.length = ([],1,true) := by
        rw [drop_cons' hl];exact quo_34 _ _ _ (by rw [← pk_get hl];exact h34)
       rw [hQ.out,hrel.out,hq];simp;omega)
      have hsg2 := fun w h => re_sign_ok (w := w) (b := b) (s := s) (p := j) 34 (by decide) h;rw [show rSign 34 (bl s) j = .ok (j + 1) from by unfold rSign;rw [if_pos h34]] at hsg2;clear h34 hrel hQ
      go_wp2_with (first
        | (go_at_call 23;refine (hen _ (hr.out.drawn hdc.out)).mono ?_;rintro e w1 ⟨rfl,hd1⟩;replace hdc := Lh (hdc.out.trans hd1);clear hd1 hen)
        | (go_at_call 38;refine (hpk _ (hr.out.drawn hdc.out)).mono ?_;rintro e w1 ⟨rfl,hd1⟩;replace hdc := Lh (hdc.out.trans hd1);clear hd1 hpk)
        | (go_at_call 44;refine (hsg2 _ (hr.out.drawn hdc.out)).mono ?_;rintro e w3 ⟨rfl,hr3,hm3⟩;have hownS := own_mvd (own_below hown.out (hdc.out.below _)) hm3 hbl;have hconv := run_string_own (P := Tryd.prog) Tryd.underlying113 Tryd.underlying5 Tryd.underlying9 hownS;replace hr3 := Lh hr3;replace hm3 := Lh (hm.out.trans ((Mvd.of (hdc.out.below _)).trans hm3))))
      go_ret;rw [hRk.out];exact ⟨_,acc,rfl,rfl,fun y h => (by injection h with h;rw [← h]),hr3.out,hm3.out⟩
    · have hqs := quo_step (bl s) j acc.length h34;have hpc := fun w h => re_piece w b s j acc.length h
      have hone : Hid (∀ x : Int,0 ≤ x → x < 256 → Value.int .u8 x = u8v (UInt8.ofNat x.toNat)) := Lh fun x h0 h1 => by
       unfold u8v
       congr 1
       have : (UInt8.ofNat x.toNat).toNat = x.toNat := by
        rw [UInt8.toNat_ofNat'];exact Nat.mod_eq_of_lt (by omega)
       rw [this];omega
      have h63 : Hid (acc.length + 1 ≤ maxLen) := Lh (by unfold maxLen;omega);have hpe34 : pe s (j : Int) = 34 → False := fun h => h34 ((pe_eq s j 34 (by decide)).1 h);have hpne : (pe s (j : Int) != 34) = true := by simp;exact hpe34
      clear hpe34;generalize pe s (j : Int) = c at hpk hpne
      by_cases hlt : j < s.size
      · rw [show decide ((s.size : Int) ≤ (j : Int)) = false from decide_eq_false (by omega)] at hen
        cases hx : rPiece (bl s) j acc.length with
        | error er =>
         rw [hx] at hqs hpc;obtain ⟨k,hek,hqk⟩ := hqs;have hT2 : Hid (T.2.1 = j - (p + 1) + k) := Lh (by rw [hrel.out,hqk]);have hf : Hid (T.2.2 = false) := Lh (by rw [hrel.out,hqk]);replace hek := Lh hek;replace hpc := Lh hpc;clear hx h34 hqk hrel hQ
         go_wp2_with (first
         | (go_at_call 23;refine (hen _ (hr.out.drawn hdc.out)).mono ?_;rintro e w1 ⟨rfl,hd1⟩;replace hdc := Lh (hdc.out.trans hd1);clear hd1 hen)
         | (go_at_call 38;refine (hpk _ (hr.out.drawn hdc.out)).mono ?_;rintro e w1 ⟨rfl,hd1⟩;replace hdc := Lh (hdc.out.trans hd1);clear hd1 hpk)
         | (go_at_call 60;refine (hpc.out _ (hr.out.drawn hdc.out)).mono ?_;rintro e w3 ⟨v3,x3,rfl,⟨rfl,hx0,hx1⟩,hx3,hr3,hm3⟩;have hown3 := Lh (own_mvd (own_below hown.out (hdc.out.below _)) hm3 hbl);replace hx3 := Lh hx3;replace hr3 := Lh hr3;replace hm3 := Lh (hm.out.trans ((Mvd.of (hdc.out.below _)).trans hm3)))
         | (at_builtin;refine wpList_append_anyP rfl (.tmp 25) (.tmp 27) 113 rfl w.heap.size 5 ib (.int .u8 0) 1 1 Tryd.underlying113 hib hz0 hz1 hz2 rfl (by decide) _ acc.length (acc.map u8v) rfl (hown3.out.alloc _) (some ⟨w3.heap.size,0,none⟩) 1 1 [.int .u8 x3] rfl rfl (fun j u hj => ⟨_,rfl,own_cells_row rfl rfl j u hj⟩) (by intro u hu;simp at hu;subst hu;rfl) h63.out (by omega) (by rw [World.size_alloc];have := hm3.out.size;omega) ?_))
         intro v4 w4 hown4 hgr4;have hlow := grown_lowG hown3.out hm3.out.size hgr4;have hm4 := Lh (hm3.out.low hgr4 hlow);rw [hone.out x3 hx0 hx1] at hown4;have hown5 := own_snoc hown4;obtain ⟨vb,vd,rfl,-⟩ := own_slice hown5
         have hown6 : Hid (w4.ownsRow w.heap.size 5 1 (.slice vb (acc ++ [UInt8.ofNat x3.toNat]).length vd) (acc ++ [UInt8.ofNat x3.toNat]).length ((acc ++ [UInt8.ofNat x3.toNat]).map u8v)) := Lh (by
          rw [List.length_append];exact hown5)
         have hlen4 : (acc ++ [UInt8.ofNat x3.toNat]).length = acc.length + 1 := by rw [List.length_append];rfl
         clear hgr4 hown4 hown5;have hr4 := Lh (hr3.out.low hlow hbl)
         have hr4' : Hid (Rd w4 b s ((p + 1 + T.2.1 : Nat) : Int) true) := Lh (by
          have h := hr4.out;have he : er = ((p + 1 + T.2.1 : Nat) : Int) := by rw [hek.out,hT2.out];show _ = ((_ : Nat) : Int);congr 1;omega
          rw [← he];exact h)
         clear hlow;go_wp2_with fail;go_roundw
         case rel => exact ⟨acc ++ [UInt8.ofNat x3.toNat],vb,vd,by rw [hlen4],by omega,hm4,hown6,.inr ⟨hr4',hf.out⟩⟩
         case measure =>
          have h2 := hr4'.out;have hle := h2.le;rw [placeOf_rd h2,hmeas.out,hm2.out,h2.cells.2.2.1];rw [hT2.out];simp only [];omega
        | ok y =>
         obtain ⟨cc,q⟩ := y;rw [hx] at hqs hpc;obtain ⟨k,rfl,hk0,hcc0,hcc1,hqk⟩ := hqs;replace hqk := Lh hqk
         have hn1024 : acc.length ≠ 1024 := fun h => by
          unfold rPiece at hx;rw [if_pos (.inl h)] at hx;cases hx
         replace hpc := Lh hpc;clear hx h34 hQ
         go_wp2_with (first
         | (go_at_call 23;refine (hen _ (hr.out.drawn hdc.out)).mono ?_;rintro e w1 ⟨rfl,hd1⟩;replace hdc := Lh (hdc.out.trans hd1);clear hd1 hen)
         | (go_at_call 38;refine (hpk _ (hr.out.drawn hdc.out)).mono ?_;rintro e w1 ⟨rfl,hd1⟩;replace hdc := Lh (hdc.out.trans hd1);clear hd1 hpk)
         | (go_at_call 60;refine (hpc.out _ (hr.out.drawn hdc.out)).mono ?_;rintro e w3 ⟨v3,x3,rfl,⟨rfl,hx0,hx1⟩,hx3,hr3,hm3⟩;have hown3 := Lh (own_mvd (own_below hown.out (hdc.out.below _)) hm3 hbl);replace hx3 := Lh hx3;replace hr3 := Lh hr3;replace hm3 := Lh (hm.out.trans ((Mvd.of (hdc.out.below _)).trans hm3)))
         | (at_builtin;refine wpList_append_anyP rfl (.tmp 25) (.tmp 27) 113 rfl w.heap.size 5 ib (.int .u8 0) 1 1 Tryd.underlying113 hib hz0 hz1 hz2 rfl (by decide) _ acc.length (acc.map u8v) rfl (hown3.out.alloc _) (some ⟨w3.heap.size,0,none⟩) 1 1 [.int .u8 x3] rfl rfl (fun j u hj => ⟨_,rfl,own_cells_row rfl rfl j u hj⟩) (by intro u hu;simp at hu;subst hu;rfl) h63.out (by omega) (by rw [World.size_alloc];have := hm3.out.size;omega) ?_))
         intro v4 w4 hown4 hgr4;have hlow := grown_lowG hown3.out hm3.out.size hgr4;have hm4 := Lh (hm3.out.low hgr4 hlow);rw [hone.out x3 hx0 hx1] at hown4;have hown5 := own_snoc hown4;obtain ⟨vb,vd,rfl,-⟩ := own_slice hown5
         have hown6 : Hid (w4.ownsRow w.heap.size 5 1 (.slice vb (acc ++ [UInt8.ofNat x3.toNat]).length vd) (acc ++ [UInt8.ofNat x3.toNat]).length ((acc ++ [UInt8.ofNat x3.toNat]).map u8v)) := Lh (by
          rw [List.length_append];exact hown5)
         have hlen4 : (acc ++ [UInt8.ofNat x3.toNat]).length = acc.length + 1 := by rw [List.length_append];rfl
         clear hgr4 hown4 hown5;have hr4 := Lh (hr3.out.low hlow hbl);have hxc : x3 = cc := hx3.out _ rfl;have hr4' : Hid (Rd w4 b s ((j + k : Nat) : Int) false) := hr4;clear hlow;go_wp2_with fail;go_roundw
         case rel =>
          refine ⟨acc ++ [UInt8.ofNat x3.toNat],vb,vd,by rw [hlen4],by omega,hm4,hown6,.inl ⟨j + k,by omega,by omega,hr4',Lh ?_⟩⟩;rw [hrel.out,hqk.out,hlen4,hxc];simp [List.append_assoc];omega
         case measure =>
          have h2 := hr4'.out;have hle := h2.le;rw [placeOf_rd h2,hmeas.out,hm2.out,h2.cells.2.2.1];simp only [];omega
      · rw [show decide ((s.size : Int) ≤ (j : Int)) = true from decide_eq_true (by omega)] at hen;clear hpk hpne
        cases hx : rPiece (bl s) j acc.length with
        | error er =>
         rw [hx] at hqs hpc;obtain ⟨k,hek,hqk⟩ := hqs;have hT2 : Hid (T.2.1 = j - (p + 1) + k) := Lh (by rw [hrel.out,hqk]);have hf : Hid (T.2.2 = false) := Lh (by rw [hrel.out,hqk]);replace hek := Lh hek;replace hpc := Lh hpc;clear hx h34 hqk hrel hQ
         go_wp2_with (first
         | (go_at_call 23;refine (hen _ (hr.out.drawn hdc.out)).mono ?_;rintro e w1 ⟨rfl,hd1⟩;replace hdc := Lh (hdc.out.trans hd1);clear hd1 hen)
         | (go_at_call 60;refine (hpc.out _ (hr.out.drawn hdc.out)).mono ?_;rintro e w3 ⟨v3,x3,rfl,⟨rfl,hx0,hx1⟩,hx3,hr3,hm3⟩;have hown3 := Lh (own_mvd (own_below hown.out (hdc.out.below _)) hm3 hbl);replace hx3 := Lh hx3;replace hr3 := Lh hr3;replace hm3 := Lh (hm.out.trans ((Mvd.of (hdc.out.below _)).trans hm3)))
         | (at_builtin;refine wpList_append_anyP rfl (.tmp 25) (.tmp 27) 113 rfl w.heap.size 5 ib (.int .u8 0) 1 1 Tryd.underlying113 hib hz0 hz1 hz2 rfl (by decide) _ acc.length (acc.map u8v) rfl (hown3.out.alloc _) (some ⟨w3.heap.size,0,none⟩) 1 1 [.int .u8 x3] rfl rfl (fun j u hj => ⟨_,rfl,own_cells_row rfl rfl j u hj⟩) (by intro u hu;simp at hu;subst hu;rfl) h63.out (by omega) (by rw [World.size_alloc];have := hm3.out.size;omega) ?_))
         intro v4 w4 hown4 hgr4;have hlow := grown_lowG hown3.out hm3.out.size hgr4;have hm4 := Lh (hm3.out.low hgr4 hlow);rw [hone.out x3 hx0 hx1] at hown4;have hown5 := own_snoc hown4;obtain ⟨vb,vd,rfl,-⟩ := own_slice hown5
         have hown6 : Hid (w4.ownsRow w.heap.size 5 1 (.slice vb (acc ++ [UInt8.ofNat x3.toNat]).length vd) (acc ++ [UInt8.ofNat x3.toNat]).length ((acc ++ [UInt8.ofNat x3.toNat]).map u8v)) := Lh (by
          rw [List.length_append];exact hown5)
         have hlen4 : (acc ++ [UInt8.ofNat x3.toNat]).length = acc.length + 1 := by rw [List.length_append];rfl
         clear hgr4 hown4 hown5;have hr4 := Lh (hr3.out.low hlow hbl)
         have hr4' : Hid (Rd w4 b s ((p + 1 + T.2.1 : Nat) : Int) true) := Lh (by
          have h := hr4.out;have he : er = ((p + 1 + T.2.1 : Nat) : Int) := by rw [hek.out,hT2.out];show _ = ((_ : Nat) : Int);congr 1;omega
          rw [← he];exact h)
         clear hlow;go_wp2_with fail;go_roundw
         case rel => exact ⟨acc ++ [UInt8.ofNat x3.toNat],vb,vd,by rw [hlen4],by omega,hm4,hown6,.inr ⟨hr4',hf.out⟩⟩
         case measure =>
          have h2 := hr4'.out;have hle := h2.le;rw [placeOf_rd h2,hmeas.out,hm2.out,h2.cells.2.2.1];rw [hT2.out];simp only [];omega
        | ok y =>
         obtain ⟨cc,q⟩ := y;rw [hx] at hqs hpc;obtain ⟨k,rfl,hk0,hcc0,hcc1,hqk⟩ := hqs;replace hqk := Lh hqk
         have hn1024 : acc.length ≠ 1024 := fun h => by
          unfold rPiece at hx;rw [if_pos (.inl h)] at hx;cases hx
         replace hpc := Lh hpc;clear hx h34 hQ
         go_wp2_with (first
         | (go_at_call 23;refine (hen _ (hr.out.drawn hdc.out)).mono ?_;rintro e w1 ⟨rfl,hd1⟩;replace hdc := Lh (hdc.out.trans hd1);clear hd1 hen)
         | (go_at_call 60;refine (hpc.out _ (hr.out.drawn hdc.out)).mono ?_;rintro e w3 ⟨v3,x3,rfl,⟨rfl,hx0,hx1⟩,hx3,hr3,hm3⟩;have hown3 := Lh (own_mvd (own_below hown.out (hdc.out.below _)) hm3 hbl);replace hx3 := Lh hx3;replace hr3 := Lh hr3;replace hm3 := Lh (hm.out.trans ((Mvd.of (hdc.out.below _)).trans hm3)))
         | (at_builtin;refine wpList_append_anyP rfl (.tmp 25) (.tmp 27) 113 rfl w.heap.size 5 ib (.int .u8 0) 1 1 Tryd.underlying113 hib hz0 hz1 hz2 rfl (by decide) _ acc.length (acc.map u8v) rfl (hown3.out.alloc _) (some ⟨w3.heap.size,0,none⟩) 1 1 [.int .u8 x3] rfl rfl (fun j u hj => ⟨_,rfl,own_cells_row rfl rfl j u hj⟩) (by intro u hu;simp at hu;subst hu;rfl) h63.out (by omega) (by rw [World.size_alloc];have := hm3.out.size;omega) ?_))
         intro v4 w4 hown4 hgr4;have hlow := grown_lowG hown3.out hm3.out.size hgr4;have hm4 := Lh (hm3.out.low hgr4 hlow);rw [hone.out x3 hx0 hx1] at hown4;have hown5 := own_snoc hown4;obtain ⟨vb,vd,rfl,-⟩ := own_slice hown5
         have hown6 : Hid (w4.ownsRow w.heap.size 5 1 (.slice vb (acc ++ [UInt8.ofNat x3.toNat]).length vd) (acc ++ [UInt8.ofNat x3.toNat]).length ((acc ++ [UInt8.ofNat x3.toNat]).map u8v)) := Lh (by
          rw [List.length_append];exact hown5)
         have hlen4 : (acc ++ [UInt8.ofNat x3.toNat]).length = acc.length + 1 := by rw [List.length_append];rfl
         clear hgr4 hown4 hown5;have hr4 := Lh (hr3.out.low hlow hbl);have hxc : x3 = cc := hx3.out _ rfl;have hr4' : Hid (Rd w4 b s ((j + k : Nat) : Int) false) := hr4;clear hlow;go_wp2_with fail;go_roundw
         case rel =>
          refine ⟨acc ++ [UInt8.ofNat x3.toNat],vb,vd,by rw [hlen4],by omega,hm4,hown6,.inl ⟨j + k,by omega,by omega,hr4',Lh ?_⟩⟩;rw [hrel.out,hqk.out,hlen4,hxc];simp [List.append_assoc];omega
         case measure =>
          have h2 := hr4'.out;have hle := h2.le;rw [placeOf_rd h2,hmeas.out,hm2.out,h2.cells.2.2.1];simp only [];omega
  · have hRe : Hid (R = .error ((p + 1 + T.2.1 : Nat) : Int)) := Lh (by rw [hQ.out,hf.out];rfl);obtain ⟨c0,c1,c2,-⟩ := hr.out.cells;have hsb := fun w h => re_sign_bad (w := w) (b := b) (s := s) (p := ((p + 1 + T.2.1 : Nat) : Int)) 34 h;have hconv := run_string_own (P := Tryd.prog) Tryd.underlying113 Tryd.underlying5 Tryd.underlying9 hown.out
    go_wp2_with (first
      | (go_at_call 44;refine (hsb _ hr.out).mono ?_;rintro e w1 ⟨rfl,rfl⟩))
    go_ret;rw [hRe.out];exact ⟨_,acc,rfl,rfl,fun y h => (by cases h),hr.out,hm.out⟩
theorem re_text {w : World} {b : Nat} {s : ByteArray} {p : Nat} (h : Rd w b s (p : Int) false) :
    Calls Tryd.prog 43 #[.pointer (some ⟨b,0,none⟩)] w (RePost b s w VStr (rText (bl s) p)) := by
 by_cases h34 : pk (bl s) p = 34
 · exact re_text_go h h34
 · exact re_text_no h h34
end Go.Proofs.YtmjincocmhadeaaDoor
