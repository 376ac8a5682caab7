/- Parse: the document's reader: a literal. (gen_pem.py) -/
import Derived.Test.YtmjincocmhadeaaDoorPmL
set_option maxHeartbeats 8000000
set_option maxRecDepth 100000
namespace Go.Proofs.YtmjincocmhadeaaDoor
open Go.RowKit Lx
theorem word_skip {s : ByteArray} {q : Nat} (h : wordlyI (pk (bl s) q) = true) : rSkip (bl s) q = q := by
 have hlt : q < s.size := by
  rcases Nat.lt_or_ge q s.size with h' | h'
  · exact h'
  · rw [(pe_out s q (by omega)).2] at h;cases h
 rw [pk_bat,if_pos hlt] at h;have hc : 48 ≤ bat s q := by unfold wordlyI smallB greatB digitB at h;simp at h;omega
 rw [rskip_at,skip_stop s q hlt (by omega) (by omega)];rfl
theorem re_lit_bad {w : World} {b : Nat} {s : ByteArray} {p : Int} (h : Rd w b s p true) :
    Calls Tryd.prog 62 #[.pointer (some ⟨b,0,none⟩)] w (RePost b s w (VLit w.heap.size) (.error p)) := by
 have hbl := h.lt;have hA := h.below ((Below.refl w.heap.size w).al (.cells litZ 59));obtain ⟨a0,a1,a2,-⟩ := hA.cells;have hcr := Lh (cell_res (Mvd.refl b (w.alloc (.cells litZ 59))) hbl);have hm1 := Lh hcr.out.2;have hA' := Lh hA;go_enter Tryd.func62,Tryd.ntmps62
 go_wp2_with ((refine wpList_store_rowA rfl 59 (.tmp 2) (.tmp 11) rfl w.heap.size #[.int .i64 0,.string ⟨#[]⟩,.slice none 0 0,.bool false,.string ⟨#[]⟩,.bool false,.string ⟨#[]⟩] rfl rfl 59 litZ hcr.out.1 sizeLit rfl (by simp [Value.oneCell']) ?_))
 intro w9 hg9 hgr9 hsz9;have hr9 := Lh (hA'.out.other hgr9 (by omega));have hm9 := Lh (hm1.out.new hgr9);clear hgr9 hsz9;go_wp2_with fail;refine bodyPost_ret (v := .agg #[.int .i64 0,.string ⟨#[]⟩,.slice none 0 0,.bool false,.string ⟨#[]⟩,.bool false,.string ⟨#[]⟩]) (results_cell_row rfl _ _ w.heap.size 59 _ (0,0) _ rfl hg9.out Tryd.underlying59 rfl sizeLit) rfl ?_
 exact ⟨_,(⟨0,⟨#[]⟩,[],(false,⟨#[]⟩),(false,⟨#[]⟩)⟩ : PLit),rfl,⟨_,rfl,World.ownsRow_nil _ _ _ _⟩,fun y h => (by cases h),hr9.out,hm9.out⟩
theorem re_lit_term {w : World} {b : Nat} {s : ByteArray} {p : Nat} (h : Rd w b s (p : Int) false) (hs : smallB (pk (bl s) p) = false) :
    Calls Tryd.prog 62 #[.pointer (some ⟨b,0,none⟩)] w (RePost b s w (VLit w.heap.size) (rLit (bl s) p)) := by
 have hbl := h.lt;have hA := h.below ((Below.refl w.heap.size w).al (.cells litZ 59));have hen := fun w h => re_end (w := w) (b := b) (s := s) (p := (p : Int)) (d := false) h;have hpk := fun w h => re_peek (w := w) (b := b) (s := s) (p := (p : Int)) (d := false) h;have hdc : Hid (Drawn (w.alloc (.cells litZ 59)) (w.alloc (.cells litZ 59))) := Lh (Drawn.refl _)
 obtain ⟨a0,a1,a2,-⟩ := hA.cells;have hlen := h.len;obtain ⟨Z,hZ⟩ : ∃ Z,Z = rTerm (bl s) p := ⟨_,rfl⟩;obtain ⟨R,hRd⟩ : ∃ R,R = rLit (bl s) p := ⟨_,rfl⟩;have hR : Hid (R = Z.bind fun t => rUnlike (bl s) t.1 t.2) := Lh (by rw [hRd,hZ];unfold rLit;rw [if_neg (by rw [hs];decide)]);rw [← hRd];have hte := fun w h => re_term (w := w) (b := b) (s := s) (S := .ok p) h
 have hteq : ∀ S : Except Int Nat,S = .ok p → S.bind (rTerm (bl s)) = Z := fun S h => by rw [h,hZ];rfl
 rw [hteq _ rfl] at hte;unfold RePost at hte;replace hte := Lh hte;clear hZ hRd hteq
 by_cases hlt : p < s.size
 · rw [show decide ((s.size : Int) ≤ (p : Int)) = false from decide_eq_false (by omega)] at hen;rw [pe_in s p hlt] at hpk;have hsm := fun w => r8_small (pk (bl s) p) w;rw [hs] at hsm;clear hs;generalize pk (bl s) p = c at hpk hsm;go_enter Tryd.func62,Tryd.ntmps62
   go_wp2_with (first
     | (go_at_call 23;refine (hen _ (hA.drawn hdc.out)).mono ?_;rintro e w1 ⟨rfl,hd1⟩;replace hdc := Lh (hdc.out.trans hd1);have hr1 := hA.drawn hdc.out;obtain ⟨e0,e1,e2,e3,e4⟩ := hr1.cells;clear hd1)
     | (go_at_call 38;refine (hpk _ (hA.drawn hdc.out)).mono ?_;rintro e w1 ⟨rfl,hd1⟩;replace hdc := Lh (hdc.out.trans hd1);have hr1 := hA.drawn hdc.out;obtain ⟨e0,e1,e2,e3,e4⟩ := hr1.cells;clear hd1 hpk)
     | (go_at_call 39;refine (hsm _).mono ?_;rintro e w' ⟨rfl,rfl⟩)
     | (go_at_call 61;refine (hte.out _ (hA.drawn hdc.out)).mono ?_;rintro e w3 ⟨v3,x3,rfl,hv3,hx30,hr30,hm30⟩;unfold VTerm at hv3;subst hv3;have hx3 := Lh hx30;have hr3 := Lh (Rs.below hr30 ((Below.refl w3.heap.size w3).al (.cells #[.bool false,.string ⟨#[]⟩] 57)))
        have hm3 := Lh (((Mvd.of (b := b) (hdc.out.below _)).trans hm30).trans (Mvd.of ((Below.refl w3.heap.size w3).al (.cells #[.bool false,.string ⟨#[]⟩] 57))));have hlt3 : Hid (w.heap.size < w3.heap.size) := Lh (Array.getElem?_eq_some_iff.1 (cell_res ((Mvd.of (b := b) (hdc.out.below _)).trans hm30) hbl).1).1
        have hz3 := Lh (heap_alloc_new w3 (.cells #[.bool false,.string ⟨#[]⟩] 57));clear hx30 hr30 hm30)
     | (refine wpList_store_rowA rfl 57 (.tmp 3) (.tmp 21) rfl w3.heap.size #[.bool x3.1,.string x3.2] rfl rfl 57 #[.bool false,.string ⟨#[]⟩] hz3.out sizeTerm rfl (by simp [Value.oneCell']) ?_))
   intro w5 hg5 hgr5 hsz5;have hr5 := Lh (hr3.out.other hgr5 (by have := hlt3.out;omega));have hm5 := Lh (hm3.out.newr hgr5 (by rw [World.size_alloc];have := hlt3.out;omega));have hz5 : Hid (w5.heap.size = w3.heap.size + 1) := Lh hsz5.out;generalize w3.heap.size = g1 at hg5 hlt3 hz5 ⊢;have k0 := (cell_of_row _ _ 0 _ _ _ hg5.out).trans rfl
   have k1 := (cell_of_row _ _ 1 _ _ _ hg5.out).trans rfl;clear hgr5 hsz5 hz3 hr3 hm3;have hun := re_unlike x3 hr5.out;obtain ⟨U,hU⟩ : ∃ U,U = (Z.map (·.2)).bind (rUnlike (bl s) x3) := ⟨_,rfl⟩;rw [← hU] at hun;unfold RePost at hun
   have hRU : Hid (R = U) := Lh (by
    rw [hR.out,hU]
    cases Z with
    | error e => rfl
    | ok z => rw [hx3.out _ rfl];rfl)
   clear hU;replace hun := Lh hun
   go_wp2_with (first
     | (go_at_call 75;refine hun.out.mono ?_;rintro e w6 ⟨v6,x6,rfl,hv60,hx60,hr60,hm60⟩;obtain ⟨va,vc,rfl,hown60⟩ := hv60.slice;have hx6 := Lh hx60;have hr6 := Lh hr60;have hm6 := Lh (hm5.out.trans hm60);have hcr := Lh (cell_res hm6.out hbl);have hmw := Lh hcr.out.2;have hown6 := Lh hown60;clear hx60 hr60 hm60 hv60 hown60)
     | (refine wpList_store_rowA rfl 59 (.tmp 2) (.tmp 24) rfl w.heap.size #[.int .i64 x6.k,.string x6.p,.slice va x6.a.length vc,.bool x6.l.1,.string x6.l.2,.bool x6.r.1,.string x6.r.2] rfl rfl 59 litZ hcr.out.1 sizeLit rfl (by simp [Value.oneCell']) ?_))
   intro w9 hg9 hgr9 hsz9;have hr9 := Lh (hr6.out.other hgr9 (by omega));have hm9 := Lh (hmw.out.new hgr9);have hown9 := Lh (own_baseP (own_stays hown6.out hgr9 (fun k hk e => by have := (hown6.out.lt k hk).1;injection e with e;have := hz5.out;have := hlt3.out;omega)) (show w.heap.size ≤ w5.heap.size by have := hz5.out;have := hlt3.out;omega));clear hgr9 hsz9
   go_wp2_with fail;refine bodyPost_ret (v := .agg #[.int .i64 x6.k,.string x6.p,.slice va x6.a.length vc,.bool x6.l.1,.string x6.l.2,.bool x6.r.1,.string x6.r.2]) (results_cell_row rfl _ _ w.heap.size 59 _ (0,0) _ rfl hg9.out Tryd.underlying59 rfl sizeLit) rfl ?_;rw [hRU.out];exact ⟨_,x6,rfl,⟨_,rfl,hown9.out⟩,hx6.out,hr9.out,hm9.out⟩
 · rw [show decide ((s.size : Int) ≤ (p : Int)) = true from decide_eq_true (by omega)] at hen;clear hpk hs;go_enter Tryd.func62,Tryd.ntmps62
   go_wp2_with (first
     | (go_at_call 23;refine (hen _ (hA.drawn hdc.out)).mono ?_;rintro e w1 ⟨rfl,hd1⟩;replace hdc := Lh (hdc.out.trans hd1);have hr1 := hA.drawn hdc.out;obtain ⟨e0,e1,e2,e3,e4⟩ := hr1.cells;clear hd1)
     | (go_at_call 61;refine (hte.out _ (hA.drawn hdc.out)).mono ?_;rintro e w3 ⟨v3,x3,rfl,hv3,hx30,hr30,hm30⟩;unfold VTerm at hv3;subst hv3;have hx3 := Lh hx30;have hr3 := Lh (Rs.below hr30 ((Below.refl w3.heap.size w3).al (.cells #[.bool false,.string ⟨#[]⟩] 57)))
        have hm3 := Lh (((Mvd.of (b := b) (hdc.out.below _)).trans hm30).trans (Mvd.of ((Below.refl w3.heap.size w3).al (.cells #[.bool false,.string ⟨#[]⟩] 57))));have hlt3 : Hid (w.heap.size < w3.heap.size) := Lh (Array.getElem?_eq_some_iff.1 (cell_res ((Mvd.of (b := b) (hdc.out.below _)).trans hm30) hbl).1).1
        have hz3 := Lh (heap_alloc_new w3 (.cells #[.bool false,.string ⟨#[]⟩] 57));clear hx30 hr30 hm30)
     | (refine wpList_store_rowA rfl 57 (.tmp 3) (.tmp 21) rfl w3.heap.size #[.bool x3.1,.string x3.2] rfl rfl 57 #[.bool false,.string ⟨#[]⟩] hz3.out sizeTerm rfl (by simp [Value.oneCell']) ?_))
   intro w5 hg5 hgr5 hsz5;have hr5 := Lh (hr3.out.other hgr5 (by have := hlt3.out;omega));have hm5 := Lh (hm3.out.newr hgr5 (by rw [World.size_alloc];have := hlt3.out;omega));have hz5 : Hid (w5.heap.size = w3.heap.size + 1) := Lh hsz5.out;generalize w3.heap.size = g1 at hg5 hlt3 hz5 ⊢;have k0 := (cell_of_row _ _ 0 _ _ _ hg5.out).trans rfl
   have k1 := (cell_of_row _ _ 1 _ _ _ hg5.out).trans rfl;clear hgr5 hsz5 hz3 hr3 hm3;have hun := re_unlike x3 hr5.out;obtain ⟨U,hU⟩ : ∃ U,U = (Z.map (·.2)).bind (rUnlike (bl s) x3) := ⟨_,rfl⟩;rw [← hU] at hun;unfold RePost at hun
   have hRU : Hid (R = U) := Lh (by
    rw [hR.out,hU]
    cases Z with
    | error e => rfl
    | ok z => rw [hx3.out _ rfl];rfl)
   clear hU;replace hun := Lh hun
   go_wp2_with (first
     | (go_at_call 75;refine hun.out.mono ?_;rintro e w6 ⟨v6,x6,rfl,hv60,hx60,hr60,hm60⟩;obtain ⟨va,vc,rfl,hown60⟩ := hv60.slice;have hx6 := Lh hx60;have hr6 := Lh hr60;have hm6 := Lh (hm5.out.trans hm60);have hcr := Lh (cell_res hm6.out hbl);have hmw := Lh hcr.out.2;have hown6 := Lh hown60;clear hx60 hr60 hm60 hv60 hown60)
     | (refine wpList_store_rowA rfl 59 (.tmp 2) (.tmp 24) rfl w.heap.size #[.int .i64 x6.k,.string x6.p,.slice va x6.a.length vc,.bool x6.l.1,.string x6.l.2,.bool x6.r.1,.string x6.r.2] rfl rfl 59 litZ hcr.out.1 sizeLit rfl (by simp [Value.oneCell']) ?_))
   intro w9 hg9 hgr9 hsz9;have hr9 := Lh (hr6.out.other hgr9 (by omega));have hm9 := Lh (hmw.out.new hgr9);have hown9 := Lh (own_baseP (own_stays hown6.out hgr9 (fun k hk e => by have := (hown6.out.lt k hk).1;injection e with e;have := hz5.out;have := hlt3.out;omega)) (show w.heap.size ≤ w5.heap.size by have := hz5.out;have := hlt3.out;omega));clear hgr9 hsz9
   go_wp2_with fail;refine bodyPost_ret (v := .agg #[.int .i64 x6.k,.string x6.p,.slice va x6.a.length vc,.bool x6.l.1,.string x6.l.2,.bool x6.r.1,.string x6.r.2]) (results_cell_row rfl _ _ w.heap.size 59 _ (0,0) _ rfl hg9.out Tryd.underlying59 rfl sizeLit) rfl ?_;rw [hRU.out];exact ⟨_,x6,rfl,⟨_,rfl,hown9.out⟩,hx6.out,hr9.out,hm9.out⟩
theorem re_lit_run {w : World} {b : Nat} {s : ByteArray} {p : Nat} (h : Rd w b s (p : Int) false) {er : Int} (hs : smallB (pk (bl s) p) = true) (hx : rRun (bl s) p = .error er) :
    Calls Tryd.prog 62 #[.pointer (some ⟨b,0,none⟩)] w (RePost b s w (VLit w.heap.size) (rLit (bl s) p)) := by
 have hbl := h.lt;have hA := h.below ((Below.refl w.heap.size w).al (.cells litZ 59));have hen := fun w h => re_end (w := w) (b := b) (s := s) (p := (p : Int)) (d := false) h;have hpk := fun w h => re_peek (w := w) (b := b) (s := s) (p := (p : Int)) (d := false) h;have hdc : Hid (Drawn (w.alloc (.cells litZ 59)) (w.alloc (.cells litZ 59))) := Lh (Drawn.refl _)
 obtain ⟨a0,a1,a2,-⟩ := hA.cells
 have hlt : p < s.size := by
  rcases Nat.lt_or_ge p s.size with h | h
  · exact h
  · rw [(pe_out s p (by omega)).2] at hs;cases hs
 rw [show decide ((s.size : Int) ≤ (p : Int)) = false from decide_eq_false (by omega)] at hen;rw [pe_in s p hlt] at hpk;have hsm := fun w => r8_small (pk (bl s) p) w;rw [hs] at hsm;have hrn := fun w h => re_run (w := w) (b := b) (s := s) (p := p) h
 have hR0 : rLit (bl s) p = (rRun (bl s) p).bind fun x =>
  if x.1 = sNot then rNot (bl s) x.2
  else if reservedB x.1 then .error (x.2 : Int)
  else if pk (bl s) (rSkip (bl s) x.2) = 33 then rUnlike (bl s) (false,mk x.1) (rSkip (bl s) x.2)
  else (rArgs (bl s) (rSkip (bl s) x.2)).bind fun a => .ok (⟨1,mk x.1,a.1,(false,⟨#[]⟩),(false,⟨#[]⟩)⟩,a.2) := by unfold rLit;rw [if_pos hs]
 rw [hx] at hrn hR0;unfold RePost at hrn;obtain ⟨R,hRd⟩ : ∃ R,R = rLit (bl s) p := ⟨_,rfl⟩;rw [← hRd] at hR0 ⊢;clear hx hs hRd;generalize pk (bl s) p = c at hpk hsm;replace hrn := Lh hrn;have hR : Hid (R = .error er) := Lh hR0;clear hR0;go_enter Tryd.func62,Tryd.ntmps62
 go_wp2_with (first
   | (go_at_call 23;refine (hen _ (hA.drawn hdc.out)).mono ?_;rintro e w1 ⟨rfl,hd1⟩;replace hdc := Lh (hdc.out.trans hd1);have hr1 := hA.drawn hdc.out;obtain ⟨e0,e1,e2,e3,e4⟩ := hr1.cells;clear hd1)
   | (go_at_call 38;refine (hpk _ (hA.drawn hdc.out)).mono ?_;rintro e w1 ⟨rfl,hd1⟩;replace hdc := Lh (hdc.out.trans hd1);have hr1 := hA.drawn hdc.out;obtain ⟨e0,e1,e2,e3,e4⟩ := hr1.cells;clear hd1 hpk)
   | (go_at_call 39;refine (hsm _).mono ?_;rintro e w' ⟨rfl,rfl⟩)
   | (go_at_call 41;refine (hrn.out _ (hA.drawn hdc.out)).mono ?_;rintro e w3 ⟨v3,x3,rfl,hv3,-,hr30,hm30⟩;unfold VStr at hv3;subst hv3;have hr3' : Rd w3 b s er true := hr30;obtain ⟨g0,g1,g2,g3,g4⟩ := hr3'.cells;have hr3 : Hid (Rs w3 b s (.error er)) := Lh hr3';have hcr := Lh (cell_res ((Mvd.of (b := b) (hdc.out.below _)).trans hm30) hbl);have hmw := Lh hcr.out.2
      clear hm30)
   | (refine wpList_store_rowA rfl 59 (.tmp 2) (.tmp 31) rfl w.heap.size #[.int .i64 0,.string ⟨#[]⟩,.slice none 0 0,.bool false,.string ⟨#[]⟩,.bool false,.string ⟨#[]⟩] rfl rfl 59 litZ hcr.out.1 sizeLit rfl (by simp [Value.oneCell']) ?_))
 intro w9 hg9 hgr9 hsz9;have hr9 := Lh (hr3.out.other hgr9 (by omega));have hm9 := Lh (hmw.out.new hgr9);clear hgr9 hsz9;go_wp2_with fail;refine bodyPost_ret (v := .agg #[.int .i64 0,.string ⟨#[]⟩,.slice none 0 0,.bool false,.string ⟨#[]⟩,.bool false,.string ⟨#[]⟩]) (results_cell_row rfl _ _ w.heap.size 59 _ (0,0) _ rfl hg9.out Tryd.underlying59 rfl sizeLit) rfl ?_
 rw [hR.out];exact ⟨_,(⟨0,⟨#[]⟩,[],(false,⟨#[]⟩),(false,⟨#[]⟩)⟩ : PLit),rfl,⟨_,rfl,World.ownsRow_nil _ _ _ _⟩,fun y h => (by cases h),hr9.out,hm9.out⟩
theorem re_lit_res {w : World} {b : Nat} {s : ByteArray} {p : Nat} (h : Rd w b s (p : Int) false) {x : Bs} {q : Nat} (hs : smallB (pk (bl s) p) = true) (hx : rRun (bl s) p = .ok (x,q)) (hnot : ¬ x = sNot) (hres : reservedB x = true) :
    Calls Tryd.prog 62 #[.pointer (some ⟨b,0,none⟩)] w (RePost b s w (VLit w.heap.size) (rLit (bl s) p)) := by
 have hbl := h.lt;have hA := h.below ((Below.refl w.heap.size w).al (.cells litZ 59));have hen := fun w h => re_end (w := w) (b := b) (s := s) (p := (p : Int)) (d := false) h;have hpk := fun w h => re_peek (w := w) (b := b) (s := s) (p := (p : Int)) (d := false) h;have hdc : Hid (Drawn (w.alloc (.cells litZ 59)) (w.alloc (.cells litZ 59))) := Lh (Drawn.refl _)
 obtain ⟨a0,a1,a2,-⟩ := hA.cells
 have hlt : p < s.size := by
  rcases Nat.lt_or_ge p s.size with h | h
  · exact h
  · rw [(pe_out s p (by omega)).2] at hs;cases hs
 rw [show decide ((s.size : Int) ≤ (p : Int)) = false from decide_eq_false (by omega)] at hen;rw [pe_in s p hlt] at hpk;have hsm := fun w => r8_small (pk (bl s) p) w;rw [hs] at hsm;have hrn := fun w h => re_run (w := w) (b := b) (s := s) (p := p) h
 have hR0 : rLit (bl s) p = (rRun (bl s) p).bind fun x =>
  if x.1 = sNot then rNot (bl s) x.2
  else if reservedB x.1 then .error (x.2 : Int)
  else if pk (bl s) (rSkip (bl s) x.2) = 33 then rUnlike (bl s) (false,mk x.1) (rSkip (bl s) x.2)
  else (rArgs (bl s) (rSkip (bl s) x.2)).bind fun a => .ok (⟨1,mk x.1,a.1,(false,⟨#[]⟩),(false,⟨#[]⟩)⟩,a.2) := by unfold rLit;rw [if_pos hs]
 rw [hx] at hrn hR0;unfold RePost at hrn;obtain ⟨R,hRd⟩ : ∃ R,R = rLit (bl s) p := ⟨_,rfl⟩;rw [← hRd] at hR0 ⊢;clear hx hs hRd;generalize pk (bl s) p = c at hpk hsm;replace hrn := Lh hrn;have hstr := eq_str (mk x) sNot;rw [bl_mk,decide_eq_false hnot] at hstr;unfold sNot at hstr
 have hR : Hid (R = .error (q : Int)) := Lh (by rw [hR0];show (if x = sNot then _ else if reservedB x = true then _ else _) = _;rw [if_neg hnot,if_pos hres]);have hrs := fun w => r8_Reserved (mk x) w;rw [bl_mk,hres] at hrs;clear hR0 hres;go_enter Tryd.func62,Tryd.ntmps62
 go_wp2_with (first
   | (go_at_call 23;refine (hen _ (hA.drawn hdc.out)).mono ?_;rintro e w1 ⟨rfl,hd1⟩;replace hdc := Lh (hdc.out.trans hd1);have hr1 := hA.drawn hdc.out;obtain ⟨e0,e1,e2,e3,e4⟩ := hr1.cells;clear hd1)
   | (go_at_call 38;refine (hpk _ (hA.drawn hdc.out)).mono ?_;rintro e w1 ⟨rfl,hd1⟩;replace hdc := Lh (hdc.out.trans hd1);have hr1 := hA.drawn hdc.out;obtain ⟨e0,e1,e2,e3,e4⟩ := hr1.cells;clear hd1 hpk)
   | (go_at_call 39;refine (hsm _).mono ?_;rintro e w' ⟨rfl,rfl⟩)
   | (go_at_call 41;refine (hrn.out _ (hA.drawn hdc.out)).mono ?_;rintro e w3 ⟨v3,x3,rfl,hv3,hx3,hr30,hm30⟩;unfold VStr at hv3;subst hv3;obtain rfl : x3 = x := hx3 _ rfl;have hr3 : Rd w3 b s (q : Int) false := hr30;obtain ⟨g0,g1,g2,g3,g4⟩ := hr3.cells;have hm3 := Lh ((Mvd.of (b := b) (hdc.out.below _)).trans hm30);clear hm30 hx3 hr30)
   | (go_at_call 45;refine (hrs _).mono ?_;rintro e w' ⟨rfl,rfl⟩)
   | (go_at_call 40;refine (re_stop hr3 (q : Int) (by omega) hr3.le).mono ?_;rintro e w4 ⟨rfl,hr40,hm40⟩;have hr4 : Hid (Rs w4 b s (.error (q : Int))) := Lh hr40;have hcr := Lh (cell_res (hm3.out.trans hm40) hbl);have hmw := Lh hcr.out.2;clear hr40 hm40)
   | (refine wpList_store_rowA rfl 59 (.tmp 2) (.tmp 67) rfl w.heap.size #[.int .i64 0,.string ⟨#[]⟩,.slice none 0 0,.bool false,.string ⟨#[]⟩,.bool false,.string ⟨#[]⟩] rfl rfl 59 litZ hcr.out.1 sizeLit rfl (by simp [Value.oneCell']) ?_))
 intro w9 hg9 hgr9 hsz9;have hr9 := Lh (hr4.out.other hgr9 (by omega));have hm9 := Lh (hmw.out.new hgr9);clear hgr9 hsz9;go_wp2_with fail;refine bodyPost_ret (v := .agg #[.int .i64 0,.string ⟨#[]⟩,.slice none 0 0,.bool false,.string ⟨#[]⟩,.bool false,.string ⟨#[]⟩]) (results_cell_row rfl _ _ w.heap.size 59 _ (0,0) _ rfl hg9.out Tryd.underlying59 rfl sizeLit) rfl ?_
 rw [hR.out];exact ⟨_,(⟨0,⟨#[]⟩,[],(false,⟨#[]⟩),(false,⟨#[]⟩)⟩ : PLit),rfl,⟨_,rfl,World.ownsRow_nil _ _ _ _⟩,fun y h => (by cases h),hr9.out,hm9.out⟩
theorem re_lit_unl {w : World} {b : Nat} {s : ByteArray} {p : Nat} (h : Rd w b s (p : Int) false) {x : Bs} {q : Nat} (hs : smallB (pk (bl s) p) = true) (hx : rRun (bl s) p = .ok (x,q)) (hnot : ¬ x = sNot) (hres : reservedB x = false) (h33 : pk (bl s) (rSkip (bl s) q) = 33) :
    Calls Tryd.prog 62 #[.pointer (some ⟨b,0,none⟩)] w (RePost b s w (VLit w.heap.size) (rLit (bl s) p)) := by
 have hbl := h.lt;have hA := h.below ((Below.refl w.heap.size w).al (.cells litZ 59));have hen := fun w h => re_end (w := w) (b := b) (s := s) (p := (p : Int)) (d := false) h;have hpk := fun w h => re_peek (w := w) (b := b) (s := s) (p := (p : Int)) (d := false) h;have hdc : Hid (Drawn (w.alloc (.cells litZ 59)) (w.alloc (.cells litZ 59))) := Lh (Drawn.refl _)
 obtain ⟨a0,a1,a2,-⟩ := hA.cells
 have hlt : p < s.size := by
  rcases Nat.lt_or_ge p s.size with h | h
  · exact h
  · rw [(pe_out s p (by omega)).2] at hs;cases hs
 rw [show decide ((s.size : Int) ≤ (p : Int)) = false from decide_eq_false (by omega)] at hen;rw [pe_in s p hlt] at hpk;have hsm := fun w => r8_small (pk (bl s) p) w;rw [hs] at hsm;have hrn := fun w h => re_run (w := w) (b := b) (s := s) (p := p) h
 have hR0 : rLit (bl s) p = (rRun (bl s) p).bind fun x =>
  if x.1 = sNot then rNot (bl s) x.2
  else if reservedB x.1 then .error (x.2 : Int)
  else if pk (bl s) (rSkip (bl s) x.2) = 33 then rUnlike (bl s) (false,mk x.1) (rSkip (bl s) x.2)
  else (rArgs (bl s) (rSkip (bl s) x.2)).bind fun a => .ok (⟨1,mk x.1,a.1,(false,⟨#[]⟩),(false,⟨#[]⟩)⟩,a.2) := by unfold rLit;rw [if_pos hs]
 rw [hx] at hrn hR0;unfold RePost at hrn;obtain ⟨R,hRd⟩ : ∃ R,R = rLit (bl s) p := ⟨_,rfl⟩;rw [← hRd] at hR0 ⊢;clear hx hs hRd;generalize pk (bl s) p = c at hpk hsm;replace hrn := Lh hrn;have hstr := eq_str (mk x) sNot;rw [bl_mk,decide_eq_false hnot] at hstr;unfold sNot at hstr;have hrs := fun w => r8_Reserved (mk x) w;rw [bl_mk,hres] at hrs
 have hun := fun w h => re_unlike (w := w) (b := b) (s := s) (S := .ok (rSkip (bl s) q)) (false,mk x) h
 have hueq : ∀ S : Except Int Nat,S = .ok (rSkip (bl s) q) → S.bind (rUnlike (bl s) (false,mk x)) = R := fun S h => by
  rw [h,hR0];show rUnlike _ _ _ = (if x = sNot then _ else if reservedB x = true then _ else if pk (bl s) (rSkip (bl s) q) = 33 then _ else _);rw [if_neg hnot,if_neg (by rw [hres];decide),if_pos h33]
 rw [hueq _ rfl] at hun;unfold RePost at hun;replace hun := Lh hun;have hsk := Lh fun w h => re_skip_ok (w := w) (b := b) (s := s) (p := q) h;have hpk2 := fun w h => re_peek (w := w) (b := b) (s := s) (p := (rSkip (bl s) q : Nat)) (d := false) h;rw [(pe_eq s _ 33 (by decide)).2 h33] at hpk2;clear hR0 hres hueq h33;generalize rSkip (bl s) q = q1 at hun hsk hpk2
 go_enter Tryd.func62,Tryd.ntmps62
 go_wp2_with (first
   | (go_at_call 23;refine (hen _ (hA.drawn hdc.out)).mono ?_;rintro e w1 ⟨rfl,hd1⟩;replace hdc := Lh (hdc.out.trans hd1);have hr1 := hA.drawn hdc.out;obtain ⟨e0,e1,e2,e3,e4⟩ := hr1.cells;clear hd1)
   | (go_at_call 38;refine (hpk _ (hA.drawn hdc.out)).mono ?_;rintro e w1 ⟨rfl,hd1⟩;replace hdc := Lh (hdc.out.trans hd1);have hr1 := hA.drawn hdc.out;obtain ⟨e0,e1,e2,e3,e4⟩ := hr1.cells;clear hd1 hpk)
   | (go_at_call 39;refine (hsm _).mono ?_;rintro e w' ⟨rfl,rfl⟩)
   | (go_at_call 41;refine (hrn.out _ (hA.drawn hdc.out)).mono ?_;rintro e w3 ⟨v3,x3,rfl,hv3,hx3,hr30,hm30⟩;unfold VStr at hv3;subst hv3;obtain rfl : x3 = x := hx3 _ rfl;have hr3 : Rd w3 b s (q : Int) false := hr30;obtain ⟨g0,g1,g2,g3,g4⟩ := hr3.cells;have hm3 := Lh ((Mvd.of (b := b) (hdc.out.below _)).trans hm30);clear hm30 hx3 hr30)
   | (go_at_call 45;refine (hrs _).mono ?_;rintro e w' ⟨rfl,rfl⟩)
   | (go_at_call 22;refine (hsk.out _ hr3).mono ?_;rintro e w4 ⟨rfl,hr40,hm40⟩;have hr4 := hr40;obtain ⟨kk0,kk1,kk2,kk3,kk4⟩ := hr4.cells;have hm4 := Lh (hm3.out.trans hm40);clear hr40 hm40)
   | (go_at_call 38;refine (hpk2 _ hr4).mono ?_;rintro e w5 ⟨rfl,hd5⟩;have hr5 := Lh (hr4.drawn hd5);have hm5 := Lh (hm4.out.trans (Mvd.of (hd5.below _)));clear hd5)
   | (go_at_call 75;refine (hun.out _ hr5.out).mono ?_;rintro e w6 ⟨v6,x6,rfl,hv60,hx60,hr60,hm60⟩;obtain ⟨va,vc,rfl,hown60⟩ := hv60.slice;have hx6 := Lh hx60;have hr6 := Lh hr60;have hm6 := Lh (hm5.out.trans hm60);have hcr := Lh (cell_res hm6.out hbl);have hmw := Lh hcr.out.2
      have hsz5 : Hid (w.heap.size < w5.heap.size) := Lh (Array.getElem?_eq_some_iff.1 (cell_res hm5.out hbl).1).1;have hown6 := Lh hown60;clear hx60 hr60 hm60 hv60 hown60)
   | (refine wpList_store_rowA rfl 59 (.tmp 2) (.tmp 76) rfl w.heap.size #[.int .i64 x6.k,.string x6.p,.slice va x6.a.length vc,.bool x6.l.1,.string x6.l.2,.bool x6.r.1,.string x6.r.2] rfl rfl 59 litZ hcr.out.1 sizeLit rfl (by simp [Value.oneCell']) ?_))
 intro w9 hg9 hgr9 hsz9;have hr9 := Lh (hr6.out.other hgr9 (by omega));have hm9 := Lh (hmw.out.new hgr9);have hown9 := Lh (own_baseP (own_stays hown6.out hgr9 (fun k hk e => by have := (hown6.out.lt k hk).1;injection e with e;have := hsz5.out;omega)) (show w.heap.size ≤ w5.heap.size by have := hsz5.out;omega));clear hgr9 hsz9;go_wp2_with fail
 refine bodyPost_ret (v := .agg #[.int .i64 x6.k,.string x6.p,.slice va x6.a.length vc,.bool x6.l.1,.string x6.l.2,.bool x6.r.1,.string x6.r.2]) (results_cell_row rfl _ _ w.heap.size 59 _ (0,0) _ rfl hg9.out Tryd.underlying59 rfl sizeLit) rfl ?_;exact ⟨_,x6,rfl,⟨_,rfl,hown9.out⟩,hx6.out,hr9.out,hm9.out⟩
theorem re_lit_pos {w : World} {b : Nat} {s : ByteArray} {p : Nat} (h : Rd w b s (p : Int) false) {x : Bs} {q : Nat} (hs : smallB (pk (bl s) p) = true) (hx : rRun (bl s) p = .ok (x,q)) (hnot : ¬ x = sNot) (hres : reservedB x = false) (h33 : ¬ pk (bl s) (rSkip (bl s) q) = 33) :
    Calls Tryd.prog 62 #[.pointer (some ⟨b,0,none⟩)] w (RePost b s w (VLit w.heap.size) (rLit (bl s) p)) := by
 have hbl := h.lt;have hA := h.below ((Below.refl w.heap.size w).al (.cells litZ 59));have hen := fun w h => re_end (w := w) (b := b) (s := s) (p := (p : Int)) (d := false) h;have hpk := fun w h => re_peek (w := w) (b := b) (s := s) (p := (p : Int)) (d := false) h;have hdc : Hid (Drawn (w.alloc (.cells litZ 59)) (w.alloc (.cells litZ 59))) := Lh (Drawn.refl _)
 obtain ⟨a0,a1,a2,-⟩ := hA.cells
 have hlt : p < s.size := by
  rcases Nat.lt_or_ge p s.size with h | h
  · exact h
  · rw [(pe_out s p (by omega)).2] at hs;cases hs
 rw [show decide ((s.size : Int) ≤ (p : Int)) = false from decide_eq_false (by omega)] at hen;rw [pe_in s p hlt] at hpk;have hsm := fun w => r8_small (pk (bl s) p) w;rw [hs] at hsm;have hrn := fun w h => re_run (w := w) (b := b) (s := s) (p := p) h
 have hR0 : rLit (bl s) p = (rRun (bl s) p).bind fun x =>
  if x.1 = sNot then rNot (bl s) x.2
  else if reservedB x.1 then .error (x.2 : Int)
  else if pk (bl s) (rSkip (bl s) x.2) = 33 then rUnlike (bl s) (false,mk x.1) (rSkip (bl s) x.2)
  else (rArgs (bl s) (rSkip (bl s) x.2)).bind fun a => .ok (⟨1,mk x.1,a.1,(false,⟨#[]⟩),(false,⟨#[]⟩)⟩,a.2) := by unfold rLit;rw [if_pos hs]
 rw [hx] at hrn hR0;unfold RePost at hrn;obtain ⟨R,hRd⟩ : ∃ R,R = rLit (bl s) p := ⟨_,rfl⟩;rw [← hRd] at hR0 ⊢;clear hx hs hRd;generalize pk (bl s) p = c at hpk hsm;replace hrn := Lh hrn;have hstr := eq_str (mk x) sNot;rw [bl_mk,decide_eq_false hnot] at hstr;unfold sNot at hstr;have hrs := fun w => r8_Reserved (mk x) w;rw [bl_mk,hres] at hrs
 have har := fun w h => re_args (w := w) (b := b) (s := s) (S := .ok (rSkip (bl s) q)) h;obtain ⟨Z,hZ⟩ : ∃ Z,Z = rArgs (bl s) (rSkip (bl s) q) := ⟨_,rfl⟩;have haeq : ∀ S : Except Int Nat,S = .ok (rSkip (bl s) q) → S.bind (rArgs (bl s)) = Z := fun S h => by rw [h,hZ];rfl
 rw [haeq _ rfl] at har;unfold RePost VArgs at har;replace har := Lh har
 have hR : Hid (R = Z.bind fun a => .ok (⟨1,mk x,a.1,(false,⟨#[]⟩),(false,⟨#[]⟩)⟩,a.2)) := Lh (by
  rw [hR0,hZ];show (if x = sNot then _ else if reservedB x = true then _ else if pk (bl s) (rSkip (bl s) q) = 33 then _ else _) = _;rw [if_neg hnot,if_neg (by rw [hres];decide),if_neg h33])
 have hsk := Lh fun w h => re_skip_ok (w := w) (b := b) (s := s) (p := q) h;have hpk2 := fun w h => re_peek (w := w) (b := b) (s := s) (p := (rSkip (bl s) q : Nat)) (d := false) h;have hne : (pe s ((rSkip (bl s) q : Nat) : Int) == 33) = false := by rw [beq_eq_false_iff_ne];exact fun h => h33 ((pe_eq s _ 33 (by decide)).1 h)
 clear hR0 hres haeq h33 hZ;generalize rSkip (bl s) q = q1 at har hsk hpk2 hne;generalize pe s (q1 : Int) = c1 at hpk2 hne;go_enter Tryd.func62,Tryd.ntmps62
 go_wp2_with (first
   | (go_at_call 23;refine (hen _ (hA.drawn hdc.out)).mono ?_;rintro e w1 ⟨rfl,hd1⟩;replace hdc := Lh (hdc.out.trans hd1);have hr1 := hA.drawn hdc.out;obtain ⟨e0,e1,e2,e3,e4⟩ := hr1.cells;clear hd1)
   | (go_at_call 38;refine (hpk _ (hA.drawn hdc.out)).mono ?_;rintro e w1 ⟨rfl,hd1⟩;replace hdc := Lh (hdc.out.trans hd1);have hr1 := hA.drawn hdc.out;obtain ⟨e0,e1,e2,e3,e4⟩ := hr1.cells;clear hd1 hpk)
   | (go_at_call 39;refine (hsm _).mono ?_;rintro e w' ⟨rfl,rfl⟩)
   | (go_at_call 41;refine (hrn.out _ (hA.drawn hdc.out)).mono ?_;rintro e w3 ⟨v3,x3,rfl,hv3,hx3,hr30,hm30⟩;unfold VStr at hv3;subst hv3;obtain rfl : x3 = x := hx3 _ rfl;have hr3 : Rd w3 b s (q : Int) false := hr30;obtain ⟨g0,g1,g2,g3,g4⟩ := hr3.cells;have hm3 := Lh ((Mvd.of (b := b) (hdc.out.below _)).trans hm30);clear hm30 hx3 hr30)
   | (go_at_call 45;refine (hrs _).mono ?_;rintro e w' ⟨rfl,rfl⟩)
   | (go_at_call 22;refine (hsk.out _ hr3).mono ?_;rintro e w4 ⟨rfl,hr40,hm40⟩;have hr4 := hr40;obtain ⟨kk0,kk1,kk2,kk3,kk4⟩ := hr4.cells;have hm4 := Lh (hm3.out.trans hm40);clear hr40 hm40)
   | (go_at_call 38;refine (hpk2 _ hr4).mono ?_;rintro e w5 ⟨rfl,hd5⟩;have hr5 := Lh ((hr4.drawn hd5).below ((Below.refl w5.heap.size w5).al (.cells #[.string ⟨#[]⟩,.slice none 0 0] 49)));have hm5 := Lh ((hm4.out.trans (Mvd.of (hd5.below _))).trans (Mvd.of ((Below.refl w5.heap.size w5).al (.cells #[.string ⟨#[]⟩,.slice none 0 0] 49))))
      have hlt5 : Hid (w.heap.size < w5.heap.size) := Lh (Array.getElem?_eq_some_iff.1 (cell_res (hm4.out.trans (Mvd.of (hd5.below _))) hbl).1).1;have hz5 := Lh (heap_alloc_new w5 (.cells #[.string ⟨#[]⟩,.slice none 0 0] 49));clear hd5)
   | (refine wpList_store_rowA rfl 49 (.tmp 6) (.tmp 78) rfl w5.heap.size #[.string (mk x3),.slice none 0 0] rfl rfl 49 #[.string ⟨#[]⟩,.slice none 0 0] hz5.out sizeAtom rfl (by simp [Value.oneCell']) ?_))
 intro w6 hg6 hgr6 hsz6;have hr6 := Lh (hr5.out.other hgr6 (by have := hlt5.out;omega));have hm6 := Lh (hm5.out.newr hgr6 (by rw [World.size_alloc];have := hlt5.out;omega));have hz6 : Hid (w6.heap.size = w5.heap.size + 1) := Lh hsz6.out;generalize w5.heap.size = ga at hg6 hlt5 hz6 ⊢;clear hgr6 hsz6 hz5 hr5 hm5
 go_wp2_with (first
   | (go_at_call 46;refine (har.out _ hr6.out).mono ?_;rintro e w7 ⟨v7,x7,rfl,hv7,hx70,hr70,hm70⟩;obtain ⟨va,vc,rfl,-⟩ := own_slice hv7;have hx7 := Lh hx70;have hg7 := (hm70.block ga (by have := hz6.out;omega) (fun e => by injection e with e;have := hlt5.out;omega)).trans hg6.out;have hm7 := Lh (hm6.out.trans hm70)
      have f1 : w7.frozen? ⟨ga,1,none⟩ = false := by simp [World.frozen?,hg7]
      have f0 : w7.cell? ⟨ga,1,none⟩ = some (.slice none 0 0) := by simp [World.cell?,hg7]
      have hg8 := Go.heap_setCell_same w7 ga 1 _ _ (.slice va x7.length vc) hg7;have m0 := (cell_of_row _ _ 0 _ _ _ hg8).trans rfl;have m1 := (cell_of_row _ _ 1 _ _ _ hg8).trans rfl;have hmm := (Mvd.refl ga w7).set 1 (.slice va x7.length vc);have hr8 := Lh (Rs.other hr70 hmm (by have := hlt5.out;omega))
      have hm8 := Lh (hm7.out.newr hmm (by have := hlt5.out;rw [World.size_alloc];omega));have hown8 := Lh (own_stays hv7 hmm (fun k hk e => by have := (hv7.lt k hk).1;have := hz6.out;injection e with e;omega));have hcr := Lh (cell_res hm8.out hbl);have hmw := Lh hcr.out.2;replace hg8 := Lh hg8;clear hx70 hr70 hm70 hmm hv7 hg7 hm7)
   | (refine wpList_store_rowA rfl 59 (.tmp 2) (.tmp 83) rfl w.heap.size #[.int .i64 1,.string (mk x3),.slice va x7.length vc,.bool false,.string ⟨#[]⟩,.bool false,.string ⟨#[]⟩] rfl rfl 59 litZ hcr.out.1 sizeLit rfl (by simp [Value.oneCell']) ?_))
 intro w9 hg9 hgr9 hsz9;have hr9 := Lh (hr8.out.other hgr9 (by omega));have hm9 := Lh (hmw.out.new hgr9);have hown9 := Lh (own_baseP (own_stays hown8.out hgr9 (fun k hk e => by have := (hown8.out.lt k hk).1;injection e with e;have := hz6.out;have := hlt5.out;omega)) (show w.heap.size ≤ w6.heap.size by have := hz6.out;have := hlt5.out;omega));clear hgr9 hsz9
 go_wp2_with fail;refine bodyPost_ret (v := .agg #[.int .i64 1,.string (mk x3),.slice va x7.length vc,.bool false,.string ⟨#[]⟩,.bool false,.string ⟨#[]⟩]) (results_cell_row rfl _ _ w.heap.size 59 _ (0,0) _ rfl hg9.out Tryd.underlying59 rfl sizeLit) rfl ?_;rw [hR.out]
 refine ⟨_,(⟨1,mk x3,x7,(false,⟨#[]⟩),(false,⟨#[]⟩)⟩ : PLit),rfl,⟨_,rfl,hown9.out⟩,fun y hy => ?_,by rw [map_pos];exact hr9.out,hm9.out⟩
 cases Z with
 | error e => cases hy
 | ok z => injection hy with hy;rw [← hy,hx7.out _ rfl]
theorem re_lit_not {w : World} {b : Nat} {s : ByteArray} {p : Nat} (h : Rd w b s (p : Int) false) {q : Nat} (hs : smallB (pk (bl s) p) = true) (hx : rRun (bl s) p = .ok (sNot,q)) :
    Calls Tryd.prog 62 #[.pointer (some ⟨b,0,none⟩)] w (RePost b s w (VLit w.heap.size) (rLit (bl s) p)) := by
 have hbl := h.lt;have hA := h.below ((Below.refl w.heap.size w).al (.cells litZ 59));have hen := fun w h => re_end (w := w) (b := b) (s := s) (p := (p : Int)) (d := false) h;have hpk := fun w h => re_peek (w := w) (b := b) (s := s) (p := (p : Int)) (d := false) h;have hdc : Hid (Drawn (w.alloc (.cells litZ 59)) (w.alloc (.cells litZ 59))) := Lh (Drawn.refl _)
 obtain ⟨a0,a1,a2,-⟩ := hA.cells
 have hlt : p < s.size := by
  rcases Nat.lt_or_ge p s.size with h | h
  · exact h
  · rw [(pe_out s p (by omega)).2] at hs;cases hs
 rw [show decide ((s.size : Int) ≤ (p : Int)) = false from decide_eq_false (by omega)] at hen;rw [pe_in s p hlt] at hpk;have hsm := fun w => r8_small (pk (bl s) p) w;rw [hs] at hsm;have hrn := fun w h => re_run (w := w) (b := b) (s := s) (p := p) h
 have hR0 : rLit (bl s) p = (rRun (bl s) p).bind fun x =>
  if x.1 = sNot then rNot (bl s) x.2
  else if reservedB x.1 then .error (x.2 : Int)
  else if pk (bl s) (rSkip (bl s) x.2) = 33 then rUnlike (bl s) (false,mk x.1) (rSkip (bl s) x.2)
  else (rArgs (bl s) (rSkip (bl s) x.2)).bind fun a => .ok (⟨1,mk x.1,a.1,(false,⟨#[]⟩),(false,⟨#[]⟩)⟩,a.2) := by unfold rLit;rw [if_pos hs]
 rw [hx] at hrn hR0;unfold RePost at hrn;obtain ⟨R,hRd⟩ : ∃ R,R = rLit (bl s) p := ⟨_,rfl⟩;rw [← hRd] at hR0 ⊢;clear hx hs hRd;generalize pk (bl s) p = c at hpk hsm;replace hrn := Lh hrn;have hRn : R = rNot (bl s) q := by rw [hR0];simp [Except.bind]
 have hsk := Lh fun w h => re_skip_ok (w := w) (b := b) (s := s) (p := q) h;obtain ⟨x,hxs,hstr⟩ : ∃ x,x = sNot ∧ ((mk x).toList == [110,111,116]) = true := ⟨sNot,rfl,by have := eq_str (mk sNot) sNot;rw [bl_mk,decide_eq_true rfl] at this;exact this⟩;rw [← hxs] at hrn;clear hR0 hxs
 cases hw : wordlyI (pk (bl s) q) with
 | true =>
  have hR : Hid (R = .error (q : Int)) := Lh (by rw [hRn];unfold rNot;rw [if_pos hw]);have hskq : rSkip (bl s) q = q := word_skip hw;rw [hskq] at hsk;have hwo := fun w h => re_wordly (w := w) (b := b) (s := s) (p := q) h;rw [hw] at hwo;have hat := fun w h => re_atom (w := w) (b := b) (s := s) (S := .error (q : Int)) h
  have hateq : ∀ S : Except Int Nat,S = .error (q : Int) → S.bind (rAtom (bl s)) = .error (q : Int) := fun S h => by rw [h];rfl
  rw [hateq _ rfl] at hat;unfold RePost at hat;replace hat := Lh hat;clear hRn hw hskq hateq;go_enter Tryd.func62,Tryd.ntmps62
  go_wp2_with (first
    | (go_at_call 23;refine (hen _ (hA.drawn hdc.out)).mono ?_;rintro e w1 ⟨rfl,hd1⟩;replace hdc := Lh (hdc.out.trans hd1);have hr1 := hA.drawn hdc.out;obtain ⟨e0,e1,e2,e3,e4⟩ := hr1.cells;clear hd1)
    | (go_at_call 38;refine (hpk _ (hA.drawn hdc.out)).mono ?_;rintro e w1 ⟨rfl,hd1⟩;replace hdc := Lh (hdc.out.trans hd1);have hr1 := hA.drawn hdc.out;obtain ⟨e0,e1,e2,e3,e4⟩ := hr1.cells;clear hd1 hpk)
    | (go_at_call 39;refine (hsm _).mono ?_;rintro e w' ⟨rfl,rfl⟩)
    | (go_at_call 41;refine (hrn.out _ (hA.drawn hdc.out)).mono ?_;rintro e w3 ⟨v3,x3,rfl,hv3,hx3,hr30,hm30⟩;unfold VStr at hv3;subst hv3;obtain rfl : x3 = x := hx3 _ rfl;have hr3 : Rd w3 b s (q : Int) false := hr30;obtain ⟨g0,g1,g2,g3,g4⟩ := hr3.cells;have hm3 := Lh ((Mvd.of (b := b) (hdc.out.below _)).trans hm30);clear hm30 hx3 hr30)
    | (go_at_call 22;refine (hsk.out _ hr3).mono ?_;rintro e w4 ⟨rfl,hr40,hm40⟩;have hr4 := hr40;obtain ⟨kk0,kk1,kk2,kk3,kk4⟩ := hr4.cells;have hm4 := Lh (hm3.out.trans hm40);clear hr40 hm40)
    | (go_at_call 57;refine (hwo _ hr4).mono ?_;rintro e w5 ⟨rfl,hd5⟩;have hr5 := hr4.drawn hd5;obtain ⟨kl0,kl1,kl2,kl3,kl4⟩ := hr5.cells;have hm5 := Lh (hm4.out.trans (Mvd.of (hd5.below _)));clear hd5)
    | (go_at_call 40;refine (re_stop hr5 (q : Int) (by omega) hr5.le).mono ?_;rintro e w6 ⟨rfl,hr60,hm60⟩;have hr6 : Hid (Rs w6 b s (.error (q : Int))) := Lh hr60;have hm6 := Lh (hm5.out.trans hm60);clear hr60 hm60)
    | (go_at_call 76;refine (hat.out _ hr6.out).mono ?_;rintro e w7 ⟨v7,x7,rfl,⟨av,rfl,hv7⟩,hx70,hr70,hm70⟩;obtain ⟨va,vc,rfl,-⟩ := own_slice hv7;have hx7 := Lh hx70;have hr7 := Lh hr70;have hcr := Lh (cell_res (hm6.out.trans hm70) hbl);have hmw := Lh hcr.out.2
       have hszb : Hid (w.heap.size < w6.heap.size) := Lh (Array.getElem?_eq_some_iff.1 (cell_res hm6.out hbl).1).1;have hown7 := Lh hv7;clear hx70 hr70 hm70 hv7)
    | (refine wpList_store_rowA rfl 59 (.tmp 2) (.tmp 58) rfl w.heap.size #[.int .i64 2,.string x7.1,.slice va x7.2.length vc,.bool false,.string ⟨#[]⟩,.bool false,.string ⟨#[]⟩] rfl rfl 59 litZ hcr.out.1 sizeLit rfl (by simp [Value.oneCell']) ?_))
  intro w9 hg9 hgr9 hsz9;have hr9 := Lh (hr7.out.other hgr9 (by omega));have hm9 := Lh (hmw.out.new hgr9);have hown9 := Lh (own_baseP (own_stays hown7.out hgr9 (fun k hk e => by have := (hown7.out.lt k hk).1;injection e with e;have := hszb.out;omega)) (show w.heap.size ≤ w6.heap.size by have := hszb.out;omega));clear hgr9 hsz9;go_wp2_with fail
  refine bodyPost_ret (v := .agg #[.int .i64 2,.string x7.1,.slice va x7.2.length vc,.bool false,.string ⟨#[]⟩,.bool false,.string ⟨#[]⟩]) (results_cell_row rfl _ _ w.heap.size 59 _ (0,0) _ rfl hg9.out Tryd.underlying59 rfl sizeLit) rfl ?_;rw [hR.out];refine ⟨_,(⟨2,x7.1,x7.2,(false,⟨#[]⟩),(false,⟨#[]⟩)⟩ : PLit),rfl,⟨_,rfl,hown9.out⟩,fun y hy => ?_,?_,hm9.out⟩
  · cases hy
  · exact hr9.out
 | false =>
  have hat := fun w h => re_atom (w := w) (b := b) (s := s) (S := .ok (rSkip (bl s) q)) h;obtain ⟨Z,hZ⟩ : ∃ Z,Z = rAtom (bl s) (rSkip (bl s) q) := ⟨_,rfl⟩;have hateq : ∀ S : Except Int Nat,S = .ok (rSkip (bl s) q) → S.bind (rAtom (bl s)) = Z := fun S h => by rw [h,hZ];rfl
  rw [hateq _ rfl] at hat;unfold RePost at hat;replace hat := Lh hat;have hR : Hid (R = Z.bind fun a => .ok (⟨2,a.1.1,a.1.2,(false,⟨#[]⟩),(false,⟨#[]⟩)⟩,a.2)) := Lh (by rw [hRn,hZ];unfold rNot;rw [if_neg (by rw [hw];decide)]);clear hRn hateq hZ
  by_cases hqq : rSkip (bl s) q = q
  · rw [hqq] at hsk hat;have hwo := fun w h => re_wordly (w := w) (b := b) (s := s) (p := q) h;rw [hw] at hwo;clear hqq hw;go_enter Tryd.func62,Tryd.ntmps62
    go_wp2_with (first
      | (go_at_call 23;refine (hen _ (hA.drawn hdc.out)).mono ?_;rintro e w1 ⟨rfl,hd1⟩;replace hdc := Lh (hdc.out.trans hd1);have hr1 := hA.drawn hdc.out;obtain ⟨e0,e1,e2,e3,e4⟩ := hr1.cells;clear hd1)
      | (go_at_call 38;refine (hpk _ (hA.drawn hdc.out)).mono ?_;rintro e w1 ⟨rfl,hd1⟩;replace hdc := Lh (hdc.out.trans hd1);have hr1 := hA.drawn hdc.out;obtain ⟨e0,e1,e2,e3,e4⟩ := hr1.cells;clear hd1 hpk)
      | (go_at_call 39;refine (hsm _).mono ?_;rintro e w' ⟨rfl,rfl⟩)
      | (go_at_call 41;refine (hrn.out _ (hA.drawn hdc.out)).mono ?_;rintro e w3 ⟨v3,x3,rfl,hv3,hx3,hr30,hm30⟩;unfold VStr at hv3;subst hv3;obtain rfl : x3 = x := hx3 _ rfl;have hr3 : Rd w3 b s (q : Int) false := hr30;obtain ⟨g0,g1,g2,g3,g4⟩ := hr3.cells;have hm3 := Lh ((Mvd.of (b := b) (hdc.out.below _)).trans hm30);clear hm30 hx3 hr30)
      | (go_at_call 22;refine (hsk.out _ hr3).mono ?_;rintro e w4 ⟨rfl,hr40,hm40⟩;have hr4 := hr40;obtain ⟨kk0,kk1,kk2,kk3,kk4⟩ := hr4.cells;have hm4 := Lh (hm3.out.trans hm40);clear hr40 hm40)
      | (go_at_call 57;refine (hwo _ hr4).mono ?_;rintro e w5 ⟨rfl,hd5⟩;have hr5 := hr4.drawn hd5;obtain ⟨kl0,kl1,kl2,kl3,kl4⟩ := hr5.cells;have hm5 := Lh (hm4.out.trans (Mvd.of (hd5.below _)));clear hd5)
      | (go_at_call 76;refine (hat.out _ hr5).mono ?_;rintro e w7 ⟨v7,x7,rfl,⟨av,rfl,hv7⟩,hx70,hr70,hm70⟩;obtain ⟨va,vc,rfl,-⟩ := own_slice hv7;have hx7 := Lh hx70;have hr7 := Lh hr70;have hcr := Lh (cell_res (hm5.out.trans hm70) hbl);have hmw := Lh hcr.out.2
         have hszb : Hid (w.heap.size < w5.heap.size) := Lh (Array.getElem?_eq_some_iff.1 (cell_res hm5.out hbl).1).1;have hown7 := Lh hv7;clear hx70 hr70 hm70 hv7)
      | (refine wpList_store_rowA rfl 59 (.tmp 2) (.tmp 58) rfl w.heap.size #[.int .i64 2,.string x7.1,.slice va x7.2.length vc,.bool false,.string ⟨#[]⟩,.bool false,.string ⟨#[]⟩] rfl rfl 59 litZ hcr.out.1 sizeLit rfl (by simp [Value.oneCell']) ?_))
    intro w9 hg9 hgr9 hsz9;have hr9 := Lh (hr7.out.other hgr9 (by omega));have hm9 := Lh (hmw.out.new hgr9);have hown9 := Lh (own_baseP (own_stays hown7.out hgr9 (fun k hk e => by have := (hown7.out.lt k hk).1;injection e with e;have := hszb.out;omega)) (show w.heap.size ≤ w5.heap.size by have := hszb.out;omega));clear hgr9 hsz9;go_wp2_with fail
    refine bodyPost_ret (v := .agg #[.int .i64 2,.string x7.1,.slice va x7.2.length vc,.bool false,.string ⟨#[]⟩,.bool false,.string ⟨#[]⟩]) (results_cell_row rfl _ _ w.heap.size 59 _ (0,0) _ rfl hg9.out Tryd.underlying59 rfl sizeLit) rfl ?_;rw [hR.out];refine ⟨_,(⟨2,x7.1,x7.2,(false,⟨#[]⟩),(false,⟨#[]⟩)⟩ : PLit),rfl,⟨_,rfl,hown9.out⟩,fun y hy => ?_,?_,hm9.out⟩
    · cases Z with
    | error e => cases hy
    | ok z => injection hy with hy;rw [← hy,hx7.out _ rfl]
    · rw [map_pos];exact hr9.out
  · have hne : ((rSkip (bl s) q : Nat) : Int) ≠ (q : Int) := by omega
    have hnb : (((rSkip (bl s) q : Nat) : Int) == (q : Int)) = false := by rw [beq_eq_false_iff_ne];exact hne
    clear hqq hw;generalize rSkip (bl s) q = q1 at hsk hat hne hnb;go_enter Tryd.func62,Tryd.ntmps62
    go_wp2_with (first
      | (go_at_call 23;refine (hen _ (hA.drawn hdc.out)).mono ?_;rintro e w1 ⟨rfl,hd1⟩;replace hdc := Lh (hdc.out.trans hd1);have hr1 := hA.drawn hdc.out;obtain ⟨e0,e1,e2,e3,e4⟩ := hr1.cells;clear hd1)
      | (go_at_call 38;refine (hpk _ (hA.drawn hdc.out)).mono ?_;rintro e w1 ⟨rfl,hd1⟩;replace hdc := Lh (hdc.out.trans hd1);have hr1 := hA.drawn hdc.out;obtain ⟨e0,e1,e2,e3,e4⟩ := hr1.cells;clear hd1 hpk)
      | (go_at_call 39;refine (hsm _).mono ?_;rintro e w' ⟨rfl,rfl⟩)
      | (go_at_call 41;refine (hrn.out _ (hA.drawn hdc.out)).mono ?_;rintro e w3 ⟨v3,x3,rfl,hv3,hx3,hr30,hm30⟩;unfold VStr at hv3;subst hv3;obtain rfl : x3 = x := hx3 _ rfl;have hr3 : Rd w3 b s (q : Int) false := hr30;obtain ⟨g0,g1,g2,g3,g4⟩ := hr3.cells;have hm3 := Lh ((Mvd.of (b := b) (hdc.out.below _)).trans hm30);clear hm30 hx3 hr30)
      | (go_at_call 22;refine (hsk.out _ hr3).mono ?_;rintro e w4 ⟨rfl,hr40,hm40⟩;have hr4 := hr40;obtain ⟨kk0,kk1,kk2,kk3,kk4⟩ := hr4.cells;have hm4 := Lh (hm3.out.trans hm40);clear hr40 hm40)
      | (go_at_call 76;refine (hat.out _ hr4).mono ?_;rintro e w7 ⟨v7,x7,rfl,⟨av,rfl,hv7⟩,hx70,hr70,hm70⟩;obtain ⟨va,vc,rfl,-⟩ := own_slice hv7;have hx7 := Lh hx70;have hr7 := Lh hr70;have hcr := Lh (cell_res (hm4.out.trans hm70) hbl);have hmw := Lh hcr.out.2
         have hszb : Hid (w.heap.size < w4.heap.size) := Lh (Array.getElem?_eq_some_iff.1 (cell_res hm4.out hbl).1).1;have hown7 := Lh hv7;clear hx70 hr70 hm70 hv7)
      | (refine wpList_store_rowA rfl 59 (.tmp 2) (.tmp 58) rfl w.heap.size #[.int .i64 2,.string x7.1,.slice va x7.2.length vc,.bool false,.string ⟨#[]⟩,.bool false,.string ⟨#[]⟩] rfl rfl 59 litZ hcr.out.1 sizeLit rfl (by simp [Value.oneCell']) ?_))
    intro w9 hg9 hgr9 hsz9;have hr9 := Lh (hr7.out.other hgr9 (by omega));have hm9 := Lh (hmw.out.new hgr9);have hown9 := Lh (own_baseP (own_stays hown7.out hgr9 (fun k hk e => by have := (hown7.out.lt k hk).1;injection e with e;have := hszb.out;omega)) (show w.heap.size ≤ w4.heap.size by have := hszb.out;omega));clear hgr9 hsz9;go_wp2_with fail
    refine bodyPost_ret (v := .agg #[.int .i64 2,.string x7.1,.slice va x7.2.length vc,.bool false,.string ⟨#[]⟩,.bool false,.string ⟨#[]⟩]) (results_cell_row rfl _ _ w.heap.size 59 _ (0,0) _ rfl hg9.out Tryd.underlying59 rfl sizeLit) rfl ?_;rw [hR.out];refine ⟨_,(⟨2,x7.1,x7.2,(false,⟨#[]⟩),(false,⟨#[]⟩)⟩ : PLit),rfl,⟨_,rfl,hown9.out⟩,fun y hy => ?_,?_,hm9.out⟩
    · cases Z with
    | error e => cases hy
    | ok z => injection hy with hy;rw [← hy,hx7.out _ rfl]
    · rw [map_pos];exact hr9.out
theorem re_lit {w : World} {b : Nat} {s : ByteArray} {S : Except Int Nat} (h : Rs w b s S) :
    Calls Tryd.prog 62 #[.pointer (some ⟨b,0,none⟩)] w (RePost b s w (VLit w.heap.size) (S.bind (rLit (bl s)))) := by
 cases S with
 | error x => exact re_lit_bad h
 | ok p =>
  show Calls _ _ _ _ (RePost b s w _ (rLit (bl s) p))
  cases hs : smallB (pk (bl s) p) with
  | false => exact re_lit_term h hs
  | true =>
   cases hx : rRun (bl s) p with
   | error er => exact re_lit_run h hs hx
   | ok y =>
    obtain ⟨x,q⟩ := y
    by_cases hnot : x = sNot
    · subst hnot;exact re_lit_not h hs hx
    · cases hres : reservedB x with
      | true => exact re_lit_res h hs hx hnot hres
      | false =>
       by_cases h33 : pk (bl s) (rSkip (bl s) q) = 33
       · exact re_lit_unl h hs hx hnot hres h33
       · exact re_lit_pos h hs hx hnot hres h33
end Go.Proofs.YtmjincocmhadeaaDoor
/- Parse: the document's reader: a body. (gen_pen.py) -/
namespace Go.Proofs.YtmjincocmhadeaaDoor
open Go.RowKit Lx
def VBody (lo : Nat) (w : World) (v : Value) (x : List PLit) : Prop := ∃ L : List (PLit × Value),L.map (·.1) = x ∧ Bod w lo v L
theorem infoLitP : (Tryd.prog.info? 59).map (fun i => (i.zero,i.size,i.bytes)) = some (some (.agg #[.int .i64 0,.string ⟨#[]⟩,.slice none 0 0,.bool false,.string ⟨#[]⟩,.bool false,.string ⟨#[]⟩]),7,96) := by kernel_rfl
theorem re_body_bad {w : World} {b : Nat} {s : ByteArray} {p : Int} (h : Rd w b s p true) :
    Calls Tryd.prog 47 #[.pointer (some ⟨b,0,none⟩)] w (RePost b s w (VBody w.heap.size) (.error p)) := by
 have hsk := re_skip_bad h;obtain ⟨c0,c1,c2,-⟩ := h.cells;go_enter Tryd.func47,Tryd.ntmps47
 go_wp2_with (first
   | (go_at_call 22;refine hsk.mono ?_;rintro e w1 ⟨rfl,rfl⟩)
   | (go_at_call 44;refine (re_sign_bad 46 h).mono ?_;rintro e w1 ⟨rfl,rfl⟩))
 go_ret;exact ⟨_,[],rfl,⟨[],rfl,Bod.nil _ _⟩,fun y h => (by cases h),h,Mvd.refl _ _⟩
theorem re_body_none {w : World} {b : Nat} {s : ByteArray} {p : Nat} (h : Rd w b s (p : Int) false) (h58 : ¬ pk (bl s) (rSkip (bl s) p) = 58) :
    Calls Tryd.prog 47 #[.pointer (some ⟨b,0,none⟩)] w (RePost b s w (VBody w.heap.size) (rBody (bl s) p)) := by
 have hR : Hid (rBody (bl s) p = (rSign 46 (bl s) (rSkip (bl s) p)).bind fun q => .ok ([],q)) := Lh (by unfold rBody;rw [if_neg h58]);have hsk := Lh fun w h => re_skip_ok (w := w) (b := b) (s := s) (p := p) h;have hpk := fun w h => re_peek (w := w) (b := b) (s := s) (p := (rSkip (bl s) p : Nat)) (d := false) h
 have hne : (pe s ((rSkip (bl s) p : Nat) : Int) == 58) = false := by
  rw [beq_eq_false_iff_ne];exact fun h => h58 ((pe_eq s _ 58 (by decide)).1 h)
 have hsg := Lh fun w h => re_sign_ok (w := w) (b := b) (s := s) (p := rSkip (bl s) p) 46 (by decide) h;clear h58;generalize rBody (bl s) p = R at hR ⊢;generalize rSkip (bl s) p = q at hR hsk hpk hne hsg;generalize pe s ((q : Nat) : Int) = c at hpk hne;go_enter Tryd.func47,Tryd.ntmps47
 go_wp2_with (first
   | (go_at_call 22;have hg := hsk;refine (hsk.out _ h).mono ?_;rintro e w1 ⟨rfl,hr1,hm10⟩;obtain ⟨e0,e1,e2,e3,e4⟩ := hr1.cells;have hm1 := Lh hm10;clear hm10 hg hsk)
   | (go_at_call 38;have hg := hpk;refine (hpk _ hr1).mono ?_;rintro e w2 ⟨rfl,hd2⟩;have hr2 := hr1.drawn hd2;obtain ⟨f0,f1,f2,f3,f4⟩ := hr2.cells;have hm2 := Lh (hm1.out.trans (Mvd.of (hd2.below _)));clear hd2 hpk hg)
   | (go_at_call 44;refine (hsg.out _ hr2).mono ?_;rintro e w3 ⟨rfl,hr30,hm30⟩;have hr3 := Lh hr30;have hm3 := Lh (hm2.out.trans hm30);clear hr30 hm30))
 go_ret;rw [hR.out];generalize rSign 46 (bl s) q = Z at hr3;refine ⟨_,[],rfl,⟨[],rfl,Bod.nil _ _⟩,fun y hy => ?_,?_,hm3.out⟩
 · cases Z with
   | error e => cases hy
   | ok z => injection hy with hy;rw [← hy]
 · have := hr3.out
   cases Z with
   | error e => exact this
   | ok z => exact this
theorem re_body_half {w : World} {b : Nat} {s : ByteArray} {p : Nat} (h : Rd w b s (p : Int) false) (h58 : pk (bl s) (rSkip (bl s) p) = 58) (h45 : ¬ pk (bl s) (rSkip (bl s) p + 1) = 45) :
    Calls Tryd.prog 47 #[.pointer (some ⟨b,0,none⟩)] w (RePost b s w (VBody w.heap.size) (rBody (bl s) p)) := by
 have hbl := h.lt;have hlen := h.len
 have hlt : rSkip (bl s) p < s.size := by
  rcases Nat.lt_or_ge (rSkip (bl s) p) s.size with h | h
  · exact h
  · have := (pe_out s (rSkip (bl s) p) (by omega)).2;omega
 have hsk := Lh fun w h => re_skip_ok (w := w) (b := b) (s := s) (p := p) h;have hpk := fun w h => re_peek (w := w) (b := b) (s := s) (p := (rSkip (bl s) p : Nat)) (d := false) h;rw [(pe_eq s _ 58 (by decide)).2 h58] at hpk;have hR : Hid (rBody (bl s) p = .error ((rSkip (bl s) p + 1 : Nat) : Int)) := Lh (by unfold rBody rSign;rw [if_pos h58,if_neg h45];rfl)
 have hsm := fun w h => re_sign_ok (w := w) (b := b) (s := s) (p := rSkip (bl s) p + 1) 45 (by decide) h;rw [show rSign 45 (bl s) (rSkip (bl s) p + 1) = .error ((rSkip (bl s) p + 1 : Nat) : Int) from by unfold rSign;rw [if_neg h45]] at hsm;replace hsm := Lh hsm;clear h58 h45;generalize rBody (bl s) p = R at hR ⊢;generalize rSkip (bl s) p = q at hsk hpk hlt hR hsm
 have hstep := Lh fun (w : World) (h : Rd w b s (q : Int) false) => h.move ((q : Int) + 1) (by omega) (by omega);go_enter Tryd.func47,Tryd.ntmps47
 go_wp2_with (first
   | (go_at_call 22;have hg := hsk;refine (hsk.out _ h).mono ?_;rintro e w1 ⟨rfl,hr1,hm10⟩;obtain ⟨e0,e1,e2,e3,e4⟩ := hr1.cells;have hm1 := Lh hm10;clear hm10 hg hsk)
   | (go_at_call 38;have hg := hpk;refine (hpk _ hr1).mono ?_;rintro e w2 ⟨rfl,hd2⟩;have hr2 := hr1.drawn hd2;obtain ⟨f0,f1,f2,f3,f4⟩ := hr2.cells;have hm2 := Lh (hm1.out.trans (Mvd.of (hd2.below _)));clear hd2 hpk hg)
   | (go_at_call 44;refine (hsm.out _ (hstep.out _ hr2)).mono ?_;rintro e w3 ⟨rfl,hr30,hm30⟩;have hm3 := Lh ((hm2.out.trans ((Mvd.refl b _).set 1 (.int .i64 ((q : Int) + 1)))).trans hm30);have hr3 := Lh hr30;clear hr30 hm30 hr1 hr2))
 go_loopw [3] (fun o wr => o = .slice none 0 0 ∧ Hid (Rd wr b s ((q + 1 : Nat) : Int) true) ∧ Hid (Mvd b w wr)) (fun _ _ => 0)
 case atStart => exact ⟨rfl,hr3,hm3⟩
 case round =>
  clear hr3 hm3;obtain ⟨rfl,hr,hm⟩ := hrel;obtain ⟨c0,c1,c2,-⟩ := hr.out.cells
  go_wp2_with (first
    | (go_at_call 44;refine (re_sign_bad 46 hr.out).mono ?_;rintro e w1 ⟨rfl,rfl⟩))
  go_ret;rw [hR.out];exact ⟨_,[],rfl,⟨[],rfl,Bod.nil _ _⟩,fun y h => (by cases h),hr.out,hm.out⟩
theorem re_body_some {w : World} {b : Nat} {s : ByteArray} {p : Nat} (h : Rd w b s (p : Int) false) (h58 : pk (bl s) (rSkip (bl s) p) = 58) (h45 : pk (bl s) (rSkip (bl s) p + 1) = 45) :
    Calls Tryd.prog 47 #[.pointer (some ⟨b,0,none⟩)] w (RePost b s w (VBody w.heap.size) (rBody (bl s) p)) := by
 obtain ⟨it,hit,ht0,ht1,ht2⟩ := info_parts infoLitP;have hbl := h.lt;have hlen := h.len
 have hlt : rSkip (bl s) p < s.size := by
  rcases Nat.lt_or_ge (rSkip (bl s) p) s.size with h | h
  · exact h
  · have := (pe_out s (rSkip (bl s) p) (by omega)).2;omega
 have hsk := Lh fun w h => re_skip_ok (w := w) (b := b) (s := s) (p := p) h;have hpk := fun w h => re_peek (w := w) (b := b) (s := s) (p := (rSkip (bl s) p : Nat)) (d := false) h;rw [(pe_eq s _ 58 (by decide)).2 h58] at hpk;have hR0 : rBody (bl s) p = rBodyN (bl s) 256 (rSkip (bl s) p + 1 + 1) [] := by unfold rBody rSign;rw [if_pos h58,if_pos h45];rfl
 have hsm := fun w h => re_sign_ok (w := w) (b := b) (s := s) (p := rSkip (bl s) p + 1) 45 (by decide) h;rw [show rSign 45 (bl s) (rSkip (bl s) p + 1) = .ok (rSkip (bl s) p + 1 + 1) from by unfold rSign;rw [if_pos h45]] at hsm;replace hsm := Lh hsm;rw [hR0];clear h58 h45 hR0;generalize rSkip (bl s) p = q at hsk hpk hlt hsm ⊢
 have hstep := Lh fun (w : World) (h : Rd w b s (q : Int) false) => h.move ((q : Int) + 1) (by omega) (by omega);obtain ⟨R,hR⟩ : ∃ R,R = rBodyN (bl s) 256 (q + 1 + 1) [] := ⟨_,rfl⟩;rw [← hR];replace hR := Lh hR;go_enter Tryd.func47,Tryd.ntmps47
 go_wp2_with (first
   | (go_at_call 22;have hg := hsk;refine (hsk.out _ h).mono ?_;rintro e w1 ⟨rfl,hr1,hm10⟩;obtain ⟨e0,e1,e2,e3,e4⟩ := hr1.cells;have hm1 := Lh hm10;clear hm10 hg hsk)
   | (go_at_call 38;have hg := hpk;refine (hpk _ hr1).mono ?_;rintro e w2 ⟨rfl,hd2⟩;have hr2 := hr1.drawn hd2;obtain ⟨f0,f1,f2,f3,f4⟩ := hr2.cells;have hm2 := Lh (hm1.out.trans (Mvd.of (hd2.below _)));clear hd2 hpk hg)
   | (go_at_call 44;refine (hsm.out _ (hstep.out _ hr2)).mono ?_;rintro e w3 ⟨rfl,hr30,hm30⟩;have hm3 := Lh ((hm2.out.trans ((Mvd.refl b _).set 1 (.int .i64 ((q : Int) + 1)))).trans hm30);have hr3 := Lh hr30;clear hr30 hm30 hr1 hr2))
 have hr3' : Hid (Rd w3 b s ((q + 1 + 1 : Nat) : Int) false) := hr3;clear hr3 e0 e1 e2 e3 e4 f0 f1 f2 f3 f4 hm1 hm2 hstep hsm
 go_loopw [3] (fun o wr => ∃ (acc : List (PLit × Value)) (va : Option Addr) (vc n j : Nat),o = .slice va acc.length vc ∧ acc.length + (n + 1) = 256 ∧ Hid (Mvd b w wr) ∧ Hid (Bod wr w.heap.size (.slice va acc.length vc) acc) ∧ Hid (Rd wr b s (j : Int) false) ∧ Hid (R = rBodyN (bl s) (n + 1) j (acc.map (·.1)))) (fun o _ => 256 - (match o with | .slice _ n _ => n | _ => 0))
 case atStart => exact ⟨[],none,0,255,q + 1 + 1,rfl,rfl,hm3,Lh (Bod.nil _ _),hr3',hR⟩
 case round =>
  clear hr3' hm3 hR;obtain ⟨acc,va,vc,n,j,rfl,hn,hm,hown,hr,hR⟩ := hrel;obtain ⟨c0,c1,c2,-⟩ := hr.out.cells;have hsk1 := Lh fun w h => re_skip_ok (w := w) (b := b) (s := s) (p := j) h
  have hU : Hid (R = (rLit (bl s) (rSkip (bl s) j)).bind fun x => if pk (bl s) (rSkip (bl s) x.2) = 44 then (if n = 0 then .error (rSkip (bl s) x.2 : Int) else rBodyN (bl s) n (rSkip (bl s) x.2 + 1) (acc.map (·.1) ++ [x.1])) else (rSign 46 (bl s) (rSkip (bl s) x.2)).bind fun q => .ok (acc.map (·.1) ++ [x.1],q)) := Lh (hR.out.trans rfl)
  have hte := fun w h => re_lit (w := w) (b := b) (s := s) (S := .ok (rSkip (bl s) j)) h;have hteq : ∀ S : Except Int Nat,S = .ok (rSkip (bl s) j) → S.bind (rLit (bl s)) = rLit (bl s) (rSkip (bl s) j) := fun S h => by rw [h];rfl
  rw [hteq _ rfl] at hte;have h63 : Hid (acc.length + 1 ≤ maxLen) := Lh (by unfold maxLen;omega);clear hR hteq
  cases hx : rLit (bl s) (rSkip (bl s) j) with
  | error er =>
   rw [hx] at hU hte;unfold RePost at hte;replace hte := Lh hte;clear hx;generalize rSkip (bl s) j = j1 at hsk1 hte
   go_wp2_with (first
     | (go_at_call 22;refine (hsk1.out _ hr.out).mono ?_;rintro e w2 ⟨rfl,hr20,hm20⟩;have hr2 := Lh hr20;have hm2 := Lh (hm.out.trans hm20);have hown2 := Lh (hown.out.mvd hm20 hbl);clear hsk1 hr20 hm20)
     | (go_at_call 62;refine (hte.out _ hr2.out).mono ?_;rintro e w3 ⟨v3,x3,rfl,hv30,hx30,hr30,hm30⟩;obtain ⟨ua,uc,rfl,hu30⟩ := hv30.slice;have hx3 := Lh hx30;have hr3 := Lh hr30;have hm3 := Lh (hm2.out.trans hm30);have hu3 := Lh (own_baseP hu30 hm2.out.size);have hown3 := Lh (hown2.out.mvd hm30 hbl);clear hx30 hr30 hm30 hv30 hu30)
     | (at_builtin;refine wpList_append_anyP rfl (.tmp 32) (.tmp 35) 50 rfl w.heap.size 59 it (.agg #[.int .i64 0,.string ⟨#[]⟩,.slice none 0 0,.bool false,.string ⟨#[]⟩,.bool false,.string ⟨#[]⟩]) 7 96 Tryd.underlying50 hit ht0 ht1 ht2 rfl (by decide) _ acc.length (flatLV acc) rfl (hown3.out.own.alloc _) (some ⟨w3.heap.size,0,none⟩) 1 1 [.int .i64 x3.k,.string x3.p,.slice ua x3.a.length uc,.bool x3.l.1,.string x3.l.2,.bool x3.r.1,.string x3.r.2] rfl rfl (fun j u hj => ⟨_,rfl,own_cells_row rfl rfl j u hj⟩) (by intro u hu;simp at hu;rcases hu with rfl | rfl | rfl | rfl | rfl | rfl | rfl <;> rfl) h63.out (by omega) (by rw [World.size_alloc];have := hm3.out.size;omega) ?_))
   intro v4 w4 hown4 hgr4;have hlow := grown_lowG hown3.out.own hm3.out.size hgr4;have hm4 := Lh (hm3.out.low hgr4 hlow);have hr4 := Lh (hr3.out.low hlow hbl);have hbp := Bod.push hown3.out hu3.out hgr4 hown4;obtain ⟨vb,vd,rfl,-⟩ := own_slice hown4;have hlen4 : (acc ++ [(x3,Value.slice ua x3.a.length uc)]).length = acc.length + 1 := by rw [List.length_append];rfl
   have hown5 : Hid (Bod w4 w.heap.size (.slice vb (acc.length + 1) vd) (acc ++ [(x3,Value.slice ua x3.a.length uc)])) := Lh hbp;clear hgr4 hown4 hlow hbp;have hr4' : Rd w4 b s er true := hr4.out
   go_wp2_with (first
     | (go_at_call 22;refine (re_skip_bad hr4').mono ?_;rintro e w5 ⟨rfl,rfl⟩;obtain ⟨g0,g1,g2,g3,g4⟩ := hr4'.cells)
     | (go_at_call 44;refine (re_sign_bad 46 hr4').mono ?_;rintro e w6 ⟨rfl,rfl⟩))
   go_ret;rw [hU.out];exact ⟨_,(acc ++ [(x3,Value.slice ua x3.a.length uc)]).map (·.1),rfl,⟨_,rfl,hown5.out⟩,fun y h => (by cases h),hr4',hm4.out⟩
  | ok y =>
   obtain ⟨x,k⟩ := y;rw [hx] at hU hte;unfold RePost at hte;replace hte := Lh hte;clear hx;have hU2 : Hid (R = if pk (bl s) (rSkip (bl s) k) = 44 then (if n = 0 then .error (rSkip (bl s) k : Int) else rBodyN (bl s) n (rSkip (bl s) k + 1) (acc.map (·.1) ++ [x])) else (rSign 46 (bl s) (rSkip (bl s) k)).bind fun q => .ok (acc.map (·.1) ++ [x],q)) := Lh hU.out;clear hU
   have hsk2 := Lh fun w h => re_skip_ok (w := w) (b := b) (s := s) (p := k) h;have hpk := fun w h => re_peek (w := w) (b := b) (s := s) (p := (rSkip (bl s) k : Nat)) (d := false) h;have hsg := Lh fun w h => re_sign_ok (w := w) (b := b) (s := s) (p := rSkip (bl s) k) 46 (by decide) h
   have hmx : Hid (rSkip (bl s) k < s.size ∨ ¬ pk (bl s) (rSkip (bl s) k) = 44) := Lh (by
    rcases Nat.lt_or_ge (rSkip (bl s) k) s.size with h | h
    · exact .inl h
    · right;rw [(pe_out s (rSkip (bl s) k) (by omega)).2];decide)
   have h44 := pe_eq s (rSkip (bl s) k) 44 (by decide);generalize rSkip (bl s) j = j1 at hsk1 hte;generalize rSkip (bl s) k = k1 at hU2 hsk2 hpk hsg hmx h44
   by_cases hc : pk (bl s) k1 = 44
   · rw [h44.2 hc] at hpk;have hklt : k1 < s.size := by rcases hmx.out with h | h;exact h;exact absurd hc h
     have hU3 : Hid (R = if n = 0 then .error (k1 : Int) else rBodyN (bl s) n (k1 + 1) (acc.map (·.1) ++ [x])) := Lh (by rw [hU2.out,if_pos hc]);clear hU2 hc h44 hmx hsg;have hstep := Lh fun (w : World) (h : Rd w b s (k1 : Int) false) => h.move ((k1 : Int) + 1) (by omega) (by omega)
     by_cases hn0 : n = 0
     · have hU4 : Hid (R = .error (k1 : Int)) := Lh (by rw [hU3.out,if_pos hn0]);have hl15 : Hid (acc.length = 255) := Lh (by omega);have hacc16 : acc.length < 256 := by omega
       clear hU3 hn hn0
       go_wp2_with (first
         | (go_at_call 22;refine (hsk1.out _ hr.out).mono ?_;rintro e w2 ⟨rfl,hr20,hm20⟩;have hr2 := Lh hr20;have hm2 := Lh (hm.out.trans hm20);have hown2 := Lh (hown.out.mvd hm20 hbl);clear hsk1 hr20 hm20)
         | (go_at_call 62;refine (hte.out _ hr2.out).mono ?_;rintro e w3 ⟨v3,x3,rfl,hv30,hx30,hr30,hm30⟩;obtain ⟨ua,uc,rfl,hu30⟩ := hv30.slice;have hx3 := Lh hx30;have hr3 := Lh hr30;have hm3 := Lh (hm2.out.trans hm30);have hu3 := Lh (own_baseP hu30 hm2.out.size);have hown3 := Lh (hown2.out.mvd hm30 hbl);clear hx30 hr30 hm30 hv30 hu30)
         | (at_builtin;refine wpList_append_anyP rfl (.tmp 32) (.tmp 35) 50 rfl w.heap.size 59 it (.agg #[.int .i64 0,.string ⟨#[]⟩,.slice none 0 0,.bool false,.string ⟨#[]⟩,.bool false,.string ⟨#[]⟩]) 7 96 Tryd.underlying50 hit ht0 ht1 ht2 rfl (by decide) _ acc.length (flatLV acc) rfl (hown3.out.own.alloc _) (some ⟨w3.heap.size,0,none⟩) 1 1 [.int .i64 x3.k,.string x3.p,.slice ua x3.a.length uc,.bool x3.l.1,.string x3.l.2,.bool x3.r.1,.string x3.r.2] rfl rfl (fun j u hj => ⟨_,rfl,own_cells_row rfl rfl j u hj⟩) (by intro u hu;simp at hu;rcases hu with rfl | rfl | rfl | rfl | rfl | rfl | rfl <;> rfl) h63.out (by omega) (by rw [World.size_alloc];have := hm3.out.size;omega) ?_))
       intro v4 w4 hown4 hgr4;have hlow := grown_lowG hown3.out.own hm3.out.size hgr4;have hm4 := Lh (hm3.out.low hgr4 hlow);have hr4 := Lh (hr3.out.low hlow hbl);have hbp := Bod.push hown3.out hu3.out hgr4 hown4;obtain ⟨vb,vd,rfl,-⟩ := own_slice hown4;have hlen4 : (acc ++ [(x3,Value.slice ua x3.a.length uc)]).length = acc.length + 1 := by rw [List.length_append];rfl
       have hown5 : Hid (Bod w4 w.heap.size (.slice vb (acc.length + 1) vd) (acc ++ [(x3,Value.slice ua x3.a.length uc)])) := Lh hbp;clear hgr4 hown4 hlow hbp;have hr4' : Rd w4 b s (k : Int) false := hr4.out;have h16 : ((acc.length : Int) + 1 == 256) = true := by rw [beq_iff_eq];have := hl15.out;omega
       go_wp2_with (first
         | (go_at_call 22;have hg := hsk2;refine (hsk2.out _ hr4').mono ?_;rintro e w5 ⟨rfl,hr5,hm50⟩;obtain ⟨g0,g1,g2,g3,g4⟩ := hr5.cells;have hm5 := Lh (hm4.out.trans hm50);have hown6 := Lh (hown5.out.mvd hm50 hbl);clear hsk2 hm50 hg)
         | (go_at_call 38;refine (hpk _ hr5).mono ?_;rintro e w6 ⟨rfl,hd6⟩;have hr6 := hr5.drawn hd6;obtain ⟨kk0,kk1,kk2,kk3,kk4⟩ := hr6.cells;have hm6 := Lh (hm5.out.trans (Mvd.of (hd6.below _)));have hown7 := Lh (hown6.out.mvd (Mvd.of (hd6.below _)) hbl);clear hd6)
         | (go_at_call 40;refine (re_stop hr6 _ (by omega) hr6.le).mono ?_;rintro e w7 ⟨rfl,hr7,hm70⟩;have hm7 := Lh (hm6.out.trans hm70);have hown8 := Lh (hown7.out.mvd hm70 hbl);clear hm70)
         | (go_at_call 44;refine (re_sign_bad 46 hr7).mono ?_;rintro e w8 ⟨rfl,rfl⟩))
       go_ret;rw [hU4.out];exact ⟨_,(acc ++ [(x3,Value.slice ua x3.a.length uc)]).map (·.1),rfl,⟨_,rfl,hown8.out⟩,fun y h => (by cases h),hr7,hm7.out⟩
     · obtain ⟨n',rfl⟩ : ∃ n',n = n' + 1 := ⟨n - 1,by omega⟩;have hU4 : Hid (R = rBodyN (bl s) (n' + 1) (k1 + 1) (acc.map (·.1) ++ [x])) := Lh (by rw [hU3.out,if_neg hn0]);clear hU3
       go_wp2_with (first
         | (go_at_call 22;refine (hsk1.out _ hr.out).mono ?_;rintro e w2 ⟨rfl,hr20,hm20⟩;have hr2 := Lh hr20;have hm2 := Lh (hm.out.trans hm20);have hown2 := Lh (hown.out.mvd hm20 hbl);clear hsk1 hr20 hm20)
         | (go_at_call 62;refine (hte.out _ hr2.out).mono ?_;rintro e w3 ⟨v3,x3,rfl,hv30,hx30,hr30,hm30⟩;obtain ⟨ua,uc,rfl,hu30⟩ := hv30.slice;have hx3 := Lh hx30;have hr3 := Lh hr30;have hm3 := Lh (hm2.out.trans hm30);have hu3 := Lh (own_baseP hu30 hm2.out.size);have hown3 := Lh (hown2.out.mvd hm30 hbl);clear hx30 hr30 hm30 hv30 hu30)
         | (at_builtin;refine wpList_append_anyP rfl (.tmp 32) (.tmp 35) 50 rfl w.heap.size 59 it (.agg #[.int .i64 0,.string ⟨#[]⟩,.slice none 0 0,.bool false,.string ⟨#[]⟩,.bool false,.string ⟨#[]⟩]) 7 96 Tryd.underlying50 hit ht0 ht1 ht2 rfl (by decide) _ acc.length (flatLV acc) rfl (hown3.out.own.alloc _) (some ⟨w3.heap.size,0,none⟩) 1 1 [.int .i64 x3.k,.string x3.p,.slice ua x3.a.length uc,.bool x3.l.1,.string x3.l.2,.bool x3.r.1,.string x3.r.2] rfl rfl (fun j u hj => ⟨_,rfl,own_cells_row rfl rfl j u hj⟩) (by intro u hu;simp at hu;rcases hu with rfl | rfl | rfl | rfl | rfl | rfl | rfl <;> rfl) h63.out (by omega) (by rw [World.size_alloc];have := hm3.out.size;omega) ?_))
       intro v4 w4 hown4 hgr4;have hlow := grown_lowG hown3.out.own hm3.out.size hgr4;have hm4 := Lh (hm3.out.low hgr4 hlow);have hr4 := Lh (hr3.out.low hlow hbl);have hbp := Bod.push hown3.out hu3.out hgr4 hown4;obtain ⟨vb,vd,rfl,-⟩ := own_slice hown4;have hlen4 : (acc ++ [(x3,Value.slice ua x3.a.length uc)]).length = acc.length + 1 := by rw [List.length_append];rfl
       have hown5 : Hid (Bod w4 w.heap.size (.slice vb (acc.length + 1) vd) (acc ++ [(x3,Value.slice ua x3.a.length uc)])) := Lh hbp;clear hgr4 hown4 hlow hbp;have hr4' : Rd w4 b s (k : Int) false := hr4.out;have h16 : ((acc.length : Int) + 1 == 256) = false := by rw [beq_eq_false_iff_ne];omega
       go_wp2_with (first
         | (go_at_call 22;have hg := hsk2;refine (hsk2.out _ hr4').mono ?_;rintro e w5 ⟨rfl,hr5,hm50⟩;obtain ⟨g0,g1,g2,g3,g4⟩ := hr5.cells;have hm5 := Lh (hm4.out.trans hm50);have hown6 := Lh (hown5.out.mvd hm50 hbl);clear hsk2 hm50 hg)
         | (go_at_call 38;refine (hpk _ hr5).mono ?_;rintro e w6 ⟨rfl,hd6⟩;have hr6 := hr5.drawn hd6;obtain ⟨kk0,kk1,kk2,kk3,kk4⟩ := hr6.cells;have hm6 := Lh (hm5.out.trans (Mvd.of (hd6.below _)));have hown7 := Lh (hown6.out.mvd (Mvd.of (hd6.below _)) hbl);clear hd6))
       have hr8 : Hid (Rd (w6.setCell ⟨b,1,none⟩ (.int .i64 ((k1 : Int) + 1))) b s ((k1 + 1 : Nat) : Int) false) := Lh (hstep.out _ hr6);have hm8 := Lh (hm6.out.trans ((Mvd.refl b _).set 1 (.int .i64 ((k1 : Int) + 1))));have hown9 := Lh (hown7.out.mvd ((Mvd.refl b _).set 1 (.int .i64 ((k1 : Int) + 1))) hbl);go_roundw
       case rel =>
        refine ⟨(acc ++ [(x3,Value.slice ua x3.a.length uc)]),vb,vd,n',k1 + 1,by rw [hlen4],by omega,hm8,?_,hr8,?_⟩
        · rw [hlen4];exact hown9
        · have e3 := hx3.out _ rfl;dsimp only at e3;rw [← e3] at hU4;rw [List.map_append];exact hU4
       case measure => simp;omega
   · have hU3 : Hid (R = (rSign 46 (bl s) k1).bind fun q => .ok (acc.map (·.1) ++ [x],q)) := Lh (by rw [hU2.out,if_neg hc]);have hne : (pe s (k1 : Int) != 44) = true := by simp;exact fun h => hc (h44.1 h)
     clear hU2 hc h44 hmx;generalize pe s (k1 : Int) = c at hpk hne
     go_wp2_with (first
       | (go_at_call 22;refine (hsk1.out _ hr.out).mono ?_;rintro e w2 ⟨rfl,hr20,hm20⟩;have hr2 := Lh hr20;have hm2 := Lh (hm.out.trans hm20);have hown2 := Lh (hown.out.mvd hm20 hbl);clear hsk1 hr20 hm20)
       | (go_at_call 62;refine (hte.out _ hr2.out).mono ?_;rintro e w3 ⟨v3,x3,rfl,hv30,hx30,hr30,hm30⟩;obtain ⟨ua,uc,rfl,hu30⟩ := hv30.slice;have hx3 := Lh hx30;have hr3 := Lh hr30;have hm3 := Lh (hm2.out.trans hm30);have hu3 := Lh (own_baseP hu30 hm2.out.size);have hown3 := Lh (hown2.out.mvd hm30 hbl);clear hx30 hr30 hm30 hv30 hu30)
       | (at_builtin;refine wpList_append_anyP rfl (.tmp 32) (.tmp 35) 50 rfl w.heap.size 59 it (.agg #[.int .i64 0,.string ⟨#[]⟩,.slice none 0 0,.bool false,.string ⟨#[]⟩,.bool false,.string ⟨#[]⟩]) 7 96 Tryd.underlying50 hit ht0 ht1 ht2 rfl (by decide) _ acc.length (flatLV acc) rfl (hown3.out.own.alloc _) (some ⟨w3.heap.size,0,none⟩) 1 1 [.int .i64 x3.k,.string x3.p,.slice ua x3.a.length uc,.bool x3.l.1,.string x3.l.2,.bool x3.r.1,.string x3.r.2] rfl rfl (fun j u hj => ⟨_,rfl,own_cells_row rfl rfl j u hj⟩) (by intro u hu;simp at hu;rcases hu with rfl | rfl | rfl | rfl | rfl | rfl | rfl <;> rfl) h63.out (by omega) (by rw [World.size_alloc];have := hm3.out.size;omega) ?_))
     intro v4 w4 hown4 hgr4;have hlow := grown_lowG hown3.out.own hm3.out.size hgr4;have hm4 := Lh (hm3.out.low hgr4 hlow);have hr4 := Lh (hr3.out.low hlow hbl);have hbp := Bod.push hown3.out hu3.out hgr4 hown4;obtain ⟨vb,vd,rfl,-⟩ := own_slice hown4;have hlen4 : (acc ++ [(x3,Value.slice ua x3.a.length uc)]).length = acc.length + 1 := by rw [List.length_append];rfl
     have hown5 : Hid (Bod w4 w.heap.size (.slice vb (acc.length + 1) vd) (acc ++ [(x3,Value.slice ua x3.a.length uc)])) := Lh hbp;clear hgr4 hown4 hlow hbp;have hr4' : Rd w4 b s (k : Int) false := hr4.out
     go_wp2_with (first
       | (go_at_call 22;have hg := hsk2;refine (hsk2.out _ hr4').mono ?_;rintro e w5 ⟨rfl,hr5,hm50⟩;obtain ⟨g0,g1,g2,g3,g4⟩ := hr5.cells;have hm5 := Lh (hm4.out.trans hm50);have hown6 := Lh (hown5.out.mvd hm50 hbl);clear hsk2 hm50 hg)
       | (go_at_call 38;refine (hpk _ hr5).mono ?_;rintro e w6 ⟨rfl,hd6⟩;have hr6 := hr5.drawn hd6;obtain ⟨kk0,kk1,kk2,kk3,kk4⟩ := hr6.cells;have hm6 := Lh (hm5.out.trans (Mvd.of (hd6.below _)));have hown7 := Lh (hown6.out.mvd (Mvd.of (hd6.below _)) hbl);clear hd6)
       | (go_at_call 44;refine (hsg.out _ hr6).mono ?_;rintro e w7 ⟨rfl,hr7,hm70⟩;have hm7 := Lh (hm6.out.trans hm70);have hown8 := Lh (hown7.out.mvd hm70 hbl);replace hr7 := Lh hr7;clear hm70))
     go_ret;rw [hU3.out];have hx4 := hx3.out _ rfl;dsimp only at hx4;subst hx4;generalize rSign 46 (bl s) k1 = Z at hr7;refine ⟨_,(acc ++ [(x3,Value.slice ua x3.a.length uc)]).map (·.1),rfl,⟨_,rfl,hown8.out⟩,fun y hy => ?_,?_,hm7.out⟩
     · cases Z with
       | error e => cases hy
       | ok z => injection hy with hy;rw [← hy,List.map_append];rfl
     · have := hr7.out
       cases Z with
       | error e => exact this
       | ok z => exact this
theorem re_body {w : World} {b : Nat} {s : ByteArray} {S : Except Int Nat} (h : Rs w b s S) :
    Calls Tryd.prog 47 #[.pointer (some ⟨b,0,none⟩)] w (RePost b s w (VBody w.heap.size) (S.bind (rBody (bl s)))) := by
 cases S with
 | error x => exact re_body_bad h
 | ok p =>
  show Calls _ _ _ _ (RePost b s w _ (rBody (bl s) p))
  by_cases h58 : pk (bl s) (rSkip (bl s) p) = 58
  · by_cases h45 : pk (bl s) (rSkip (bl s) p + 1) = 45
    · exact re_body_some h h58 h45
    · exact re_body_half h h58 h45
  · exact re_body_none h h58
end Go.Proofs.YtmjincocmhadeaaDoor
