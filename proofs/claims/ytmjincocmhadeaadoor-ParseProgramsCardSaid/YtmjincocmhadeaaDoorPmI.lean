/- Parse: Begins, and the law's small words. -/
import Derived.Test.YtmjincocmhadeaaDoorPmH
set_option maxHeartbeats 8000000
set_option maxRecDepth 100000
namespace Go.Proofs.YtmjincocmhadeaaDoor
open Go.RowKit Lx
/-- how far a text goes -/
def psFar (s : ByteArray) : Int := match psText s with
  | .ok _ => (s.size : Int)
  | .error x => x
def begB (s : ByteArray) : Bool := psFar s == (s.size : Int)
theorem psFar_r (s : ByteArray) : psFar s = rFar (bl s) := by
 have h := eq_prog s;unfold psFar rFar
 cases hx : psText s with
 | error x =>
  rw [hx] at h
  cases hy : rProg (bl s) with
  | error y => rw [hy] at h;exact h
  | ok y => rw [hy] at h;exact h.elim
 | ok l =>
  rw [hx] at h
  cases hy : rProg (bl s) with
  | error y => rw [hy] at h;exact h.elim
  | ok y =>
   obtain ⟨m,q⟩ := y;have := rProg_ok hy;show (s.size : Int) = (q : Int);rw [this,bl_length]
theorem psFar_range (s : ByteArray) : 0 ≤ psFar s ∧ psFar s ≤ s.size := by
 rw [psFar_r,← bl_length];exact far_range _
theorem pa_Begins (s : ByteArray) (w : World) (hs : s.size ≤ 4194304) :
    Calls Tryd.prog 11 #[.string s] w fun e w' => e = .returned (.bool (begB s)) ∧ Below w.heap.size w w' := by
 have hpr := Lh (pa_Program s w hs)
 cases hx : psText s with
 | error x =>
  have hB : Hid (begB s = (x == (s.size : Int))) := Lh (by unfold begB psFar;rw [hx]);have hr := psFar_range s;have hF : psFar s = x := by unfold psFar;rw [hx]
  rw [hF] at hr;obtain ⟨hr0,hr1⟩ := hr;have hpr' := hpr.out;rw [hx] at hpr';replace hpr := Lh hpr';unfold PgPost at hpr;dsimp only at hpr;clear hx hF hpr';go_enter Tryd.func11,Tryd.ntmps11
  go_wp2_with (go_at_call 6;refine hpr.out.mono ?_;rintro e w1 ⟨rfl,hb0⟩;have hb1 := Lh hb0;clear hb0)
  go_ret;exact ⟨by rw [hB.out];rfl,(hb1.out.al _).al _⟩
 | ok l =>
  have hB : Hid (begB s = true) := Lh (by unfold begB psFar;rw [hx];simp);have hpr' := hpr.out;rw [hx] at hpr';replace hpr := Lh hpr';unfold PgPost at hpr;dsimp only at hpr;clear hx hpr';go_enter Tryd.func11,Tryd.ntmps11
  go_wp2_with (go_at_call 6;refine hpr.out.mono ?_;rintro e w1 ⟨R0,R1,R2,R3,R4,R5,rfl,hb0,hpg⟩;have hb1 := Lh hb0;obtain ⟨v0,c0,rfl⟩ := Prg.form0 hpg;obtain ⟨v1,c1,rfl⟩ := Prg.form1 hpg;obtain ⟨v2,c2,rfl⟩ := Prg.form2 hpg;obtain ⟨v3,c3,rfl⟩ := Prg.form3 hpg;obtain ⟨v4,c4,rfl⟩ := Prg.form4 hpg;obtain ⟨v5,c5,rfl⟩ := Prg.form5 hpg;clear hb0 hpg)
  go_ret;exact ⟨by rw [hB.out];rfl,(hb1.out.al _).al _⟩
theorem w8_num (n : Int) (w : World) : Calls Tryd.prog 10 #[.int .i64 n] w fun e w' => e = .returned (.int .i64 n) ∧ w = w' := by
 go_enter Tryd.func10,Tryd.ntmps10;go_wp2;go_ret;exact ⟨rfl,rfl⟩
theorem w8_long (s : ByteArray) (w : World) : Calls Tryd.prog 4 #[.string s] w fun e w' => e = .returned (.bool (decide ((20000 : Int) < (s.size : Int)))) ∧ w = w' := by
 go_enter Tryd.func4,Tryd.ntmps4;go_wp2;go_ret;exact ⟨by simp,rfl⟩
theorem works_rule : psRuleText ⟨#[112,40,88,41,32,58,45,32,113,40,88,41,44,32,110,111,116,32,114,44,32,88,32,33,61,32,53,46]⟩ = .ok ⟨⟨#[112]⟩,[(true,⟨#[88]⟩)],[⟨1,⟨#[113]⟩,[(true,⟨#[88]⟩)],(false,⟨#[]⟩),(false,⟨#[]⟩)⟩,⟨2,⟨#[114]⟩,[],(false,⟨#[]⟩),(false,⟨#[]⟩)⟩,⟨3,⟨#[]⟩,[],(true,⟨#[88]⟩),(false,⟨#[53]⟩)⟩]⟩ := by kernel_rfl
theorem works_prog : psText ⟨#[112,40,88,41,32,58,45,32,113,32,88,46]⟩ = .error 10 := by kernel_rfl
theorem works_begin : begB ⟨#[112,40]⟩ = true := by kernel_rfl
theorem works_bad : begB ⟨#[112,41]⟩ = false := by kernel_rfl
end Go.Proofs.YtmjincocmhadeaaDoor
/- Parse: works. -/
namespace Go.Proofs.YtmjincocmhadeaaDoor
open Go.RowKit Lx
theorem own_at {w : World} {lo : Nat} {e : TypeId} {size g n c : Nat} {xs : List Value} (h : w.ownsRow lo e size (.slice (some ⟨g,0,none⟩) n c) n xs) (i : Nat) (u : Value) (hu : xs[i]? = some u) : w.cell? ⟨g,i,none⟩ = some u := by
 have := h.cells (g := g) rfl i u hu;rw [addr_add,Nat.zero_add] at this;exact this
theorem works_body {w : World} {lo : Nat} {av bv : Value} (h : RuleIn w lo av bv ⟨⟨#[112]⟩,[(true,⟨#[88]⟩)],[⟨1,⟨#[113]⟩,[(true,⟨#[88]⟩)],(false,⟨#[]⟩),(false,⟨#[]⟩)⟩,⟨2,⟨#[114]⟩,[],(false,⟨#[]⟩),(false,⟨#[]⟩)⟩,⟨3,⟨#[]⟩,[],(true,⟨#[88]⟩),(false,⟨#[53]⟩)⟩]⟩) :
    ∃ xa xc g c,av = .slice xa 1 xc ∧ bv = .slice (some ⟨g,0,none⟩) 3 c ∧ w.cell? ⟨g,7,none⟩ = some (.int .i64 2) ∧ w.cell? ⟨g,20,none⟩ = some (.string ⟨#[53]⟩) := by
 obtain ⟨h1,L,hL,hb,-⟩ := h;obtain ⟨xa,xc,e1,_⟩ := own_slice h1;rcases L with _ | ⟨⟨y0,v0⟩,_ | ⟨⟨y1,v1⟩,_ | ⟨⟨y2,v2⟩,_ | ⟨_,_⟩⟩⟩⟩ <;> simp at hL;obtain ⟨rfl,rfl,rfl⟩ := hL;obtain ⟨g,c,rfl,-⟩ := own_shape hb.own (by simp);exact ⟨xa,xc,g,c,e1,rfl,own_at hb.own 7 _ rfl,own_at hb.own 20 _ rfl⟩
theorem w8_works (w : World) : Calls Tryd.prog 5 #[] w fun e w' => e = .returned (.bool true) ∧ Below w.heap.size w w' := by
 have hrl := fun w => pa_Rule ⟨#[112,40,88,41,32,58,45,32,113,40,88,41,44,32,110,111,116,32,114,44,32,88,32,33,61,32,53,46]⟩ w (by decide);rw [works_rule] at hrl;have hpg := fun w => pa_Program ⟨#[112,40,88,41,32,58,45,32,113,32,88,46]⟩ w (by decide);rw [works_prog] at hpg;have hb1 := fun w => pa_Begins ⟨#[112,40]⟩ w (by decide);rw [works_begin] at hb1
 have hb2 := fun w => pa_Begins ⟨#[112,41]⟩ w (by decide);rw [works_bad] at hb2;unfold RlPost at hrl;unfold PgPost at hpg;dsimp only at hrl hpg;replace hrl := Lh hrl;replace hpg := Lh hpg;replace hb1 := Lh hb1;replace hb2 := Lh hb2;have hnum := Lh w8_num;go_enter Tryd.func5,Tryd.ntmps5
 go_wp2_with (first
   | (go_at_call 16;refine (hrl.out _).mono ?_;rintro e w1 ⟨av,bv,rfl,hbl1,hri⟩;obtain ⟨xa,xc,g,c,rfl,rfl,k7,k20⟩ := works_body hri;have hbw1 := Lh (hbl1.al (.cells #[.string ⟨#[112]⟩,.slice xa 1 xc,.slice (some ⟨g,0,none⟩) 3 c] 52));have r0 := heap_alloc_new w1 (.cells #[.string ⟨#[112]⟩,.slice xa 1 xc,.slice (some ⟨g,0,none⟩) 3 c] 52)
      have r1 : Hid ((w1.alloc (.cells #[.string ⟨#[112]⟩,.slice xa 1 xc,.slice (some ⟨g,0,none⟩) 3 c] 52)).cell? ⟨w1.heap.size,2,none⟩ = some (.slice (some ⟨g,0,none⟩) 3 c) ∧ (w1.alloc (.cells #[.string ⟨#[112]⟩,.slice xa 1 xc,.slice (some ⟨g,0,none⟩) 3 c] 52)).cell? ⟨g,7,none⟩ = some (.int .i64 2) ∧ (w1.alloc (.cells #[.string ⟨#[112]⟩,.slice xa 1 xc,.slice (some ⟨g,0,none⟩) 3 c] 52)).cell? ⟨g,20,none⟩ = some (.string ⟨#[53]⟩)) := Lh ⟨(cell_of_row _ _ _ _ _ _ r0).trans rfl,cell_below ((Below.refl _ _).al _) rfl k7,cell_below ((Below.refl _ _).al _) rfl k20⟩
      clear hbl1 hri k7 k20 r0)
   | (go_at_call 6;refine (hpg.out _).mono ?_;rintro e w2 ⟨rfl,hbl2⟩;have hbw2 := Lh (hbw1.out.trans (hbl2.mono hbw1.out.size))
      have hq : ∀ o1 o2,((w2.alloc o1).alloc o2).cell? ⟨w1.heap.size,2,none⟩ = some (.slice (some ⟨g,0,none⟩) 3 c) ∧ ((w2.alloc o1).alloc o2).cell? ⟨g,7,none⟩ = some (.int .i64 2) ∧ ((w2.alloc o1).alloc o2).cell? ⟨g,20,none⟩ = some (.string ⟨#[53]⟩) := fun o1 o2 => by
       have hbb : Below (w1.alloc (.cells #[.string ⟨#[112]⟩,.slice xa 1 xc,.slice (some ⟨g,0,none⟩) 3 c] 52)).heap.size (w1.alloc (.cells #[.string ⟨#[112]⟩,.slice xa 1 xc,.slice (some ⟨g,0,none⟩) 3 c] 52)) ((w2.alloc o1).alloc o2) := (hbl2.al _).al _;exact ⟨cell_below hbb rfl r1.out.1,cell_below hbb rfl r1.out.2.1,cell_below hbb rfl r1.out.2.2⟩
      have hq1 := fun o1 o2 => (hq o1 o2).1;have hq2 := fun o1 o2 => (hq o1 o2).2.1;have hq3 := fun o1 o2 => (hq o1 o2).2.2;clear hbl2 hq)
   | (go_at_call 10;have hg := hq1;refine (hnum.out _ _).mono ?_;rintro e wn ⟨rfl,hwn⟩;have k2 : wn.cell? ⟨w1.heap.size,2,none⟩ = some (.slice (some ⟨g,0,none⟩) 3 c) := by rw [← hwn];exact hq1 _ _
      have k7 : wn.cell? ⟨g,7,none⟩ = some (.int .i64 2) := by rw [← hwn];exact hq2 _ _
      have k20 : wn.cell? ⟨g,20,none⟩ = some (.string ⟨#[53]⟩) := by rw [← hwn];exact hq3 _ _
      have hbn : Hid (Below w.heap.size w wn) := Lh (by rw [← hwn];exact (hbw2.out.al _).al _);clear hg hq1 hq2 hq3 hwn)
   | (go_at_call 10;refine (hnum.out _ _).mono ?_;rintro e wn2 ⟨rfl,rfl⟩)
   | (go_at_call 11;have hg := hb1;refine (hb1.out _).mono ?_;rintro e w3 ⟨rfl,hbl3⟩;have hbw3 := Lh (hbn.out.trans (hbl3.mono hbn.out.size));clear hg hb1 hbl3)
   | (go_at_call 11;refine (hb2.out _).mono ?_;rintro e w4 ⟨rfl,hbl4⟩;have hbw4 := Lh (hbw3.out.trans (hbl4.mono hbw3.out.size));clear hbl4))
 go_ret;exact ⟨rfl,hbw4.out⟩
end Go.Proofs.YtmjincocmhadeaaDoor
