/- Parse: ParsePrograms. (gen_pgd.py) -/
import Derived.Test.YtmjincocmhadeaaDoorPmS
import Derived.Test.YtmjincocmhadeaaDoorPmT
import Derived.Test.YtmjincocmhadeaaDoorPmI
set_option maxHeartbeats 8000000
set_option maxRecDepth 100000
namespace Go.Proofs.YtmjincocmhadeaaDoor
open Go.RowKit Lx
theorem re_Begins (s : ByteArray) (w : World) (hs : s.size ≤ 4194304) :
    Calls Tryd.prog 12 #[.string s] w fun e w' => e = .returned (.bool (begB s)) ∧ Below w.heap.size w w' := by
 have hpr := Lh (re_Program s w hs);have heq := eq_prog s
 cases hx : psText s with
 | error x =>
  have hB : Hid (begB s = (x == (s.size : Int))) := Lh (by unfold begB psFar;rw [hx]);have hr := psFar_range s;have hF : psFar s = x := by unfold psFar;rw [hx]
  rw [hF] at hr;obtain ⟨hr0,hr1⟩ := hr;rw [hx] at heq
  cases hy : rProg (bl s) with
  | ok y => rw [hy] at heq;exact heq.elim
  | error y =>
   rw [hy] at heq;have heq' : x = y := heq;subst heq';have hpr' := hpr.out;rw [hy] at hpr';replace hpr := Lh hpr';unfold RpPost at hpr;dsimp only at hpr;clear hx hF hpr' hy heq;go_enter Tryd.func12,Tryd.ntmps12
   go_wp2_with (go_at_call 7;refine hpr.out.mono ?_;rintro e w1 ⟨rfl,hb0⟩;have hb1 := Lh hb0;clear hb0)
   go_ret;exact ⟨by rw [hB.out];rfl,(hb1.out.al _).al _⟩
 | ok l =>
  have hB : Hid (begB s = true) := Lh (by unfold begB psFar;rw [hx];simp);rw [hx] at heq
  cases hy : rProg (bl s) with
  | error y => rw [hy] at heq;exact heq.elim
  | ok y =>
   have hpr' := hpr.out;rw [hy] at hpr';replace hpr := Lh hpr';unfold RpPost at hpr;dsimp only at hpr;clear hx hpr' hy heq;go_enter Tryd.func12,Tryd.ntmps12
   go_wp2_with (go_at_call 7;refine hpr.out.mono ?_;rintro e w1 ⟨R0,R1,R2,R3,R4,R5,rfl,hb0,hpg⟩;have hb1 := Lh hb0;obtain ⟨v0,c0,rfl⟩ := PrgV.form0 hpg;obtain ⟨v1,c1,rfl⟩ := PrgV.form1 hpg;obtain ⟨v2,c2,rfl⟩ := PrgV.form2 hpg;obtain ⟨v3,c3,rfl⟩ := PrgV.form3 hpg;obtain ⟨v4,c4,rfl⟩ := PrgV.form4 hpg;obtain ⟨v5,c5,rfl⟩ := PrgV.form5 hpg;clear hb0 hpg)
   go_ret;exact ⟨by rw [hB.out];rfl,(hb1.out.al _).al _⟩
def v6 (a0 a1 a2 a3 a4 a5 : Option Addr) : Nat → Option Addr
  | 0 => a0 | 1 => a1 | 2 => a2 | 3 => a3 | 4 => a4 | _ => a5
def c6 (a0 a1 a2 a3 a4 a5 : Nat) : Nat → Nat
  | 0 => a0 | 1 => a1 | 2 => a2 | 3 => a3 | 4 => a4 | _ => a5
/-- what the two readers say of a text, as one -/
def PSay (s : ByteArray) (l : List Stmt) (at_ er : Int) (ok : Bool) : Prop :=
  (∀ w : World,Calls Tryd.prog 6 #[.string s] w fun e w' => ∃ (v1 : Nat → Option Addr) (c1 : Nat → Nat),e = .returned (.tuple #[.agg #[.slice (v1 0) (inpsOf l).length (c1 0),.slice (v1 1) (outsOf l).length (c1 1),.slice (v1 2) (rulesOf l).length (c1 2)],.agg #[.slice (v1 3) (inAts l).length (c1 3),.slice (v1 4) (outAts l).length (c1 4),.slice (v1 5) (ruAts l).length (c1 5)],.int .i64 at_,.int .i64 er]) ∧ Below w.heap.size w w' ∧ PrgS w' w.heap.size (.slice (v1 0) (inpsOf l).length (c1 0)) (.slice (v1 1) (outsOf l).length (c1 1)) (.slice (v1 2) (rulesOf l).length (c1 2)) (.slice (v1 3) (inAts l).length (c1 3)) (.slice (v1 4) (outAts l).length (c1 4)) (.slice (v1 5) (ruAts l).length (c1 5)) l) ∧
  (∀ w : World,Calls Tryd.prog 7 #[.string s] w fun e w' => ∃ (v1 : Nat → Option Addr) (c1 : Nat → Nat),e = .returned (.tuple #[.agg #[.slice (v1 0) (inpsOf l).length (c1 0),.slice (v1 1) (outsOf l).length (c1 1),.slice (v1 2) (rulesOf l).length (c1 2)],.agg #[.slice (v1 3) (inAts l).length (c1 3),.slice (v1 4) (outAts l).length (c1 4),.slice (v1 5) (ruAts l).length (c1 5)],.int .i64 at_,.bool ok]) ∧ Below w.heap.size w w' ∧ PrgVS w' w.heap.size (.slice (v1 0) (inpsOf l).length (c1 0)) (.slice (v1 1) (outsOf l).length (c1 1)) (.slice (v1 2) (rulesOf l).length (c1 2)) (.slice (v1 3) (inAts l).length (c1 3)) (.slice (v1 4) (outAts l).length (c1 4)) (.slice (v1 5) (ruAts l).length (c1 5)) l) ∧
  l.length ≤ 4194304 ∧ (∀ x ∈ l,atOf x ≤ 4194304) ∧ ∀ r ∈ rulesOf l,SmallR r
theorem rules_small {s : ByteArray} {l : List Stmt} (h : psText s = .ok l) : ∀ r ∈ rulesOf l,SmallR r := fun r hr => by
  unfold rulesOf at hr;obtain ⟨x,hx,hf⟩ := List.mem_filterMap.1 hr;have h1 := text_form h x hx
  cases x with
  | inp p n f a => cases hf
  | outp p n a => cases hf
  | rule r' a =>
    injection hf with hf;subst hf;obtain ⟨⟨_,h2,_⟩,h3,h4⟩ : okRule r' := h1.1;refine ⟨by omega,by omega,fun x hx => ?_⟩;rcases h4 x hx with ⟨_,_,_,_,e⟩ | ⟨_,⟨_,h5,_⟩,_⟩
    · rw [e];exact Nat.zero_le _
    · omega
theorem psay_of (s : ByteArray) (hs : s.size ≤ 4194304) : ∃ l at_,PSay s l at_ 0 true ∨ PSay s l at_ 11 false := by
 have he := eq_prog s;have h1 := fun w => pa_Program s w hs;have h2 := fun w => re_Program s w hs
 cases hA : psText s with
 | ok l =>
  have hsm := rules_small hA;have hat := text_ats hA hs;have hln := text_len hA;rw [hA] at he h1
  cases hB : rProg (bl s) with
  | error y => rw [hB] at he;exact he.elim
  | ok z =>
   rw [hB] at he h2;have he' : l = z.1 := he;subst he';refine ⟨z.1,0,.inl ⟨fun w => (h1 w).mono ?_,fun w => (h2 w).mono ?_,by omega,hat,hsm⟩⟩
   · rintro e w' ⟨R0,R1,R2,R3,R4,R5,rfl,hb,hpg⟩;obtain ⟨v0,c0,rfl⟩ := Prg.form0 hpg;obtain ⟨v1,c1,rfl⟩ := Prg.form1 hpg;obtain ⟨v2,c2,rfl⟩ := Prg.form2 hpg;obtain ⟨v3,c3,rfl⟩ := Prg.form3 hpg;obtain ⟨v4,c4,rfl⟩ := Prg.form4 hpg;obtain ⟨v5,c5,rfl⟩ := Prg.form5 hpg;exact ⟨v6 v0 v1 v2 v3 v4 v5,c6 c0 c1 c2 c3 c4 c5,rfl,hb,hpg⟩
   · rintro e w' ⟨R0,R1,R2,R3,R4,R5,rfl,hb,hpg⟩;obtain ⟨v0,c0,rfl⟩ := PrgV.form0 hpg;obtain ⟨v1,c1,rfl⟩ := PrgV.form1 hpg;obtain ⟨v2,c2,rfl⟩ := PrgV.form2 hpg;obtain ⟨v3,c3,rfl⟩ := PrgV.form3 hpg;obtain ⟨v4,c4,rfl⟩ := PrgV.form4 hpg;obtain ⟨v5,c5,rfl⟩ := PrgV.form5 hpg;exact ⟨v6 v0 v1 v2 v3 v4 v5,c6 c0 c1 c2 c3 c4 c5,rfl,hb,hpg⟩
 | error x =>
  rw [hA] at he h1
  cases hB : rProg (bl s) with
  | ok z => rw [hB] at he;exact he.elim
  | error y =>
   rw [hB] at he h2;have he' : x = y := he;subst he';refine ⟨[],x,.inr ⟨fun w => (h1 w).mono ?_,fun w => (h2 w).mono ?_,Nat.zero_le _,(fun x hx => by cases hx),fun x hx => by cases hx⟩⟩
   · rintro e w' ⟨rfl,hb⟩;exact ⟨fun _ => none,fun _ => 0,rfl,hb,Prg.nil _ _ hb.size⟩
   · rintro e w' ⟨rfl,hb⟩;exact ⟨fun _ => none,fun _ => 0,rfl,hb,PrgV.nil _ _⟩
/-! ### rows read -/
theorem ats_of {w : World} {lo : Nat} {v : Option Addr} {c : Nat} {a : List Nat} (h : w.ownsRow lo 3 1 (.slice v a.length c) a.length (atL a)) (hl : a.length ≤ 4194304) (hm : ∀ x ∈ a,x ≤ 4194304) : Ints .i64 w v (ia a) := own_ints h (by omega) fun x hx => by have := hm x hx;omega
structure Small (l : List Stmt) : Prop where
  len : l.length ≤ 4194304
  at_ : ∀ x ∈ l,atOf x ≤ 4194304
theorem Small.ats {l : List Stmt} (h : Small l) : (inAts l).length ≤ 4194304 ∧ (outAts l).length ≤ 4194304 ∧ (ruAts l).length ≤ 4194304 ∧ (∀ x ∈ inAts l,x ≤ 4194304) ∧ (∀ x ∈ outAts l,x ≤ 4194304) ∧ ∀ x ∈ ruAts l,x ≤ 4194304 := by
 obtain ⟨p0,p1,p2⟩ := parts_le l;obtain ⟨q0,q1,q2⟩ := ats_mem l;have h1 := in_len l;have h2 := out_len l;have h3 := ru_len l;have h4 := h.len;refine ⟨by omega,by omega,by omega,fun x hx => ?_,fun x hx => ?_,fun x hx => ?_⟩
 · obtain ⟨s,hs,rfl⟩ := q0 x hx;exact h.at_ s hs
 · obtain ⟨s,hs,rfl⟩ := q1 x hx;exact h.at_ s hs
 · obtain ⟨s,hs,rfl⟩ := q2 x hx;exact h.at_ s hs
theorem rows_p {w : World} {lo : Nat} {l : List Stmt} {v1 : Nat → Option Addr} {c1 : Nat → Nat} (hl : Small l) (h : PrgS w lo (.slice (v1 0) (inpsOf l).length (c1 0)) (.slice (v1 1) (outsOf l).length (c1 1)) (.slice (v1 2) (rulesOf l).length (c1 2)) (.slice (v1 3) (inAts l).length (c1 3)) (.slice (v1 4) (outAts l).length (c1 4)) (.slice (v1 5) (ruAts l).length (c1 5)) l) : Rws w (v1 0) (v1 1) (v1 2) (v1 3) (v1 4) (v1 5) l := by
 obtain ⟨h0,h1,h2,h3,h4,h5⟩ := hl.ats;refine ⟨own_RI h.r0,own_RO h.r1,?_,ats_of h.r3 h0 h3,ats_of h.r4 h1 h4,ats_of h.r5 h2 h5⟩;obtain ⟨L,hL,hr,hin⟩ := h.r2;have hn : (rulesOf l).length = L.length := by rw [← hL,List.length_map]
 rw [hn] at hr;rw [← hL];exact rules_RR hr hin.inn
theorem rules_RRV {w : World} {va : Option Addr} {vc : Nat} {L : List (PRule × Value × Value)} {lo1 lo2 : Nat} (h : w.ownsRow lo1 52 3 (.slice va L.length vc) L.length (ruL L)) (hin : ∀ y ∈ L,RuleV w lo2 y.2.1 y.2.2 y.1) : RR w va (L.map fun y => y.1) := by
 refine ⟨by rw [List.length_map];exact own_len9 h,fun j x hx => ?_⟩;rw [List.getElem?_map] at hx
 cases hy : L[j]? with
 | none => rw [hy] at hx;cases hx
 | some y =>
  rw [hy] at hx;injection hx with hx;subst hx;obtain ⟨hj,rfl⟩ := List.getElem?_eq_some_iff.1 hy;obtain ⟨g,e1,hc⟩ := row_at ruC 3 (fun _ => rfl) h j hj;obtain ⟨ha,L2,hL2,hb⟩ := hin L[j] (List.getElem_mem hj);obtain ⟨xa,xc,e2,-⟩ := own_slice ha;obtain ⟨ya,yc,e3,-⟩ := own_slice hb.own;rw [e2] at ha;rw [e3] at hb;have hrl := (bod_RL hb).1;rw [hL2] at hrl
  have hn : L2.length = (L[j]).1.b.length := by rw [← hL2,List.length_map]
  refine ⟨_,xa,xc,ya,yc,e1,?_,?_,?_,own_RT ha,hrl⟩
  all_goals rw [addr_add,Nat.zero_add]
  · exact hc 0 _ (by decide) rfl
  · exact hc 1 _ (by decide) (by rw [← e2];rfl)
  · exact hc 2 _ (by decide) (by rw [← hn,← e3];rfl)
theorem rows_v {w : World} {lo : Nat} {l : List Stmt} {v1 : Nat → Option Addr} {c1 : Nat → Nat} (hl : Small l) (h : PrgVS w lo (.slice (v1 0) (inpsOf l).length (c1 0)) (.slice (v1 1) (outsOf l).length (c1 1)) (.slice (v1 2) (rulesOf l).length (c1 2)) (.slice (v1 3) (inAts l).length (c1 3)) (.slice (v1 4) (outAts l).length (c1 4)) (.slice (v1 5) (ruAts l).length (c1 5)) l) : Rws w (v1 0) (v1 1) (v1 2) (v1 3) (v1 4) (v1 5) l := by
 obtain ⟨h0,h1,h2,h3,h4,h5⟩ := hl.ats;refine ⟨own_RI h.r0,own_RO h.r1,?_,ats_of h.r3 h0 h3,ats_of h.r4 h1 h4,ats_of h.r5 h2 h5⟩;obtain ⟨L,hL,hr,hin⟩ := h.r2;have hn : (rulesOf l).length = L.length := by rw [← hL,List.length_map]
 rw [hn] at hr;rw [← hL];exact rules_RRV hr hin
theorem kt_same (l : List Stmt) (w : World) (v1 v2 : Nat → Option Addr) (c1 c2 : Nat → Nat) (h1 : Rws w (v1 0) (v1 1) (v1 2) (v1 3) (v1 4) (v1 5) l) (h2 : Rws w (v2 0) (v2 1) (v2 2) (v2 3) (v2 4) (v2 5) l) :
    Calls Tryd.prog 8 #[.agg #[.slice (v1 0) (inpsOf l).length (c1 0),.slice (v1 1) (outsOf l).length (c1 1),.slice (v1 2) (rulesOf l).length (c1 2)],.agg #[.slice (v2 0) (inpsOf l).length (c2 0),.slice (v2 1) (outsOf l).length (c2 1),.slice (v2 2) (rulesOf l).length (c2 2)]] w fun e w' => e = .returned (.bool true) ∧ Below w.heap.size w w' :=
  kt_program _ _ _ _ _ _ _ _ _ _ _ _ _ _ _ _ h1.i h2.i h1.o h2.o h1.r h2.r
theorem pl_same (l : List Stmt) (w : World) (v1 v2 : Nat → Option Addr) (c1 c2 : Nat → Nat) (h1 : Rws w (v1 0) (v1 1) (v1 2) (v1 3) (v1 4) (v1 5) l) (h2 : Rws w (v2 0) (v2 1) (v2 2) (v2 3) (v2 4) (v2 5) l) :
    Calls Tryd.prog 9 #[.agg #[.slice (v1 3) (inAts l).length (c1 3),.slice (v1 4) (outAts l).length (c1 4),.slice (v1 5) (ruAts l).length (c1 5)],.agg #[.slice (v2 3) (inAts l).length (c2 3),.slice (v2 4) (outAts l).length (c2 4),.slice (v2 5) (ruAts l).length (c2 5)]] w fun e w' => e = .returned (.bool true) ∧ Below w.heap.size w w' := by
 have h := w8_places (v1 3) (v1 4) (v1 5) (v2 3) (v2 4) (v2 5) (ia (inAts l)) (ia (outAts l)) (ia (ruAts l)) (c1 3) (c1 4) (c1 5) (c2 3) (c2 4) (c2 5) w h1.a0 h1.a1 h1.a2 h2.a0 h2.a1 h2.a2;have hi : ∀ a : List Nat,(ia a).length = a.length := fun a => by simp [ia]
 rw [hi,hi,hi] at h;exact h
/-! ### kept -/
theorem PrgS.stay {w w' : World} {lo : Nat} {R0 R1 R2 R3 R4 R5 : Value} {l : List Stmt} (h : PrgS w lo R0 R1 R2 R3 R4 R5 l) (hb : Below w.heap.size w w') : PrgS w' lo R0 R1 R2 R3 R4 R5 l := Prg.beneath h hb
theorem PrgS.fr {w w' : World} {lo hi lo2 : Nat} {R0 R1 R2 R3 R4 R5 : Value} {l : List Stmt} (h : PrgS w lo2 R0 R1 R2 R3 R4 R5 l) (hf : Fr lo hi w w') (hle : hi ≤ lo2) : PrgS w' lo2 R0 R1 R2 R3 R4 R5 l := by
 obtain ⟨L,hL,h2,h3⟩ := h.r2;exact ⟨hf.own h.r0 hle,hf.own h.r1 hle,⟨L,hL,hf.own h2 hle,h3.turn hf.size fun _ _ _ _ _ hl h => h.fr hf (Nat.le_trans hle hl)⟩,hf.own h.r3 hle,hf.own h.r4 hle,hf.own h.r5 hle,h.d34,h.d35,h.d45⟩
theorem PrgVS.stay {w w' : World} {lo : Nat} {R0 R1 R2 R3 R4 R5 : Value} {l : List Stmt} (h : PrgVS w lo R0 R1 R2 R3 R4 R5 l) (hb : Below w.heap.size w w') : PrgVS w' lo R0 R1 R2 R3 R4 R5 l := by
 obtain ⟨L,hL,h2,h3⟩ := h.r2;exact ⟨own_below h.r0 hb,own_below h.r1 hb,⟨L,hL,own_below h2 hb,fun y hy => (h3 y hy).below hb⟩,own_below h.r3 hb,own_below h.r4 hb,own_below h.r5 hb,h.d34,h.d35,h.d45⟩
theorem PrgVS.fr {w w' : World} {lo hi lo2 : Nat} {R0 R1 R2 R3 R4 R5 : Value} {l : List Stmt} (h : PrgVS w lo2 R0 R1 R2 R3 R4 R5 l) (hf : Fr lo hi w w') (hle : hi ≤ lo2) : PrgVS w' lo2 R0 R1 R2 R3 R4 R5 l := by
 obtain ⟨L,hL,h2,h3⟩ := h.r2;exact ⟨hf.own h.r0 hle,hf.own h.r1 hle,⟨L,hL,hf.own h2 hle,fun y hy => (by obtain ⟨h4,L4,h5,h6⟩ := h3 y hy;exact ⟨hf.own h4 hle,L4,h5,hf.bod h6 hle⟩)⟩,hf.own h.r3 hle,hf.own h.r4 hle,hf.own h.r5 hle,h.d34,h.d35,h.d45⟩
/-- a program that may be written over: all its rows lie in lo .. hi -/
structure PrgR (w : World) (lo hi : Nat) (R0 R1 R2 R3 R4 R5 : Value) (l : List Stmt) : Prop where
  pg : PrgS w lo R0 R1 R2 R3 R4 R5 l
  top : ∀ k,(R0.ownBlock = some k ∨ R1.ownBlock = some k) ∨ R2.ownBlock = some k ∨ R3.ownBlock = some k ∨ R4.ownBlock = some k ∨ R5.ownBlock = some k → k < hi
  rr : ∃ (L : List (PRule × Value × Value)) (f g : Nat → Nat),L.map (fun y => y.1) = rulesOf l ∧ w.ownsRow lo 52 3 R2 L.length (ruL L) ∧ RRows w lo f g L ∧ (VApart R2 f g L.length ∧ VApart R3 f g L.length ∧ VApart R4 f g L.length ∧ VApart R5 f g L.length) ∧ ∀ i,i < L.length → g i ≤ hi
theorem PrgR.of {w : World} {lo : Nat} {R0 R1 R2 R3 R4 R5 : Value} {l : List Stmt} (h : PrgS w lo R0 R1 R2 R3 R4 R5 l) : PrgR w lo w.heap.size R0 R1 R2 R3 R4 R5 l := by
 refine ⟨h,fun k hk => ?_,?_⟩
 · rcases hk with (hk | hk) | hk
   · exact (h.r0.lt k hk).2
   · exact (h.r1.lt k hk).2
   · exact Prg.lts h k hk
 · obtain ⟨L,hL,h2,f,g,h3,h4⟩ := h.r2;exact ⟨L,f,g,hL,h2,h3,h4,fun i hi => Nat.le_trans (h3.le i L.length hi (Nat.le_refl _)) h3.top⟩
theorem PrgR.stay {w w' : World} {lo hi : Nat} {R0 R1 R2 R3 R4 R5 : Value} {l : List Stmt} (h : PrgR w lo hi R0 R1 R2 R3 R4 R5 l) (hb : Below w.heap.size w w') : PrgR w' lo hi R0 R1 R2 R3 R4 R5 l := by
 refine ⟨h.pg.stay hb,h.top,?_⟩;obtain ⟨L,f,g,hL,h2,h3,h4⟩ := h.rr;exact ⟨L,f,g,hL,own_below h2 hb,h3.turn hb.size (fun _ _ _ _ _ _ h => h.below hb),h4⟩
theorem PrgR.spoil {w : World} {lo hi : Nat} {l : List Stmt} {v1 : Nat → Option Addr} {c1 : Nat → Nat} (h : PrgR w lo hi (.slice (v1 0) (inpsOf l).length (c1 0)) (.slice (v1 1) (outsOf l).length (c1 1)) (.slice (v1 2) (rulesOf l).length (c1 2)) (.slice (v1 3) (inAts l).length (c1 3)) (.slice (v1 4) (outAts l).length (c1 4)) (.slice (v1 5) (ruAts l).length (c1 5)) l) (hl : l.length ≤ 4194304) (hsm : ∀ r ∈ rulesOf l,SmallR r) (hlo : lo ≤ hi) (hhi : hi ≤ w.heap.size) :
    Calls Tryd.prog 13 #[.agg #[.slice (v1 0) (inpsOf l).length (c1 0),.slice (v1 1) (outsOf l).length (c1 1),.slice (v1 2) (rulesOf l).length (c1 2)]] w fun e w' => e = .returned (.tuple #[]) ∧ Fr lo hi w w' ∧ w'.ownsRow lo 3 1 (.slice (v1 3) (inAts l).length (c1 3)) (inAts l).length (atL (inAts l)) ∧ w'.ownsRow lo 3 1 (.slice (v1 4) (outAts l).length (c1 4)) (outAts l).length (atL (outAts l)) ∧ w'.ownsRow lo 3 1 (.slice (v1 5) (ruAts l).length (c1 5)) (ruAts l).length (atL (ruAts l)) := by
 obtain ⟨L,f,g,hL,h2,h3,⟨h4,h5,h6,h7⟩,h8⟩ := h.rr;obtain ⟨p0,p1,p2⟩ := parts_le l;have hn : (rulesOf l).length = L.length := by rw [← hL,List.length_map]
 have ht := h.top;rw [hn] at ht h4 h2 p2 ⊢;refine (sp_prog w lo hi _ _ _ _ _ _ _ _ L f g _ _ h.pg.r0 h.pg.r1 h2 h3 h4 h8 (fun k hk => ht k (.inl (.inl hk))) (fun k hk => ht k (.inl (.inr hk))) (fun k hk => ht k (.inr (.inl hk))) hlo hhi (by omega) (by omega) (by omega) (fun y hy => hsm y.1 (by rw [← hL];exact List.mem_map_of_mem hy))).mono ?_;rintro e w' ⟨rfl,hf,hi⟩
 exact ⟨rfl,hf,hi _ _ _ h.pg.r3 h5,hi _ _ _ h.pg.r4 h6,hi _ _ _ h.pg.r5 h7⟩
/-- three programs and their places -/
structure P6 (w W : World) (g1 g2 g3 : Nat) (l : List Stmt) (v1 : Nat → Option Addr) (c1 : Nat → Nat) (v2 : Nat → Option Addr) (c2 : Nat → Nat) (v3 : Nat → Option Addr) (c3 : Nat → Nat) : Prop where
  b1 : W.heap[g1]? = some (.cells #[.slice (v1 0) (inpsOf l).length (c1 0),.slice (v1 1) (outsOf l).length (c1 1),.slice (v1 2) (rulesOf l).length (c1 2)] 28)
  q1 : W.heap[g1 + 1]? = some (.cells #[.slice (v1 3) (inAts l).length (c1 3),.slice (v1 4) (outAts l).length (c1 4),.slice (v1 5) (ruAts l).length (c1 5)] 31)
  b2 : W.heap[g2]? = some (.cells #[.slice (v2 0) (inpsOf l).length (c2 0),.slice (v2 1) (outsOf l).length (c2 1),.slice (v2 2) (rulesOf l).length (c2 2)] 28)
  q2 : W.heap[g2 + 1]? = some (.cells #[.slice (v2 3) (inAts l).length (c2 3),.slice (v2 4) (outAts l).length (c2 4),.slice (v2 5) (ruAts l).length (c2 5)] 31)
  b3 : W.heap[g3]? = some (.cells #[.slice (v3 0) (inpsOf l).length (c3 0),.slice (v3 1) (outsOf l).length (c3 1),.slice (v3 2) (rulesOf l).length (c3 2)] 28)
  q3 : W.heap[g3 + 1]? = some (.cells #[.slice (v3 3) (inAts l).length (c3 3),.slice (v3 4) (outAts l).length (c3 4),.slice (v3 5) (ruAts l).length (c3 5)] 31)
  p1 : PrgR W w.heap.size g1 (.slice (v1 0) (inpsOf l).length (c1 0)) (.slice (v1 1) (outsOf l).length (c1 1)) (.slice (v1 2) (rulesOf l).length (c1 2)) (.slice (v1 3) (inAts l).length (c1 3)) (.slice (v1 4) (outAts l).length (c1 4)) (.slice (v1 5) (ruAts l).length (c1 5)) l
  p2 : PrgS W (g1 + 2) (.slice (v2 0) (inpsOf l).length (c2 0)) (.slice (v2 1) (outsOf l).length (c2 1)) (.slice (v2 2) (rulesOf l).length (c2 2)) (.slice (v2 3) (inAts l).length (c2 3)) (.slice (v2 4) (outAts l).length (c2 4)) (.slice (v2 5) (ruAts l).length (c2 5)) l
  p3 : PrgVS W (g2 + 2) (.slice (v3 0) (inpsOf l).length (c3 0)) (.slice (v3 1) (outsOf l).length (c3 1)) (.slice (v3 2) (rulesOf l).length (c3 2)) (.slice (v3 3) (inAts l).length (c3 3)) (.slice (v3 4) (outAts l).length (c3 4)) (.slice (v3 5) (ruAts l).length (c3 5)) l
  le : w.heap.size ≤ g1 ∧ g1 + 2 ≤ g2 ∧ g2 + 2 ≤ g3
theorem P6.stay {w W W' : World} {g1 g2 g3 : Nat} {l : List Stmt} {v1 v2 v3 : Nat → Option Addr} {c1 c2 c3 : Nat → Nat} (h : P6 w W g1 g2 g3 l v1 c1 v2 c2 v3 c3) (hb : Below W.heap.size W W') : P6 w W' g1 g2 g3 l v1 c1 v2 c2 v3 c3 :=
  have k : ∀ {x : Nat} {o : Obj},W.heap[x]? = some o → W'.heap[x]? = some o := fun h => (hb.block _ (Array.getElem?_eq_some_iff.1 h).1).trans h
  ⟨k h.b1,k h.q1,k h.b2,k h.q2,k h.b3,k h.q3,h.p1.stay hb,h.p2.stay hb,h.p3.stay hb,h.le⟩
/-- what is left of them when the first program is written over -/
structure P5 (w W : World) (g1 g2 g3 : Nat) (l : List Stmt) (v1 : Nat → Option Addr) (c1 : Nat → Nat) (v2 : Nat → Option Addr) (c2 : Nat → Nat) (v3 : Nat → Option Addr) (c3 : Nat → Nat) : Prop where
  b1 : W.heap[g1]? = some (.cells #[.slice (v1 0) (inpsOf l).length (c1 0),.slice (v1 1) (outsOf l).length (c1 1),.slice (v1 2) (rulesOf l).length (c1 2)] 28)
  q1 : W.heap[g1 + 1]? = some (.cells #[.slice (v1 3) (inAts l).length (c1 3),.slice (v1 4) (outAts l).length (c1 4),.slice (v1 5) (ruAts l).length (c1 5)] 31)
  b2 : W.heap[g2]? = some (.cells #[.slice (v2 0) (inpsOf l).length (c2 0),.slice (v2 1) (outsOf l).length (c2 1),.slice (v2 2) (rulesOf l).length (c2 2)] 28)
  q2 : W.heap[g2 + 1]? = some (.cells #[.slice (v2 3) (inAts l).length (c2 3),.slice (v2 4) (outAts l).length (c2 4),.slice (v2 5) (ruAts l).length (c2 5)] 31)
  b3 : W.heap[g3]? = some (.cells #[.slice (v3 0) (inpsOf l).length (c3 0),.slice (v3 1) (outsOf l).length (c3 1),.slice (v3 2) (rulesOf l).length (c3 2)] 28)
  q3 : W.heap[g3 + 1]? = some (.cells #[.slice (v3 3) (inAts l).length (c3 3),.slice (v3 4) (outAts l).length (c3 4),.slice (v3 5) (ruAts l).length (c3 5)] 31)
  i3 : W.ownsRow w.heap.size 3 1 (.slice (v1 3) (inAts l).length (c1 3)) (inAts l).length (atL (inAts l))
  i4 : W.ownsRow w.heap.size 3 1 (.slice (v1 4) (outAts l).length (c1 4)) (outAts l).length (atL (outAts l))
  i5 : W.ownsRow w.heap.size 3 1 (.slice (v1 5) (ruAts l).length (c1 5)) (ruAts l).length (atL (ruAts l))
  top : ∀ k,(Value.slice (v1 3) (inAts l).length (c1 3)).ownBlock = some k ∨ (Value.slice (v1 4) (outAts l).length (c1 4)).ownBlock = some k ∨ (Value.slice (v1 5) (ruAts l).length (c1 5)).ownBlock = some k → k < g1
  d34 : ∀ k,(Value.slice (v1 3) (inAts l).length (c1 3)).ownBlock = some k → (Value.slice (v1 4) (outAts l).length (c1 4)).ownBlock ≠ some k
  d35 : ∀ k,(Value.slice (v1 3) (inAts l).length (c1 3)).ownBlock = some k → (Value.slice (v1 5) (ruAts l).length (c1 5)).ownBlock ≠ some k
  d45 : ∀ k,(Value.slice (v1 4) (outAts l).length (c1 4)).ownBlock = some k → (Value.slice (v1 5) (ruAts l).length (c1 5)).ownBlock ≠ some k
  p2 : PrgS W (g1 + 2) (.slice (v2 0) (inpsOf l).length (c2 0)) (.slice (v2 1) (outsOf l).length (c2 1)) (.slice (v2 2) (rulesOf l).length (c2 2)) (.slice (v2 3) (inAts l).length (c2 3)) (.slice (v2 4) (outAts l).length (c2 4)) (.slice (v2 5) (ruAts l).length (c2 5)) l
  p3 : PrgVS W (g2 + 2) (.slice (v3 0) (inpsOf l).length (c3 0)) (.slice (v3 1) (outsOf l).length (c3 1)) (.slice (v3 2) (rulesOf l).length (c3 2)) (.slice (v3 3) (inAts l).length (c3 3)) (.slice (v3 4) (outAts l).length (c3 4)) (.slice (v3 5) (ruAts l).length (c3 5)) l
  le : w.heap.size ≤ g1 ∧ g1 + 2 ≤ g2 ∧ g2 + 2 ≤ g3
theorem P5.stay {w W W' : World} {g1 g2 g3 : Nat} {l : List Stmt} {v1 v2 v3 : Nat → Option Addr} {c1 c2 c3 : Nat → Nat} (h : P5 w W g1 g2 g3 l v1 c1 v2 c2 v3 c3) (hb : Below W.heap.size W W') : P5 w W' g1 g2 g3 l v1 c1 v2 c2 v3 c3 :=
  have k : ∀ {x : Nat} {o : Obj},W.heap[x]? = some o → W'.heap[x]? = some o := fun h => (hb.block _ (Array.getElem?_eq_some_iff.1 h).1).trans h
  ⟨k h.b1,k h.q1,k h.b2,k h.q2,k h.b3,k h.q3,own_below h.i3 hb,own_below h.i4 hb,own_below h.i5 hb,h.top,h.d34,h.d35,h.d45,h.p2.stay hb,h.p3.stay hb,h.le⟩
theorem P6.spoil {w W W' : World} {g1 g2 g3 : Nat} {l : List Stmt} {v1 v2 v3 : Nat → Option Addr} {c1 c2 c3 : Nat → Nat} (h : P6 w W g1 g2 g3 l v1 c1 v2 c2 v3 c3) (hf : Fr w.heap.size g1 W W') (h3 : W'.ownsRow w.heap.size 3 1 (.slice (v1 3) (inAts l).length (c1 3)) (inAts l).length (atL (inAts l))) (h4 : W'.ownsRow w.heap.size 3 1 (.slice (v1 4) (outAts l).length (c1 4)) (outAts l).length (atL (outAts l))) (h5 : W'.ownsRow w.heap.size 3 1 (.slice (v1 5) (ruAts l).length (c1 5)) (ruAts l).length (atL (ruAts l))) : P5 w W' g1 g2 g3 l v1 c1 v2 c2 v3 c3 :=
  have hle := h.le;have k : ∀ {x : Nat} {o : Obj},g1 ≤ x → W.heap[x]? = some o → W'.heap[x]? = some o := fun hx h => (hf.block _ (Array.getElem?_eq_some_iff.1 h).1 (.inr hx)).trans h
  ⟨k (by omega) h.b1,k (by omega) h.q1,k (by omega) h.b2,k (by omega) h.q2,k (by omega) h.b3,k (by omega) h.q3,h3,h4,h5,(fun x hx => h.p1.top x (.inr (.inr hx))),h.p1.pg.d34,h.p1.pg.d35,h.p1.pg.d45,h.p2.fr hf (by omega),h.p3.fr hf (by omega),h.le⟩
theorem heap_alloc_two (w : World) (a b : Obj) : ((w.alloc a).alloc b).heap[w.heap.size]? = some a ∧ ((w.alloc a).alloc b).heap[w.heap.size + 1]? = some b := by
 refine ⟨?_,?_⟩
 · rw [heap_alloc_old _ _ (by rw [World.size_alloc];omega)];exact heap_alloc_new _ _
 · have := heap_alloc_new (w.alloc a) b;rw [World.size_alloc] at this;exact this
theorem P6.make {w w1 w2 w3 : World} {l : List Stmt} {v1 v2 v3 : Nat → Option Addr} {c1 c2 c3 : Nat → Nat} (hb1 : Below w.heap.size w w1) (h1 : PrgS w1 w.heap.size (.slice (v1 0) (inpsOf l).length (c1 0)) (.slice (v1 1) (outsOf l).length (c1 1)) (.slice (v1 2) (rulesOf l).length (c1 2)) (.slice (v1 3) (inAts l).length (c1 3)) (.slice (v1 4) (outAts l).length (c1 4)) (.slice (v1 5) (ruAts l).length (c1 5)) l)
    (hb2 : Below ((w1.alloc (.cells #[.slice (v1 0) (inpsOf l).length (c1 0),.slice (v1 1) (outsOf l).length (c1 1),.slice (v1 2) (rulesOf l).length (c1 2)] 28)).alloc (.cells #[.slice (v1 3) (inAts l).length (c1 3),.slice (v1 4) (outAts l).length (c1 4),.slice (v1 5) (ruAts l).length (c1 5)] 31)).heap.size ((w1.alloc (.cells #[.slice (v1 0) (inpsOf l).length (c1 0),.slice (v1 1) (outsOf l).length (c1 1),.slice (v1 2) (rulesOf l).length (c1 2)] 28)).alloc (.cells #[.slice (v1 3) (inAts l).length (c1 3),.slice (v1 4) (outAts l).length (c1 4),.slice (v1 5) (ruAts l).length (c1 5)] 31)) w2) (h2 : PrgS w2 ((w1.alloc (.cells #[.slice (v1 0) (inpsOf l).length (c1 0),.slice (v1 1) (outsOf l).length (c1 1),.slice (v1 2) (rulesOf l).length (c1 2)] 28)).alloc (.cells #[.slice (v1 3) (inAts l).length (c1 3),.slice (v1 4) (outAts l).length (c1 4),.slice (v1 5) (ruAts l).length (c1 5)] 31)).heap.size (.slice (v2 0) (inpsOf l).length (c2 0)) (.slice (v2 1) (outsOf l).length (c2 1)) (.slice (v2 2) (rulesOf l).length (c2 2)) (.slice (v2 3) (inAts l).length (c2 3)) (.slice (v2 4) (outAts l).length (c2 4)) (.slice (v2 5) (ruAts l).length (c2 5)) l)
    (hb3 : Below ((w2.alloc (.cells #[.slice (v2 0) (inpsOf l).length (c2 0),.slice (v2 1) (outsOf l).length (c2 1),.slice (v2 2) (rulesOf l).length (c2 2)] 28)).alloc (.cells #[.slice (v2 3) (inAts l).length (c2 3),.slice (v2 4) (outAts l).length (c2 4),.slice (v2 5) (ruAts l).length (c2 5)] 31)).heap.size ((w2.alloc (.cells #[.slice (v2 0) (inpsOf l).length (c2 0),.slice (v2 1) (outsOf l).length (c2 1),.slice (v2 2) (rulesOf l).length (c2 2)] 28)).alloc (.cells #[.slice (v2 3) (inAts l).length (c2 3),.slice (v2 4) (outAts l).length (c2 4),.slice (v2 5) (ruAts l).length (c2 5)] 31)) w3) (h3 : PrgVS w3 ((w2.alloc (.cells #[.slice (v2 0) (inpsOf l).length (c2 0),.slice (v2 1) (outsOf l).length (c2 1),.slice (v2 2) (rulesOf l).length (c2 2)] 28)).alloc (.cells #[.slice (v2 3) (inAts l).length (c2 3),.slice (v2 4) (outAts l).length (c2 4),.slice (v2 5) (ruAts l).length (c2 5)] 31)).heap.size (.slice (v3 0) (inpsOf l).length (c3 0)) (.slice (v3 1) (outsOf l).length (c3 1)) (.slice (v3 2) (rulesOf l).length (c3 2)) (.slice (v3 3) (inAts l).length (c3 3)) (.slice (v3 4) (outAts l).length (c3 4)) (.slice (v3 5) (ruAts l).length (c3 5)) l) :
    P6 w ((w3.alloc (.cells #[.slice (v3 0) (inpsOf l).length (c3 0),.slice (v3 1) (outsOf l).length (c3 1),.slice (v3 2) (rulesOf l).length (c3 2)] 28)).alloc (.cells #[.slice (v3 3) (inAts l).length (c3 3),.slice (v3 4) (outAts l).length (c3 4),.slice (v3 5) (ruAts l).length (c3 5)] 31)) w1.heap.size w2.heap.size w3.heap.size l v1 c1 v2 c2 v3 c3 := by
 have z1 : ((w1.alloc (.cells #[.slice (v1 0) (inpsOf l).length (c1 0),.slice (v1 1) (outsOf l).length (c1 1),.slice (v1 2) (rulesOf l).length (c1 2)] 28)).alloc (.cells #[.slice (v1 3) (inAts l).length (c1 3),.slice (v1 4) (outAts l).length (c1 4),.slice (v1 5) (ruAts l).length (c1 5)] 31)).heap.size = w1.heap.size + 2 := by rw [World.size_alloc,World.size_alloc]
 have z2 : ((w2.alloc (.cells #[.slice (v2 0) (inpsOf l).length (c2 0),.slice (v2 1) (outsOf l).length (c2 1),.slice (v2 2) (rulesOf l).length (c2 2)] 28)).alloc (.cells #[.slice (v2 3) (inAts l).length (c2 3),.slice (v2 4) (outAts l).length (c2 4),.slice (v2 5) (ruAts l).length (c2 5)] 31)).heap.size = w2.heap.size + 2 := by rw [World.size_alloc,World.size_alloc]
 have m1 := heap_alloc_two w1 (.cells #[.slice (v1 0) (inpsOf l).length (c1 0),.slice (v1 1) (outsOf l).length (c1 1),.slice (v1 2) (rulesOf l).length (c1 2)] 28) (.cells #[.slice (v1 3) (inAts l).length (c1 3),.slice (v1 4) (outAts l).length (c1 4),.slice (v1 5) (ruAts l).length (c1 5)] 31)
 have m2 := heap_alloc_two w2 (.cells #[.slice (v2 0) (inpsOf l).length (c2 0),.slice (v2 1) (outsOf l).length (c2 1),.slice (v2 2) (rulesOf l).length (c2 2)] 28) (.cells #[.slice (v2 3) (inAts l).length (c2 3),.slice (v2 4) (outAts l).length (c2 4),.slice (v2 5) (ruAts l).length (c2 5)] 31)
 have m3 := heap_alloc_two w3 (.cells #[.slice (v3 0) (inpsOf l).length (c3 0),.slice (v3 1) (outsOf l).length (c3 1),.slice (v3 2) (rulesOf l).length (c3 2)] 28) (.cells #[.slice (v3 3) (inAts l).length (c3 3),.slice (v3 4) (outAts l).length (c3 4),.slice (v3 5) (ruAts l).length (c3 5)] 31)
 have a1 : Below w1.heap.size w1 ((w1.alloc (.cells #[.slice (v1 0) (inpsOf l).length (c1 0),.slice (v1 1) (outsOf l).length (c1 1),.slice (v1 2) (rulesOf l).length (c1 2)] 28)).alloc (.cells #[.slice (v1 3) (inAts l).length (c1 3),.slice (v1 4) (outAts l).length (c1 4),.slice (v1 5) (ruAts l).length (c1 5)] 31)) := ((Below.refl _ _).al _).al _
 have a2 : Below w2.heap.size w2 ((w2.alloc (.cells #[.slice (v2 0) (inpsOf l).length (c2 0),.slice (v2 1) (outsOf l).length (c2 1),.slice (v2 2) (rulesOf l).length (c2 2)] 28)).alloc (.cells #[.slice (v2 3) (inAts l).length (c2 3),.slice (v2 4) (outAts l).length (c2 4),.slice (v2 5) (ruAts l).length (c2 5)] 31)) := ((Below.refl _ _).al _).al _
 have a3 : Below w3.heap.size w3 ((w3.alloc (.cells #[.slice (v3 0) (inpsOf l).length (c3 0),.slice (v3 1) (outsOf l).length (c3 1),.slice (v3 2) (rulesOf l).length (c3 2)] 28)).alloc (.cells #[.slice (v3 3) (inAts l).length (c3 3),.slice (v3 4) (outAts l).length (c3 4),.slice (v3 5) (ruAts l).length (c3 5)] 31)) := ((Below.refl _ _).al _).al _
 generalize (w1.alloc (.cells #[.slice (v1 0) (inpsOf l).length (c1 0),.slice (v1 1) (outsOf l).length (c1 1),.slice (v1 2) (rulesOf l).length (c1 2)] 28)).alloc (.cells #[.slice (v1 3) (inAts l).length (c1 3),.slice (v1 4) (outAts l).length (c1 4),.slice (v1 5) (ruAts l).length (c1 5)] 31) = W1 at *
 generalize (w2.alloc (.cells #[.slice (v2 0) (inpsOf l).length (c2 0),.slice (v2 1) (outsOf l).length (c2 1),.slice (v2 2) (rulesOf l).length (c2 2)] 28)).alloc (.cells #[.slice (v2 3) (inAts l).length (c2 3),.slice (v2 4) (outAts l).length (c2 4),.slice (v2 5) (ruAts l).length (c2 5)] 31) = W2 at *
 generalize (w3.alloc (.cells #[.slice (v3 0) (inpsOf l).length (c3 0),.slice (v3 1) (outsOf l).length (c3 1),.slice (v3 2) (rulesOf l).length (c3 2)] 28)).alloc (.cells #[.slice (v3 3) (inAts l).length (c3 3),.slice (v3 4) (outAts l).length (c3 4),.slice (v3 5) (ruAts l).length (c3 5)] 31) = W3 at *;have s1 := hb1.size;have s2 := hb2.size;have s3 := hb3.size
 have e3 : Below W2.heap.size W2 W3 := hb3.trans (a3.mono s3);have e2 : Below W1.heap.size W1 W3 := hb2.trans ((a2.trans (e3.mono a2.size)).mono s2);have e1 : Below w1.heap.size w1 W3 := a1.trans (e2.mono a1.size);have e2' : Below w2.heap.size w2 W3 := a2.trans (e3.mono a2.size)
 have k1 : ∀ {x : Nat} {o : Obj},W1.heap[x]? = some o → W3.heap[x]? = some o := fun h => (e2.block _ (Array.getElem?_eq_some_iff.1 h).1).trans h;have k2 : ∀ {x : Nat} {o : Obj},W2.heap[x]? = some o → W3.heap[x]? = some o := fun h => (e3.block _ (Array.getElem?_eq_some_iff.1 h).1).trans h;rw [z1] at h2 s2;rw [z2] at h3 s3
 exact ⟨k1 m1.1,k1 m1.2,k2 m2.1,k2 m2.2,m3.1,m3.2,(PrgR.of h1).stay e1,h2.stay e2',h3.stay a3,s1,s2,s3⟩
theorem atL_ia (a : List Nat) : atL a = (ia a).map (Value.int .i64) := by unfold atL ia;rw [List.map_map];rfl
theorem P5.book {w W w' : World} {g1 g2 g3 : Nat} {l : List Stmt} {v1 v2 v3 : Nat → Option Addr} {c1 c2 c3 : Nat → Nat} (h : P5 w W g1 g2 g3 l v1 c1 v2 c2 v3 c3) (hl : Small l) {e : Ending} (hp : BkPost W.heap.size 6 [.slice (v1 3) (inAts l).length (c1 3),.slice (v1 4) (outAts l).length (c1 4),.slice (v1 5) (ruAts l).length (c1 5),.slice (v2 3) (inAts l).length (c2 3),.slice (v2 4) (outAts l).length (c2 4),.slice (v2 5) (ruAts l).length (c2 5)] ((W.alloc (.cells #[.slice none 0 0,.slice none 0 0,.slice none 0 0] 45)).alloc (.cells #[.slice (v1 3) (inAts l).length (c1 3),.slice (v1 4) (outAts l).length (c1 4),.slice (v1 5) (ruAts l).length (c1 5),.slice (v2 3) (inAts l).length (c2 3),.slice (v2 4) (outAts l).length (c2 4),.slice (v2 5) (ruAts l).length (c2 5)] 29)) e w') :
    e = .returned (.tuple #[]) ∧ Below W.heap.size W w' ∧ ∃ (L : Rows3) (X : Nat → List Int) (G cN : Nat),BkIn w' w.heap.size W.heap.size G 6 cN L X ∧ w'.cell? ⟨W.heap.size,0,none⟩ = some (.slice none 0 0) ∧ w'.cell? ⟨W.heap.size,2,none⟩ = some (.slice none 0 0) := by
 have hle := h.le
 have hU : Below W.heap.size W ((W.alloc (.cells #[.slice none 0 0,.slice none 0 0,.slice none 0 0] 45)).alloc (.cells #[.slice (v1 3) (inAts l).length (c1 3),.slice (v1 4) (outAts l).length (c1 4),.slice (v1 5) (ruAts l).length (c1 5),.slice (v2 3) (inAts l).length (c2 3),.slice (v2 4) (outAts l).length (c2 4),.slice (v2 5) (ruAts l).length (c2 5)] 29)) := ((Below.refl _ _).al _).al _
 have hz : ((W.alloc (.cells #[.slice none 0 0,.slice none 0 0,.slice none 0 0] 45)).alloc (.cells #[.slice (v1 3) (inAts l).length (c1 3),.slice (v1 4) (outAts l).length (c1 4),.slice (v1 5) (ruAts l).length (c1 5),.slice (v2 3) (inAts l).length (c2 3),.slice (v2 4) (outAts l).length (c2 4),.slice (v2 5) (ruAts l).length (c2 5)] 29)).heap.size = W.heap.size + 2 := by rw [World.size_alloc,World.size_alloc]
 obtain ⟨hn3,hn4,hn5,-,-,-⟩ := hl.ats;have hgW : g3 + 1 < W.heap.size := (Array.getElem?_eq_some_iff.1 h.q3).1;have o3 := own_below h.i3 hU;have o4 := own_below h.i4 hU;have o5 := own_below h.i5 hU;have u3 := own_lower (base' := w.heap.size) (own_below h.p2.r3 hU) (by omega);have u4 := own_lower (base' := w.heap.size) (own_below h.p2.r4 hU) (by omega)
 have u5 := own_lower (base' := w.heap.size) (own_below h.p2.r5 hU) (by omega);have l3 := fun k hk => own_lt h.p2.r3 k hk;have l4 := fun k hk => own_lt h.p2.r4 k hk;have l5 := fun k hk => own_lt h.p2.r5 k hk;rw [atL_ia] at o3 o4 o5 u3 u4 u5
 generalize (W.alloc (.cells #[.slice none 0 0,.slice none 0 0,.slice none 0 0] 45)).alloc (.cells #[.slice (v1 3) (inAts l).length (c1 3),.slice (v1 4) (outAts l).length (c1 4),.slice (v1 5) (ruAts l).length (c1 5),.slice (v2 3) (inAts l).length (c2 3),.slice (v2 4) (outAts l).length (c2 4),.slice (v2 5) (ruAts l).length (c2 5)] 29) = U at *
 obtain ⟨he,hk,G,cN,hin,hT,hL⟩ := bkT_in (T := [⟨v1 3,(inAts l).length,c1 3,ia (inAts l)⟩,⟨v1 4,(outAts l).length,c1 4,ia (outAts l)⟩,⟨v1 5,(ruAts l).length,c1 5,ia (ruAts l)⟩,⟨v2 3,(inAts l).length,c2 3,ia (inAts l)⟩,⟨v2 4,(outAts l).length,c2 4,ia (outAts l)⟩,⟨v2 5,(ruAts l).length,c2 5,ia (ruAts l)⟩]) (base := w.heap.size) (BB := W.heap.size) (by show 6 ≤ 100;decide) (by
     intro j hj
     match j,hj with
     | 0,_ => exact o3
     | 1,_ => exact o4
     | 2,_ => exact o5
     | 3,_ => exact u3
     | 4,_ => exact u4
     | 5,_ => exact u5) (by
     intro j hj b hb
     match j,hj with
     | 0,_ => have := h.top b (.inl hb);omega
     | 1,_ => have := h.top b (.inr (.inl hb));omega
     | 2,_ => have := h.top b (.inr (.inr hb));omega
     | 3,_ => exact (l3 b hb).2
     | 4,_ => exact (l4 b hb).2
     | 5,_ => exact (l5 b hb).2)
   (apart6 (s := g1) (fun k hk => ⟨h.top k (.inl hk),h.d34 k hk,h.d35 k hk⟩) (fun k hk => ⟨h.top k (.inr (.inl hk)),h.d45 k hk⟩) (fun k hk => h.top k (.inr (.inr hk))) (fun k hk => ⟨by have := (l3 k hk).1;omega,h.p2.d34 k hk,h.p2.d35 k hk⟩) (fun k hk => ⟨by have := (l4 k hk).1;omega,h.p2.d45 k hk⟩) (fun k hk => by have := (l5 k hk).1;omega))
   (by omega) (by omega) (by
    intro j hj
    match j,hj with
    | 0,_ => show (inAts l).length ≤ _;omega
    | 1,_ => show (outAts l).length ≤ _;omega
    | 2,_ => show (ruAts l).length ≤ _;omega
    | 3,_ => show (inAts l).length ≤ _;omega
    | 4,_ => show (outAts l).length ≤ _;omega
    | 5,_ => show (ruAts l).length ≤ _;omega) hp
 refine ⟨he,⟨hk.os.trans hU.os,hk.tape.trans hU.tape,hk.output.trans hU.output,by have := hk.size;have := hU.size;omega,fun k hk2 => (hk.block k (by omega) (by omega)).trans (hU.block k hk2)⟩,_,_,G,cN,hin,hT,hL⟩
theorem BkIn.stay {w w' : World} {base BB G m cN : Nat} {L : Rows3} {X : Nat → List Int} (h : BkIn w base BB G m cN L X) (hb : Below w.heap.size w w') : BkIn w' base BB G m cN L X :=
  have k : ∀ {a : Addr} {v : Value},w.cell? a = some v → w'.cell? a = some v := fun h => (World.cell?_of_block (hb.block _ (cell_lt h))).trans h
  ⟨h.hm,Nat.le_trans h.hbase hb.size,k h.hN,fun j hj => k (h.hL j hj),fun j hj => own_below (h.hX j hj) hb,h.hn,h.hap⟩
theorem cell_stay {w w' : World} {a : Addr} {v : Value} (hb : Below w.heap.size w w') (h : w.cell? a = some v) : w'.cell? a = some v := (World.cell?_of_block (hb.block _ (cell_lt h))).trans h
theorem KeptR.low {B : Nat → Prop} {w w' : World} {base : Nat} (h : KeptR B w w') (hb : ∀ b,B b → base ≤ b) (hs : base ≤ w.heap.size) : Below base w w' :=
  ⟨h.os,h.tape,h.output,h.size,fun k hk => h.block k (by omega) (fun h => by have := hb k h;omega)⟩
theorem below3 {w w1 w2 w3 : World} {a1 a2 a3 b1 b2 b3 : Obj} (hb1 : Below w.heap.size w w1) (hb2 : Below ((w1.alloc a1).alloc b1).heap.size ((w1.alloc a1).alloc b1) w2) (hb3 : Below ((w2.alloc a2).alloc b2).heap.size ((w2.alloc a2).alloc b2) w3) : Below w.heap.size w ((w3.alloc a3).alloc b3) := by
 have e1 := (hb1.al a1).al b1;have e2 := ((e1.trans (hb2.mono e1.size)).al a2).al b2;exact ((e2.trans (hb3.mono e2.size)).al a3).al b3
theorem programs_true (s : ByteArray) (w : World) (hs : s.size ≤ 20000) (l : List Stmt) (at_ : Int) (h : PSay s l at_ 0 true) :
    Calls Tryd.prog 3 #[.string s] w fun e w' => e = .returned (.bool true) ∧ Below w.heap.size w w' := by
 obtain ⟨hp,hr,hl,hat,hsm⟩ := h;have hsl : Hid (Small l) := Lh ⟨hl,hat⟩;have hp2 := Lh hp;replace hp := Lh hp;replace hr := Lh hr;replace hsm := Lh hsm;have hwk := Lh w8_works;have hnum := Lh w8_num;have hli : ¬ ((20000 : Int) < (s.size : Int)) := by omega
 clear hl hat;go_enter Tryd.func3,Tryd.ntmps3
 go_wp2_with (first
   | (go_at_call 4;refine (w8_long _ _).mono ?_;rintro e wl ⟨rfl,rfl⟩)
   | (go_at_call 6;have hg := hp;refine (hp.out _).mono ?_;rintro e w1 ⟨v1,c1,rfl,hb1,h1⟩;replace hb1 := Lh hb1;replace h1 := Lh h1;clear hg hp)
   | (go_at_call 6;have hg := hp2;refine (hp2.out _).mono ?_;rintro e w2 ⟨v2,c2,rfl,hb2,h2⟩;replace hb2 := Lh hb2;replace h2 := Lh h2;clear hg hp2)
   | (go_at_call 7;refine (hr.out _).mono ?_;rintro e w3 ⟨v3,c3,rfl,hb3,h3⟩
      have hA0 : Hid (P6 w ((w3.alloc (.cells #[.slice (v3 0) (inpsOf l).length (c3 0),.slice (v3 1) (outsOf l).length (c3 1),.slice (v3 2) (rulesOf l).length (c3 2)] 28)).alloc (.cells #[.slice (v3 3) (inAts l).length (c3 3),.slice (v3 4) (outAts l).length (c3 4),.slice (v3 5) (ruAts l).length (c3 5)] 31)) w1.heap.size w2.heap.size w3.heap.size l v1 c1 v2 c2 v3 c3) := Lh (P6.make hb1.out h1.out hb2.out h2.out hb3 h3)
      have hB0 : Hid (Below w.heap.size w ((w3.alloc (.cells #[.slice (v3 0) (inpsOf l).length (c3 0),.slice (v3 1) (outsOf l).length (c3 1),.slice (v3 2) (rulesOf l).length (c3 2)] 28)).alloc (.cells #[.slice (v3 3) (inAts l).length (c3 3),.slice (v3 4) (outAts l).length (c3 4),.slice (v3 5) (ruAts l).length (c3 5)] 31))) := Lh (below3 hb1.out hb2.out hb3)
      have q10 := (cell_of_row _ _ 0 _ _ _ hA0.out.b1).trans rfl;have q11 := (cell_of_row _ _ 1 _ _ _ hA0.out.b1).trans rfl;have q12 := (cell_of_row _ _ 2 _ _ _ hA0.out.b1).trans rfl;have q13 := (cell_of_row _ _ 0 _ _ _ hA0.out.q1).trans rfl;have q14 := (cell_of_row _ _ 1 _ _ _ hA0.out.q1).trans rfl;have q15 := (cell_of_row _ _ 2 _ _ _ hA0.out.q1).trans rfl
      have q20 := (cell_of_row _ _ 0 _ _ _ hA0.out.b2).trans rfl;have q21 := (cell_of_row _ _ 1 _ _ _ hA0.out.b2).trans rfl;have q22 := (cell_of_row _ _ 2 _ _ _ hA0.out.b2).trans rfl;have q23 := (cell_of_row _ _ 0 _ _ _ hA0.out.q2).trans rfl;have q24 := (cell_of_row _ _ 1 _ _ _ hA0.out.q2).trans rfl;have q25 := (cell_of_row _ _ 2 _ _ _ hA0.out.q2).trans rfl
      have q30 := (cell_of_row _ _ 0 _ _ _ hA0.out.b3).trans rfl;have q31 := (cell_of_row _ _ 1 _ _ _ hA0.out.b3).trans rfl;have q32 := (cell_of_row _ _ 2 _ _ _ hA0.out.b3).trans rfl;have q33 := (cell_of_row _ _ 0 _ _ _ hA0.out.q3).trans rfl;have q34 := (cell_of_row _ _ 1 _ _ _ hA0.out.q3).trans rfl;have q35 := (cell_of_row _ _ 2 _ _ _ hA0.out.q3).trans rfl;clear hb3 h3 hb1 h1 hb2 h2 hr)
   | (go_at_call 8;have hg := hA0;refine (kt_same l _ _ _ _ _ (rows_p hsl.out hA0.out.p1.pg) (rows_v hsl.out hA0.out.p3)).mono ?_;rintro e wx1 ⟨rfl,hbx⟩;have hA1 : Hid (P6 w wx1 w1.heap.size w2.heap.size w3.heap.size l v1 c1 v2 c2 v3 c3) := Lh (hA0.out.stay hbx);have hB1 := Lh (hB0.out.trans (hbx.mono hB0.out.size))
      clear q10 q11 q12 q13 q14 q15 q20 q21 q22 q23 q24 q25 q30 q31 q32 q33 q34 q35 hg hA0 hB0 hbx;have q10 := (cell_of_row _ _ 0 _ _ _ hA1.out.b1).trans rfl;have q11 := (cell_of_row _ _ 1 _ _ _ hA1.out.b1).trans rfl;have q12 := (cell_of_row _ _ 2 _ _ _ hA1.out.b1).trans rfl;have q13 := (cell_of_row _ _ 0 _ _ _ hA1.out.q1).trans rfl;have q14 := (cell_of_row _ _ 1 _ _ _ hA1.out.q1).trans rfl
      have q15 := (cell_of_row _ _ 2 _ _ _ hA1.out.q1).trans rfl;have q20 := (cell_of_row _ _ 0 _ _ _ hA1.out.b2).trans rfl;have q21 := (cell_of_row _ _ 1 _ _ _ hA1.out.b2).trans rfl;have q22 := (cell_of_row _ _ 2 _ _ _ hA1.out.b2).trans rfl;have q23 := (cell_of_row _ _ 0 _ _ _ hA1.out.q2).trans rfl;have q24 := (cell_of_row _ _ 1 _ _ _ hA1.out.q2).trans rfl
      have q25 := (cell_of_row _ _ 2 _ _ _ hA1.out.q2).trans rfl;have q30 := (cell_of_row _ _ 0 _ _ _ hA1.out.b3).trans rfl;have q31 := (cell_of_row _ _ 1 _ _ _ hA1.out.b3).trans rfl;have q32 := (cell_of_row _ _ 2 _ _ _ hA1.out.b3).trans rfl;have q33 := (cell_of_row _ _ 0 _ _ _ hA1.out.q3).trans rfl;have q34 := (cell_of_row _ _ 1 _ _ _ hA1.out.q3).trans rfl
      have q35 := (cell_of_row _ _ 2 _ _ _ hA1.out.q3).trans rfl)
   | (go_at_call 8;have hg := hA1;refine (kt_same l _ _ _ _ _ (rows_p hsl.out hA1.out.p2) (rows_v hsl.out hA1.out.p3)).mono ?_;rintro e wx2 ⟨rfl,hbx⟩;have hA2 : Hid (P6 w wx2 w1.heap.size w2.heap.size w3.heap.size l v1 c1 v2 c2 v3 c3) := Lh (hA1.out.stay hbx);have hB2 := Lh (hB1.out.trans (hbx.mono hB1.out.size))
      clear q10 q11 q12 q13 q14 q15 q20 q21 q22 q23 q24 q25 q30 q31 q32 q33 q34 q35 hg hA1 hB1 hbx;have q10 := (cell_of_row _ _ 0 _ _ _ hA2.out.b1).trans rfl;have q11 := (cell_of_row _ _ 1 _ _ _ hA2.out.b1).trans rfl;have q12 := (cell_of_row _ _ 2 _ _ _ hA2.out.b1).trans rfl;have q13 := (cell_of_row _ _ 0 _ _ _ hA2.out.q1).trans rfl;have q14 := (cell_of_row _ _ 1 _ _ _ hA2.out.q1).trans rfl
      have q15 := (cell_of_row _ _ 2 _ _ _ hA2.out.q1).trans rfl;have q20 := (cell_of_row _ _ 0 _ _ _ hA2.out.b2).trans rfl;have q21 := (cell_of_row _ _ 1 _ _ _ hA2.out.b2).trans rfl;have q22 := (cell_of_row _ _ 2 _ _ _ hA2.out.b2).trans rfl;have q23 := (cell_of_row _ _ 0 _ _ _ hA2.out.q2).trans rfl;have q24 := (cell_of_row _ _ 1 _ _ _ hA2.out.q2).trans rfl
      have q25 := (cell_of_row _ _ 2 _ _ _ hA2.out.q2).trans rfl;have q30 := (cell_of_row _ _ 0 _ _ _ hA2.out.b3).trans rfl;have q31 := (cell_of_row _ _ 1 _ _ _ hA2.out.b3).trans rfl;have q32 := (cell_of_row _ _ 2 _ _ _ hA2.out.b3).trans rfl;have q33 := (cell_of_row _ _ 0 _ _ _ hA2.out.q3).trans rfl;have q34 := (cell_of_row _ _ 1 _ _ _ hA2.out.q3).trans rfl
      have q35 := (cell_of_row _ _ 2 _ _ _ hA2.out.q3).trans rfl)
   | (go_at_call 9;have hg := hA2;refine (pl_same l _ _ _ _ _ (rows_p hsl.out hA2.out.p1.pg) (rows_v hsl.out hA2.out.p3)).mono ?_;rintro e wx3 ⟨rfl,hbx⟩;have hA3 : Hid (P6 w wx3 w1.heap.size w2.heap.size w3.heap.size l v1 c1 v2 c2 v3 c3) := Lh (hA2.out.stay hbx);have hB3 := Lh (hB2.out.trans (hbx.mono hB2.out.size))
      clear q10 q11 q12 q13 q14 q15 q20 q21 q22 q23 q24 q25 q30 q31 q32 q33 q34 q35 hg hA2 hB2 hbx;have q10 := (cell_of_row _ _ 0 _ _ _ hA3.out.b1).trans rfl;have q11 := (cell_of_row _ _ 1 _ _ _ hA3.out.b1).trans rfl;have q12 := (cell_of_row _ _ 2 _ _ _ hA3.out.b1).trans rfl;have q13 := (cell_of_row _ _ 0 _ _ _ hA3.out.q1).trans rfl;have q14 := (cell_of_row _ _ 1 _ _ _ hA3.out.q1).trans rfl
      have q15 := (cell_of_row _ _ 2 _ _ _ hA3.out.q1).trans rfl;have q20 := (cell_of_row _ _ 0 _ _ _ hA3.out.b2).trans rfl;have q21 := (cell_of_row _ _ 1 _ _ _ hA3.out.b2).trans rfl;have q22 := (cell_of_row _ _ 2 _ _ _ hA3.out.b2).trans rfl;have q23 := (cell_of_row _ _ 0 _ _ _ hA3.out.q2).trans rfl;have q24 := (cell_of_row _ _ 1 _ _ _ hA3.out.q2).trans rfl
      have q25 := (cell_of_row _ _ 2 _ _ _ hA3.out.q2).trans rfl;have q30 := (cell_of_row _ _ 0 _ _ _ hA3.out.b3).trans rfl;have q31 := (cell_of_row _ _ 1 _ _ _ hA3.out.b3).trans rfl;have q32 := (cell_of_row _ _ 2 _ _ _ hA3.out.b3).trans rfl;have q33 := (cell_of_row _ _ 0 _ _ _ hA3.out.q3).trans rfl;have q34 := (cell_of_row _ _ 1 _ _ _ hA3.out.q3).trans rfl
      have q35 := (cell_of_row _ _ 2 _ _ _ hA3.out.q3).trans rfl)
   | (go_at_call 9;have hg := hA3;refine (pl_same l _ _ _ _ _ (rows_p hsl.out hA3.out.p2) (rows_v hsl.out hA3.out.p3)).mono ?_;rintro e wx4 ⟨rfl,hbx⟩;have hA4 : Hid (P6 w wx4 w1.heap.size w2.heap.size w3.heap.size l v1 c1 v2 c2 v3 c3) := Lh (hA3.out.stay hbx);have hB4 := Lh (hB3.out.trans (hbx.mono hB3.out.size))
      clear q10 q11 q12 q13 q14 q15 q20 q21 q22 q23 q24 q25 q30 q31 q32 q33 q34 q35 hg hA3 hB3 hbx;have q10 := (cell_of_row _ _ 0 _ _ _ hA4.out.b1).trans rfl;have q11 := (cell_of_row _ _ 1 _ _ _ hA4.out.b1).trans rfl;have q12 := (cell_of_row _ _ 2 _ _ _ hA4.out.b1).trans rfl;have q13 := (cell_of_row _ _ 0 _ _ _ hA4.out.q1).trans rfl;have q14 := (cell_of_row _ _ 1 _ _ _ hA4.out.q1).trans rfl
      have q15 := (cell_of_row _ _ 2 _ _ _ hA4.out.q1).trans rfl;have q20 := (cell_of_row _ _ 0 _ _ _ hA4.out.b2).trans rfl;have q21 := (cell_of_row _ _ 1 _ _ _ hA4.out.b2).trans rfl;have q22 := (cell_of_row _ _ 2 _ _ _ hA4.out.b2).trans rfl;have q23 := (cell_of_row _ _ 0 _ _ _ hA4.out.q2).trans rfl;have q24 := (cell_of_row _ _ 1 _ _ _ hA4.out.q2).trans rfl
      have q25 := (cell_of_row _ _ 2 _ _ _ hA4.out.q2).trans rfl;have q30 := (cell_of_row _ _ 0 _ _ _ hA4.out.b3).trans rfl;have q31 := (cell_of_row _ _ 1 _ _ _ hA4.out.b3).trans rfl;have q32 := (cell_of_row _ _ 2 _ _ _ hA4.out.b3).trans rfl;have q33 := (cell_of_row _ _ 0 _ _ _ hA4.out.q3).trans rfl;have q34 := (cell_of_row _ _ 1 _ _ _ hA4.out.q3).trans rfl
      have q35 := (cell_of_row _ _ 2 _ _ _ hA4.out.q3).trans rfl)
   | (go_at_call 10;refine (hnum.out _ _).mono ?_;rintro e wn ⟨rfl,rfl⟩)
   | (go_at_call 11;have hg := hA4;refine (pa_Begins s _ (by omega)).mono ?_;rintro e wx5 ⟨rfl,hbx⟩;have hA5 : Hid (P6 w wx5 w1.heap.size w2.heap.size w3.heap.size l v1 c1 v2 c2 v3 c3) := Lh (hA4.out.stay hbx);have hB5 := Lh (hB4.out.trans (hbx.mono hB4.out.size));clear q10 q11 q12 q13 q14 q15 q20 q21 q22 q23 q24 q25 q30 q31 q32 q33 q34 q35 hg hA4 hB4 hbx
      have q10 := (cell_of_row _ _ 0 _ _ _ hA5.out.b1).trans rfl;have q11 := (cell_of_row _ _ 1 _ _ _ hA5.out.b1).trans rfl;have q12 := (cell_of_row _ _ 2 _ _ _ hA5.out.b1).trans rfl;have q13 := (cell_of_row _ _ 0 _ _ _ hA5.out.q1).trans rfl;have q14 := (cell_of_row _ _ 1 _ _ _ hA5.out.q1).trans rfl;have q15 := (cell_of_row _ _ 2 _ _ _ hA5.out.q1).trans rfl
      have q20 := (cell_of_row _ _ 0 _ _ _ hA5.out.b2).trans rfl;have q21 := (cell_of_row _ _ 1 _ _ _ hA5.out.b2).trans rfl;have q22 := (cell_of_row _ _ 2 _ _ _ hA5.out.b2).trans rfl;have q23 := (cell_of_row _ _ 0 _ _ _ hA5.out.q2).trans rfl;have q24 := (cell_of_row _ _ 1 _ _ _ hA5.out.q2).trans rfl;have q25 := (cell_of_row _ _ 2 _ _ _ hA5.out.q2).trans rfl
      have q30 := (cell_of_row _ _ 0 _ _ _ hA5.out.b3).trans rfl;have q31 := (cell_of_row _ _ 1 _ _ _ hA5.out.b3).trans rfl;have q32 := (cell_of_row _ _ 2 _ _ _ hA5.out.b3).trans rfl;have q33 := (cell_of_row _ _ 0 _ _ _ hA5.out.q3).trans rfl;have q34 := (cell_of_row _ _ 1 _ _ _ hA5.out.q3).trans rfl;have q35 := (cell_of_row _ _ 2 _ _ _ hA5.out.q3).trans rfl)
   | (go_at_call 12;have hg := hA5;refine (re_Begins s _ (by omega)).mono ?_;rintro e wx6 ⟨rfl,hbx⟩;have hA6 : Hid (P6 w wx6 w1.heap.size w2.heap.size w3.heap.size l v1 c1 v2 c2 v3 c3) := Lh (hA5.out.stay hbx);have hB6 := Lh (hB5.out.trans (hbx.mono hB5.out.size));clear q10 q11 q12 q13 q14 q15 q20 q21 q22 q23 q24 q25 q30 q31 q32 q33 q34 q35 hg hA5 hB5 hbx
      have q10 := (cell_of_row _ _ 0 _ _ _ hA6.out.b1).trans rfl;have q11 := (cell_of_row _ _ 1 _ _ _ hA6.out.b1).trans rfl;have q12 := (cell_of_row _ _ 2 _ _ _ hA6.out.b1).trans rfl;have q13 := (cell_of_row _ _ 0 _ _ _ hA6.out.q1).trans rfl;have q14 := (cell_of_row _ _ 1 _ _ _ hA6.out.q1).trans rfl;have q15 := (cell_of_row _ _ 2 _ _ _ hA6.out.q1).trans rfl
      have q20 := (cell_of_row _ _ 0 _ _ _ hA6.out.b2).trans rfl;have q21 := (cell_of_row _ _ 1 _ _ _ hA6.out.b2).trans rfl;have q22 := (cell_of_row _ _ 2 _ _ _ hA6.out.b2).trans rfl;have q23 := (cell_of_row _ _ 0 _ _ _ hA6.out.q2).trans rfl;have q24 := (cell_of_row _ _ 1 _ _ _ hA6.out.q2).trans rfl;have q25 := (cell_of_row _ _ 2 _ _ _ hA6.out.q2).trans rfl
      have q30 := (cell_of_row _ _ 0 _ _ _ hA6.out.b3).trans rfl;have q31 := (cell_of_row _ _ 1 _ _ _ hA6.out.b3).trans rfl;have q32 := (cell_of_row _ _ 2 _ _ _ hA6.out.b3).trans rfl;have q33 := (cell_of_row _ _ 0 _ _ _ hA6.out.q3).trans rfl;have q34 := (cell_of_row _ _ 1 _ _ _ hA6.out.q3).trans rfl;have q35 := (cell_of_row _ _ 2 _ _ _ hA6.out.q3).trans rfl)
   | (go_at_call 13;refine (hA6.out.p1.spoil hsl.out.len hsm.out hA6.out.le.1 (by have := hA6.out.le;have := (Array.getElem?_eq_some_iff.1 hA6.out.q3).1;omega)).mono ?_;rintro e w6 ⟨rfl,hf,k3,k4,k5⟩;have hC : Hid (P5 w w6 w1.heap.size w2.heap.size w3.heap.size l v1 c1 v2 c2 v3 c3) := Lh (hA6.out.spoil hf k3 k4 k5)
      have hB7 := Lh (hB6.out.trans (hf.bel (Nat.le_refl _) hB6.out.size));have hCU : Hid (P5 w (w6.alloc (.cells #[.slice none 0 0,.slice none 0 0,.slice none 0 0] 45)) w1.heap.size w2.heap.size w3.heap.size l v1 c1 v2 c2 v3 c3) := Lh (hC.out.stay ((Below.refl _ _).al _));clear q10 q11 q12 q13 q14 q15 q20 q21 q22 q23 q24 q25 q30 q31 q32 q33 q34 q35 hA6 hB6 hf k3 k4 k5
      have q10 := (cell_of_row _ _ 0 _ _ _ hCU.out.b1).trans rfl;have q11 := (cell_of_row _ _ 1 _ _ _ hCU.out.b1).trans rfl;have q12 := (cell_of_row _ _ 2 _ _ _ hCU.out.b1).trans rfl;have q13 := (cell_of_row _ _ 0 _ _ _ hCU.out.q1).trans rfl;have q14 := (cell_of_row _ _ 1 _ _ _ hCU.out.q1).trans rfl;have q15 := (cell_of_row _ _ 2 _ _ _ hCU.out.q1).trans rfl
      have q20 := (cell_of_row _ _ 0 _ _ _ hCU.out.b2).trans rfl;have q21 := (cell_of_row _ _ 1 _ _ _ hCU.out.b2).trans rfl;have q22 := (cell_of_row _ _ 2 _ _ _ hCU.out.b2).trans rfl;have q23 := (cell_of_row _ _ 0 _ _ _ hCU.out.q2).trans rfl;have q24 := (cell_of_row _ _ 1 _ _ _ hCU.out.q2).trans rfl;have q25 := (cell_of_row _ _ 2 _ _ _ hCU.out.q2).trans rfl
      have q30 := (cell_of_row _ _ 0 _ _ _ hCU.out.b3).trans rfl;have q31 := (cell_of_row _ _ 1 _ _ _ hCU.out.b3).trans rfl;have q32 := (cell_of_row _ _ 2 _ _ _ hCU.out.b3).trans rfl;have q33 := (cell_of_row _ _ 0 _ _ _ hCU.out.q3).trans rfl;have q34 := (cell_of_row _ _ 1 _ _ _ hCU.out.q3).trans rfl;have q35 := (cell_of_row _ _ 2 _ _ _ hCU.out.q3).trans rfl)
   | (go_at_call 14;have hbk := Lh (heap_alloc_two w6 (.cells #[.slice none 0 0,.slice none 0 0,.slice none 0 0] 45) (.cells #[.slice (v1 3) (inAts l).length (c1 3),.slice (v1 4) (outAts l).length (c1 4),.slice (v1 5) (ruAts l).length (c1 5),.slice (v2 3) (inAts l).length (c2 3),.slice (v2 4) (outAts l).length (c2 4),.slice (v2 5) (ruAts l).length (c2 5)] 29))
      refine (bk_Ints w6.heap.size (w6.heap.size + 1) 6 6 [.slice (v1 3) (inAts l).length (c1 3),.slice (v1 4) (outAts l).length (c1 4),.slice (v1 5) (ruAts l).length (c1 5),.slice (v2 3) (inAts l).length (c2 3),.slice (v2 4) (outAts l).length (c2 4),.slice (v2 5) (ruAts l).length (c2 5)] _ hbk.out.1 rfl (by intro j u hu;rw [cell_of_row _ _ _ _ _ _ hbk.out.2];simpa using hu) (by intro u hu;simp at hu;rcases hu with rfl | rfl | rfl | rfl | rfl | rfl <;> rfl) (by decide) (by decide)).mono ?_
      rintro e w7 hp;obtain ⟨he,hbl,L,X,G,cN,hin,hT,hLs⟩ := hC.out.book hsl.out hp;subst he;have hD : Hid (P5 w w7 w1.heap.size w2.heap.size w3.heap.size l v1 c1 v2 c2 v3 c3) := Lh (hC.out.stay hbl);have hB8 := Lh (hB7.out.trans (hbl.mono hB7.out.size))
      have hK : Hid (BkIn w7 w.heap.size w6.heap.size G 6 cN L X ∧ w7.cell? ⟨w6.heap.size,0,none⟩ = some (.slice none 0 0) ∧ w7.cell? ⟨w6.heap.size,2,none⟩ = some (.slice none 0 0)) := Lh ⟨hin,hT,hLs⟩;clear q10 q11 q12 q13 q14 q15 q20 q21 q22 q23 q24 q25 q30 q31 q32 q33 q34 q35 hp hbl hin hT hLs hbk hCU hC hB7;have q10 := (cell_of_row _ _ 0 _ _ _ hD.out.b1).trans rfl
      have q11 := (cell_of_row _ _ 1 _ _ _ hD.out.b1).trans rfl;have q12 := (cell_of_row _ _ 2 _ _ _ hD.out.b1).trans rfl;have q13 := (cell_of_row _ _ 0 _ _ _ hD.out.q1).trans rfl;have q14 := (cell_of_row _ _ 1 _ _ _ hD.out.q1).trans rfl;have q15 := (cell_of_row _ _ 2 _ _ _ hD.out.q1).trans rfl;have q20 := (cell_of_row _ _ 0 _ _ _ hD.out.b2).trans rfl
      have q21 := (cell_of_row _ _ 1 _ _ _ hD.out.b2).trans rfl;have q22 := (cell_of_row _ _ 2 _ _ _ hD.out.b2).trans rfl;have q23 := (cell_of_row _ _ 0 _ _ _ hD.out.q2).trans rfl;have q24 := (cell_of_row _ _ 1 _ _ _ hD.out.q2).trans rfl;have q25 := (cell_of_row _ _ 2 _ _ _ hD.out.q2).trans rfl;have q30 := (cell_of_row _ _ 0 _ _ _ hD.out.b3).trans rfl
      have q31 := (cell_of_row _ _ 1 _ _ _ hD.out.b3).trans rfl;have q32 := (cell_of_row _ _ 2 _ _ _ hD.out.b3).trans rfl;have q33 := (cell_of_row _ _ 0 _ _ _ hD.out.q3).trans rfl;have q34 := (cell_of_row _ _ 1 _ _ _ hD.out.q3).trans rfl;have q35 := (cell_of_row _ _ 2 _ _ _ hD.out.q3).trans rfl)
   | (go_at_call 8;have hg := hD;refine (kt_same l _ _ _ _ _ (rows_p hsl.out hD.out.p2) (rows_v hsl.out hD.out.p3)).mono ?_;rintro e w8 ⟨rfl,hbx⟩
      have hK2 : Hid (BkIn w8 w.heap.size w6.heap.size G 6 cN L X ∧ w8.cell? ⟨w6.heap.size,0,none⟩ = some (.slice none 0 0) ∧ w8.cell? ⟨w6.heap.size,2,none⟩ = some (.slice none 0 0)) := Lh ⟨hK.out.1.stay hbx,cell_stay hbx hK.out.2.1,cell_stay hbx hK.out.2.2⟩;have hB9 := Lh (hB8.out.trans (hbx.mono hB8.out.size))
      clear q10 q11 q12 q13 q14 q15 q20 q21 q22 q23 q24 q25 q30 q31 q32 q33 q34 q35 hg hD hK hbx hB8)
   | (go_at_call 15;refine (bk_Apart _ _ _ _ _ _ _ _ hK2.out.1 hK2.out.2.1 hK2.out.2.2).mono ?_;rintro e w9 ⟨rfl,hk2⟩;have hB10 := Lh (hB9.out.trans (hk2.low (bkT_base hK2.out.1) hB9.out.size));clear hk2)
   | (go_at_call 5;refine (hwk.out _).mono ?_;rintro e w10 ⟨rfl,hbx⟩;have hB11 := Lh (hB10.out.trans (hbx.mono hB10.out.size));clear hbx))
 go_ret;exact ⟨rfl,hB11.out⟩
theorem programs_false (s : ByteArray) (w : World) (hs : s.size ≤ 20000) (l : List Stmt) (at_ : Int) (h : PSay s l at_ 11 false) :
    Calls Tryd.prog 3 #[.string s] w fun e w' => e = .returned (.bool true) ∧ Below w.heap.size w w' := by
 obtain ⟨hp,hr,hl,hat,hsm⟩ := h;have hsl : Hid (Small l) := Lh ⟨hl,hat⟩;have hp2 := Lh hp;replace hp := Lh hp;replace hr := Lh hr;replace hsm := Lh hsm;have hwk := Lh w8_works;have hnum := Lh w8_num;have hli : ¬ ((20000 : Int) < (s.size : Int)) := by omega
 clear hl hat;go_enter Tryd.func3,Tryd.ntmps3
 go_wp2_with (first
   | (go_at_call 4;refine (w8_long _ _).mono ?_;rintro e wl ⟨rfl,rfl⟩)
   | (go_at_call 6;have hg := hp;refine (hp.out _).mono ?_;rintro e w1 ⟨v1,c1,rfl,hb1,h1⟩;replace hb1 := Lh hb1;replace h1 := Lh h1;clear hg hp)
   | (go_at_call 6;have hg := hp2;refine (hp2.out _).mono ?_;rintro e w2 ⟨v2,c2,rfl,hb2,h2⟩;replace hb2 := Lh hb2;replace h2 := Lh h2;clear hg hp2)
   | (go_at_call 7;refine (hr.out _).mono ?_;rintro e w3 ⟨v3,c3,rfl,hb3,h3⟩
      have hA0 : Hid (P6 w ((w3.alloc (.cells #[.slice (v3 0) (inpsOf l).length (c3 0),.slice (v3 1) (outsOf l).length (c3 1),.slice (v3 2) (rulesOf l).length (c3 2)] 28)).alloc (.cells #[.slice (v3 3) (inAts l).length (c3 3),.slice (v3 4) (outAts l).length (c3 4),.slice (v3 5) (ruAts l).length (c3 5)] 31)) w1.heap.size w2.heap.size w3.heap.size l v1 c1 v2 c2 v3 c3) := Lh (P6.make hb1.out h1.out hb2.out h2.out hb3 h3)
      have hB0 : Hid (Below w.heap.size w ((w3.alloc (.cells #[.slice (v3 0) (inpsOf l).length (c3 0),.slice (v3 1) (outsOf l).length (c3 1),.slice (v3 2) (rulesOf l).length (c3 2)] 28)).alloc (.cells #[.slice (v3 3) (inAts l).length (c3 3),.slice (v3 4) (outAts l).length (c3 4),.slice (v3 5) (ruAts l).length (c3 5)] 31))) := Lh (below3 hb1.out hb2.out hb3)
      have q10 := (cell_of_row _ _ 0 _ _ _ hA0.out.b1).trans rfl;have q11 := (cell_of_row _ _ 1 _ _ _ hA0.out.b1).trans rfl;have q12 := (cell_of_row _ _ 2 _ _ _ hA0.out.b1).trans rfl;have q13 := (cell_of_row _ _ 0 _ _ _ hA0.out.q1).trans rfl;have q14 := (cell_of_row _ _ 1 _ _ _ hA0.out.q1).trans rfl;have q15 := (cell_of_row _ _ 2 _ _ _ hA0.out.q1).trans rfl
      have q20 := (cell_of_row _ _ 0 _ _ _ hA0.out.b2).trans rfl;have q21 := (cell_of_row _ _ 1 _ _ _ hA0.out.b2).trans rfl;have q22 := (cell_of_row _ _ 2 _ _ _ hA0.out.b2).trans rfl;have q23 := (cell_of_row _ _ 0 _ _ _ hA0.out.q2).trans rfl;have q24 := (cell_of_row _ _ 1 _ _ _ hA0.out.q2).trans rfl;have q25 := (cell_of_row _ _ 2 _ _ _ hA0.out.q2).trans rfl
      have q30 := (cell_of_row _ _ 0 _ _ _ hA0.out.b3).trans rfl;have q31 := (cell_of_row _ _ 1 _ _ _ hA0.out.b3).trans rfl;have q32 := (cell_of_row _ _ 2 _ _ _ hA0.out.b3).trans rfl;have q33 := (cell_of_row _ _ 0 _ _ _ hA0.out.q3).trans rfl;have q34 := (cell_of_row _ _ 1 _ _ _ hA0.out.q3).trans rfl;have q35 := (cell_of_row _ _ 2 _ _ _ hA0.out.q3).trans rfl;clear hb3 h3 hb1 h1 hb2 h2 hr)
   | (go_at_call 8;have hg := hA0;refine (kt_same l _ _ _ _ _ (rows_p hsl.out hA0.out.p1.pg) (rows_v hsl.out hA0.out.p3)).mono ?_;rintro e wx1 ⟨rfl,hbx⟩;have hA1 : Hid (P6 w wx1 w1.heap.size w2.heap.size w3.heap.size l v1 c1 v2 c2 v3 c3) := Lh (hA0.out.stay hbx);have hB1 := Lh (hB0.out.trans (hbx.mono hB0.out.size))
      clear q10 q11 q12 q13 q14 q15 q20 q21 q22 q23 q24 q25 q30 q31 q32 q33 q34 q35 hg hA0 hB0 hbx;have q10 := (cell_of_row _ _ 0 _ _ _ hA1.out.b1).trans rfl;have q11 := (cell_of_row _ _ 1 _ _ _ hA1.out.b1).trans rfl;have q12 := (cell_of_row _ _ 2 _ _ _ hA1.out.b1).trans rfl;have q13 := (cell_of_row _ _ 0 _ _ _ hA1.out.q1).trans rfl;have q14 := (cell_of_row _ _ 1 _ _ _ hA1.out.q1).trans rfl
      have q15 := (cell_of_row _ _ 2 _ _ _ hA1.out.q1).trans rfl;have q20 := (cell_of_row _ _ 0 _ _ _ hA1.out.b2).trans rfl;have q21 := (cell_of_row _ _ 1 _ _ _ hA1.out.b2).trans rfl;have q22 := (cell_of_row _ _ 2 _ _ _ hA1.out.b2).trans rfl;have q23 := (cell_of_row _ _ 0 _ _ _ hA1.out.q2).trans rfl;have q24 := (cell_of_row _ _ 1 _ _ _ hA1.out.q2).trans rfl
      have q25 := (cell_of_row _ _ 2 _ _ _ hA1.out.q2).trans rfl;have q30 := (cell_of_row _ _ 0 _ _ _ hA1.out.b3).trans rfl;have q31 := (cell_of_row _ _ 1 _ _ _ hA1.out.b3).trans rfl;have q32 := (cell_of_row _ _ 2 _ _ _ hA1.out.b3).trans rfl;have q33 := (cell_of_row _ _ 0 _ _ _ hA1.out.q3).trans rfl;have q34 := (cell_of_row _ _ 1 _ _ _ hA1.out.q3).trans rfl
      have q35 := (cell_of_row _ _ 2 _ _ _ hA1.out.q3).trans rfl)
   | (go_at_call 8;have hg := hA1;refine (kt_same l _ _ _ _ _ (rows_p hsl.out hA1.out.p2) (rows_v hsl.out hA1.out.p3)).mono ?_;rintro e wx2 ⟨rfl,hbx⟩;have hA2 : Hid (P6 w wx2 w1.heap.size w2.heap.size w3.heap.size l v1 c1 v2 c2 v3 c3) := Lh (hA1.out.stay hbx);have hB2 := Lh (hB1.out.trans (hbx.mono hB1.out.size))
      clear q10 q11 q12 q13 q14 q15 q20 q21 q22 q23 q24 q25 q30 q31 q32 q33 q34 q35 hg hA1 hB1 hbx;have q10 := (cell_of_row _ _ 0 _ _ _ hA2.out.b1).trans rfl;have q11 := (cell_of_row _ _ 1 _ _ _ hA2.out.b1).trans rfl;have q12 := (cell_of_row _ _ 2 _ _ _ hA2.out.b1).trans rfl;have q13 := (cell_of_row _ _ 0 _ _ _ hA2.out.q1).trans rfl;have q14 := (cell_of_row _ _ 1 _ _ _ hA2.out.q1).trans rfl
      have q15 := (cell_of_row _ _ 2 _ _ _ hA2.out.q1).trans rfl;have q20 := (cell_of_row _ _ 0 _ _ _ hA2.out.b2).trans rfl;have q21 := (cell_of_row _ _ 1 _ _ _ hA2.out.b2).trans rfl;have q22 := (cell_of_row _ _ 2 _ _ _ hA2.out.b2).trans rfl;have q23 := (cell_of_row _ _ 0 _ _ _ hA2.out.q2).trans rfl;have q24 := (cell_of_row _ _ 1 _ _ _ hA2.out.q2).trans rfl
      have q25 := (cell_of_row _ _ 2 _ _ _ hA2.out.q2).trans rfl;have q30 := (cell_of_row _ _ 0 _ _ _ hA2.out.b3).trans rfl;have q31 := (cell_of_row _ _ 1 _ _ _ hA2.out.b3).trans rfl;have q32 := (cell_of_row _ _ 2 _ _ _ hA2.out.b3).trans rfl;have q33 := (cell_of_row _ _ 0 _ _ _ hA2.out.q3).trans rfl;have q34 := (cell_of_row _ _ 1 _ _ _ hA2.out.q3).trans rfl
      have q35 := (cell_of_row _ _ 2 _ _ _ hA2.out.q3).trans rfl)
   | (go_at_call 9;have hg := hA2;refine (pl_same l _ _ _ _ _ (rows_p hsl.out hA2.out.p1.pg) (rows_v hsl.out hA2.out.p3)).mono ?_;rintro e wx3 ⟨rfl,hbx⟩;have hA3 : Hid (P6 w wx3 w1.heap.size w2.heap.size w3.heap.size l v1 c1 v2 c2 v3 c3) := Lh (hA2.out.stay hbx);have hB3 := Lh (hB2.out.trans (hbx.mono hB2.out.size))
      clear q10 q11 q12 q13 q14 q15 q20 q21 q22 q23 q24 q25 q30 q31 q32 q33 q34 q35 hg hA2 hB2 hbx;have q10 := (cell_of_row _ _ 0 _ _ _ hA3.out.b1).trans rfl;have q11 := (cell_of_row _ _ 1 _ _ _ hA3.out.b1).trans rfl;have q12 := (cell_of_row _ _ 2 _ _ _ hA3.out.b1).trans rfl;have q13 := (cell_of_row _ _ 0 _ _ _ hA3.out.q1).trans rfl;have q14 := (cell_of_row _ _ 1 _ _ _ hA3.out.q1).trans rfl
      have q15 := (cell_of_row _ _ 2 _ _ _ hA3.out.q1).trans rfl;have q20 := (cell_of_row _ _ 0 _ _ _ hA3.out.b2).trans rfl;have q21 := (cell_of_row _ _ 1 _ _ _ hA3.out.b2).trans rfl;have q22 := (cell_of_row _ _ 2 _ _ _ hA3.out.b2).trans rfl;have q23 := (cell_of_row _ _ 0 _ _ _ hA3.out.q2).trans rfl;have q24 := (cell_of_row _ _ 1 _ _ _ hA3.out.q2).trans rfl
      have q25 := (cell_of_row _ _ 2 _ _ _ hA3.out.q2).trans rfl;have q30 := (cell_of_row _ _ 0 _ _ _ hA3.out.b3).trans rfl;have q31 := (cell_of_row _ _ 1 _ _ _ hA3.out.b3).trans rfl;have q32 := (cell_of_row _ _ 2 _ _ _ hA3.out.b3).trans rfl;have q33 := (cell_of_row _ _ 0 _ _ _ hA3.out.q3).trans rfl;have q34 := (cell_of_row _ _ 1 _ _ _ hA3.out.q3).trans rfl
      have q35 := (cell_of_row _ _ 2 _ _ _ hA3.out.q3).trans rfl)
   | (go_at_call 9;have hg := hA3;refine (pl_same l _ _ _ _ _ (rows_p hsl.out hA3.out.p2) (rows_v hsl.out hA3.out.p3)).mono ?_;rintro e wx4 ⟨rfl,hbx⟩;have hA4 : Hid (P6 w wx4 w1.heap.size w2.heap.size w3.heap.size l v1 c1 v2 c2 v3 c3) := Lh (hA3.out.stay hbx);have hB4 := Lh (hB3.out.trans (hbx.mono hB3.out.size))
      clear q10 q11 q12 q13 q14 q15 q20 q21 q22 q23 q24 q25 q30 q31 q32 q33 q34 q35 hg hA3 hB3 hbx;have q10 := (cell_of_row _ _ 0 _ _ _ hA4.out.b1).trans rfl;have q11 := (cell_of_row _ _ 1 _ _ _ hA4.out.b1).trans rfl;have q12 := (cell_of_row _ _ 2 _ _ _ hA4.out.b1).trans rfl;have q13 := (cell_of_row _ _ 0 _ _ _ hA4.out.q1).trans rfl;have q14 := (cell_of_row _ _ 1 _ _ _ hA4.out.q1).trans rfl
      have q15 := (cell_of_row _ _ 2 _ _ _ hA4.out.q1).trans rfl;have q20 := (cell_of_row _ _ 0 _ _ _ hA4.out.b2).trans rfl;have q21 := (cell_of_row _ _ 1 _ _ _ hA4.out.b2).trans rfl;have q22 := (cell_of_row _ _ 2 _ _ _ hA4.out.b2).trans rfl;have q23 := (cell_of_row _ _ 0 _ _ _ hA4.out.q2).trans rfl;have q24 := (cell_of_row _ _ 1 _ _ _ hA4.out.q2).trans rfl
      have q25 := (cell_of_row _ _ 2 _ _ _ hA4.out.q2).trans rfl;have q30 := (cell_of_row _ _ 0 _ _ _ hA4.out.b3).trans rfl;have q31 := (cell_of_row _ _ 1 _ _ _ hA4.out.b3).trans rfl;have q32 := (cell_of_row _ _ 2 _ _ _ hA4.out.b3).trans rfl;have q33 := (cell_of_row _ _ 0 _ _ _ hA4.out.q3).trans rfl;have q34 := (cell_of_row _ _ 1 _ _ _ hA4.out.q3).trans rfl
      have q35 := (cell_of_row _ _ 2 _ _ _ hA4.out.q3).trans rfl)
   | (go_at_call 10;refine (hnum.out _ _).mono ?_;rintro e wn ⟨rfl,rfl⟩)
   | (go_at_call 11;have hg := hA4;refine (pa_Begins s _ (by omega)).mono ?_;rintro e wx5 ⟨rfl,hbx⟩;have hA5 : Hid (P6 w wx5 w1.heap.size w2.heap.size w3.heap.size l v1 c1 v2 c2 v3 c3) := Lh (hA4.out.stay hbx);have hB5 := Lh (hB4.out.trans (hbx.mono hB4.out.size));clear q10 q11 q12 q13 q14 q15 q20 q21 q22 q23 q24 q25 q30 q31 q32 q33 q34 q35 hg hA4 hB4 hbx
      have q10 := (cell_of_row _ _ 0 _ _ _ hA5.out.b1).trans rfl;have q11 := (cell_of_row _ _ 1 _ _ _ hA5.out.b1).trans rfl;have q12 := (cell_of_row _ _ 2 _ _ _ hA5.out.b1).trans rfl;have q13 := (cell_of_row _ _ 0 _ _ _ hA5.out.q1).trans rfl;have q14 := (cell_of_row _ _ 1 _ _ _ hA5.out.q1).trans rfl;have q15 := (cell_of_row _ _ 2 _ _ _ hA5.out.q1).trans rfl
      have q20 := (cell_of_row _ _ 0 _ _ _ hA5.out.b2).trans rfl;have q21 := (cell_of_row _ _ 1 _ _ _ hA5.out.b2).trans rfl;have q22 := (cell_of_row _ _ 2 _ _ _ hA5.out.b2).trans rfl;have q23 := (cell_of_row _ _ 0 _ _ _ hA5.out.q2).trans rfl;have q24 := (cell_of_row _ _ 1 _ _ _ hA5.out.q2).trans rfl;have q25 := (cell_of_row _ _ 2 _ _ _ hA5.out.q2).trans rfl
      have q30 := (cell_of_row _ _ 0 _ _ _ hA5.out.b3).trans rfl;have q31 := (cell_of_row _ _ 1 _ _ _ hA5.out.b3).trans rfl;have q32 := (cell_of_row _ _ 2 _ _ _ hA5.out.b3).trans rfl;have q33 := (cell_of_row _ _ 0 _ _ _ hA5.out.q3).trans rfl;have q34 := (cell_of_row _ _ 1 _ _ _ hA5.out.q3).trans rfl;have q35 := (cell_of_row _ _ 2 _ _ _ hA5.out.q3).trans rfl)
   | (go_at_call 12;have hg := hA5;refine (re_Begins s _ (by omega)).mono ?_;rintro e wx6 ⟨rfl,hbx⟩;have hA6 : Hid (P6 w wx6 w1.heap.size w2.heap.size w3.heap.size l v1 c1 v2 c2 v3 c3) := Lh (hA5.out.stay hbx);have hB6 := Lh (hB5.out.trans (hbx.mono hB5.out.size));clear q10 q11 q12 q13 q14 q15 q20 q21 q22 q23 q24 q25 q30 q31 q32 q33 q34 q35 hg hA5 hB5 hbx
      have q10 := (cell_of_row _ _ 0 _ _ _ hA6.out.b1).trans rfl;have q11 := (cell_of_row _ _ 1 _ _ _ hA6.out.b1).trans rfl;have q12 := (cell_of_row _ _ 2 _ _ _ hA6.out.b1).trans rfl;have q13 := (cell_of_row _ _ 0 _ _ _ hA6.out.q1).trans rfl;have q14 := (cell_of_row _ _ 1 _ _ _ hA6.out.q1).trans rfl;have q15 := (cell_of_row _ _ 2 _ _ _ hA6.out.q1).trans rfl
      have q20 := (cell_of_row _ _ 0 _ _ _ hA6.out.b2).trans rfl;have q21 := (cell_of_row _ _ 1 _ _ _ hA6.out.b2).trans rfl;have q22 := (cell_of_row _ _ 2 _ _ _ hA6.out.b2).trans rfl;have q23 := (cell_of_row _ _ 0 _ _ _ hA6.out.q2).trans rfl;have q24 := (cell_of_row _ _ 1 _ _ _ hA6.out.q2).trans rfl;have q25 := (cell_of_row _ _ 2 _ _ _ hA6.out.q2).trans rfl
      have q30 := (cell_of_row _ _ 0 _ _ _ hA6.out.b3).trans rfl;have q31 := (cell_of_row _ _ 1 _ _ _ hA6.out.b3).trans rfl;have q32 := (cell_of_row _ _ 2 _ _ _ hA6.out.b3).trans rfl;have q33 := (cell_of_row _ _ 0 _ _ _ hA6.out.q3).trans rfl;have q34 := (cell_of_row _ _ 1 _ _ _ hA6.out.q3).trans rfl;have q35 := (cell_of_row _ _ 2 _ _ _ hA6.out.q3).trans rfl)
   | (go_at_call 13;refine (hA6.out.p1.spoil hsl.out.len hsm.out hA6.out.le.1 (by have := hA6.out.le;have := (Array.getElem?_eq_some_iff.1 hA6.out.q3).1;omega)).mono ?_;rintro e w6 ⟨rfl,hf,k3,k4,k5⟩;have hC : Hid (P5 w w6 w1.heap.size w2.heap.size w3.heap.size l v1 c1 v2 c2 v3 c3) := Lh (hA6.out.spoil hf k3 k4 k5)
      have hB7 := Lh (hB6.out.trans (hf.bel (Nat.le_refl _) hB6.out.size));have hCU : Hid (P5 w (w6.alloc (.cells #[.slice none 0 0,.slice none 0 0,.slice none 0 0] 45)) w1.heap.size w2.heap.size w3.heap.size l v1 c1 v2 c2 v3 c3) := Lh (hC.out.stay ((Below.refl _ _).al _));clear q10 q11 q12 q13 q14 q15 q20 q21 q22 q23 q24 q25 q30 q31 q32 q33 q34 q35 hA6 hB6 hf k3 k4 k5
      have q10 := (cell_of_row _ _ 0 _ _ _ hCU.out.b1).trans rfl;have q11 := (cell_of_row _ _ 1 _ _ _ hCU.out.b1).trans rfl;have q12 := (cell_of_row _ _ 2 _ _ _ hCU.out.b1).trans rfl;have q13 := (cell_of_row _ _ 0 _ _ _ hCU.out.q1).trans rfl;have q14 := (cell_of_row _ _ 1 _ _ _ hCU.out.q1).trans rfl;have q15 := (cell_of_row _ _ 2 _ _ _ hCU.out.q1).trans rfl
      have q20 := (cell_of_row _ _ 0 _ _ _ hCU.out.b2).trans rfl;have q21 := (cell_of_row _ _ 1 _ _ _ hCU.out.b2).trans rfl;have q22 := (cell_of_row _ _ 2 _ _ _ hCU.out.b2).trans rfl;have q23 := (cell_of_row _ _ 0 _ _ _ hCU.out.q2).trans rfl;have q24 := (cell_of_row _ _ 1 _ _ _ hCU.out.q2).trans rfl;have q25 := (cell_of_row _ _ 2 _ _ _ hCU.out.q2).trans rfl
      have q30 := (cell_of_row _ _ 0 _ _ _ hCU.out.b3).trans rfl;have q31 := (cell_of_row _ _ 1 _ _ _ hCU.out.b3).trans rfl;have q32 := (cell_of_row _ _ 2 _ _ _ hCU.out.b3).trans rfl;have q33 := (cell_of_row _ _ 0 _ _ _ hCU.out.q3).trans rfl;have q34 := (cell_of_row _ _ 1 _ _ _ hCU.out.q3).trans rfl;have q35 := (cell_of_row _ _ 2 _ _ _ hCU.out.q3).trans rfl)
   | (go_at_call 14;have hbk := Lh (heap_alloc_two w6 (.cells #[.slice none 0 0,.slice none 0 0,.slice none 0 0] 45) (.cells #[.slice (v1 3) (inAts l).length (c1 3),.slice (v1 4) (outAts l).length (c1 4),.slice (v1 5) (ruAts l).length (c1 5),.slice (v2 3) (inAts l).length (c2 3),.slice (v2 4) (outAts l).length (c2 4),.slice (v2 5) (ruAts l).length (c2 5)] 29))
      refine (bk_Ints w6.heap.size (w6.heap.size + 1) 6 6 [.slice (v1 3) (inAts l).length (c1 3),.slice (v1 4) (outAts l).length (c1 4),.slice (v1 5) (ruAts l).length (c1 5),.slice (v2 3) (inAts l).length (c2 3),.slice (v2 4) (outAts l).length (c2 4),.slice (v2 5) (ruAts l).length (c2 5)] _ hbk.out.1 rfl (by intro j u hu;rw [cell_of_row _ _ _ _ _ _ hbk.out.2];simpa using hu) (by intro u hu;simp at hu;rcases hu with rfl | rfl | rfl | rfl | rfl | rfl <;> rfl) (by decide) (by decide)).mono ?_
      rintro e w7 hp;obtain ⟨he,hbl,L,X,G,cN,hin,hT,hLs⟩ := hC.out.book hsl.out hp;subst he;have hD : Hid (P5 w w7 w1.heap.size w2.heap.size w3.heap.size l v1 c1 v2 c2 v3 c3) := Lh (hC.out.stay hbl);have hB8 := Lh (hB7.out.trans (hbl.mono hB7.out.size))
      have hK : Hid (BkIn w7 w.heap.size w6.heap.size G 6 cN L X ∧ w7.cell? ⟨w6.heap.size,0,none⟩ = some (.slice none 0 0) ∧ w7.cell? ⟨w6.heap.size,2,none⟩ = some (.slice none 0 0)) := Lh ⟨hin,hT,hLs⟩;clear q10 q11 q12 q13 q14 q15 q20 q21 q22 q23 q24 q25 q30 q31 q32 q33 q34 q35 hp hbl hin hT hLs hbk hCU hC hB7;have q10 := (cell_of_row _ _ 0 _ _ _ hD.out.b1).trans rfl
      have q11 := (cell_of_row _ _ 1 _ _ _ hD.out.b1).trans rfl;have q12 := (cell_of_row _ _ 2 _ _ _ hD.out.b1).trans rfl;have q13 := (cell_of_row _ _ 0 _ _ _ hD.out.q1).trans rfl;have q14 := (cell_of_row _ _ 1 _ _ _ hD.out.q1).trans rfl;have q15 := (cell_of_row _ _ 2 _ _ _ hD.out.q1).trans rfl;have q20 := (cell_of_row _ _ 0 _ _ _ hD.out.b2).trans rfl
      have q21 := (cell_of_row _ _ 1 _ _ _ hD.out.b2).trans rfl;have q22 := (cell_of_row _ _ 2 _ _ _ hD.out.b2).trans rfl;have q23 := (cell_of_row _ _ 0 _ _ _ hD.out.q2).trans rfl;have q24 := (cell_of_row _ _ 1 _ _ _ hD.out.q2).trans rfl;have q25 := (cell_of_row _ _ 2 _ _ _ hD.out.q2).trans rfl;have q30 := (cell_of_row _ _ 0 _ _ _ hD.out.b3).trans rfl
      have q31 := (cell_of_row _ _ 1 _ _ _ hD.out.b3).trans rfl;have q32 := (cell_of_row _ _ 2 _ _ _ hD.out.b3).trans rfl;have q33 := (cell_of_row _ _ 0 _ _ _ hD.out.q3).trans rfl;have q34 := (cell_of_row _ _ 1 _ _ _ hD.out.q3).trans rfl;have q35 := (cell_of_row _ _ 2 _ _ _ hD.out.q3).trans rfl)
   | (go_at_call 8;have hg := hD;refine (kt_same l _ _ _ _ _ (rows_p hsl.out hD.out.p2) (rows_v hsl.out hD.out.p3)).mono ?_;rintro e w8 ⟨rfl,hbx⟩
      have hK2 : Hid (BkIn w8 w.heap.size w6.heap.size G 6 cN L X ∧ w8.cell? ⟨w6.heap.size,0,none⟩ = some (.slice none 0 0) ∧ w8.cell? ⟨w6.heap.size,2,none⟩ = some (.slice none 0 0)) := Lh ⟨hK.out.1.stay hbx,cell_stay hbx hK.out.2.1,cell_stay hbx hK.out.2.2⟩;have hB9 := Lh (hB8.out.trans (hbx.mono hB8.out.size))
      clear q10 q11 q12 q13 q14 q15 q20 q21 q22 q23 q24 q25 q30 q31 q32 q33 q34 q35 hg hD hK hbx hB8)
   | (go_at_call 15;refine (bk_Apart _ _ _ _ _ _ _ _ hK2.out.1 hK2.out.2.1 hK2.out.2.2).mono ?_;rintro e w9 ⟨rfl,hk2⟩;have hB10 := Lh (hB9.out.trans (hk2.low (bkT_base hK2.out.1) hB9.out.size));clear hk2)
   | (go_at_call 5;refine (hwk.out _).mono ?_;rintro e w10 ⟨rfl,hbx⟩;have hB11 := Lh (hB10.out.trans (hbx.mono hB10.out.size));clear hbx))
 go_ret;exact ⟨rfl,hB11.out⟩
theorem law_ParsePrograms (s : ByteArray) (w : World) (_ : s.size ≤ 140737488351232) :
    Calls Tryd.prog 3 #[.string s] w fun e w' => e = .returned (.bool true) ∧ Below w.heap.size w w' := by
 by_cases hs : s.size ≤ 20000
 · obtain ⟨l,at_,h | h⟩ := psay_of s (by omega)
   · exact programs_true s w hs l at_ h
   · exact programs_false s w hs l at_ h
 · have hwk := Lh w8_works;have hli : (20000 : Int) < (s.size : Int) := by omega
   go_enter Tryd.func3,Tryd.ntmps3
   go_wp2_with (first
     | (go_at_call 4;refine (w8_long _ _).mono ?_;rintro e wl ⟨rfl,rfl⟩)
     | (go_at_call 5;refine (hwk.out _).mono ?_;rintro e w8 ⟨rfl,hb8⟩;replace hb8 := Lh hb8))
   go_ret;exact ⟨rfl,hb8.out⟩
end Go.Proofs.YtmjincocmhadeaaDoor
