/- What is written is read: the parser at printed texts. -/
import Derived.Test.YtclioihichcpiaaDoorPhF
import Derived.Test.YtclioihichcpiaaDoorJoU
import Derived.Test.YtclioihichcpiaaDoorPiI
set_option maxHeartbeats 8000000
set_option maxRecDepth 100000
namespace Go.Proofs.YtclioihichcpiaaDoor
open Go.RowKit Lx
/-- a printed program read -/
theorem pg_back {g : Bs} (hg : g = [] ∨ g = [10]) (xs : List Pr) (ho : xs.all prOk = true) (s : ByteArray) (hs : bl s = xs.flatMap (fun x => prL x ++ g)) (w : World) (hz : s.size ≤ 4194304) :
    Calls Tryd.prog 12 #[.string s] w fun e w' => ∃ v0 v1 v2 c0 c1 c2 u3 n3 m3 u4 n4 m4 u5 n5 m5,e = .returned (.tuple #[.agg #[.slice v0 (inpsOf (prAt g.length 0 xs)).length c0,.slice v1 (outsOf (prAt g.length 0 xs)).length c1,.slice v2 (rulesOf (prAt g.length 0 xs)).length c2],.agg #[.slice u3 n3 m3,.slice u4 n4 m4,.slice u5 n5 m5],.int .i64 0,.int .i64 0]) ∧ Below w.heap.size w w' ∧ RI w' v0 (inpsOf (prAt g.length 0 xs)) ∧ RO w' v1 (outsOf (prAt g.length 0 xs)) ∧ RR w' v2 (rulesOf (prAt g.length 0 xs)) := by
 have h := pa_Program s w hz;rw [prog_read hg xs ho s hs] at h;refine h.mono ?_;rintro e w' ⟨R0,R1,R2,R3,R4,R5,rfl,hb,hP⟩;obtain ⟨v0,c0,rfl,-⟩ := own_slice hP.r0;obtain ⟨v1,c1,rfl,-⟩ := own_slice hP.r1;obtain ⟨L,hL,h2,hin⟩ := hP.r2;obtain ⟨v2,c2,rfl,-⟩ := own_slice h2;obtain ⟨u3,m3,rfl,-⟩ := own_slice hP.r3;obtain ⟨u4,m4,rfl,-⟩ := own_slice hP.r4
 obtain ⟨u5,m5,rfl,-⟩ := own_slice hP.r5;have hr := rules_RR h2 hin.inn;rw [hL] at hr;have hn : L.length = (rulesOf (prAt g.length 0 xs)).length := by rw [← hL,List.length_map]
 exact ⟨v0,v1,v2,c0,c1,c2,u3,_,m3,u4,_,m4,u5,_,m5,by rw [hn],hb,own_RI hP.r0,own_RO hP.r1,hr⟩
theorem RR.two {w : World} {g : Nat} {t : TypeId} {x y : PRule} {a b a' b' : Option Addr} {c d c' d' : Nat} (h : w.heap[g]? = some (.cells #[.string x.p,.slice a x.a.length c,.slice b x.b.length d,.string y.p,.slice a' y.a.length c',.slice b' y.b.length d'] t)) (h1 : RT w a x.a) (h2 : RL w b x.b) (h3 : RT w a' y.a) (h4 : RL w b' y.b) : RR w (some ⟨g,0,none⟩) [x,y] := by
 refine ⟨by simp,fun j z hj => ?_⟩
 match j,hj with
 | 0,hj =>
  simp at hj;subst hj;refine ⟨_,a,c,b,d,rfl,?_,?_,?_,h1,h2⟩
  all_goals simp [World.cell?,Addr.add,h]
 | 1,hj =>
  simp at hj;subst hj;refine ⟨_,a',c',b',d',rfl,?_,?_,?_,h3,h4⟩
  all_goals simp [World.cell?,Addr.add,h]
end Go.Proofs.YtclioihichcpiaaDoor
/- Print: what was read, as a program to be written. -/
namespace Go.Proofs.YtclioihichcpiaaDoor
open Go.RowKit Go.Shelf Lx
theorem mem_sum {α : Type _} (f : α → Nat) : ∀ (l : List α) (x : α),x ∈ l → f x ≤ (l.map f).sum
  | y :: l,x,h => by
    rw [List.map_cons,List.sum_cons];rcases List.mem_cons.1 h with rfl | h
    · omega
    · have := mem_sum f l x h;omega
theorem len_sum {α : Type _} (f : α → Nat) (h : ∀ x,1 ≤ f x) : ∀ l : List α,l.length ≤ (l.map f).sum
  | [] => Nat.zero_le _
  | y :: l => by
    have := len_sum f h l;have := h y;rw [List.map_cons,List.sum_cons,List.length_cons];omega
theorem tWt_bounds {l : List (Bool × ByteArray)} (h : tWt l ≤ 1048576) : l.length ≤ 1048576 ∧ ∀ x ∈ l,x.2.size ≤ 1048576 := by
 unfold tWt at h;refine ⟨Nat.le_trans (len_sum _ (fun x => by omega) l) h,fun x hx => ?_⟩;have := mem_sum (fun x : Bool × ByteArray => x.2.size + 3) l x hx;omega
/-- nothing of a rule is too long -/
def smallT (l : List (Bool × ByteArray)) : Prop := l.length ≤ 1048576 ∧ ∀ x ∈ l,x.2.size ≤ 1048576
structure SmallR (x : Rul) : Prop where
  h : x.h.size ≤ 1048576
  a : smallT x.a
  n : x.b.length ≤ 1048576
  b : ∀ z ∈ x.b,(z.p.size ≤ 1048576 ∧ z.l.2.size ≤ 1048576 ∧ z.r.2.size ≤ 1048576) ∧ smallT z.a
  t : (ruleS x).size ≤ 8388608
theorem SmallR.of {x : Rul} (h : ruleWt x ≤ 1048576) : SmallR x := by
 have ht := ruleS_wt h;unfold ruleWt at h;refine ⟨by omega,tWt_bounds (by omega),Nat.le_trans (len_sum lWt (fun x => by unfold lWt;omega) x.b) (by omega),fun z hz => ?_,ht⟩;have hm : lWt z ≤ 1048576 := Nat.le_trans (mem_sum lWt x.b z hz) (by omega);unfold lWt at hm;exact ⟨by omega,tWt_bounds (by omega)⟩
theorem RT.terms {w : World} {a : Option Addr} {l : List (Bool × ByteArray)} (h : RT w a l) (hw : smallT l) : Terms w a l := ⟨hw.1,h.cells,hw.2⟩
theorem RL.lits {w : World} {a : Option Addr} {b : List Lit} (h : RL w a (b.map toP)) (hn : b.length ≤ 1048576) (hw : ∀ z ∈ b,(z.p.size ≤ 1048576 ∧ z.l.2.size ≤ 1048576 ∧ z.r.2.size ≤ 1048576) ∧ smallT z.a) : Lits w a b := by
 refine ⟨hn,fun j x hj => ?_,fun x hm => (hw x hm).1⟩;have hj2 : (b.map toP)[j]? = some (toP x) := by rw [List.getElem?_map,hj];rfl
 obtain ⟨p,ad,cap,h0,h1,h2,h3,h4,h5,h6,h7,h8⟩ := h.cells j _ hj2;exact ⟨p,ad,cap,h0,h1,h2,h3,h4,h5,h6,h7,h8.terms (hw x (List.mem_of_getElem? hj)).2⟩
theorem RR.ruls {w : World} {a : Option Addr} {R : List Rul} (h : RR w a (R.map toR)) (hl : R.length ≤ 1048576) (hw : ∀ x ∈ R,SmallR x) : Ruls w a R := by
 refine ⟨hl,fun j x hj => ?_,fun x hm => ⟨(hw x hm).h,(hw x hm).t⟩⟩;have hj2 : (R.map toR)[j]? = some (toR x) := by rw [List.getElem?_map,hj];rfl
 obtain ⟨p,ad,cap,bd,bcap,h0,h1,h2,h3,h4,h5⟩ := h.cells j _ hj2;have hz := hw x (List.mem_of_getElem? hj);refine ⟨p,ad,cap,bd,bcap,h0,h1,h2,?_,h4.terms hz.a,h5.lits hz.n hz.b⟩;have e : (toR x).b.length = x.b.length := List.length_map _;rw [e] at h3;exact h3
theorem SmallR.all {I : List InpD} {O : List OutD} {R : List Rul} (h : progWt I O R ≤ 1048576) : ∀ x ∈ R,SmallR x := fun x hx => by
  have := mem_sum ruleWt R x hx;unfold progWt at h;exact SmallR.of (by omega)
theorem RI.inps {w : World} {a : Option Addr} {l : List InpD} (h : RI w a l) (hl : l.length ≤ 1048576) (hz : ∀ x ∈ l,x.1.size ≤ 1048576 ∧ x.2.2.size ≤ 1048576) : Inps w a l := ⟨hl,h.cells,hz⟩
theorem RO.outs {w : World} {a : Option Addr} {l : List OutD} (h : RO w a l) (hl : l.length ≤ 1048576) (hz : ∀ x ∈ l,x.1.size ≤ 1048576) : Outs w a l := ⟨hl,h.cells,hz⟩
/-- a written program read -/
theorem pg_written {I : List InpD} {O : List OutD} {R : List Rul} (ho : progOk I O R = true) (w : World) (hz : (progS I O R).size ≤ 4194304) :
    Calls Tryd.prog 12 #[.string (progS I O R)] w fun e w' => ∃ v0 v1 v2 c0 c1 c2 u3 n3 m3 u4 n4 m4 u5 n5 m5,e = .returned (.tuple #[.agg #[.slice v0 I.length c0,.slice v1 O.length c1,.slice v2 R.length c2],.agg #[.slice u3 n3 m3,.slice u4 n4 m4,.slice u5 n5 m5],.int .i64 0,.int .i64 0]) ∧ (Below w.heap.size w w' ∧ RI w' v0 I ∧ RO w' v1 O ∧ RR w' v2 (R.map toR)) := by
 have hs : bl (progS I O R) = (prsOf I O R).flatMap (fun x => prL x ++ [10]) := by
  unfold progS;rw [if_pos ho];exact bl_mk _
 have h := pg_back (g := [10]) (.inr rfl) (prsOf I O R) (by rw [prs_ok];exact ho) (progS I O R) hs w hz;obtain ⟨e0,e1,e2⟩ := at_inps I O R 1;have e3 : ([10] : Bs).length = 1 := rfl;rw [e3,e0,e1,e2,List.length_map] at h;refine h.mono ?_;rintro e w' ⟨v0,v1,v2,c0,c1,c2,u3,n3,m3,u4,n4,m4,u5,n5,m5,rfl,h1,h2,h3,h4⟩
 exact ⟨v0,v1,v2,c0,c1,c2,u3,n3,m3,u4,n4,m4,u5,n5,m5,rfl,h1,h2,h3,h4⟩
end Go.Proofs.YtclioihichcpiaaDoor
