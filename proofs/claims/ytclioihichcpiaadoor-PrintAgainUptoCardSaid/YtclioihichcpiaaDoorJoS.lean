/- Print: what a copied program is in memory. -/
import Derived.Test.YtclioihichcpiaaDoorJoP
import Derived.Test.YtclioihichcpiaaDoorJoN
import Derived.Test.YtclioihichcpiaaDoorJoR
set_option maxHeartbeats 8000000
set_option maxRecDepth 100000
namespace Go.Proofs.YtclioihichcpiaaDoor
open Go.RowKit Go.Shelf Lx
theorem own_cell_is {w : World} {base size n g i : Nat} {e : TypeId} {v u u' : Value} {xs : List Value} (h : w.ownsRow base e size v n xs) (hv : v.ownBlock = some g) (hx : xs[i]? = some u) (hc : w.cell? ⟨g,i,none⟩ = some u') : u = u' := by
 rcases h.2 with ⟨rfl,rfl⟩ | ⟨q,cap,cur,rfl,_⟩
 · cases hv
 · have e2 : q = g := by injection hv
   subst e2;have h1 := h.cells (g := q) rfl i u hx;rw [addr_add,Nat.zero_add] at h1;rw [h1] at hc;injection hc
theorem cell_ltP {w : World} {g j : Nat} {u : Value} (h : w.cell? ⟨g,j,none⟩ = some u) : g < w.heap.size := by
 rcases Nat.lt_or_ge g w.heap.size with h1 | h1
 · exact h1
 · simp [World.cell?,Array.getElem?_eq_none h1] at h
/-- cells one behind another -/
structure RowM (w : World) (g : Nat) (xs : List Value) : Prop where
  cells : ∀ (j : Nat) u,xs[j]? = some u → w.cell? ⟨g,j,none⟩ = some u
theorem RowM.below {w w' : World} {g : Nat} {xs : List Value} (h : RowM w g xs) (hb : Below w.heap.size w w') : RowM w' g xs := ⟨fun j u hj => cell_below hb rfl (h.cells j u hj)⟩
theorem heap_grown {w w' : World} {base size n g i : Nat} {e : TypeId} {v u : Value} {ys : List Value} (hc : w.cell? ⟨g,i,none⟩ = some u) (hown : w.ownsRow base e size v n ys) (hne : ∀ g,v.ownBlock = some g → ∃ u',ys[i]? = some u' ∧ u' ≠ u) (hg : w.grownBy w' v.ownBlock) : w'.heap[g]? = w.heap[g]? :=
  hg.block g (cell_ltP hc) (fun e => by
    obtain ⟨u',h1,h2⟩ := hne g e.symm;exact h2 (own_cell_is hown e.symm h1 hc))
theorem RowM.grown {w w' : World} {base size n g i : Nat} {e : TypeId} {v u : Value} {xs ys : List Value} (h : RowM w g xs) (hx : xs[i]? = some u) (hown : w.ownsRow base e size v n ys) (hne : ∀ g,v.ownBlock = some g → ∃ u',ys[i]? = some u' ∧ u' ≠ u) (hg : w.grownBy w' v.ownBlock) : RowM w' g xs :=
  have hh := heap_grown (h.cells i u hx) hown hne hg
  ⟨fun j u hj => by rw [← h.cells j u hj];exact World.cell?_of_block hh⟩
def cellI (x : InpD) : List Value := [.string x.1,.int .i64 x.2.1,.string x.2.2]
def cellO (x : OutD) : List Value := [.string x.1,.int .i64 x.2]
def flatI (l : List InpD) : List Value := l.flatMap cellI
def flatO (l : List OutD) : List Value := l.flatMap cellO
def markI : List InpD := [(markB,0,⟨#[]⟩),(markB,0,⟨#[]⟩)]
def markO : List OutD := [(markB,0),(markB,0)]
theorem flatI_len (l : List InpD) : (flatI l).length = l.length * 3 := flat_len cellI 3 (fun _ => rfl) l
theorem flatO_len (l : List OutD) : (flatO l).length = l.length * 2 := flat_len cellO 2 (fun _ => rfl) l
theorem flatI_one (l : List InpD) : ∀ u ∈ flatI l,u.oneCell' = true := by
 intro u hu;obtain ⟨x,_,hx⟩ := List.mem_flatMap.1 hu;simp [cellI] at hx;rcases hx with rfl | rfl | rfl <;> rfl
theorem flatO_one (l : List OutD) : ∀ u ∈ flatO l,u.oneCell' = true := by
 intro u hu;obtain ⟨x,_,hx⟩ := List.mem_flatMap.1 hu;simp [cellO] at hx;rcases hx with rfl | rfl <;> rfl
/-- the cells of a row are those of its list -/
theorem row_news {α : Type} {w : World} {a : Option Addr} (f : α → List Value) (k : Nat) (hk : ∀ x,(f x).length = k) (k0 : 0 < k) (l : List α)
    (h : ∀ (j : Nat) x,l[j]? = some x → ∃ p,a = some p ∧ ∀ (o : Nat) u,(f x)[o]? = some u → w.cell? (if o = 0 then p.add (j * k) else ⟨(p.add (j * k)).block,(p.add (j * k)).off + o,none⟩) = some u) : ∀ j u,(l.flatMap f)[j]? = some u → ∃ ad,a = some ad ∧ w.cell? (ad.add j) = some u := by
 intro j u hj;obtain ⟨x,hx,hu⟩ := flat_some f k hk k0 l j u hj;obtain ⟨p,hp,hc⟩ := h (j / k) x hx;refine ⟨p,hp,?_⟩;have hlt := (List.getElem?_eq_some_iff.1 hx).1
 have hsp : p.spot = none := by
  have hl0 : 0 < l.length := Nat.lt_of_le_of_lt (Nat.zero_le _) hlt;obtain ⟨p',hp',hc'⟩ := h 0 _ (List.getElem?_eq_getElem hl0);rw [hp] at hp';cases hp';have h0 : 0 < (f (l[0]'hl0)).length := by rw [hk];exact k0
  have := spot_of_cell (hc' 0 _ (List.getElem?_eq_getElem h0));rw [if_pos rfl,Nat.zero_mul] at this;exact this
 obtain ⟨b,off,sp⟩ := p;simp only at hsp;subst hsp;have hm : j = j / k * k + j % k := by rw [Nat.mul_comm];exact (Nat.div_add_mod j k).symm
 have h1 := hc (j % k) u hu
 by_cases h0 : j % k = 0
 · rw [if_pos h0] at h1;rw [h0,Nat.add_zero] at hm;rw [← hm] at h1;exact h1
 · rw [if_neg h0] at h1;rw [← h1]
   congr 1
   rw [addr_add,addr_add];show (⟨b,off + j,none⟩ : Addr) = ⟨b,off + j / k * k + j % k,none⟩
   congr 1
   rw [Nat.add_assoc,← hm]
theorem Inps.news {w : World} {a : Option Addr} {l : List InpD} (h : Inps w a l) : ∀ j u,(flatI l)[j]? = some u → ∃ ad,a = some ad ∧ w.cell? (ad.add j) = some u :=
  row_news cellI 3 (fun _ => rfl) (by decide) l fun j x hx => by
    obtain ⟨p,hp,h0,h1,h2⟩ := h.cells j x hx;refine ⟨p,hp,fun o u hu => ?_⟩
    match o,hu with
    | 0,hu => injection hu with hu;rw [← hu];exact h0
    | 1,hu => injection hu with hu;rw [← hu];exact h1
    | 2,hu => injection hu with hu;rw [← hu];exact h2
    | o + 3,hu => simp [cellI] at hu
theorem Outs.news {w : World} {a : Option Addr} {l : List OutD} (h : Outs w a l) : ∀ j u,(flatO l)[j]? = some u → ∃ ad,a = some ad ∧ w.cell? (ad.add j) = some u :=
  row_news cellO 2 (fun _ => rfl) (by decide) l fun j x hx => by
    obtain ⟨p,hp,h0,h1⟩ := h.cells j x hx;refine ⟨p,hp,fun o u hu => ?_⟩
    match o,hu with
    | 0,hu => injection hu with hu;rw [← hu];exact h0
    | 1,hu => injection hu with hu;rw [← hu];exact h1
    | o + 2,hu => simp [cellO] at hu
theorem row_at_cell {α : Type} {w : World} {g : Nat} (f : α → List Value) (k : Nat) (hk : ∀ x,(f x).length = k) {l : List α} {r : List Value} (h : RowM w g (l.flatMap f ++ r)) {j o : Nat} {x : α} {u : Value} (hj : l[j]? = some x) (ho : o < k) (hu : (f x)[o]? = some u) : w.cell? ⟨g,j * k + o,none⟩ = some u := by
 refine h.cells _ _ ?_;have hlt := (List.getElem?_eq_some_iff.1 hj).1;have hl := flat_len f k hk l;have hm : (j + 1) * k ≤ l.length * k := Nat.mul_le_mul_right k hlt;rw [Nat.succ_mul] at hm;rw [List.getElem?_append_left (by omega)];have := pr_flat_get f k hk l j o ho;rw [hj] at this;exact this.trans hu
theorem RowM.inps {w : World} {g : Nat} {l : List InpD} {r : List Value} (h : RowM w g (flatI l ++ r)) (hl : l.length ≤ 1048576) (hz : ∀ x ∈ l,x.1.size ≤ 1048576 ∧ x.2.2.size ≤ 1048576) : Inps w (some ⟨g,0,none⟩) l := by
 refine ⟨hl,fun j x hj => ⟨_,rfl,?_,?_,?_⟩,hz⟩
 all_goals rw [addr_add,Nat.zero_add]
 · exact row_at_cell cellI 3 (fun _ => rfl) h hj (o := 0) (by decide) rfl
 · exact row_at_cell cellI 3 (fun _ => rfl) h hj (o := 1) (by decide) rfl
 · exact row_at_cell cellI 3 (fun _ => rfl) h hj (o := 2) (by decide) rfl
theorem RowM.outs {w : World} {g : Nat} {l : List OutD} {r : List Value} (h : RowM w g (flatO l ++ r)) (hl : l.length ≤ 1048576) (hz : ∀ x ∈ l,x.1.size ≤ 1048576) : Outs w (some ⟨g,0,none⟩) l := by
 refine ⟨hl,fun j x hj => ⟨_,rfl,?_,?_⟩,hz⟩
 all_goals rw [addr_add,Nat.zero_add]
 · exact row_at_cell cellO 2 (fun _ => rfl) h hj (o := 0) (by decide) rfl
 · exact row_at_cell cellO 2 (fun _ => rfl) h hj (o := 1) (by decide) rfl
/-- a copied rule -/
structure RQ where
  r : Rul
  g : Nat
  c : Nat
  B : Nat
  cB : Nat
  L : List (Lit × Nat × Nat)
def cellQ (y : RQ) : List Value := [.string y.r.h,.slice (some ⟨y.g,0,none⟩) y.r.a.length y.c,.slice (some ⟨y.B,0,none⟩) y.r.b.length y.cB]
def flatQ (l : List RQ) : List Value := l.flatMap cellQ
def markQ : List Value := [.string markB,.slice none 0 0,.slice none 0 0,.string markB,.slice none 0 0,.slice none 0 0]
theorem cellQ_one (y : RQ) : ∀ u ∈ cellQ y,u.oneCell' = true := by
 intro u hu;simp [cellQ] at hu;rcases hu with rfl | rfl | rfl <;> rfl
theorem flatQ_snoc (l : List RQ) (y : RQ) : flatQ (l ++ [y]) = flatQ l ++ cellQ y := by simp [flatQ]
/-- its rows -/
structure QIn (w : World) (y : RQ) : Prop where
  t : TermsM w y.g y.r.a y.c
  l : LitsM w y.B y.L y.cB
  m : y.L.map (·.1) = y.r.b
theorem QIn.below {w w' : World} {y : RQ} (h : QIn w y) (hb : Below w.heap.size w w') : QIn w' y := ⟨h.t.below hb,h.l.below hb,h.m⟩
theorem TermsM.first {w : World} {g c : Nat} {l : List (Bool × ByteArray)} (h : TermsM w g l c) : ∃ b,w.cell? ⟨g,0,none⟩ = some (.bool b) := by
 cases l with
 | nil => exact ⟨_,h.cells 0 _ rfl⟩
 | cons x r => exact ⟨_,h.cells 0 _ rfl⟩
theorem LitsM.first {w : World} {B c : Nat} {L : List (Lit × Nat × Nat)} (h : LitsM w B L c) : ∃ k,w.cell? ⟨B,0,none⟩ = some (.int .i64 k) := by
 cases L with
 | nil => exact ⟨_,h.cells 0 _ rfl⟩
 | cons x r => exact ⟨_,h.cells 0 _ rfl⟩
theorem QIn.grown {w w' : World} {base size n : Nat} {e : TypeId} {v : Value} {ys : List Value} {y : RQ} (h : QIn w y) (hown : w.ownsRow base e size v n ys) (hne : ∀ g,v.ownBlock = some g → ∃ s,ys[0]? = some (.string s)) (hg : w.grownBy w' v.ownBlock) : QIn w' y := by
 obtain ⟨b,hb⟩ := h.t.first;obtain ⟨k,hk⟩ := h.l.first;refine ⟨h.t.same (heap_grown hb hown (fun g hv => ?_) hg),h.l.same (heap_grown hk hown (fun g hv => ?_) hg) fun z hz => ?_,h.m⟩
 · obtain ⟨s,hs⟩ := hne g hv;exact ⟨_,hs,by intro e;cases e⟩
 · obtain ⟨s,hs⟩ := hne g hv;exact ⟨_,hs,by intro e;cases e⟩
 · obtain ⟨b2,hb2⟩ := (h.l.inner z hz).first;refine heap_grown hb2 hown (fun g hv => ?_) hg;obtain ⟨s,hs⟩ := hne g hv;exact ⟨_,hs,by intro e;cases e⟩
/-- a copied program in memory -/
structure PM (w : World) (I : List InpD) (O : List OutD) (R : List Rul) (gi ci go co gr cr : Nat) (Q : List RQ) : Prop where
  i : RowM w gi (flatI I ++ flatI markI)
  ci : I.length + 2 ≤ ci
  o : RowM w go (flatO O ++ flatO markO)
  co : O.length + 2 ≤ co
  r : RowM w gr (flatQ Q ++ markQ)
  cr : R.length + 2 ≤ cr
  q : ∀ y ∈ Q,QIn w y
  m : Q.map (·.r) = R
theorem PM.below {w w' : World} {I : List InpD} {O : List OutD} {R : List Rul} {gi ci go co gr cr : Nat} {Q : List RQ} (h : PM w I O R gi ci go co gr cr Q) (hb : Below w.heap.size w w') : PM w' I O R gi ci go co gr cr Q :=
  ⟨h.i.below hb,h.ci,h.o.below hb,h.co,h.r.below hb,h.cr,fun y hy => (h.q y hy).below hb,h.m⟩
theorem PM.ruls {w : World} {I : List InpD} {O : List OutD} {R : List Rul} {gi ci go co gr cr : Nat} {Q : List RQ} (h : PM w I O R gi ci go co gr cr Q) (hl : R.length ≤ 1048576) (hz : ∀ x ∈ R,x.h.size ≤ 1048576 ∧ (ruleS x).size ≤ 8388608) : Ruls w (some ⟨gr,0,none⟩) R := by
 refine ⟨hl,fun j x hj => ?_,hz⟩;rw [← h.m,List.getElem?_map] at hj
 cases hy : Q[j]? with
 | none => rw [hy] at hj;cases hj
 | some y =>
  rw [hy] at hj;injection hj with hj;subst hj;have hq := h.q y (List.mem_of_getElem? hy);have hl2 := hq.l.lits;rw [hq.m] at hl2;refine ⟨_,some ⟨y.g,0,none⟩,y.c,some ⟨y.B,0,none⟩,y.cB,rfl,?_,?_,?_,hq.t.terms,hl2⟩
  all_goals rw [addr_add,Nat.zero_add]
  · exact row_at_cell cellQ 3 (fun _ => rfl) h.r hy (o := 0) (by decide) rfl
  · exact row_at_cell cellQ 3 (fun _ => rfl) h.r hy (o := 1) (by decide) rfl
  · exact row_at_cell cellQ 3 (fun _ => rfl) h.r hy (o := 2) (by decide) rfl
end Go.Proofs.YtclioihichcpiaaDoor
/- Print: a program copied. -/
namespace Go.Proofs.YtclioihichcpiaaDoor
open Go.RowKit Go.Shelf Lx
theorem infoInputP : (Tryd.prog.info? 43).map (fun i => (i.zero,i.size,i.bytes)) = some (some (.agg #[.string ⟨#[]⟩,.int .i64 0,.string ⟨#[]⟩]),3,40) := by kernel_rfl
theorem infoOutputP : (Tryd.prog.info? 47).map (fun i => (i.zero,i.size,i.bytes)) = some (some (.agg #[.string ⟨#[]⟩,.int .i64 0]),2,24) := by kernel_rfl
theorem infoRuleP : (Tryd.prog.info? 54).map (fun i => (i.zero,i.size,i.bytes)) = some (some (.agg #[.string ⟨#[]⟩,.slice none 0 0,.slice none 0 0]),3,64) := by kernel_rfl
theorem sizeProgP : (Tryd.prog.info? 26).map (fun i => i.size) = some 3 := by kernel_rfl
/-- two boxes of programs -/
structure BB (w W : World) (u v : Array Value) : Prop where
  bel : Below w.heap.size w W
  b0 : W.heap[w.heap.size]? = some (.cells u 26)
  b1 : W.heap[w.heap.size + 1]? = some (.cells v 26)
theorem BB.start (w : World) (u v : Array Value) : BB w ((w.alloc (.cells u 26)).alloc (.cells v 26)) u v :=
  have h := @k_two w _ (.cells u 26) (.cells v 26) (Below.refl _ _)
  ⟨h.1,h.2.1,h.2.2⟩
theorem BB.lt {w W : World} {u v : Array Value} (h : BB w W u v) : w.heap.size + 1 < W.heap.size := (Array.getElem?_eq_some_iff.1 h.b1).1
theorem BB.below {w W W' : World} {u v : Array Value} (h : BB w W u v) (hb : Below W.heap.size W W') : BB w W' u v :=
  ⟨h.bel.trans (hb.mono h.bel.size),(hb.block _ (by have := h.lt;omega)).trans h.b0,(hb.block _ h.lt).trans h.b1⟩
theorem BB.cells {w W : World} {a b c x y z : Value} (h : BB w W #[a,b,c] #[x,y,z]) : (W.cell? ⟨w.heap.size,0,none⟩ = some a ∧ W.cell? ⟨w.heap.size,1,none⟩ = some b ∧ W.cell? ⟨w.heap.size,2,none⟩ = some c) ∧ (W.cell? ⟨w.heap.size + 1,0,none⟩ = some x ∧ W.cell? ⟨w.heap.size + 1,1,none⟩ = some y ∧ W.cell? ⟨w.heap.size + 1,2,none⟩ = some z) ∧ W.frozen? ⟨w.heap.size + 1,0,none⟩ = false ∧ W.frozen? ⟨w.heap.size + 1,1,none⟩ = false ∧ W.frozen? ⟨w.heap.size + 1,2,none⟩ = false := by
 have h1 := h.b0;have h2 := h.b1;exact ⟨⟨by simp [World.cell?,h1],by simp [World.cell?,h1],by simp [World.cell?,h1]⟩,⟨by simp [World.cell?,h2],by simp [World.cell?,h2],by simp [World.cell?,h2]⟩,by simp [World.frozen?,h2],by simp [World.frozen?,h2],by simp [World.frozen?,h2]⟩
theorem BB.put {w W : World} {u : Array Value} {x y z a b c : Value} (h : BB w W u #[x,y,z]) : BB w (((W.setCell ⟨w.heap.size + 1,0,none⟩ a).setCell ⟨w.heap.size + 1,1,none⟩ b).setCell ⟨w.heap.size + 1,2,none⟩ c).drew u #[a,b,c] ∧ ∀ k,k ≠ w.heap.size + 1 → (((W.setCell ⟨w.heap.size + 1,0,none⟩ a).setCell ⟨w.heap.size + 1,1,none⟩ b).setCell ⟨w.heap.size + 1,2,none⟩ c).drew.heap[k]? = W.heap[k]? := by
 have hg : w.heap.size ≤ w.heap.size + 1 := by omega
 have hk : ∀ k,k ≠ w.heap.size + 1 → (((W.setCell ⟨w.heap.size + 1,0,none⟩ a).setCell ⟨w.heap.size + 1,1,none⟩ b).setCell ⟨w.heap.size + 1,2,none⟩ c).drew.heap[k]? = W.heap[k]? := fun k hne => (set_neP _ hne).trans ((set_neP _ hne).trans (set_neP _ hne))
 refine ⟨⟨(((h.bel.setCell (p := ⟨w.heap.size + 1,0,none⟩) hg a).setCell (p := ⟨w.heap.size + 1,1,none⟩) hg b).setCell (p := ⟨w.heap.size + 1,2,none⟩) hg c).drew,(hk _ (by omega)).trans h.b0,?_⟩,hk⟩;exact Go.heap_setCell_same _ _ _ _ _ _ (Go.heap_setCell_same _ _ _ _ _ _ (Go.heap_setCell_same _ _ _ _ _ _ h.b1))
theorem QIn.same {w w' : World} {y : RQ} (h : QIn w y) (hk : ∀ k u,w.cell? ⟨k,0,none⟩ = some u → u ≠ .slice none 0 0 → w'.heap[k]? = w.heap[k]?) : QIn w' y := by
 obtain ⟨b,hb⟩ := h.t.first;obtain ⟨k,hc⟩ := h.l.first;refine ⟨h.t.same (hk _ _ hb (by intro e;cases e)),h.l.same (hk _ _ hc (by intro e;cases e)) fun z hz => ?_,h.m⟩;obtain ⟨b2,hb2⟩ := (h.l.inner z hz).first;exact hk _ _ hb2 (by intro e;cases e)
theorem RowM.same {w w' : World} {g : Nat} {xs : List Value} (h : RowM w g xs) (hh : w'.heap[g]? = w.heap[g]?) : RowM w' g xs := ⟨fun j u hj => by rw [← h.cells j u hj];exact World.cell?_of_block hh⟩
theorem first_I (I : List InpD) : ∃ s,(flatI I ++ flatI markI)[0]? = some (.string s) := by cases I <;> exact ⟨_,rfl⟩
theorem first_O (O : List OutD) : ∃ s,(flatO O ++ flatO markO)[0]? = some (.string s) := by cases O <;> exact ⟨_,rfl⟩
theorem first_Q (Q : List RQ) : ∃ s,(flatQ Q ++ markQ)[0]? = some (.string s) := by cases Q <;> exact ⟨_,rfl⟩
theorem cq_program (I : List InpD) (O : List OutD) (R : List Rul) (a0 a1 a2 : Option Addr) (c0 c1 c2 : Nat) (w : World) (hI : Inps w a0 I) (hO : Outs w a1 O) (hR : Ruls w a2 R) :
    Calls Tryd.prog 7 #[.agg #[.slice a0 I.length c0,.slice a1 O.length c1,.slice a2 R.length c2]] w fun e w' => ∃ gi ci go co gr cr Q,e = .returned (.agg #[.slice (some ⟨gi,0,none⟩) I.length ci,.slice (some ⟨go,0,none⟩) O.length co,.slice (some ⟨gr,0,none⟩) R.length cr]) ∧ PM w' I O R gi ci go co gr cr Q ∧ Below w.heap.size w w' := by
 obtain ⟨ii,hii,hi0,hi1,hi2⟩ := info_parts infoInputP;obtain ⟨io,hio,ho0,ho1,ho2⟩ := info_parts infoOutputP;obtain ⟨ir,hir,hr0,hr1,hr2⟩ := info_parts infoRuleP;have hlI := hI.len;have hlO := hO.len;have hlR := hR.len
 have hBB0 : Hid (BB w ((w.alloc (.cells #[.slice a0 I.length c0,.slice a1 O.length c1,.slice a2 R.length c2] 26)).alloc (.cells #[.slice none 0 0,.slice none 0 0,.slice none 0 0] 26)) #[.slice a0 I.length c0,.slice a1 O.length c1,.slice a2 R.length c2] #[.slice none 0 0,.slice none 0 0,.slice none 0 0]) := Lib.hid (BB.start _ _ _);obtain ⟨⟨x0,x1,x2⟩,-⟩ := hBB0.out.cells
 have hnI := (hI.below hBB0.out.bel).news;obtain ⟨B,hB⟩ : ∃ B,((w.alloc (.cells #[.slice a0 I.length c0,.slice a1 O.length c1,.slice a2 R.length c2] 26)).alloc (.cells #[.slice none 0 0,.slice none 0 0,.slice none 0 0] 26)).heap.size = B := ⟨_,rfl⟩;replace hB := Lib.hid hB
 have hown0 : ((w.alloc (.cells #[.slice a0 I.length c0,.slice a1 O.length c1,.slice a2 R.length c2] 26)).alloc (.cells #[.slice none 0 0,.slice none 0 0,.slice none 0 0] 26)).ownsRow B 43 3 (.slice none 0 0) 0 [] := World.ownsRow_nil _ _ _ _;have k1 : Hid (I.length + 2 ≤ maxLen ∧ (I.length + 2) * 40 ≤ 140737488355328) := Lib.hid (by unfold maxLen;omega)
 have k2 : Hid (O.length + 2 ≤ maxLen ∧ (O.length + 2) * 24 ≤ 140737488355328) := Lib.hid (by unfold maxLen;omega);have k3 : Hid (R.length + 2 ≤ maxLen ∧ (R.length + 2) * 64 ≤ 140737488355328) := Lib.hid (by unfold maxLen;omega);go_enter Tryd.func7,Tryd.ntmps7
 go_wp2_with (at_builtin;go_loud (refine wpList_append_any rfl (.const (.slice none 0 0)) (.tmp 8) 22 rfl B 43 ii (.agg #[.string ⟨#[]⟩,.int .i64 0,.string ⟨#[]⟩]) 3 40 Tryd.underlying22 hii hi0 hi1 hi2 rfl (by decide) _ 0 [] rfl hown0 a0 I.length c0 (flatI I) rfl (flatI_len I) hnI (flatI_one I) (by have := k1.out.1;omega) (by have := k1.out.2;omega) (Nat.le_of_eq hB.out.symm) ?_))
 intro v1 w1 hown1 hgr1 hnil1 hat1;generalize ((w.alloc (.cells #[.slice a0 I.length c0,.slice a1 O.length c1,.slice a2 R.length c2] 26)).alloc (.cells #[.slice none 0 0,.slice none 0 0,.slice none 0 0] 26)) = W0 at hB hBB0 hown0 hown1 hgr1 hnil1 hat1 x0 x1 x2 hnI;rw [← hB.out] at hown0 hown1
 have hb1 : Hid (Below W0.heap.size W0 w1) := Lib.hid ((Below.refl _ _).grown hgr1 (Nat.le_refl _) (own_ge hown0));obtain ⟨va,vc,rfl,hva⟩ := own_slice hown1;clear hva hgr1 hnil1 hat1 hnI hown0;replace hown1 := Lib.hid hown1
 go_wp2_with (at_builtin;go_loud (refine wpList_append_any rfl (.tmp 9) (.tmp 12) 22 rfl W0.heap.size 43 ii (.agg #[.string ⟨#[]⟩,.int .i64 0,.string ⟨#[]⟩]) 3 40 Tryd.underlying22 hii hi0 hi1 hi2 rfl (by decide) _ I.length (flatI I) rfl (hown1.out.alloc _) (some ⟨w1.heap.size,0,none⟩) 2 2 (flatI markI) rfl rfl (fun j u hj => ⟨_,rfl,own_cells_row rfl rfl j u hj⟩) (flatI_one markI) k1.out.1 k1.out.2 (by have := hb1.out.size;rw [World.size_alloc];omega) ?_))
 intro v2 w2 hown2 hgr2 hnil2 hat2;have hb2 := Lib.hid ((hb1.out.al _).grown hgr2 (by have := hb1.out.size;rw [World.size_alloc];omega) (own_ge hown1.out));obtain ⟨gi,ci,rfl,hgi,-,-,-,hcell⟩ := own_some hown2 (by omega);have hMi : Hid (RowM w2 gi (flatI I ++ flatI markI)) := Lib.hid ⟨hcell⟩;clear hcell hgr2 hnil2 hat2 hown2 hown1 x0 x1 x2
 have hBB2 := Lib.hid (hBB0.out.below hb2.out);clear hb1 hb2 hBB0;obtain ⟨⟨x0,x1,x2⟩,-⟩ := hBB2.out.cells;have hnO := (hO.below hBB2.out.bel).news;have hown0 : w2.ownsRow w2.heap.size 47 2 (.slice none 0 0) 0 [] := World.ownsRow_nil _ _ _ _
 go_wp2_with (at_builtin;go_loud (refine wpList_append_any rfl (.const (.slice none 0 0)) (.tmp 15) 23 rfl w2.heap.size 47 io (.agg #[.string ⟨#[]⟩,.int .i64 0]) 2 24 Tryd.underlying23 hio ho0 ho1 ho2 rfl (by decide) _ 0 [] rfl hown0 a1 O.length c1 (flatO O) rfl (flatO_len O) hnO (flatO_one O) (by have := k2.out.1;omega) (by have := k2.out.2;omega) (Nat.le_refl _) ?_))
 intro v3 w3 hown3 hgr3 hnil3 hat3;have hb3 : Hid (Below w2.heap.size w2 w3) := Lib.hid ((Below.refl _ _).grown hgr3 (Nat.le_refl _) (own_ge hown0));obtain ⟨va,vc,rfl,hva⟩ := own_slice hown3;clear hva hgr3 hnil3 hat3 hnO hown0;replace hown3 := Lib.hid hown3
 go_wp2_with (at_builtin;go_loud (refine wpList_append_any rfl (.tmp 16) (.tmp 19) 23 rfl w2.heap.size 47 io (.agg #[.string ⟨#[]⟩,.int .i64 0]) 2 24 Tryd.underlying23 hio ho0 ho1 ho2 rfl (by decide) _ O.length (flatO O) rfl (hown3.out.alloc _) (some ⟨w3.heap.size,0,none⟩) 2 2 (flatO markO) rfl rfl (fun j u hj => ⟨_,rfl,own_cells_row rfl rfl j u hj⟩) (flatO_one markO) k2.out.1 k2.out.2 (by have := hb3.out.size;rw [World.size_alloc];omega) ?_))
 intro v4 w4 hown4 hgr4 hnil4 hat4;have hb4 := Lib.hid ((hb3.out.al _).grown hgr4 (by have := hb3.out.size;rw [World.size_alloc];omega) (own_ge hown3.out));obtain ⟨go,co,rfl,hgo,-,-,-,hcell⟩ := own_some hown4 (by omega);have hMo : Hid (RowM w4 go (flatO O ++ flatO markO)) := Lib.hid ⟨hcell⟩;have hMi4 := Lib.hid (hMi.out.below hb4.out)
 clear hcell hgr4 hnil4 hat4 hown4 hown3 x0 x1 x2 hMi;have hBB4 := Lib.hid (hBB2.out.below hb4.out);clear hb3 hb4 hBB2;go_wp2_with fail;have hh2 := hMi4.out;clear hMi4;have hMi4 := Lib.hid hh2;clear hh2
 go_loopw [5,6] (fun v i wr => ∃ (k : Nat) (Q : List RQ),k ≤ R.length ∧ i = .int .i64 k ∧ Hid (Q.map (·.r) = R.take k) ∧ Hid (k = 0 → v = .slice none 0 0) ∧ Hid (wr.ownsRow w4.heap.size 54 3 v k (flatQ Q)) ∧ Hid (∀ y ∈ Q,QIn wr y) ∧ Hid (Below w4.heap.size w4 wr)) (fun _ i _ => R.length - (intOf i).toNat)
 case atStart => exact ⟨0,[],Nat.zero_le _,rfl,Lib.hid rfl,Lib.hid fun _ => rfl,Lib.hid (World.ownsRow_nil _ _ _ _),Lib.hid (by simp),Lib.hid (Below.refl _ _)⟩
 case round =>
  obtain ⟨k,Q,hk,rfl,hm,hv0,hown,hin,hbw⟩ := hrel;have hBBw := Lib.hid (hBB4.out.below hbw.out);obtain ⟨⟨x0,x1,x2⟩,⟨y0,y1,y2⟩,z0,z1,z2⟩ := hBBw.out.cells
  have hQl : Q.length = k := by
   have h := congrArg List.length hm.out;rw [List.length_map,List.length_take] at h;omega
  have hne : Hid (∀ (v : Value),Hid (k = 0 → v = .slice none 0 0) → ∀ g,v.ownBlock = some g → ∃ s,(flatQ Q)[0]? = some (.string s)) := Lib.hid fun v hv g hg => by
   cases hQ : Q with
   | nil =>
    rw [hQ] at hQl;rw [hv.out hQl.symm] at hg;cases hg
   | cons y r => exact ⟨_,rfl⟩
  replace hQl := Lib.hid hQl
  by_cases hlt : k < R.length
  · obtain ⟨p,ad,acap,bd,bcap,rfl,hd0,hd1,hd2,hat,hbt⟩ := (hR.below hBBw.out.bel).cells k R[k] (List.getElem?_eq_getElem hlt);have hmn : Hid (R.take k ++ [R[k]] = R.take (k + 1)) := Lib.hid (List.take_succ_eq_append_getElem hlt).symm;generalize R[k] = x at hd0 hd1 hd2 hat hbt hmn;have hcr := fun w h1 h2 => cq_rule x.h ad x.a acap bd x.b bcap w h1 h2;obtain ⟨xh,xa,xb⟩ := x
    dsimp only at hd0 hd1 hd2 hat hbt hcr;obtain ⟨va,vc,rfl,hva⟩ := own_slice hown.out;have hneV := Lib.hid (hne.out _ hv0);clear hva hv0 hne;have h63 : Hid (k + 1 ≤ maxLen) := Lib.hid (by unfold maxLen;omega);have h64 : Hid ((k + 1) * 64 ≤ 140737488355328) := Lib.hid (by omega);have hq0 : (0 : Int) ≤ (k : Int) := Int.natCast_nonneg _
    have hq1 : (k : Int) < (R.length : Int) := by omega
    go_wp2_with (first
      | (go_at_call 17;refine (hcr _ hat hbt).mono ?_;rintro e w5 ⟨g,c,B5,cB,L,rfl,hM0,hL0,hLb0,hb50⟩
         have hM5 := Lib.hid hM0;have hL5 := Lib.hid hL0;have hLb := Lib.hid hLb0;have hb5 := Lib.hid hb50;have hown5 := Lib.hid (own_below hown.out hb50);clear hM0 hL0 hLb0 hb50)
      | (at_builtin;refine wpList_append_any rfl (.tmp 28) (.tmp 35) 24 rfl w4.heap.size 54 ir (.agg #[.string ⟨#[]⟩,.slice none 0 0,.slice none 0 0]) 3 64 Tryd.underlying24 hir hr0 hr1 hr2 rfl (by decide) _ k (flatQ Q) rfl (hown5.out.alloc _) (some ⟨w5.heap.size,0,none⟩) 1 1 (cellQ ⟨⟨xh,xa,xb⟩,g,c,B5,cB,L⟩) rfl rfl (fun j u hj => ⟨_,rfl,own_cells_row rfl rfl j u hj⟩) (cellQ_one _) h63.out h64.out (by have := (hbw.out.trans (hb5.out.mono hbw.out.size)).size;rw [World.size_alloc];omega) ?_))
    intro v6 w6 hown6 hgr6 hnil6 hat6;have hb56 := Lib.hid (hbw.out.trans (hb5.out.mono hbw.out.size));have hb6 := Lib.hid ((hb56.out.al (.cells (cellQ ⟨⟨xh,xa,xb⟩,g,c,B5,cB,L⟩).toArray 54)).grown hgr6 (by have := hb56.out.size;rw [World.size_alloc];omega) (own_ge hown5.out))
    have hQ6 : Hid (∀ y ∈ Q ++ [⟨⟨xh,xa,xb⟩,g,c,B5,cB,L⟩],QIn w6 y) := Lib.hid fun y hy => by
     have h5 : QIn (w5.alloc (.cells (cellQ ⟨⟨xh,xa,xb⟩,g,c,B5,cB,L⟩).toArray 54)) y := by
      rcases List.mem_append.1 hy with hy | hy
      · exact (((hin.out y hy).below hb5.out)).below ((Below.refl _ _).al _)
      · simp at hy;subst hy;exact (show QIn w5 ⟨⟨xh,xa,xb⟩,g,c,B5,cB,L⟩ from ⟨hM5.out,hL5.out,hLb.out⟩).below ((Below.refl _ _).al _)
     exact h5.grown (hown5.out.alloc _) hneV.out hgr6
    clear hgr6 hnil6 hat6 hin hM5 hL5;replace hown6 := Lib.hid hown6;go_wp2_with fail;go_roundw
    case rel => exact ⟨k + 1,Q ++ [⟨⟨xh,xa,xb⟩,g,c,B5,cB,L⟩],by omega,by go_num,Lib.hid (by rw [List.map_append,hm.out];exact hmn.out),Lib.hid (fun h => by omega),by rw [flatQ_snoc];exact hown6,hQ6,hb6⟩
    case measure => simp [intOf];omega
  · have hke : k = R.length := by omega
    subst hke;obtain ⟨va,vc,rfl,hva⟩ := own_slice hown.out;have hneV := Lib.hid (hne.out _ hv0);clear hva hv0 hne
    go_wp2_with (at_builtin;go_loud (refine wpList_append_any rfl (.tmp 37) (.tmp 42) 24 rfl w4.heap.size 54 ir (.agg #[.string ⟨#[]⟩,.slice none 0 0,.slice none 0 0]) 3 64 Tryd.underlying24 hir hr0 hr1 hr2 rfl (by decide) _ R.length (flatQ Q) rfl (hown.out.alloc _) (some ⟨wr.heap.size,0,none⟩) 2 2 markQ rfl rfl (fun j u hj => ⟨_,rfl,own_cells_row rfl rfl j u hj⟩) (fun u hu => List.all_eq_true.1 (show markQ.all (fun u => u.oneCell') = true from rfl) u hu) k3.out.1 k3.out.2 (by have := hbw.out.size;rw [World.size_alloc];omega) ?_))
    intro v6 w6 hown6 hgr6 hnil6 hat6;have hb6 := Lib.hid ((hbw.out.al (.cells markQ.toArray 54)).grown hgr6 (by have := hbw.out.size;rw [World.size_alloc];omega) (own_ge hown.out));have hQ6 : Hid (∀ y ∈ Q,QIn w6 y) := Lib.hid fun y hy => ((hin.out y hy).below ((Below.refl _ _).al (.cells markQ.toArray 54))).grown (hown.out.alloc _) hneV.out hgr6
    obtain ⟨gr,cr,rfl,hgr,-,-,-,hcell⟩ := own_some hown6 (by omega);have hMr : Hid (RowM w6 gr (flatQ Q ++ markQ)) := Lib.hid ⟨hcell⟩;clear hcell hgr6 hnil6 hat6 hown6 hin x0 x1 x2 y0 y1 y2 z0 z1 z2 hBBw;have hBB6 := Lib.hid (hBB4.out.below hb6.out);obtain ⟨⟨x0,x1,x2⟩,⟨y0,y1,y2⟩,z0,z1,z2⟩ := hBB6.out.cells;have l0 : I.length ≤ ci := by omega
    have l1 : O.length ≤ co := by omega
    have l2 : R.length ≤ cr := by omega
    have hPM : Hid (PM w6 I O R gi ci go co gr cr Q) := Lib.hid ⟨(hMi4.out.below hb6.out),hgi,hMo.out.below hb6.out,hgo,hMr.out,hgr,hQ6.out,by rw [hm.out,List.take_length]⟩;have hy0 := Lib.hid y0;go_wp2_with fail
    go_region
    obtain ⟨hE,hK⟩ := hBB6.out.put (a := .slice (some ⟨gi,0,none⟩) I.length ci) (b := .slice (some ⟨go,0,none⟩) O.length co) (c := .slice (some ⟨gr,0,none⟩) R.length cr)
    have hK2 : ∀ k u,w6.cell? ⟨k,0,none⟩ = some u → u ≠ .slice none 0 0 → k ≠ w.heap.size + 1 := fun k u hc hu e => by
     subst e;rw [hy0.out] at hc;injection hc with hc;exact hu hc.symm
    have hPE : Hid (PM (((w6.setCell ⟨w.heap.size + 1,0,none⟩ (.slice (some ⟨gi,0,none⟩) I.length ci)).setCell ⟨w.heap.size + 1,1,none⟩ (.slice (some ⟨go,0,none⟩) O.length co)).setCell ⟨w.heap.size + 1,2,none⟩ (.slice (some ⟨gr,0,none⟩) R.length cr)).drew I O R gi ci go co gr cr Q) := Lib.hid (by
     obtain ⟨s0,e0⟩ := first_I I;obtain ⟨s1,e1⟩ := first_O O;obtain ⟨s2,e2⟩ := first_Q Q
     exact ⟨hPM.out.i.same (hK _ (hK2 _ _ (hPM.out.i.cells 0 _ e0) (by intro e;cases e))),hPM.out.ci,hPM.out.o.same (hK _ (hK2 _ _ (hPM.out.o.cells 0 _ e1) (by intro e;cases e))),hPM.out.co,hPM.out.r.same (hK _ (hK2 _ _ (hPM.out.r.cells 0 _ e2) (by intro e;cases e))),hPM.out.cr,fun y hy => (hPM.out.q y hy).same fun k u h1 h2 => hK _ (hK2 _ _ h1 h2),hPM.out.m⟩)
    replace hE := Lib.hid hE;clear hK hK2 hy0;go_wp2_with fail;refine bodyPost_ret (v := .agg #[.slice (some ⟨gi,0,none⟩) I.length ci,.slice (some ⟨go,0,none⟩) O.length co,.slice (some ⟨gr,0,none⟩) R.length cr]) (results_cell_row rfl _ _ (w.heap.size + 1) 26 _ (0,0) _ rfl hE.out.b1 Tryd.underlying26 rfl sizeProgP) rfl ?_;exact ⟨gi,ci,go,co,gr,cr,Q,rfl,hPE.out,hE.out.bel⟩
end Go.Proofs.YtclioihichcpiaaDoor
