/- A program as it is read: its inputs, outputs, rules, and its bulk. -/
import Derived.Test.YtclioihichcpiaaDoorJoP
import Derived.Test.YtclioihichcpiaaDoorOpenQ
set_option maxHeartbeats 8000000
set_option maxRecDepth 100000
namespace Go.Proofs.YtclioihichcpiaaDoor
open Go.ChangeShapes Go.WideShapes Go.ChangeAt Go.RowKit Go.Deep
section
variable {H : Type} {enc : TypeId × Value → H} {W : World} {base : Nat} {spare : Nat → Bool} {held : Bool}
theorem row_in {α : Type} {T E : TypeId} {k : Nat} (hT : Tryd.prog.underlying T = some (.slice E)) (hc : Tryd.prog.cellsOf E = k) (f : α → List Value) (hf : ∀ y,(f y).length = k) (good : α → Prop) (g : α → Nat)
    (el : ∀ n cs (x : DataW H × List MemPlace),DataW.trod enc Tryd.prog W base spare held n E cs = some x → Rows.uptoBulk x.1 ≤ 1048576 → ∃ y,cs = f y ∧ good y ∧ g y ≤ Rows.uptoBulk x.1)
    {fuel : Nat} {a : Option Addr} {len cap : Nat} {x : DataW H × List MemPlace} (h : DataW.trod enc Tryd.prog W base spare held fuel T [.slice a len cap] = some x) (hB : Rows.uptoBulk x.1 ≤ 1048576) :
    ∃ l : List α,l.length = len ∧ (∀ (j : Nat) y,l[j]? = some y → good y ∧ ∃ q,a = some q ∧ ∀ (o : Nat) u,(f y)[o]? = some u → W.cell? ((q.add (j * k)).add o) = some u) ∧ (l.map g).sum + 1 ≤ Rows.uptoBulk x.1 ∧ len ≤ 1048576 ∧ ∀ y ∈ l,g y ≤ 1048576 := by
 rcases open_slice hT h with ⟨hcs,_⟩ | ⟨q,ln,c,m,n,D,Pl,hcs,_,hl,hm,hz,hx,hi⟩
 · simp at hcs;obtain ⟨rfl,rfl,rfl⟩ := hcs;exact ⟨[],rfl,(fun j y hj => by cases hj),rbulk_pos _,Nat.zero_le _,(fun y hy => by cases hy)⟩
 · simp at hcs;obtain ⟨rfl,rfl,rfl⟩ := hcs;have hlm : len ≤ m := by rw [hz];split <;> omega
   have hb1 : Rows.uptoBulkAll ((List.range len).map D) + 1 ≤ Rows.uptoBulk x.1 ∧ Rows.uptoBulkAll ((List.range len).map D) ≤ 1048576 := by
    rw [hx] at hB ⊢;have e : Rows.uptoBulk (DataW.slice ((List.range len).map D) ((List.range (m - len)).map fun j => D (len + j))) = Rows.uptoBulkAll ((List.range len).map D) + Rows.uptoBulkAll ((List.range (m - len)).map fun j => D (len + j)) + 1 := rfl;rw [e] at hB ⊢;omega
   have hex : ∀ i : Fin len,∃ y : α,good y ∧ (∀ (o : Nat) u,(f y)[o]? = some u → W.cell? ((q.add (i.1 * k)).add o) = some u) ∧ g y ≤ Rows.uptoBulk (D i.1) := fun i => by
    obtain ⟨cs',hcc,htr⟩ := hi i.1 (by omega);rw [hc] at hcc;obtain ⟨_,hcl,hat⟩ := World.cells?_some hcc;have h4 := rbulk_mem ((List.range len).map D) (D i.1) (List.mem_map_of_mem (List.mem_range.2 i.2));obtain ⟨y,hy,hg,hw⟩ := el _ _ _ htr (by dsimp only;omega);refine ⟨y,hg,fun o u hu => ?_,hw⟩
    have ho : o < k := by have := (List.getElem?_eq_some_iff.1 hu).1;rw [hf] at this;exact this
    rw [hat o ho,hy];exact hu
   obtain ⟨F,hF⟩ := Classical.axiomOfChoice hex
   have hat : ∀ (i : Nat) y,(List.ofFn F)[i]? = some y → ∃ h : i < len,F ⟨i,h⟩ = y := fun i y hy => by
    obtain ⟨hlt,hj⟩ := List.getElem?_eq_some_iff.1 hy;have hlt' : i < len := by simpa using hlt
    exact ⟨hlt',by rw [← hj];simp⟩
   refine ⟨List.ofFn F,by simp,fun j y hj => ?_,?_,?_,fun y hy => ?_⟩
   · obtain ⟨hlt,he⟩ := hat j y hj;obtain ⟨h1,h2,_⟩ := hF ⟨j,hlt⟩;rw [he] at h1 h2;exact ⟨h1,q,rfl,h2⟩
   · have hsum := sum_bulk g (List.ofFn F) ((List.range len).map D) (by simp) (by
       intro i y d hy hd;obtain ⟨hlt,he⟩ := hat i y hy
       have hd2 : D i = d := by
        rw [List.getElem?_map,List.getElem?_range hlt] at hd
        simpa using hd
       have h3 := (hF ⟨i,hlt⟩).2.2;rw [he] at h3;rw [← hd2];exact h3)
     omega
   · have := rbulk_len ((List.range len).map D);simp at this;omega
   · obtain ⟨i,rfl⟩ := List.mem_ofFn.1 hy;have h3 := (hF i).2.2;have h4 := rbulk_mem ((List.range len).map D) (D i.1) (List.mem_map_of_mem (List.mem_range.2 i.2));omega
theorem at_off (q : Addr) (j o : Nat) (h : 0 < o) : (q.add j).add o = ⟨(q.add j).block,(q.add j).off + o,none⟩ := add_pos _ _ h
theorem input_in {n : Nat} {cs : List Value} {x : DataW H × List MemPlace} (h : DataW.trod enc Tryd.prog W base spare held n 43 cs = some x) (hB : Rows.uptoBulk x.1 ≤ 1048576) :
    ∃ y : InpD,cs = [.string y.1,.int .i64 y.2.1,.string y.2.2] ∧ True ∧ y.1.size + y.2.2.size + 4 ≤ Rows.uptoBulk x.1 := by
 obtain ⟨xs,n',_,rfl,hl,hx,hf⟩ := DataW.trod_struct Tryd.underlying43 h;have hl2 : cs.length = 3 := hl.trans (by kernel_rfl);have c1 : Tryd.prog.cellsOf 9 = 1 := by kernel_rfl
 have c2 : Tryd.prog.cellsOf 3 = 1 := by kernel_rfl
 have h0 : DataW.trod enc Tryd.prog W base spare held n' 9 ((cs.drop 0).take (Tryd.prog.cellsOf 9)) = xs[0]? := hf 0 _ rfl;have h1 : DataW.trod enc Tryd.prog W base spare held n' 3 ((cs.drop 1).take (Tryd.prog.cellsOf 3)) = xs[1]? := hf 1 _ rfl;have h2 : DataW.trod enc Tryd.prog W base spare held n' 9 ((cs.drop 2).take (Tryd.prog.cellsOf 9)) = xs[2]? := hf 2 _ rfl;rw [c1] at h0 h2
 rw [c2] at h1;clear hl hf h
 match cs,hl2,xs,hx with
 | [a,b,c],_,[x0,x1,x2],_ =>
  obtain ⟨s,hs,hxs,_⟩ := DataW.trod_string Tryd.underlying9 h0;obtain ⟨k,hk,_⟩ := DataW.trod_int Tryd.underlying3 h1;obtain ⟨t,ht,hxt,_⟩ := DataW.trod_string Tryd.underlying9 h2;have e0 : a = .string s := by simpa using hs
  have e1 : b = .int .i64 k := by simpa using hk
  have e2 : c = .string t := by simpa using ht
  subst e0 e1 e2;refine ⟨(s,k,t),rfl,trivial,?_⟩
  have e9 : ∀ s : ByteArray,Rows.uptoBulk (DataW.lit (H := H) (.string s.data.toList)) = s.size + 1 := fun s => by
   show s.data.toList.length + 1 = _;rw [Array.length_toList];rfl
  have hp := rbulk_pos x1.1;show s.size + t.size + 4 ≤ Rows.uptoBulk x0.1 + (Rows.uptoBulk x1.1 + (Rows.uptoBulk x2.1 + 0)) + 1;rw [hxs,hxt,e9,e9];omega
theorem output_in {n : Nat} {cs : List Value} {x : DataW H × List MemPlace} (h : DataW.trod enc Tryd.prog W base spare held n 47 cs = some x) (hB : Rows.uptoBulk x.1 ≤ 1048576) :
    ∃ y : OutD,cs = [.string y.1,.int .i64 y.2] ∧ True ∧ y.1.size + 3 ≤ Rows.uptoBulk x.1 := by
 obtain ⟨xs,n',_,rfl,hl,hx,hf⟩ := DataW.trod_struct Tryd.underlying47 h;have hl2 : cs.length = 2 := hl.trans (by kernel_rfl);have c1 : Tryd.prog.cellsOf 9 = 1 := by kernel_rfl
 have c2 : Tryd.prog.cellsOf 3 = 1 := by kernel_rfl
 have h0 : DataW.trod enc Tryd.prog W base spare held n' 9 ((cs.drop 0).take (Tryd.prog.cellsOf 9)) = xs[0]? := hf 0 _ rfl;have h1 : DataW.trod enc Tryd.prog W base spare held n' 3 ((cs.drop 1).take (Tryd.prog.cellsOf 3)) = xs[1]? := hf 1 _ rfl;rw [c1] at h0;rw [c2] at h1;clear hl hf h
 match cs,hl2,xs,hx with
 | [a,b],_,[x0,x1],_ =>
  obtain ⟨s,hs,hxs,_⟩ := DataW.trod_string Tryd.underlying9 h0;obtain ⟨k,hk,_⟩ := DataW.trod_int Tryd.underlying3 h1;have e0 : a = .string s := by simpa using hs
  have e1 : b = .int .i64 k := by simpa using hk
  subst e0 e1;refine ⟨(s,k),rfl,trivial,?_⟩
  have e9 : ∀ s : ByteArray,Rows.uptoBulk (DataW.lit (H := H) (.string s.data.toList)) = s.size + 1 := fun s => by
   show s.data.toList.length + 1 = _;rw [Array.length_toList];rfl
  have hp := rbulk_pos x1.1;show s.size + 3 ≤ Rows.uptoBulk x0.1 + (Rows.uptoBulk x1.1 + 0) + 1;rw [hxs,e9];omega
/-- a rule and where its rows lie -/
structure RAt where
  r : Rul
  a : Option Addr
  c : Nat
  b : Option Addr
  d : Nat
theorem program_in {n : Nat} {cs : List Value} {x : DataW H × List MemPlace} (h : DataW.trod enc Tryd.prog W base spare held n 26 cs = some x) (hB : Rows.uptoBulk x.1 ≤ 1048576) :
    ∃ (I : List InpD) (O : List OutD) (R : List Rul) (a0 a1 a2 : Option Addr) (c0 c1 c2 : Nat),cs = [.slice a0 I.length c0,.slice a1 O.length c1,.slice a2 R.length c2] ∧ Inps W a0 I ∧ Outs W a1 O ∧ Ruls W a2 R ∧ progWt I O R ≤ Rows.uptoBulk x.1 := by
 obtain ⟨xs,n',_,rfl,hl,hx,hf⟩ := DataW.trod_struct Tryd.underlying26 h;have hl2 : cs.length = 3 := hl.trans (by kernel_rfl);have c0 : Tryd.prog.cellsOf 22 = 1 := by kernel_rfl
 have c1 : Tryd.prog.cellsOf 23 = 1 := by kernel_rfl
 have c2 : Tryd.prog.cellsOf 24 = 1 := by kernel_rfl
 have h0 : DataW.trod enc Tryd.prog W base spare held n' 22 ((cs.drop 0).take (Tryd.prog.cellsOf 22)) = xs[0]? := hf 0 _ rfl;have h1 : DataW.trod enc Tryd.prog W base spare held n' 23 ((cs.drop 1).take (Tryd.prog.cellsOf 23)) = xs[1]? := hf 1 _ rfl;have h2 : DataW.trod enc Tryd.prog W base spare held n' 24 ((cs.drop 2).take (Tryd.prog.cellsOf 24)) = xs[2]? := hf 2 _ rfl;rw [c0] at h0
 rw [c1] at h1;rw [c2] at h2;clear hl hf h
 match cs,hl2,xs,hx with
 | [a,b,c],_,[x0,x1,x2],_ =>
  have hB' : Rows.uptoBulk x0.1 + (Rows.uptoBulk x1.1 + (Rows.uptoBulk x2.1 + 0)) + 1 ≤ 1048576 := hB;obtain ⟨a0,n0,k0,rfl⟩ := slice_one Tryd.underlying22 h0;obtain ⟨a1,n1,k1,rfl⟩ := slice_one Tryd.underlying23 h1;obtain ⟨a2,n2,k2,rfl⟩ := slice_one Tryd.underlying24 h2
  obtain ⟨I,rfl,gI,wI,zI,mI⟩ := row_in (k := 3) Tryd.underlying22 (by kernel_rfl) (fun y : InpD => [.string y.1,.int .i64 y.2.1,.string y.2.2]) (fun _ => rfl) (fun _ => True) (fun y => y.1.size + y.2.2.size + 4) (fun n cs x h hb => input_in h hb) h0 (by omega)
  obtain ⟨O,rfl,gO,wO,zO,mO⟩ := row_in (k := 2) Tryd.underlying23 (by kernel_rfl) (fun y : OutD => [.string y.1,.int .i64 y.2]) (fun _ => rfl) (fun _ => True) (fun y => y.1.size + 3) (fun n cs x h hb => output_in h hb) h1 (by omega)
  obtain ⟨L,rfl,gR,wR,zR,mR⟩ := row_in (k := 3) Tryd.underlying24 (by kernel_rfl) (fun y : RAt => [.string y.r.h,.slice y.a y.r.a.length y.c,.slice y.b y.r.b.length y.d]) (fun _ => rfl) (fun y => y.r.h.size ≤ 1048576 ∧ Terms W y.a y.r.a ∧ Lits W y.b y.r.b) (fun y => Lx.ruleWt y.r) (fun n cs x h hb => by
   obtain ⟨p,a,l,cap,ba,b,bcap,e,h1,h2,h3,h4⟩ := rule_in h hb;exact ⟨⟨⟨p,l,b⟩,a,cap,ba,bcap⟩,e,⟨h1,h2,h3⟩,h4⟩) h2 (by omega)
  refine ⟨I,O,L.map (·.r),a0,a1,a2,k0,k1,k2,by rw [List.length_map],⟨zI,fun j y hj => ?_,fun y hy => ?_⟩,⟨zO,fun j y hj => ?_,fun y hy => ?_⟩,⟨by rw [List.length_map];exact zR,fun j y hj => ?_,fun y hy => ?_⟩,?_⟩
  · obtain ⟨-,q,hq,hc⟩ := gI j y hj;refine ⟨q,hq,hc 0 _ rfl,?_,?_⟩
    · have := hc 1 _ rfl;rw [at_off _ _ _ (by decide)] at this;exact this
    · have := hc 2 _ rfl;rw [at_off _ _ _ (by decide)] at this;exact this
  · have := mI y hy;omega
  · obtain ⟨-,q,hq,hc⟩ := gO j y hj;refine ⟨q,hq,hc 0 _ rfl,?_⟩;have := hc 1 _ rfl;rw [at_off _ _ _ (by decide)] at this;exact this
  · have := mO y hy;omega
  · rw [List.getElem?_map] at hj
    cases hy : L[j]? with
    | none => rw [hy] at hj;cases hj
    | some z =>
     rw [hy] at hj;injection hj with hj;subst hj;obtain ⟨⟨-,hT,hL⟩,q,hq,hc⟩ := gR j z hy;refine ⟨q,z.a,z.c,z.b,z.d,hq,hc 0 _ rfl,?_,?_,hT,hL⟩
     · have := hc 1 _ rfl;rw [at_off _ _ _ (by decide)] at this;exact this
     · have := hc 2 _ rfl;rw [at_off _ _ _ (by decide)] at this;exact this
  · obtain ⟨z,hz,rfl⟩ := List.mem_map.1 hy;obtain ⟨j,hj⟩ := List.getElem?_of_mem hz;exact ⟨(gR j z hj).1.1,ruleS_wt (mR z hz)⟩
  · have e : ((L.map (·.r)).map Lx.ruleWt).sum = (L.map fun y => Lx.ruleWt y.r).sum := by rw [List.map_map];rfl
    unfold progWt;rw [e];show _ ≤ Rows.uptoBulk x0.1 + (Rows.uptoBulk x1.1 + (Rows.uptoBulk x2.1 + 0)) + 1;omega
end
end Go.Proofs.YtclioihichcpiaaDoor
