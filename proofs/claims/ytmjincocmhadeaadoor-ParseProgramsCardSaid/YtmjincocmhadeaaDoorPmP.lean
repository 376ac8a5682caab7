/- Parse: the document's reader: a rule by itself. (gen_peo.py) -/
import Derived.Test.YtmjincocmhadeaaDoorPmM
import Derived.Test.YtmjincocmhadeaaDoorPmO
set_option maxHeartbeats 8000000
set_option maxRecDepth 100000
namespace Go.Proofs.YtmjincocmhadeaaDoor
open Go.RowKit Lx
/-- a rule of the call's own -/
def RuleV (w : World) (lo : Nat) (av bv : Value) (r : PRule) : Prop := w.ownsRow lo 57 2 av r.a.length (flatTT r.a) ∧ ∃ L : List (PLit × Value),L.map (·.1) = r.b ∧ Bod w lo bv L
theorem RuleV.of {w : World} {lo : Nat} {av bv : Value} {r : PRule} (h : RuleIn w lo av bv r) : RuleV w lo av bv r := ⟨h.args,(let ⟨L,h1,h2,_⟩ := h.body;⟨L,h1,h2⟩)⟩
theorem RuleV.below {w w' : World} {lo : Nat} {av bv : Value} {r : PRule} (h : RuleV w lo av bv r) (hb : Below w.heap.size w w') : RuleV w' lo av bv r := by
 obtain ⟨h1,L,h2,h3⟩ := h;exact ⟨own_below h1 hb,L,h2,own_below h3.own hb,fun y hy => own_below (h3.inner y hy) hb⟩
theorem RuleV.base {w : World} {lo lo' : Nat} {av bv : Value} {r : PRule} (h : RuleV w lo av bv r) (hb : lo' ≤ lo) : RuleV w lo' av bv r := by
 obtain ⟨h1,L,h2,h3⟩ := h;exact ⟨own_baseP h1 hb,L,h2,own_baseP h3.own hb,fun y hy => own_baseP (h3.inner y hy) hb⟩
theorem RuleV.reads {w : World} {lo : Nat} {av bv : Value} {r : PRule} (h : RuleV w lo av bv r) : ∃ xa xc ya yc,av = .slice xa r.a.length xc ∧ bv = .slice ya r.b.length yc ∧ RT w xa r.a ∧ RL w ya r.b := by
 obtain ⟨h1,L,h2,h3⟩ := h;obtain ⟨xa,xc,rfl,-⟩ := own_slice h1;obtain ⟨ya,yc,rfl,-⟩ := own_slice h3.own;have hn : L.length = r.b.length := by rw [← h2,List.length_map]
 refine ⟨xa,xc,ya,yc,rfl,by rw [hn],own_RT h1,?_⟩;have := (bod_RL h3).1;rw [h2] at this;exact this
theorem three_new {w1 : World} {a b c : Value} {t : TypeId} {g : Nat} (h : w1.heap[g]? = some (.cells #[a,b,c] t)) : (w1.cell? ⟨g,0,none⟩ = some a ∧ w1.cell? ⟨g,1,none⟩ = some b ∧ w1.cell? ⟨g,2,none⟩ = some c) ∧ w1.frozen? ⟨g,0,none⟩ = false ∧ w1.frozen? ⟨g,1,none⟩ = false ∧ w1.frozen? ⟨g,2,none⟩ = false :=
  ⟨⟨by simp [World.cell?,h],by simp [World.cell?,h],by simp [World.cell?,h]⟩,by simp [World.frozen?,h],by simp [World.frozen?,h],by simp [World.frozen?,h]⟩
theorem keepB {w w' : World} {r g : Nat} {o : Obj} (hm : Mvd r w w') (hg : w.heap[g]? = some o) (hne : g ≠ r) : w'.heap[g]? = some o :=
  (hm.block g (Array.getElem?_eq_some_iff.1 hg).1 (fun e => by injection e with e;exact hne e)).trans hg
end Go.Proofs.YtmjincocmhadeaaDoor
/- Parse: a rule written over: what lies beside it stays. (gen_pep.py) -/
namespace Go.Proofs.YtmjincocmhadeaaDoor
open Go.RowKit Lx
/-- what lies outside of lo .. hi stays -/
structure Fr (lo hi : Nat) (w w' : World) : Prop where
  os : w'.os = w.os
  tape : w'.tape = w.tape
  output : w'.output = w.output
  size : w.heap.size ≤ w'.heap.size
  block : ∀ k,k < w.heap.size → (k < lo ∨ hi ≤ k) → w'.heap[k]? = w.heap[k]?
section
variable {lo hi : Nat} {w w1 w2 w' : World}
theorem Fr.refl (lo hi : Nat) (w : World) : Fr lo hi w w := ⟨rfl,rfl,rfl,Nat.le_refl _,fun _ _ _ => rfl⟩
theorem Fr.trans (h : Fr lo hi w w1) (h2 : Fr lo hi w1 w2) : Fr lo hi w w2 :=
  ⟨h2.os.trans h.os,h2.tape.trans h.tape,h2.output.trans h.output,Nat.le_trans h.size h2.size,fun k hk ho => (h2.block k (Nat.lt_of_lt_of_le hk h.size) ho).trans (h.block k hk ho)⟩
theorem Fr.of (h : Below w.heap.size w w') : Fr lo hi w w' := ⟨h.os,h.tape,h.output,h.size,fun k hk _ => h.block k hk⟩
/-- one block within, or a new one, was written to -/
theorem Fr.one {r : Option Nat} (h : Fr lo hi w w1) (hg : w1.grownBy w2 r) (hr : ∀ k,r = some k → (lo ≤ k ∧ k < hi) ∨ w.heap.size ≤ k) : Fr lo hi w w2 :=
  ⟨hg.os.trans h.os,hg.tape.trans h.tape,hg.output.trans h.output,Nat.le_trans h.size hg.size,fun k hk ho => (hg.block k (Nat.lt_of_lt_of_le hk h.size) (fun e => by
    rcases hr k e.symm with h1 | h1
    · rcases ho with h2 | h2 <;> omega
    · omega)).trans (h.block k hk ho)⟩
theorem Fr.bel {B : Nat} (h : Fr lo hi w w') (hB : B ≤ lo) (hs : B ≤ w.heap.size) : Below B w w' :=
  ⟨h.os,h.tape,h.output,h.size,fun k hk => h.block k (by omega) (.inl (by omega))⟩
theorem Fr.own {lo2 : Nat} {e : TypeId} {size : Nat} {v : Value} {n : Nat} {xs : List Value} (h : Fr lo hi w w') (ho : w.ownsRow lo2 e size v n xs) (hle : hi ≤ lo2) : w'.ownsRow lo2 e size v n xs := by
 refine ⟨ho.1,?_⟩;rcases ho.2 with hn | ⟨k,cap,cur,rfl,hb,hg,r⟩
 · exact .inl hn
 · exact .inr ⟨k,cap,cur,rfl,hb,(h.block k (Array.getElem?_eq_some_iff.1 hg).1 (.inr (by omega))).trans hg,r⟩
theorem Fr.bod {lo2 : Nat} {v : Value} {L : List (PLit × Value)} (h : Fr lo hi w w') (hb : Bod w lo2 v L) (hle : hi ≤ lo2) : Bod w' lo2 v L :=
  ⟨h.own hb.own hle,fun y hy => h.own (hb.inner y hy) hle⟩
end
/-- a row's cell is there, and may be written to -/
theorem row_cell {w : World} {lo : Nat} {e : TypeId} {size g n c : Nat} {xs : List Value} (h : w.ownsRow lo e size (.slice (some ⟨g,0,none⟩) n c) n xs) (j : Nat) (hj : j < n * size) : ∃ u,w.cell? ⟨g,j,none⟩ = some u := by
 rw [h.cellAt j hj];exact ⟨_,List.getElem?_eq_getElem (by rw [h.1];exact hj)⟩
/-- a row of two cells written over in one place -/
theorem set_two {w : World} {lo : Nat} {e : TypeId} {g n c : Nat} {xs : List Value} (h : w.ownsRow lo e 2 (.slice (some ⟨g,0,none⟩) n c) n xs) (j : Nat) (a b : Value) :
    (∃ ys,((w.setCell ⟨g,j,none⟩ a).setCell ⟨g,j + 1,none⟩ b).ownsRow lo e 2 (.slice (some ⟨g,0,none⟩) n c) n ys) ∧ w.grownBy ((w.setCell ⟨g,j,none⟩ a).setCell ⟨g,j + 1,none⟩ b) (some g) := by
 obtain ⟨h1,h2⟩ := h.stored j a;obtain ⟨h3,h4⟩ := h1.stored (j + 1) b;exact ⟨⟨_,h3⟩,h2.trans h4⟩
theorem below_none {w w' : World} (h : Below w.heap.size w w') : w.grownBy w' none := ⟨h.os,h.tape,h.output,h.size,fun k hk _ => h.block k hk⟩
theorem grown_two {w w2 w3 : World} {r : Option Nat} {g : Nat} (h : w.grownBy w2 r) (h2 : w2.grownBy w3 (some g)) (hg : some g = r ∨ w.heap.size ≤ g) : w.grownBy w3 r :=
  ⟨h2.os.trans h.os,h2.tape.trans h.tape,h2.output.trans h.output,Nat.le_trans h.size h2.size,fun k hk hr => (h2.block k (Nat.lt_of_lt_of_le hk h.size) (fun e => by
    injection e with e;rcases hg with h1 | h1
    · exact hr (by rw [e,h1])
    · omega)).trans (h.block k hk hr)⟩
theorem wpList_append_anyD {P : Program} {w : World} {ops : Array Oper} {rest : List Oper} {o : Oper} {a : Act} {Q : Exit → Act → World → Prop} (hgd : o.guard = none) (s x : Operand) (t : TypeId)
    (ho : o.op = .call { callee := .builtin .append,args := #[s,x],argTypes := #[t,t] })
    (base : Nat) (e : TypeId) (i : TypeInfo) (z : Value) (size bytes : Nat) (ht : P.underlying t = some (.slice e)) (hi : P.info? e = some i) (hz : i.zero = some z)
    (hsize : i.size = size) (hby : i.bytes = bytes) (hzs : z.cells.size = size) (hsz : 0 < size)
    (v : Value) (n : Nat) (xs : List Value) (hs : a.eval s = v) (hown : w.ownsRow base e size v n xs)
    (ad : Addr) (m c : Nat) (news : List Value) (hx : a.eval x = .slice (some ad) m c) (hl : news.length = m * size) (hnews : ∀ j u,news[j]? = some u → w.cell? (ad.add j) = some u) (h1 : ∀ u ∈ news,u.oneCell' = true)
    (h63 : n + m ≤ maxLen) (hbytes : (n + m) * bytes ≤ 140737488355328) (hbase : base ≤ w.heap.size)
    (h : ∀ v' w',w'.ownsRow base e size v' (n + m) (xs ++ news) → w.grownBy w' v.ownBlock → (v'.ownBlock = v.ownBlock ∨ v'.ownBlock = some w.heap.size) → wpList P ops Q rest (a.put o.dst v') w') :
    wpList P ops Q (o :: rest) a w :=
  wpList_append_own_at w hgd s x t ho base e i z size bytes ht hi hz hsize hby hzs hsz v n xs hs hown ad m c news hx hl hnews h1 h63 hbytes hbase fun v' w' h1 h2 _ h3 => h v' w' h1 h2 h3
/-- what stands while a rule is written over: from w1 on; the box at g; the body's row, of which the literals from k on are as they were -/
structure SW (lo hi : Nat) (w1 wr : World) (g : Nat) (cs : Array Value) (vb : Option Addr) (vd : Nat) (L : List (PLit × Value)) (k : Nat) : Prop where
  fr : Fr lo hi w1 wr
  box : wr.heap[g]? = some (.cells cs 52)
  bod : ∃ xs,wr.ownsRow lo 59 7 (.slice vb L.length vd) L.length xs ∧ ∀ j,k * 7 ≤ j → xs[j]? = (flatLV L)[j]?
  args : ∀ i (h : i < L.length),k ≤ i → ∃ zs,wr.ownsRow lo 57 2 L[i].2 L[i].1.a.length zs
section
variable {lo hi : Nat} {w1 wr w' : World} {g k : Nat} {cs : Array Value} {vb : Option Addr} {vd : Nat} {L : List (PLit × Value)}
/-- a block that is none of the rest's was written to -/
theorem SW.other {r : Option Nat} (h : SW lo hi w1 wr g cs vb vd L k) (hg : wr.grownBy w' r) (hin : ∀ x,r = some x → (lo ≤ x ∧ x < hi) ∨ w1.heap.size ≤ x) (hb : ∀ x,(Value.slice vb L.length vd).ownBlock = some x → r ≠ some x) (ha : ∀ i (h : i < L.length),k ≤ i → ∀ x,L[i].2.ownBlock = some x → r ≠ some x) (hgr : r ≠ some g) : SW lo hi w1 w' g cs vb vd L k := by
 refine ⟨h.fr.one hg hin,(hg.block g (Array.getElem?_eq_some_iff.1 h.box).1 (fun e => hgr e.symm)).trans h.box,?_,fun i hi hk => ?_⟩
 · obtain ⟨xs,h1,h2⟩ := h.bod;exact ⟨xs,own_stays h1 hg hb,h2⟩
 · obtain ⟨zs,h1⟩ := h.args i hi hk;exact ⟨zs,own_stays h1 hg (ha i hi hk)⟩
theorem SW.next (h : SW lo hi w1 wr g cs vb vd L k) {k' : Nat} (hk : k ≤ k') : SW lo hi w1 wr g cs vb vd L k' :=
  ⟨h.fr,h.box,(let ⟨xs,h1,h2⟩ := h.bod;⟨xs,h1,fun j hj => h2 j (Nat.le_trans (Nat.mul_le_mul_right 7 hk) hj)⟩),fun i hi hki => h.args i hi (by omega)⟩
/-- row m of the terms was written to -/
theorem SW.inner (h : SW lo hi w1 wr g cs vb vd L k) (hm : k < L.length) {av : Value} (hs : Sep av L) {gY : Nat} (e : L[k].2.ownBlock = some gY) (hlt : gY < hi) (hg0 : hi ≤ g) (hg : wr.grownBy w' (some gY)) (hrow : ∃ zs,w'.ownsRow lo 57 2 L[k].2 L[k].1.a.length zs) : SW lo hi w1 w' g cs vb vd L k := by
 obtain ⟨zs,hz⟩ := h.args k hm (Nat.le_refl _);refine ⟨h.fr.one hg (fun x hx => by injection hx with hx;subst hx;exact .inl ⟨own_ge hz _ e,hlt⟩),(hg.block g (Array.getElem?_eq_some_iff.1 h.box).1 (fun e => by injection e;omega)).trans h.box,?_,fun i hi hk => ?_⟩
 · obtain ⟨xs,h1,h2⟩ := h.bod;exact ⟨xs,own_stays h1 hg (fun x hx ex => by injection ex with ex;subst ex;exact own_apart2 h1 hz (by decide) _ hx e),h2⟩
 · by_cases hik : i = k
   · subst hik;exact hrow
   · obtain ⟨ys,h1⟩ := h.args i hi hk;exact ⟨ys,own_stays h1 hg (fun x hx ex => by injection ex with ex;subst ex;exact List.pairwise_iff_getElem.1 hs.2 k i hm hi (by omega) _ e hx)⟩
/-- row m was grown: what lies behind it stays -/
theorem SW.behind (h : SW lo hi w1 wr g cs vb vd L k) (hm : k < L.length) {av : Value} (hs : Sep av L) {r : Option Nat} (hg : wr.grownBy w' r) (hr : ∀ x,r = some x → L[k].2.ownBlock = some x ∨ wr.heap.size ≤ x) (hlt : ∀ x,L[k].2.ownBlock = some x → x < hi) (hg0 : hi ≤ g) : SW lo hi w1 w' g cs vb vd L (k + 1) := by
 obtain ⟨zs,hz⟩ := h.args k hm (Nat.le_refl _);have hsz := h.fr.size;refine (h.next (Nat.le_succ k)).other hg (fun x hx => ?_) (fun x hx ex => ?_) (fun i hi hk x hx ex => ?_) (fun ex => ?_)
 · rcases hr x hx with h1 | h1
   · exact .inl ⟨own_ge hz _ h1,hlt x h1⟩
   · exact .inr (by omega)
 · obtain ⟨xs,h1,-⟩ := h.bod;rcases hr x ex with h2 | h2
   · exact own_apart2 h1 hz (by decide) _ hx h2
   · have := (h1.lt x hx).2;omega
 · obtain ⟨ys,h1⟩ := h.args i hi (by omega);rcases hr x ex with h2 | h2
   · exact List.pairwise_iff_getElem.1 hs.2 k i hm hi (by omega) _ h2 hx
   · have := (h1.lt x hx).2;omega
 · rcases hr g ex with h2 | h2
   · have := hlt g h2;omega
   · have := (Array.getElem?_eq_some_iff.1 h.box).1;omega
/-- a cell of the body's row ahead of k was written to -/
theorem SW.set {gB : Nat} (h : SW lo hi w1 wr g cs (some ⟨gB,0,none⟩) vd L k) (j : Nat) (hj : j < k * 7) (u : Value) (hlt : gB < hi) (hg0 : hi ≤ g) : SW lo hi w1 (wr.setCell ⟨gB,j,none⟩ u) g cs (some ⟨gB,0,none⟩) vd L k := by
 obtain ⟨xs,h1,h2⟩ := h.bod;obtain ⟨h3,h4⟩ := h1.stored j u;refine ⟨h.fr.one h4 (fun x hx => by injection hx with hx;subst hx;exact .inl ⟨own_ge h1 _ rfl,hlt⟩),(h4.block g (Array.getElem?_eq_some_iff.1 h.box).1 (fun e => by injection e;omega)).trans h.box,⟨_,h3,fun i hi => ?_⟩,fun i hi hk => ?_⟩
 · rw [List.getElem?_set_ne (by omega)];exact h2 i hi
 · obtain ⟨ys,h5⟩ := h.args i hi hk;exact ⟨ys,own_stays h5 h4 (fun x hx ex => by injection ex with ex;subst ex;exact own_apart2 h5 h1 (by decide) _ hx rfl)⟩
/-- literal k's terms as the body's row holds them -/
theorem SW.cell {gB : Nat} (h : SW lo hi w1 wr g cs (some ⟨gB,0,none⟩) vd L k) (hm : k < L.length) : wr.cell? ⟨gB,k * 7 + 2,none⟩ = some L[k].2 := by
 obtain ⟨xs,h1,h2⟩ := h.bod;rw [h1.cellAt (k * 7 + 2) (by omega),h2 _ (by omega)];unfold flatLV;rw [flat_get litC 7 (fun _ => rfl) L k 2 (by omega),List.getElem?_eq_getElem hm]
 rfl
end
theorem sp_rule (w : World) (lo hi : Nat) (p : ByteArray) (va : Option Addr) (na vc : Nat) (vb : Option Addr) (vd : Nat) (L : List (PLit × Value)) (xs0 : List Value) (ha : w.ownsRow lo 57 2 (.slice va na vc) na xs0) (hb : Bod w lo (.slice vb L.length vd) L) (hs : Sep (.slice va na vc) L)
    (ba : ∀ k,(Value.slice va na vc).ownBlock = some k → k < hi) (bb : ∀ k,(Value.slice vb L.length vd).ownBlock = some k → k < hi) (bi : ∀ y ∈ L,∀ k,y.2.ownBlock = some k → k < hi) (hlo : lo ≤ w.heap.size) (hhi : hi ≤ w.heap.size) (hna : na ≤ 4194304) (hnL : L.length ≤ 4194304) (hni : ∀ y ∈ L,y.1.a.length ≤ 4194304) :
    Calls Tryd.prog 27 #[.agg #[.string p,.slice va na vc,.slice vb L.length vd]] w fun e w' => e = .returned (.tuple #[]) ∧ Fr lo hi w w' := by
 obtain ⟨it,hit,ht0,ht1,ht2⟩ := info_parts infoTerm;obtain ⟨il,hil,hl0,hl1,hl2⟩ := info_parts infoLitP;have hal := Lh (Below.al (Below.refl w.heap.size w) (.cells #[.string p,.slice va na vc,.slice vb L.length vd] 52))
 have h0 : Hid (SW lo hi (w.alloc (.cells #[.string p,.slice va na vc,.slice vb L.length vd] 52)) (w.alloc (.cells #[.string p,.slice va na vc,.slice vb L.length vd] 52)) w.heap.size #[.string p,.slice va na vc,.slice vb L.length vd] vb vd L 0) := Lh ⟨Fr.refl _ _ _,heap_alloc_new _ _,⟨_,own_below hb.own hal.out,fun _ _ => rfl⟩,fun i hi _ => ⟨_,own_below (hb.inner L[i] (List.getElem_mem hi)) hal.out⟩⟩
 have ha1 : Hid (∃ xs,(w.alloc (.cells #[.string p,.slice va na vc,.slice vb L.length vd] 52)).ownsRow lo 57 2 (.slice va na vc) na xs) := Lh ⟨_,own_below ha hal.out⟩;have hlohi : Hid (lo ≤ w.heap.size) := Lh hlo;replace hs := Lh hs;replace ba := Lh ba;replace bb := Lh bb;replace bi := Lh bi;replace hni := Lh hni
 have hsz1 : (w.alloc (.cells #[.string p,.slice va na vc,.slice vb L.length vd] 52)).heap.size = w.heap.size + 1 := World.size_alloc _ _;replace hsz1 := Lh hsz1;clear ha hb;go_enter Tryd.func27,Tryd.ntmps27;go_wp2_with fail;generalize w.alloc (.cells #[.string p,.slice va na vc,.slice vb L.length vd] 52) = w1 at hal h0 ha1 hsz1 ⊢
 go_loopw [2] (fun i wr => ∃ k : Nat,k ≤ na ∧ i = .int .i64 k ∧ Hid (SW lo hi w1 wr w.heap.size #[.string p,.slice va na vc,.slice vb L.length vd] vb vd L 0) ∧ Hid (∃ xs,wr.ownsRow lo 57 2 (.slice va na vc) na xs)) (fun i _ => na - (intOf i).toNat)
 case atStart => exact ⟨0,Nat.zero_le _,rfl,h0,ha1⟩
 case round =>
  clear h0 ha1;obtain ⟨k,hk,rfl,hsw,har⟩ := hrel;have z0 := (cell_of_row _ _ 0 _ _ _ hsw.out.box).trans rfl;have z1 := (cell_of_row _ _ 1 _ _ _ hsw.out.box).trans rfl;have z2 := (cell_of_row _ _ 2 _ _ _ hsw.out.box).trans rfl
  by_cases hlt : k < na
  · obtain ⟨xs,hrow⟩ := har.out;obtain ⟨gA,cA,e1,hge,hglt,-,-⟩ := own_shape hrow (by omega);injection e1 with e1 _ e3;subst e1 e3;have hbA := ba.out gA rfl;obtain ⟨u0,q0⟩ := row_cell hrow (k * 2) (by omega);obtain ⟨u1,q1⟩ := row_cell hrow (k * 2 + 1) (by omega);have f0 := hrow.frozenAt (k * 2);have f1 := hrow.frozenAt (k * 2 + 1);have hki : (k : Int) < (na : Int) := by omega
    have hk0 : (0 : Int) ≤ (k : Int) := Int.natCast_nonneg _;have hst := set_two hrow (k * 2) (.bool false) (.string ⟨#[115,112,111,105,108,116]⟩);have hty := own_typed hrow (k := gA) rfl;replace hrow := Lh hrow
    have hnb : ∀ x,(Value.slice vb L.length vd).ownBlock = some x → (some gA : Option Nat) ≠ some x := fun x hx e => by
     obtain ⟨ys,hys,-⟩ := hsw.out.bod;obtain ⟨cur,hc⟩ := hty;injection e with e;exact own_apart hys hc (by decide) (by rw [hx,e])
    have hna2 : ∀ i (h : i < L.length),0 ≤ i → ∀ x,L[i].2.ownBlock = some x → (some gA : Option Nat) ≠ some x := fun i hi _ x hx e => by
     injection e with e;exact hs.out.1 L[i] (List.getElem_mem hi) gA rfl (by rw [hx,e])
    have hsw2 := Lh (hsw.out.other hst.2 (fun x hx => by injection hx with hx;exact .inl ⟨by omega,by omega⟩) hnb hna2 (fun e => by injection e with e;omega));have har2 := Lh hst.1;clear hnb hna2 hty hst;go_wp2_with fail;go_roundw
    case rel => exact ⟨k + 1,by omega,by go_num,hsw2,har2⟩
    case measure => simp [intOf];omega
  · have hke : k = na := by omega
    subst hke;obtain ⟨xs,hrow⟩ := har.out;have hwr : Hid (lo ≤ wr.heap.size) := Lh (by have := hsw.out.fr.size;have := hsz1.out;have := hlohi.out;omega);have h63 : Hid (k + 1 ≤ maxLen) := Lh (by unfold maxLen;omega);have hoD : ∀ x,(Value.slice va k vc).ownBlock = some x → (lo ≤ x ∧ x < hi) := fun x hx => ⟨own_ge hrow x hx,ba.out x hx⟩
    have hnb : ∀ x,(Value.slice vb L.length vd).ownBlock = some x → (Value.slice va k vc).ownBlock ≠ some x := fun x hx e => by
     obtain ⟨ys,hys,-⟩ := hsw.out.bod;exact own_apart2 hrow hys (by decide) x e hx
    have hna2 : ∀ i (h : i < L.length),0 ≤ i → ∀ x,L[i].2.ownBlock = some x → (Value.slice va k vc).ownBlock ≠ some x := fun i hi _ x hx e => hs.out.1 L[i] (List.getElem_mem hi) x e hx;have hnew : Hid (∀ x,x < wr.heap.size → ∀ (y : Nat),wr.heap.size = y → x ≠ y) := Lh fun x hx y hy e => by omega
    replace hrow := Lh hrow;replace hoD := Lh hoD;replace hnb := Lh hnb;replace hna2 := Lh hna2
    go_wp2_with (at_builtin;refine wpList_append_anyD rfl (.tmp 24) (.tmp 26) 47 rfl lo 57 it (.agg #[.bool false,.string ⟨#[]⟩]) 2 24 Tryd.underlying47 hit ht0 ht1 ht2 rfl (by decide) _ k xs rfl (hrow.out.alloc _) ⟨wr.heap.size,0,none⟩ 1 1 [.bool false,.string ⟨#[115,112,111,105,108,116]⟩] rfl rfl (fun j u hj => own_cells_row rfl rfl j u hj) (by intro u hu;simp at hu;rcases hu with rfl | rfl <;> rfl) h63.out (by omega) (by rw [World.size_alloc];have := hwr.out;omega) ?_)
    intro v3 w3 hown3 hgr3 hat3;obtain ⟨gN,cN,rfl,hNge,hNlt,-,-⟩ := own_shape hown3 (by omega)
    have hgN : (Value.slice va k vc).ownBlock = some gN ∨ gN = wr.heap.size + 1 := by
     rcases hat3 with e | e
     · exact .inl e.symm
     · exact .inr (by injection e)
    have hsw2 := Lh ((hsw.out.other (r := none) (below_none ((Below.refl wr.heap.size wr).al (.cells #[.bool false,.string ⟨#[115,112,111,105,108,116]⟩] 57))) (fun x hx => by cases hx) (fun x _ e => by cases e) (fun i hi _ x _ e => by cases e) (fun e => by cases e)).other hgr3 (fun x hx => .inl (hoD.out x hx)) hnb.out hna2.out (fun e => by have := (hoD.out _ e).2;omega))
    obtain ⟨u0,q0⟩ := row_cell hown3 (k * 2) (by omega);have f0 := hown3.frozenAt (k * 2);have hst := hown3.stored (k * 2) (.bool true)
    have hnb3 : ∀ x,(Value.slice vb L.length vd).ownBlock = some x → (some gN : Option Nat) ≠ some x := fun x hx e => by
     injection e with e;rcases hgN with h | h
     · exact hnb.out x hx (by rw [h,e])
     · obtain ⟨ys,hys,-⟩ := hsw.out.bod;have := (hys.lt x hx).2;omega
    have hna3 : ∀ i (h : i < L.length),0 ≤ i → ∀ x,L[i].2.ownBlock = some x → (some gN : Option Nat) ≠ some x := fun i hi h0 x hx e => by
     injection e with e;rcases hgN with h | h
     · exact hna2.out i hi h0 x hx (by rw [h,e])
     · obtain ⟨ys,hys⟩ := hsw.out.args i hi h0;have := (hys.lt x hx).2;omega
    have hsw3 := Lh (hsw2.out.other hst.2 (fun x hx => by
     injection hx with hx;rcases hgN with h | h
     · exact .inl (hoD.out x (by rw [h,hx]))
     · right;have := hsw.out.fr.size;have := hsz1.out;omega) hnb3 hna3 (fun e => by
     injection e with e;rcases hgN with h | h
     · have := (hoD.out _ h).2;omega
     · have := (Array.getElem?_eq_some_iff.1 hsw.out.box).1;omega))
    clear hnb3 hna3 hgN hst hsw2 hnb hna2 hoD hrow hsw har hown3 hgr3 hat3 z0 z1 z2 hnew;go_wp2_with fail;generalize w3.setCell ⟨gN,k * 2,none⟩ (.bool true) = w4 at hsw3 ⊢;clear q0 f0
    go_loopw [4,5,6] (fun i _ _ wr => ∃ m : Nat,m ≤ L.length ∧ i = .int .i64 m ∧ Hid (SW lo hi w1 wr w.heap.size #[.string p,.slice va k vc,.slice vb L.length vd] vb vd L m)) (fun i _ _ _ => L.length - (intOf i).toNat)
    case atStart => exact ⟨0,Nat.zero_le _,rfl,hsw3⟩
    case round =>
     clear hsw3;obtain ⟨m,hm,rfl,hsw⟩ := hrel;have z0 := (cell_of_row _ _ 0 _ _ _ hsw.out.box).trans rfl;have z1 := (cell_of_row _ _ 1 _ _ _ hsw.out.box).trans rfl;have z2 := (cell_of_row _ _ 2 _ _ _ hsw.out.box).trans rfl
     by_cases hlt : m < L.length
     · obtain ⟨xsB,hbod,-⟩ := hsw.out.bod;obtain ⟨gB,cB,e1,hge,hglt,-,-⟩ := own_shape hbod (by omega);injection e1 with e1 _ e3;subst e1 e3;have hbB := bb.out gB rfl;have hzB := hsw.out.cell hlt;obtain ⟨zsY,hYrow⟩ := hsw.out.args m hlt (Nat.le_refl _);obtain ⟨ya,yc,hy,-⟩ := own_slice hYrow;have hyl := hni.out L[m] (List.getElem_mem hlt)
       have hyb := bi.out L[m] (List.getElem_mem hlt);rw [hy] at hzB hyb;obtain ⟨ny,hny⟩ : ∃ n,L[m].1.a.length = n := ⟨_,rfl⟩;rw [hny] at hzB hyb hyl hy;replace hyb := Lh hyb;replace hy := Lh hy;replace hny := Lh hny;have hfB := hbod.frozenAt;have hcB := fun j hj => row_cell hbod j hj;clear hbod hYrow;have hmi : (m : Int) < (L.length : Int) := by omega
       have hm0 : (0 : Int) ≤ (m : Int) := Int.natCast_nonneg _;clear hzB;go_wp2_with fail
       go_loopw [5] (fun i wq => ∃ j : Nat,j ≤ ny ∧ i = .int .i64 j ∧ Hid (SW lo hi w1 wq w.heap.size #[.string p,.slice va k vc,.slice (some ⟨gB,0,none⟩) L.length vd] (some ⟨gB,0,none⟩) vd L m)) (fun i _ => ny - (intOf i).toNat)
       case atStart => exact ⟨0,Nat.zero_le _,rfl,hsw⟩
       case round =>
        clear hsw z0 z1 z2;obtain ⟨j,hj,rfl,hsw⟩ := hrel;have z0 := (cell_of_row _ _ 0 _ _ _ hsw.out.box).trans rfl;have z1 := (cell_of_row _ _ 1 _ _ _ hsw.out.box).trans rfl;have z2 := (cell_of_row _ _ 2 _ _ _ hsw.out.box).trans rfl;have hzB := hsw.out.cell hlt;rw [hy.out] at hzB
        by_cases hlt2 : j < ny
        · obtain ⟨zs,hrow⟩ := hsw.out.args m hlt (Nat.le_refl _);have hrow' := hrow;rw [hy.out,hny.out] at hrow';obtain ⟨gY,cY,e1,hYge,hYlt,-,-⟩ := own_shape hrow' (by omega);injection e1 with e1 _ e3;subst e1 e3;have hbY := hyb.out gY rfl;obtain ⟨u0,q0⟩ := row_cell hrow' (j * 2) (by omega);obtain ⟨u1,q1⟩ := row_cell hrow' (j * 2 + 1) (by omega)
          have f0 := hrow'.frozenAt (j * 2);have f1 := hrow'.frozenAt (j * 2 + 1);have hki : (j : Int) < (ny : Int) := by omega
          have hk0 : (0 : Int) ≤ (j : Int) := Int.natCast_nonneg _;have hst := set_two hrow' (j * 2) (.bool false) (.string ⟨#[115,112,111,105,108,116]⟩);have hsw2 := Lh (hsw.out.inner hlt hs.out (by rw [hy.out];rfl) hbY hhi hst.2 (by rw [hy.out,hny.out];exact hst.1));clear hst hrow hrow';go_wp2_with fail;go_roundw
          case rel => exact ⟨j + 1,by omega,by go_num,hsw2⟩
          case measure => simp [intOf];omega
        · have hje : j = ny := by omega
          subst hje;obtain ⟨zs,hrow⟩ := hsw.out.args m hlt (Nat.le_refl _);rw [hy.out,hny.out] at hrow;have hwr : Hid (lo ≤ wr.heap.size) := Lh (by have := hsw.out.fr.size;have := hsz1.out;have := hlohi.out;omega);have h63 : Hid (j + 1 ≤ maxLen) := Lh (by unfold maxLen;omega);replace hrow := Lh hrow
          go_wp2_with (at_builtin;refine wpList_append_anyD rfl (.tmp 69) (.tmp 71) 47 rfl lo 57 it (.agg #[.bool false,.string ⟨#[]⟩]) 2 24 Tryd.underlying47 hit ht0 ht1 ht2 rfl (by decide) _ j zs rfl (hrow.out.alloc _) ⟨wr.heap.size,0,none⟩ 1 1 [.bool false,.string ⟨#[115,112,111,105,108,116]⟩] rfl rfl (fun j u hj => own_cells_row rfl rfl j u hj) (by intro u hu;simp at hu;rcases hu with rfl | rfl <;> rfl) h63.out (by omega) (by rw [World.size_alloc];have := hwr.out;omega) ?_)
          intro v3 w3 hown3 hgr3 hat3;obtain ⟨gN,cN,rfl,hNge,hNlt,-,-⟩ := own_shape hown3 (by omega);obtain ⟨u0,q0⟩ := row_cell hown3 (j * 2) (by omega);have f0 := hown3.frozenAt (j * 2);have hst := hown3.stored (j * 2) (.bool true)
          have hsw2 := Lh ((hsw.out.other (r := none) (below_none ((Below.refl wr.heap.size wr).al (.cells #[.bool false,.string ⟨#[115,112,111,105,108,116]⟩] 57))) (fun x hx => by cases hx) (fun x _ e => by cases e) (fun i hi _ x _ e => by cases e) (fun e => by cases e)).behind (r := (Value.slice ya j yc).ownBlock) hlt hs.out (grown_two hgr3 hst.2 (by
           rcases hat3 with e | e
           · exact .inl e
           · exact .inr (by have e2 : gN = wr.heap.size + 1 := Option.some.inj e;rw [e2];exact Nat.le_of_eq (World.size_alloc _ _)))) (fun x hx => .inl (by rw [hy.out];exact hx)) (fun x hx => by rw [hy.out] at hx;exact hyb.out x hx) hhi)
          clear hst hown3 hgr3 hat3 hrow hsw z0 z1 z2 hzB hNge hNlt hfB hcB;have hnn : (0 : Int) ≤ (j : Int) := Int.natCast_nonneg _;have z2 := (cell_of_row _ _ 2 _ _ _ hsw2.out.box).trans rfl;obtain ⟨xsB,hbod,-⟩ := hsw2.out.bod;obtain ⟨b0,p0⟩ := row_cell hbod (m * 7) (by omega);have g0 := hbod.frozenAt (m * 7);obtain ⟨b1,p1⟩ := row_cell hbod (m * 7 + 1) (by omega)
          have g1 := hbod.frozenAt (m * 7 + 1);obtain ⟨b2,p2⟩ := row_cell hbod (m * 7 + 2) (by omega);have g2 := hbod.frozenAt (m * 7 + 2);obtain ⟨b3,p3⟩ := row_cell hbod (m * 7 + 3) (by omega);have g3 := hbod.frozenAt (m * 7 + 3);obtain ⟨b4,p4⟩ := row_cell hbod (m * 7 + 4) (by omega);have g4 := hbod.frozenAt (m * 7 + 4);obtain ⟨b5,p5⟩ := row_cell hbod (m * 7 + 5) (by omega)
          have g5 := hbod.frozenAt (m * 7 + 5);obtain ⟨b6,p6⟩ := row_cell hbod (m * 7 + 6) (by omega);have g6 := hbod.frozenAt (m * 7 + 6);clear hbod
          have hsw3 := Lh (((((((hsw2.out.set (m * 7) (by omega) (.int .i64 3) hbB hhi).set (m * 7 + 1) (by omega) (.string ⟨#[]⟩) hbB hhi).set (m * 7 + 2) (by omega) (.slice none 0 0) hbB hhi).set (m * 7 + 3) (by omega) (.bool false) hbB hhi).set (m * 7 + 4) (by omega) (.string ⟨#[]⟩) hbB hhi).set (m * 7 + 5) (by omega) (.bool false) hbB hhi).set (m * 7 + 6) (by omega) (.string ⟨#[]⟩) hbB hhi)
          go_wp2_with fail;go_roundw
          case rel => exact ⟨m + 1,by omega,by go_num,hsw3⟩
          case measure => simp [intOf];omega
     · obtain rfl : m = L.length := by omega
       obtain ⟨xsB,hbod,-⟩ := hsw.out.bod;have hfr := Lh hsw.out.fr;have hwr : Hid (lo ≤ wr.heap.size) := Lh (by have := hsw.out.fr.size;have := hsz1.out;have := hlohi.out;omega);have h63 : Hid (L.length + 1 ≤ maxLen) := Lh (by unfold maxLen;omega)
       have hoB : Hid (∀ x,(Value.slice vb L.length vd).ownBlock = some x → (lo ≤ x ∧ x < hi)) := Lh fun x hx => ⟨own_ge hbod x hx,bb.out x hx⟩;replace hbod := Lh hbod;clear hsw
       go_wp2_with (at_builtin;refine wpList_append_anyD rfl (.tmp 85) (.tmp 87) 50 rfl lo 59 il (.agg #[.int .i64 0,.string ⟨#[]⟩,.slice none 0 0,.bool false,.string ⟨#[]⟩,.bool false,.string ⟨#[]⟩]) 7 96 Tryd.underlying50 hil hl0 hl1 hl2 rfl (by decide) _ L.length xsB rfl (hbod.out.alloc _) ⟨wr.heap.size,0,none⟩ 1 1 [.int .i64 2,.string ⟨#[]⟩,.slice none 0 0,.bool false,.string ⟨#[]⟩,.bool false,.string ⟨#[]⟩] rfl rfl (fun j u hj => own_cells_row rfl rfl j u hj) (by intro u hu;simp at hu;rcases hu with rfl | rfl | rfl | rfl | rfl | rfl | rfl <;> rfl) h63.out (by omega) (by rw [World.size_alloc];have := hwr.out;omega) ?_)
       intro v3 w3 hown3 hgr3 hat3;obtain ⟨gN,cN,rfl,hNge,hNlt,-,-⟩ := own_shape hown3 (by omega);obtain ⟨u0,q0⟩ := row_cell hown3 (L.length * 7 + 4) (by omega);have f0 := hown3.frozenAt (L.length * 7 + 4);have hst := hown3.stored (L.length * 7 + 4) (.string ⟨#[115,112,111,105,108,116]⟩)
       have hfr2 := Lh ((hfr.out.one (r := none) (below_none ((Below.refl wr.heap.size wr).al (.cells #[.int .i64 2,.string ⟨#[]⟩,.slice none 0 0,.bool false,.string ⟨#[]⟩,.bool false,.string ⟨#[]⟩] 59))) (fun x hx => by cases hx)).one (grown_two hgr3 hst.2 (by
        rcases hat3 with e | e
        · exact .inl e
        · exact .inr (by have e2 : gN = wr.heap.size + 1 := Option.some.inj e;rw [e2];exact Nat.le_of_eq (World.size_alloc _ _)))) (fun x hx => .inl (hoB.out x hx)))
       clear hst hown3 hgr3 hat3 hNge hNlt z0 z1 z2;have hnn : (0 : Int) ≤ (L.length : Int) := Int.natCast_nonneg _;go_wp2_with fail;go_end0;exact ⟨rfl,(Fr.of hal.out).trans hfr2.out⟩
end Go.Proofs.YtmjincocmhadeaaDoor
