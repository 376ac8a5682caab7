/- Parse: a program written over: what lies beside it stays. (gen_pgb.py) -/
import Derived.Test.YtmjincocmhadeaaDoorPmP
import Derived.Test.YtmjincocmhadeaaDoorPmN
import Derived.Test.YtmjincocmhadeaaDoorPmE
import Derived.Test.YtmjincocmhadeaaDoorFam
import Derived.BigQuiet
import Derived.Deep.QuietTactic
set_option maxHeartbeats 8000000
set_option maxRecDepth 100000
namespace Go.Proofs.YtmjincocmhadeaaDoor
open Go.RowKit Lx
/-- a rule of small lists -/
def SmallR (r : PRule) : Prop := r.a.length ≤ 4194304 ∧ r.b.length ≤ 4194304 ∧ ∀ x ∈ r.b,x.a.length ≤ 4194304
theorem RuleAt.form {w : World} {lo hi : Nat} {av bv : Value} {r : PRule} (h : RuleAt w lo hi av bv r) : ∃ x1 c1 y1 d1,av = .slice x1 r.a.length c1 ∧ bv = .slice y1 r.b.length d1 := by
 obtain ⟨x1,c1,y1,d1,h1,h2,-⟩ := (RuleV.of h.inn).reads;exact ⟨x1,c1,y1,d1,h1,h2⟩
theorem RuleAt.spoil {w : World} {lo hi : Nat} {x1 y1 : Option Addr} {n1 m1 c1 d1 : Nat} {r : PRule} (h : RuleAt w lo hi (.slice x1 n1 c1) (.slice y1 m1 d1) r) (hn1 : n1 = r.a.length) (hm1 : m1 = r.b.length) (hs : SmallR r) (hlo : lo ≤ w.heap.size) (hhi : hi ≤ w.heap.size) :
    Calls Tryd.prog 27 #[.agg #[.string r.p,.slice x1 n1 c1,.slice y1 m1 d1]] w fun e w' => e = .returned (.tuple #[]) ∧ Fr lo hi w w' := by
 subst hn1 hm1;obtain ⟨h1,⟨L,h2,h3,h4,h5,h6⟩,h7⟩ := h;obtain ⟨hs1,hs2,hs3⟩ := hs;have hn : r.b.length = L.length := by rw [← h2,List.length_map]
 rw [hn] at h3 h5 hs2 ⊢;exact sp_rule w lo hi r.p x1 r.a.length c1 y1 d1 L _ h1 h3 h4 h7 h5 h6 hlo hhi hs1 hs2 fun y hy => hs3 y.1 (by rw [← h2];exact List.mem_map_of_mem hy)
section
variable {lo hi lo2 hi2 : Nat} {w w1 w2 w' : World}
theorem Fr.wide (h : Fr lo2 hi2 w w') (h1 : lo ≤ lo2) (h2 : hi2 ≤ hi) : Fr lo hi w w' :=
  ⟨h.os,h.tape,h.output,h.size,fun k hk ho => h.block k hk (by omega)⟩
theorem Fr.own' {lo3 : Nat} {e : TypeId} {size : Nat} {v : Value} {n : Nat} {xs : List Value} (h : Fr lo hi w w') (ho : w.ownsRow lo3 e size v n xs) (hb : ∀ k,v.ownBlock = some k → k < lo ∨ hi ≤ k) : w'.ownsRow lo3 e size v n xs := by
 refine ⟨ho.1,?_⟩;rcases ho.2 with hn | ⟨k,cap,cur,rfl,hk,hg,r⟩
 · exact .inl hn
 · exact .inr ⟨k,cap,cur,rfl,hk,(h.block k (Array.getElem?_eq_some_iff.1 hg).1 (hb k rfl)).trans hg,r⟩
theorem RuleAt.fr {lo3 hi3 : Nat} {av bv : Value} {r : PRule} (h : RuleAt w lo3 hi3 av bv r) (hf : Fr lo hi w w') (hle : hi ≤ lo3) : RuleAt w' lo3 hi3 av bv r := by
 obtain ⟨h1,⟨L,h2,h3,h4⟩,h5⟩ := h;exact ⟨hf.own h1 hle,⟨L,h2,hf.bod h3 hle,h4⟩,h5⟩
end
/-- what stands while a program is written over: from w1 on; the box at g; the rules' row, of which the rules from k on are as they were -/
structure SB (lo hi : Nat) (w1 wr : World) (g : Nat) (V0 V1 V2 : Value) (L : List (PRule × Value × Value)) (f gf : Nat → Nat) (k : Nat) : Prop where
  fr : Fr lo hi w1 wr
  box : wr.heap[g]? = some (.cells #[V0,V1,V2] 28)
  row : ∃ xs,wr.ownsRow lo 52 3 V2 L.length xs ∧ ∀ j,k * 3 ≤ j → xs[j]? = (ruL L)[j]?
  rules : ∀ i (h : i < L.length),k ≤ i → RuleAt wr (f i) (gf i) L[i].2.1 L[i].2.2 L[i].1
  ints : ∀ v n xs,w1.ownsRow lo 3 1 v n xs → VApart v f gf L.length → wr.ownsRow lo 3 1 v n xs
section
variable {lo hi : Nat} {w0 w1 wr w' : World} {g k : Nat} {V0 V1 V2 : Value} {L : List (PRule × Value × Value)} {f gf : Nat → Nat}
theorem SB.next (h : SB lo hi w1 wr g V0 V1 V2 L f gf k) {k' : Nat} (hk : k ≤ k') : SB lo hi w1 wr g V0 V1 V2 L f gf k' :=
  ⟨h.fr,h.box,(let ⟨xs,h1,h2⟩ := h.row;⟨xs,h1,fun j hj => h2 j (Nat.le_trans (Nat.mul_le_mul_right 3 hk) hj)⟩),fun i hi hki => h.rules i hi (by omega),h.ints⟩
/-- another row was written to -/
theorem SB.other {e : TypeId} {size n gX c : Nat} {xs : List Value} (h : SB lo hi w1 wr g V0 V1 V2 L f gf k) (ho : wr.ownsRow lo e size (.slice (some ⟨gX,0,none⟩) n c) n xs) (hlt : gX < hi) (hg0 : hi ≤ g) (hI : e ≠ 3) (hR : e ≠ 52) (hT : e ≠ 57) (hL : e ≠ 59) (hg : wr.grownBy w' (some gX)) : SB lo hi w1 w' g V0 V1 V2 L f gf k := by
 obtain ⟨ys,h1,h2⟩ := h.row
 refine ⟨h.fr.one hg (fun x hx => by injection hx with hx;subst hx;exact .inl ⟨own_ge ho _ rfl,hlt⟩),(hg.block g (Array.getElem?_eq_some_iff.1 h.box).1 (fun e => by injection e;omega)).trans h.box,⟨ys,own_stays h1 hg (fun x hx ex => by injection ex with ex;subst ex;exact own_apart2 ho h1 hR _ rfl hx),h2⟩,fun i hi hk => (h.rules i hi hk).stays hg (fun x cur hc ex => ?_) (fun x cur hc ex => ?_),fun v n xs h3 h4 => own_stays (h.ints v n xs h3 h4) hg (fun x hx ex => by injection ex with ex;subst ex;exact own_apart2 ho (h.ints v n xs h3 h4) hI _ rfl hx)⟩
 · injection ex with ex;subst ex;exact own_apart ho hc hT rfl
 · injection ex with ex;subst ex;exact own_apart ho hc hL rfl
/-- a cell of the rules' row ahead of k was written to -/
theorem SB.set {gB c : Nat} (h : SB lo hi w1 wr g V0 V1 (.slice (some ⟨gB,0,none⟩) L.length c) L f gf k) (j : Nat) (hj : j < k * 3) (u : Value) (hlt : gB < hi) (hg0 : hi ≤ g) : SB lo hi w1 (wr.setCell ⟨gB,j,none⟩ u) g V0 V1 (.slice (some ⟨gB,0,none⟩) L.length c) L f gf k := by
 obtain ⟨xs,h1,h2⟩ := h.row;obtain ⟨h3,h4⟩ := h1.stored j u
 refine ⟨h.fr.one h4 (fun x hx => by injection hx with hx;subst hx;exact .inl ⟨own_ge h1 _ rfl,hlt⟩),(h4.block g (Array.getElem?_eq_some_iff.1 h.box).1 (fun e => by injection e;omega)).trans h.box,⟨_,h3,fun i hi => ?_⟩,fun i hi hk => (h.rules i hi hk).stays h4 (fun x cur hc ex => ?_) (fun x cur hc ex => ?_),fun v n xs h5 h6 => own_stays (h.ints v n xs h5 h6) h4 (fun x hx ex => by injection ex with ex;subst ex;exact own_apart2 h1 (h.ints v n xs h5 h6) (by decide) _ rfl hx)⟩
 · rw [List.getElem?_set_ne (by omega)];exact h2 i hi
 · injection ex with ex;subst ex;exact own_apart h1 hc (by decide) rfl
 · injection ex with ex;subst ex;exact own_apart h1 hc (by decide) rfl
/-- rule k was written over -/
theorem SB.rule (h : SB lo hi w1 wr g V0 V1 V2 L f gf k) (hk : k < L.length) (hR : RRows w0 lo f gf L) (hva : VApart V2 f gf L.length) (hgf : gf k ≤ hi) (hg0 : hi ≤ g) (hf : Fr (f k) (gf k) wr w') : SB lo hi w1 w' g V0 V1 V2 L f gf (k + 1) := by
 obtain ⟨xs,h1,h2⟩ := h.row;refine ⟨h.fr.trans (hf.wide (hR.ge k (Nat.le_of_lt hk)) hgf),(hf.block g (Array.getElem?_eq_some_iff.1 h.box).1 (.inr (by omega))).trans h.box,⟨xs,hf.own' h1 (hva k hk),fun j hj => h2 j (by omega)⟩,fun i hi hki => (h.rules i hi (by omega)).fr hf (hR.le k i (by omega) (Nat.le_of_lt hi)),fun v n xs h3 h4 => hf.own' (h.ints v n xs h3 h4) (h4 k hk)⟩
/-- rule k's cells as the row holds them -/
theorem SB.cell {gB c : Nat} (h : SB lo hi w1 wr g V0 V1 (.slice (some ⟨gB,0,none⟩) L.length c) L f gf k) (hk : k < L.length) : wr.cell? ⟨gB,k * 3,none⟩ = some (.string L[k].1.p) ∧ wr.cell? ⟨gB,k * 3 + 1,none⟩ = some L[k].2.1 ∧ wr.cell? ⟨gB,k * 3 + 2,none⟩ = some L[k].2.2 := by
 obtain ⟨xs,h1,h2⟩ := h.row
 have hc : ∀ o,o < 3 → wr.cell? ⟨gB,k * 3 + o,none⟩ = (ruC L[k])[o]? := fun o ho => by
  rw [h1.cellAt (k * 3 + o) (by omega),h2 _ (by omega)];unfold ruL;rw [flat_get ruC 3 (fun _ => rfl) L k o (by omega),List.getElem?_eq_getElem hk];rfl
 exact ⟨hc 0 (by omega),hc 1 (by omega),hc 2 (by omega)⟩
end
/-- a row of three cells written over in one place -/
theorem set_three {w : World} {lo : Nat} {e : TypeId} {g n c : Nat} {xs : List Value} (h : w.ownsRow lo e 3 (.slice (some ⟨g,0,none⟩) n c) n xs) (j : Nat) (a b d : Value) :
    (∃ ys,(((w.setCell ⟨g,j,none⟩ a).setCell ⟨g,j + 1,none⟩ b).setCell ⟨g,j + 2,none⟩ d).ownsRow lo e 3 (.slice (some ⟨g,0,none⟩) n c) n ys) ∧ w.grownBy (((w.setCell ⟨g,j,none⟩ a).setCell ⟨g,j + 1,none⟩ b).setCell ⟨g,j + 2,none⟩ d) (some g) := by
 obtain ⟨h1,h2⟩ := h.stored j a;obtain ⟨h3,h4⟩ := h1.stored (j + 1) b;obtain ⟨h5,h6⟩ := h3.stored (j + 2) d;exact ⟨⟨_,h5⟩,(h2.trans h4).trans h6⟩
theorem none_at (w : World) (lo : Nat) (p : ByteArray) : RuleAt w lo lo (.slice none 0 0) (.slice none 0 0) ⟨p,[],[]⟩ :=
  ⟨⟨rfl,.inl ⟨rfl,rfl⟩⟩,⟨[],rfl,⟨⟨rfl,.inl ⟨rfl,rfl⟩⟩,(fun y hy => by cases hy)⟩,⟨(fun y hy => by cases hy),List.Pairwise.nil⟩,(fun k hk => by cases hk),(fun y hy => by cases hy)⟩,fun k hk => by cases hk⟩
theorem small_none (p : ByteArray) : SmallR ⟨p,[],[]⟩ := ⟨Nat.zero_le _,Nat.zero_le _,fun x hx => by cases hx⟩
theorem sp_prog (w : World) (lo hi : Nat) (v0 v1 v2 : Option Addr) (n0 n1 c0 c1 c2 : Nat) (L : List (PRule × Value × Value)) (f gf : Nat → Nat) (xs0 xs1 : List Value) (h0 : w.ownsRow lo 78 3 (.slice v0 n0 c0) n0 xs0) (h1 : w.ownsRow lo 80 2 (.slice v1 n1 c1) n1 xs1) (h2 : w.ownsRow lo 52 3 (.slice v2 L.length c2) L.length (ruL L))
    (hR : RRows w lo f gf L) (hva : VApart (.slice v2 L.length c2) f gf L.length) (hgf : ∀ i,i < L.length → gf i ≤ hi) (ba : ∀ k,(Value.slice v0 n0 c0).ownBlock = some k → k < hi) (bb : ∀ k,(Value.slice v1 n1 c1).ownBlock = some k → k < hi) (bc : ∀ k,(Value.slice v2 L.length c2).ownBlock = some k → k < hi) (hlo : lo ≤ hi) (hhi : hi ≤ w.heap.size) (hn0 : n0 ≤ 4194304) (hn1 : n1 ≤ 4194304) (hn2 : L.length ≤ 4194304) (hsm : ∀ y ∈ L,SmallR y.1) :
    Calls Tryd.prog 13 #[.agg #[.slice v0 n0 c0,.slice v1 n1 c1,.slice v2 L.length c2]] w fun e w' => e = .returned (.tuple #[]) ∧ Fr lo hi w w' ∧ ∀ v n xs,w.ownsRow lo 3 1 v n xs → VApart v f gf L.length → w'.ownsRow lo 3 1 v n xs := by
 obtain ⟨ir,hir,ir0,ir1,ir2⟩ := info_parts infoRule;have hal := Lh (Below.al (Below.refl w.heap.size w) (.cells #[.slice v0 n0 c0,.slice v1 n1 c1,.slice v2 L.length c2] 28));have hsz1 : (w.alloc (.cells #[.slice v0 n0 c0,.slice v1 n1 c1,.slice v2 L.length c2] 28)).heap.size = w.heap.size + 1 := World.size_alloc _ _
 have hs0 : Hid (SB lo hi (w.alloc (.cells #[.slice v0 n0 c0,.slice v1 n1 c1,.slice v2 L.length c2] 28)) (w.alloc (.cells #[.slice v0 n0 c0,.slice v1 n1 c1,.slice v2 L.length c2] 28)) w.heap.size (.slice v0 n0 c0) (.slice v1 n1 c1) (.slice v2 L.length c2) L f gf 0) := Lh ⟨Fr.refl _ _ _,heap_alloc_new _ _,⟨_,own_below h2 hal.out,fun _ _ => rfl⟩,fun i hi _ => (hR.rows i hi).below hal.out,fun _ _ _ h _ => h⟩
 have ha0 : Hid (∃ xs,(w.alloc (.cells #[.slice v0 n0 c0,.slice v1 n1 c1,.slice v2 L.length c2] 28)).ownsRow lo 78 3 (.slice v0 n0 c0) n0 xs) := Lh ⟨_,own_below h0 hal.out⟩;have ha1 : Hid (∃ xs,(w.alloc (.cells #[.slice v0 n0 c0,.slice v1 n1 c1,.slice v2 L.length c2] 28)).ownsRow lo 80 2 (.slice v1 n1 c1) n1 xs) := Lh ⟨_,own_below h1 hal.out⟩;replace hR := Lh hR
 replace hva := Lh hva;replace hgf := Lh hgf;replace ba := Lh ba;replace bb := Lh bb;replace bc := Lh bc;replace hsm := Lh hsm;replace hhi := Lh hhi;replace hlo := Lh hlo;replace hsz1 := Lh hsz1;clear h0 h1 h2;go_enter Tryd.func13,Tryd.ntmps13;go_wp2_with fail
 generalize w.alloc (.cells #[.slice v0 n0 c0,.slice v1 n1 c1,.slice v2 L.length c2] 28) = w1 at hal hs0 ha0 ha1 hsz1 ⊢
 go_loopw [2] (fun i wr => ∃ k : Nat,k ≤ n0 ∧ i = .int .i64 k ∧ Hid (SB lo hi w1 wr w.heap.size (.slice v0 n0 c0) (.slice v1 n1 c1) (.slice v2 L.length c2) L f gf 0) ∧ Hid (∃ xs,wr.ownsRow lo 80 2 (.slice v1 n1 c1) n1 xs) ∧ Hid (∃ xs,wr.ownsRow lo 78 3 (.slice v0 n0 c0) n0 xs)) (fun i _ => n0 - (intOf i).toNat)
 case atStart => exact ⟨0,Nat.zero_le _,rfl,hs0,ha1,ha0⟩
 case round =>
  clear hs0 ha0 ha1;obtain ⟨k,hk,rfl,hsb,hor,har⟩ := hrel;have z0 := (cell_of_row _ _ 0 _ _ _ hsb.out.box).trans rfl;have z1 := (cell_of_row _ _ 1 _ _ _ hsb.out.box).trans rfl;have z2 := (cell_of_row _ _ 2 _ _ _ hsb.out.box).trans rfl
  by_cases hlt : k < n0
  · obtain ⟨xs,hrow⟩ := har.out;obtain ⟨gA,cA,e1,hge,hglt,-,-⟩ := own_shape hrow (by omega);injection e1 with e1 _ e3;subst e1 e3;have hbA := ba.out gA rfl;obtain ⟨u0,q0⟩ := row_cell hrow (k * 3) (by omega);have f0 := hrow.frozenAt (k * 3);obtain ⟨u1,q1⟩ := row_cell hrow (k * 3 + 1) (by omega);have f1 := hrow.frozenAt (k * 3 + 1)
    obtain ⟨u2,q2⟩ := row_cell hrow (k * 3 + 2) (by omega);have f2 := hrow.frozenAt (k * 3 + 2);have hki : (k : Int) < (n0 : Int) := by omega
    have hk0 : (0 : Int) ≤ (k : Int) := Int.natCast_nonneg _;have hst := set_three hrow (k * 3) (.string ⟨#[115,112,111,105,108,116]⟩) (.int .i64 3) (.string ⟨#[]⟩);have hsb2 := Lh (hsb.out.other hrow hbA (Nat.le_trans hhi.out (Nat.le_refl _)) (by decide) (by decide) (by decide) (by decide) hst.2)
    have hor2 : Hid (∃ xs,World.ownsRow _ lo 80 2 (.slice v1 n1 c1) n1 xs) := Lh (by obtain ⟨ys,h1⟩ := hor.out;exact ⟨ys,own_stays h1 hst.2 (fun x hx ex => by injection ex with ex;subst ex;exact own_apart2 hrow h1 (by decide) _ rfl hx)⟩);have har2 := Lh hst.1;clear hst;go_wp2_with fail;go_roundw
    case rel => exact ⟨k + 1,by omega,by go_num,hsb2,hor2,har2⟩
    case measure => simp [intOf];omega
  · have hki : ¬ ((k : Int) < (n0 : Int)) := by omega
    clear har;go_wp2_with fail
    go_loopw [3] (fun i wr => ∃ k : Nat,k ≤ n1 ∧ i = .int .i64 k ∧ Hid (SB lo hi w1 wr w.heap.size (.slice v0 n0 c0) (.slice v1 n1 c1) (.slice v2 L.length c2) L f gf 0) ∧ Hid (∃ xs,wr.ownsRow lo 80 2 (.slice v1 n1 c1) n1 xs)) (fun i _ => n1 - (intOf i).toNat)
    case atStart => exact ⟨0,Nat.zero_le _,rfl,hsb,hor⟩
    case round =>
     clear hsb hor z0 z1 z2;obtain ⟨k,hk,rfl,hsb,har⟩ := hrel;have z0 := (cell_of_row _ _ 0 _ _ _ hsb.out.box).trans rfl;have z1 := (cell_of_row _ _ 1 _ _ _ hsb.out.box).trans rfl;have z2 := (cell_of_row _ _ 2 _ _ _ hsb.out.box).trans rfl    
     by_cases hlt : k < n1
     · obtain ⟨xs,hrow⟩ := har.out;obtain ⟨gA,cA,e1,hge,hglt,-,-⟩ := own_shape hrow (by omega);injection e1 with e1 _ e3;subst e1 e3;have hbA := bb.out gA rfl;obtain ⟨u0,q0⟩ := row_cell hrow (k * 2) (by omega);have f0 := hrow.frozenAt (k * 2);obtain ⟨u1,q1⟩ := row_cell hrow (k * 2 + 1) (by omega);have f1 := hrow.frozenAt (k * 2 + 1)
       have hki : (k : Int) < (n1 : Int) := by omega
       have hk0 : (0 : Int) ≤ (k : Int) := Int.natCast_nonneg _;have hst := set_two hrow (k * 2) (.string ⟨#[115,112,111,105,108,116]⟩) (.int .i64 0);have hsb2 := Lh (hsb.out.other hrow hbA (Nat.le_trans hhi.out (Nat.le_refl _)) (by decide) (by decide) (by decide) (by decide) hst.2)
       skip
       have har2 := Lh hst.1;clear hst;go_wp2_with fail;go_roundw
       case rel => exact ⟨k + 1,by omega,by go_num,hsb2,har2⟩
       case measure => simp [intOf];omega
     · have hki : ¬ ((k : Int) < (n1 : Int)) := by omega
       clear har;go_wp2_with fail
       go_loopw [4] (fun i wr => ∃ m : Nat,m ≤ L.length ∧ i = .int .i64 m ∧ Hid (SB lo hi w1 wr w.heap.size (.slice v0 n0 c0) (.slice v1 n1 c1) (.slice v2 L.length c2) L f gf m)) (fun i _ => L.length - (intOf i).toNat)
       case atStart => exact ⟨0,Nat.zero_le _,rfl,hsb⟩
       case round =>
        clear hsb z0 z1 z2;obtain ⟨m,hm,rfl,hsb⟩ := hrel;have z0 := (cell_of_row _ _ 0 _ _ _ hsb.out.box).trans rfl;have z1 := (cell_of_row _ _ 1 _ _ _ hsb.out.box).trans rfl;have z2 := (cell_of_row _ _ 2 _ _ _ hsb.out.box).trans rfl
        by_cases hlt : m < L.length
        · obtain ⟨xsB, hrow,-⟩ := hsb.out.row;obtain ⟨gB,cB,e1,hge,hglt,-,-⟩ := own_shape hrow (by omega);injection e1 with e1 _ e3;subst e1 e3;have hbB := bc.out gB rfl;have hru := hsb.out.rules m hlt (Nat.le_refl _);obtain ⟨x1,d1,y1,d2,hx1,hy1⟩ := hru.form;obtain ⟨r0,r1,r2⟩ := hsb.out.cell hlt;rw [hx1,hy1] at hru;rw [hx1] at r1;rw [hy1] at r2
          have hsp := Lh (hru.spoil rfl rfl (hsm.out _ (List.getElem_mem hlt)) (Nat.le_trans ((hR.out.mono m hlt).1) (Nat.le_trans (hgf.out m hlt) (Nat.le_trans hhi.out (Nat.le_trans (by have := hsz1.out;omega) hsb.out.fr.size)))) (Nat.le_trans (hgf.out m hlt) (Nat.le_trans hhi.out (Nat.le_trans (by have := hsz1.out;omega) hsb.out.fr.size))))
          have hmi : (m : Int) < (L.length : Int) := by omega
          have hm0 : (0 : Int) ≤ (m : Int) := Int.natCast_nonneg _;clear hrow hru hx1 hy1;generalize L[m].1.a.length = na at r1 hsp;generalize L[m].1.b.length = nb at r2 hsp;generalize L[m].1.p = pp at r0 hsp
          go_wp2_with (go_at_call 27
                       refine hsp.out.mono ?_;rintro e w4 ⟨rfl,hf4⟩;have hsb3 := Lh (hsb.out.rule hlt hR.out hva.out (hgf.out m hlt) hhi.out hf4);have t2 := (cell_of_row _ _ 2 _ _ _ hsb3.out.box).trans rfl;obtain ⟨xsC,hrow,-⟩ := hsb3.out.row;obtain ⟨u0,q0⟩ := row_cell hrow (m * 3) (by omega);have f0 := hrow.frozenAt (m * 3)
                       obtain ⟨u1,q1⟩ := row_cell hrow (m * 3 + 1) (by omega);have f1 := hrow.frozenAt (m * 3 + 1);obtain ⟨u2,q2⟩ := row_cell hrow (m * 3 + 2) (by omega);have f2 := hrow.frozenAt (m * 3 + 2);clear hf4 hrow)
          have hsb4 := Lh (((hsb3.out.set (m * 3) (by omega) (.string ⟨#[]⟩) hbB hhi.out).set (m * 3 + 1) (by omega) (.slice none 0 0) hbB hhi.out).set (m * 3 + 2) (by omega) (.slice none 0 0) hbB hhi.out);go_roundw
          case rel => exact ⟨m + 1,by omega,by go_num,hsb4⟩
          case measure => simp [intOf];omega
        · have hki : ¬ ((m : Int) < (L.length : Int)) := by omega
          obtain ⟨xsB,hrow,-⟩ := hsb.out.row;have hfr := Lh hsb.out.fr;have hin := Lh hsb.out.ints;have hwr : Hid (lo ≤ wr.heap.size ∧ hi ≤ wr.heap.size) := Lh (by have := hsb.out.fr.size;have := hsz1.out;have := hlo.out;have := hhi.out;omega);have h63 : Hid (L.length + 1 ≤ maxLen) := Lh (by unfold maxLen;omega)
          have hoB : Hid (∀ x,(Value.slice v2 L.length c2).ownBlock = some x → (lo ≤ x ∧ x < hi)) := Lh fun x hx => ⟨own_ge hrow x hx,bc.out x hx⟩;replace hrow := Lh hrow;clear hsb
          go_wp2_with (at_builtin;refine wpList_append_anyD rfl (.tmp 49) (.tmp 52) 26 rfl lo 52 ir (.agg #[.string ⟨#[]⟩,.slice none 0 0,.slice none 0 0]) 3 64 Tryd.underlying26 hir ir0 ir1 ir2 rfl (by decide) _ L.length xsB rfl (hrow.out.alloc _) ⟨wr.heap.size,0,none⟩ 1 1 [.string ⟨#[115,112,111,105,108,116]⟩,.slice none 0 0,.slice none 0 0] rfl rfl (fun j u hj => own_cells_row rfl rfl j u hj) (by intro u hu;simp at hu;rcases hu with rfl | rfl | rfl <;> rfl) h63.out (by omega) (by rw [World.size_alloc];have := hwr.out.1;omega) ?_)
          intro v3 w3 hown3 hgr3 hat3;obtain ⟨gN,cN,rfl,hNge,hNlt,-,-⟩ := own_shape hown3 (by omega);have hlx : xsB.length = L.length * 3 := hrow.out.1
          have r0 : w3.cell? ⟨gN,L.length * 3,none⟩ = some (.string ⟨#[115,112,111,105,108,116]⟩) := by
           rw [hown3.cellAt (L.length * 3) (by omega),List.getElem?_append_right (by omega),hlx,Nat.sub_self];rfl
          have r1 : w3.cell? ⟨gN,L.length * 3 + 1,none⟩ = some (.slice none 0 0) := by
           rw [hown3.cellAt (L.length * 3 + 1) (by omega),List.getElem?_append_right (by omega),hlx,show L.length * 3 + 1 - L.length * 3 = 1 by omega];rfl
          have r2 : w3.cell? ⟨gN,L.length * 3 + 2,none⟩ = some (.slice none 0 0) := by
           rw [hown3.cellAt (L.length * 3 + 2) (by omega),List.getElem?_append_right (by omega),hlx,show L.length * 3 + 2 - L.length * 3 = 2 by omega];rfl
          have hfr2 := Lh ((hfr.out.one (r := none) (below_none ((Below.refl wr.heap.size wr).al (.cells #[.string ⟨#[115,112,111,105,108,116]⟩,.slice none 0 0,.slice none 0 0] 52))) (fun x hx => by cases hx)).one hgr3 (fun x hx => .inl (hoB.out x hx)))
          have hin3 : Hid (∀ v n xs,w1.ownsRow lo 3 1 v n xs → VApart v f gf L.length → w3.ownsRow lo 3 1 v n xs) := Lh fun v n xs h3 h4 => own_stays (own_below (hin.out v n xs h3 h4) ((Below.refl wr.heap.size wr).al (.cells #[.string ⟨#[115,112,111,105,108,116]⟩,.slice none 0 0,.slice none 0 0] 52))) hgr3 (fun x hx ex => own_apart2 hrow.out (hin.out v n xs h3 h4) (by decide) _ ex hx)
          have hw3 : Hid (hi ≤ w3.heap.size) := Lh (Nat.le_trans hwr.out.2 (Nat.le_trans (by rw [World.size_alloc];omega) hgr3.size));clear hown3 hgr3 hat3 hNge hNlt z0 z1 z2 hlx;have hnn : (0 : Int) ≤ (L.length : Int) := Int.natCast_nonneg _;have hsp := Lh ((none_at w3 hi ⟨#[115,112,111,105,108,116]⟩).spoil rfl rfl (small_none _) hw3.out hw3.out)
          go_wp2_with (go_at_call 27
                       refine hsp.out.mono ?_;rintro e w4 ⟨rfl,hf4⟩;have hfr3 := Lh (hfr2.out.trans (hf4.wide hlo.out (Nat.le_refl _)));have hin4 := Lh fun v n xs h3 h4 => hf4.own' (hin3.out v n xs h3 h4) (fun k _ => Nat.lt_or_ge k hi);clear hf4)
          go_end0;exact ⟨rfl,(Fr.of hal.out).trans hfr3.out,fun v n xs h3 h4 => hin4.out v n xs (own_below h3 hal.out) h4⟩
end Go.Proofs.YtmjincocmhadeaaDoor
/- Parse: the book: lists of numbers held apart. (gen_pgc.py out of XBook, XBookA) -/
namespace Go.Proofs.YtmjincocmhadeaaDoor
open Go.RowKit
/-- some slices -/
structure Rows3 where
  A : Nat → Option Addr
  n : Nat → Nat
  c : Nat → Nat
def Rows3.V (L : Rows3) (j : Nat) : Value := .slice (L.A j) (L.n j) (L.c j)
def mk1 (j : Nat) : Int := -1000 - (j : Int)
/-- the numbers of the list j, when i lists are written over, and k numbers of the next -/
def X1 (L : Rows3) (X : Nat → List Int) (i k j : Nat) : List Int := if j < i then List.replicate (L.n j) (mk1 j) else if j = i then List.replicate k (mk1 i) ++ (X j).drop k else X j
structure BkIn (w : World) (base BB G m cN : Nat) (L : Rows3) (X : Nat → List Int) : Prop where
  hm : m ≤ 100
  hbase : base ≤ w.heap.size
  hN : w.cell? ⟨BB,1,none⟩ = some (.slice (some ⟨G,0,none⟩) m cN)
  hL : ∀ j,j < m → w.cell? ⟨G,j,none⟩ = some (L.V j)
  hX : ∀ j,j < m → w.ownsRow base 3 1 (L.V j) (L.n j) ((X j).map (Value.int .i64))
  hn : ∀ j,j < m → L.n j ≤ 17592186044000
  hap : ∀ j,j < m → ∀ b,(L.V j).ownBlock = some b → b ≠ BB ∧ b ≠ G ∧ ∀ j',j' < m → j' ≠ j → (L.V j').ownBlock ≠ some b
def BkB (L : Rows3) (m : Nat) (b : Nat) : Prop := ∃ j,j < m ∧ (L.V j).ownBlock = some b
def Fam1 (w : World) (base m : Nat) (L : Rows3) (X : Nat → List Int) (i k : Nat) : Prop := ∀ j,j < m → w.ownsRow base 3 1 (L.V j) (L.n j) ((X1 L X i k j).map (Value.int .i64))
theorem Fam1.start {w : World} {base BB G m cN : Nat} {L : Rows3} {X : Nat → List Int} (h : BkIn w base BB G m cN L X) : Fam1 w base m L X 0 0 := by
 intro j hj;have : X1 L X 0 0 j = X j := by unfold X1;rw [if_neg (by omega)];split <;> simp
 rw [this];exact h.hX j hj
theorem Fam1.next {w : World} {base m : Nat} {L : Rows3} {X : Nat → List Int} {i : Nat} (h : Fam1 w base m L X i (L.n i)) : Fam1 w base m L X (i + 1) 0 := by
 intro j hj;have h2 := h j hj;have hl := h2.1
 have : X1 L X (i + 1) 0 j = X1 L X i (L.n i) j := by
  unfold X1 at hl ⊢
  by_cases h1 : j < i
  · rw [if_pos h1,if_pos (by omega)]
  · by_cases h3 : j = i
    · subst h3;rw [if_neg h1,if_pos rfl] at hl;simp at hl;rw [if_neg h1,if_pos rfl,if_pos (by omega),List.drop_of_length_le (by omega)];simp
    · rw [if_neg h1,if_neg h3,if_neg (by omega)];split <;> simp
 rw [this];exact h2
theorem Fam1.put {w : World} {base BB G m cN g i k : Nat} {w0 : World} {L : Rows3} {X : Nat → List Int} (hin : BkIn w0 base BB G m cN L X) (h : Fam1 w base m L X i k) (hi : i < m) (hk : k < L.n i) (hg : L.A i = some ⟨g,0,none⟩) :
    Fam1 (w.setCell ⟨g,k,none⟩ (.int .i64 (mk1 i))) base m L X i (k + 1) := by
 intro j hj;have hb : (L.V i).ownBlock = some g := by unfold Rows3.V;rw [hg];rfl
 by_cases hji : j = i
 · subst hji;have h2 := h j hj;unfold Rows3.V at h2 ⊢;rw [hg] at h2 ⊢;have h3 := own_putI (j := k) (u := .int .i64 (mk1 j)) h2;have hl := h2.1
   have : ((X1 L X j k j).map (Value.int .i64)).set k (.int .i64 (mk1 j)) = (X1 L X j (k + 1) j).map (Value.int .i64) := by
    unfold X1 at hl ⊢;rw [if_neg (by omega),if_pos rfl] at hl ⊢;rw [if_neg (by omega),if_pos rfl,← List.map_set]
    congr 1
    simp at hl;rw [List.set_append_right _ _ (by simp),List.length_replicate,Nat.sub_self,List.drop_eq_getElem_cons (by omega),List.set_cons_zero,List.replicate_succ',List.append_assoc];rfl
   rw [← this];exact h3
 · have h2 := own_setOther (g := g) (i := k) (u := .int .i64 (mk1 i)) (h j hj) ((hin.hap i hi g hb).2.2 j hj hji);have : X1 L X i (k + 1) j = X1 L X i k j := by unfold X1;rw [if_neg hji,if_neg hji]
   rw [this];exact h2
/-- the lists while they grow: i of them are grown (20 more each), k more numbers at the next -/
def N2 (L : Rows3) (i k j : Nat) : Nat := if j < i then L.n j + 20 else if j = i then L.n j + k else L.n j
structure Fam2 (W w : World) (base m : Nat) (L : Rows3) (i k : Nat) (V : Nat → Value) : Prop where
  row : ∀ j,j < m → w.ownsRow base 3 1 (V j) (N2 L i k j) ((List.replicate (N2 L i k j) (mk1 j)).map (Value.int .i64))
  at_ : ∀ j,j < m → (V j).ownBlock = (L.V j).ownBlock ∨ ∀ b,(V j).ownBlock = some b → W.heap.size ≤ b
  apart : ∀ j,j < m → ∀ b,(V j).ownBlock = some b → ∀ j',j' < m → j' ≠ j → (V j').ownBlock ≠ some b
  old : ∀ j,j < m → i < j → V j = L.V j
  first : k = 0 → ∀ j,j < m → i ≤ j → V j = L.V j
  read : ∀ j,j < m → ∀ q,q < L.n j → ∃ g,L.A j = some ⟨g,0,none⟩ ∧ g < W.heap.size ∧ w.cell? ⟨g,q,none⟩ = some (.int .i64 (mk1 j))
/-- the list of the grown ones -/
structure Long (W w : World) (base m i : Nat) (V : Nat → Value) (v : Value) : Prop where
  row : w.ownsRow base 29 1 v i ((List.range i).map V)
  new : ∀ b,v.ownBlock = some b → W.heap.size ≤ b ∧ ∀ j,j < m → (V j).ownBlock ≠ some b
theorem map_rep (n : Nat) (z : Int) : (List.replicate n z).map (Value.int .i64) ++ [Value.int .i64 z] = (List.replicate (n + 1) z).map (Value.int .i64) := by
 rw [List.replicate_succ',List.map_append];rfl
theorem Fam2.start {W w : World} {base BB G m cN : Nat} {L : Rows3} {X : Nat → List Int} (hin : BkIn W base BB G m cN L X) (h : Fam1 w base m L X m 0) : Fam2 W w base m L 0 0 L.V := by
 have hn : ∀ j,N2 L 0 0 j = L.n j := fun j => by unfold N2;rw [if_neg (by omega)];split <;> rfl
 have hx : ∀ j,j < m → X1 L X m 0 j = List.replicate (L.n j) (mk1 j) := fun j hj => by unfold X1;rw [if_pos hj]
 refine ⟨fun j hj => ?_,fun j hj => .inl rfl,fun j hj b hb j' hj' hne => (hin.hap j hj b hb).2.2 j' hj' hne,fun _ _ _ => rfl,fun _ _ _ _ => rfl,fun j hj q hq => ?_⟩
 · rw [hn j,← hx j hj];exact h j hj
 · have own := h j hj;rw [hx j hj] at own;obtain ⟨g,cap,hV,hg0,hg1,_⟩ := own_shape own (by omega);have hA : L.A j = some ⟨g,0,none⟩ := by unfold Rows3.V at hV;injection hV
   have hgW : g < W.heap.size := (own_lt (hin.hX j hj) g (by rw [hV];rfl)).2;rw [hV] at own;refine ⟨g,hA,hgW,?_⟩;rw [own.cellAt q (by omega)];simp [hq]
/-- a number more at the list i -/
theorem Fam2.more {W w w2 : World} {base BB G m cN : Nat} {L : Rows3} {X : Nat → List Int} {i k g c : Nat} {V : Nat → Value} {ob : Obj} {n2 : Nat} (hin : BkIn W base BB G m cN L X) (h : Fam2 W w base m L i k V) (hi : i < m) (hk : KeptR (BkB L m) W w)
    (hn : n2 = L.n i + k + 1) (hown : w2.ownsRow base 3 1 (.slice (some ⟨g,0,none⟩) n2 c) n2 ((List.replicate (L.n i + k) (mk1 i)).map (Value.int .i64) ++ [Value.int .i64 (mk1 i)]))
    (hg : ((V i).ownBlock = some g ∧ (w.alloc ob).grownBy w2 (some g)) ∨ (g = w.heap.size + 1 ∧ (w.alloc ob).grownBy w2 none)) :
    Fam2 W w2 base m L i (k + 1) (fun j => if j = i then .slice (some ⟨g,0,none⟩) n2 c else V j) ∧ KeptR (BkB L m) W w2 := by
 have hzW := hk.size;have hsz : (w.alloc ob).heap.size = w.heap.size + 1 := World.size_alloc _ _
 -- the block g: the list's own,or new
 have hgb : (V i).ownBlock = some g ∨ (g = w.heap.size + 1) := by
  rcases hg with h2 | h2
  · exact .inl h2.1
  · right;omega
 have hgW : (L.V i).ownBlock = some g ∨ W.heap.size ≤ g := by
  rcases hgb with h2 | h2
  · rcases h.at_ i hi with h3 | h3
    · left;rw [← h3];exact h2
    · right;exact h3 g h2
  · right;omega
 have hoth : ∀ j,j < m → j ≠ i → ∀ b,(V j).ownBlock = some b → b ≠ g := by
  intro j hj hji b hb;rcases hgb with h2 | h2
  · intro he;subst he;exact h.apart i hi b h2 j hj hji hb
  · have := (own_lt (h.row j hj) b hb).2;omega
 obtain ⟨r,hgr,hr⟩ : ∃ r,(w.alloc ob).grownBy w2 r ∧ ∀ b,r = some b → b = g := by
  rcases hg with h2 | h2
  · exact ⟨_,h2.2,fun b hb => by injection hb with hb;exact hb.symm⟩
  · exact ⟨_,h2.2,fun b hb => by cases hb⟩
 have hrep : (List.replicate (L.n i + k) (mk1 i)).map (Value.int .i64) ++ [Value.int .i64 (mk1 i)] = (List.replicate n2 (mk1 i)).map (Value.int .i64) := by rw [map_rep,hn]
 rw [hrep] at hown;refine ⟨⟨fun j hj => ?_,fun j hj => ?_,fun j hj b hb j' hj' hne => ?_,fun j hj hij => ?_,fun h0 => (by omega),fun j hj q hq => ?_⟩,?_⟩
 · by_cases hji : j = i
   · subst hji;have : N2 L j (k + 1) j = n2 := by unfold N2;rw [if_neg (by omega),if_pos rfl,hn];omega
     rw [if_pos rfl,this];exact hown
   · have : N2 L i (k + 1) j = N2 L i k j := by unfold N2;rw [if_neg hji,if_neg hji]
     rw [if_neg hji,this];refine own_grownOther ((h.row j hj).alloc ob) hgr (fun b hb he => ?_);have := hr b he;exact hoth j hj hji b hb this
 · by_cases hji : j = i
   · subst hji;rw [if_pos rfl];rcases hgW with h2 | h2
     · left;rw [h2];rfl
     · right;intro b hb;have : b = g := by injection hb with hb;exact hb.symm
       omega
   · rw [if_neg hji];exact h.at_ j hj
 · by_cases hji : j = i
   · subst hji;rw [if_pos rfl] at hb;have hbg : b = g := by injection hb with hb;exact hb.symm
     rw [if_neg hne];intro h2;exact hoth j' hj' hne b h2 hbg
   · rw [if_neg hji] at hb
     by_cases hji' : j' = i
     · rw [if_pos hji'];intro h2;have h2 : g = b := by injection h2
       exact hoth j hj hji b hb h2.symm
     · rw [if_neg hji'];exact h.apart j hj b hb j' hj' hne
 · rw [if_neg (by omega)];exact h.old j hj hij
 · obtain ⟨gj,hA,hgj,hc⟩ := h.read j hj q hq;refine ⟨gj,hA,hgj,?_⟩
   have hc2 : (w.alloc ob).cell? ⟨gj,q,none⟩ = some (.int .i64 (mk1 j)) := by
    rw [World.cell?_of_block (heap_alloc_old w ob (by show gj < w.heap.size;omega))];exact hc
   by_cases hgg : gj = g
   · subst hgg
     -- then it is the list i itself,in its place
     have hLj : (L.V j).ownBlock = some gj := by unfold Rows3.V;rw [hA];rfl
     have hji : j = i := by
      rcases hgW with h2 | h2
      · refine Classical.byContradiction fun hne => (hin.hap i hi gj h2).2.2 j hj hne hLj
      · omega
     subst hji;rw [hown.cellAt q (by rw [hn];omega)];have : q < n2 := by omega
     simp [this]
   · rw [World.cell?_of_block (hgr.block gj (by rw [hsz];omega) (fun he => hgg (hr gj he.symm)))];exact hc2
 · refine (hk.al ob).grown hgr (fun b hb => ?_);have := hr b hb;subst this;rcases hgW with h2 | h2
   · left;exact ⟨i,hi,h2⟩
   · right;exact h2
theorem Fam2.next {W w : World} {base m : Nat} {L : Rows3} {i : Nat} {V : Nat → Value} (h : Fam2 W w base m L i 20 V) : Fam2 W w base m L (i + 1) 0 V := by
 have hn : ∀ j,N2 L (i + 1) 0 j = N2 L i 20 j := fun j => by
  unfold N2
  by_cases h1 : j < i
  · rw [if_pos h1,if_pos (by omega)]
  · by_cases h2 : j = i
    · rw [if_pos (by omega),if_neg h1,if_pos h2]
    · rw [if_neg h1,if_neg h2,if_neg (by omega)];split <;> rfl
 exact ⟨fun j hj => by rw [hn j];exact h.row j hj,h.at_,h.apart,fun j hj hij => h.old j hj (by omega),fun _ j hj hij => h.old j hj (by omega),h.read⟩
theorem Fam2.world {W w w2 : World} {base m : Nat} {L : Rows3} {i k : Nat} {V : Nat → Value} {r : Option Nat} (h : Fam2 W w base m L i k V) (hg : w.grownBy w2 r) (hr : ∀ b,r = some b → W.heap.size ≤ b ∧ ∀ j,j < m → (V j).ownBlock ≠ some b) : Fam2 W w2 base m L i k V :=
  ⟨fun j hj => own_grownOther (h.row j hj) hg (fun b hb he => (hr b he).2 j hj hb),h.at_,h.apart,h.old,h.first,fun j hj q hq => by
    obtain ⟨g,hA,hgW,hc⟩ := h.read j hj q hq;exact ⟨g,hA,hgW,hg.cell hc (fun he => by have := (hr g he.symm).1;omega)⟩⟩
theorem grown_new (w : World) (ob : Obj) : w.grownBy (w.alloc ob) none := ⟨rfl,rfl,rfl,by rw [World.size_alloc];omega,fun k hk _ => heap_alloc_old w ob hk⟩
theorem Fam2.block {W w : World} {base m : Nat} {L : Rows3} {i k : Nat} {V : Nat → Value} (h : Fam2 W w base m L i k V) (hi : i < m) : w.ownsRow base 3 1 (V i) (L.n i + k) ((List.replicate (L.n i + k) (mk1 i)).map (Value.int .i64)) := by
 have := h.row i hi;have hn : N2 L i k i = L.n i + k := by unfold N2;rw [if_neg (by omega),if_pos rfl]
 rw [hn] at this;exact this
theorem Long.more {W w w2 : World} {base m : Nat} {i g c n2 : Nat} {V : Nat → Value} {v : Value} {ob : Obj} (h : Long W w base m i V v) (hi : i < m)
    (hg : ((V i).ownBlock = some g ∧ (w.alloc ob).grownBy w2 (some g)) ∨ (g = w.heap.size + 1 ∧ (w.alloc ob).grownBy w2 none)) :
    Long W w2 base m i (fun j => if j = i then .slice (some ⟨g,0,none⟩) n2 c else V j) v := by
 have hsz : (w.alloc ob).heap.size = w.heap.size + 1 := World.size_alloc _ _
 have hgb : ∀ b,v.ownBlock = some b → b ≠ g := by
  intro b hb he;subst he;rcases hg with h2 | h2
  · exact (h.new b hb).2 i hi h2.1
  · have := (own_lt h.row b hb).2;omega
 refine ⟨?_,fun b hb => ⟨(h.new b hb).1,fun j hj => ?_⟩⟩
 · have : (List.range i).map (fun j => if j = i then Value.slice (some ⟨g,0,none⟩) n2 c else V j) = (List.range i).map V := by
     refine List.map_congr_left fun j hj => ?_;have := List.mem_range.1 hj;rw [if_neg (by omega)]
   rw [this];rcases hg with h2 | h2
   · exact own_grownOther (h.row.alloc ob) h2.2 (fun b hb he => hgb b hb (by injection he with he;exact he.symm))
   · exact own_grownOther (h.row.alloc ob) h2.2 (fun b hb he => by cases he)
 · by_cases hji : j = i
   · rw [if_pos hji];intro h2;have h2 : g = b := by injection h2
     exact hgb b hb h2.symm
   · rw [if_neg hji];exact (h.new b hb).2 j hj
/-- the grown list is put behind the others -/
theorem Long.next {W w w2 : World} {base m : Nat} {L : Rows3} {i g c : Nat} {V : Nat → Value} {v : Value} {ob : Obj} (h : Long W w base m i V v) (hf : Fam2 W w base m L i 20 V) (_hi : i < m) (hkp : KeptR (BkB L m) W w)
    (hown : w2.ownsRow base 29 1 (.slice (some ⟨g,0,none⟩) (i + 1) c) (i + 1) ((List.range i).map V ++ [V i]))
    (hg : (v.ownBlock = some g ∧ (w.alloc ob).grownBy w2 (some g)) ∨ (g = w.heap.size + 1 ∧ (w.alloc ob).grownBy w2 none)) :
    Long W w2 base m (i + 1) V (.slice (some ⟨g,0,none⟩) (i + 1) c) ∧ Fam2 W w2 base m L (i + 1) 0 V ∧ KeptR (BkB L m) W w2 := by
 have hsz : (w.alloc ob).heap.size = w.heap.size + 1 := World.size_alloc _ _;have hzW := hkp.size
 have hgn : W.heap.size ≤ g ∧ ∀ j,j < m → (V j).ownBlock ≠ some g := by
  rcases hg with h2 | h2
  · exact h.new g h2.1
  · refine ⟨by omega,fun j hj hb => ?_⟩;have := (own_lt (hf.row j hj) g hb).2;omega
 obtain ⟨r,hgr,hr⟩ : ∃ r,(w.alloc ob).grownBy w2 r ∧ ∀ b,r = some b → b = g := by
  rcases hg with h2 | h2
  · exact ⟨_,h2.2,fun b hb => by injection hb with hb;exact hb.symm⟩
  · exact ⟨_,h2.2,fun b hb => by cases hb⟩
 have hf1 : Fam2 W (w.alloc ob) base m L i 20 V := hf.world (grown_new w ob) (fun b hb => by cases hb);refine ⟨⟨?_,fun b hb => ?_⟩,(hf1.world hgr (fun b hb => by have := hr b hb;subst this;exact hgn)).next,(hkp.al ob).grown hgr (fun b hb => by have := hr b hb;subst this;exact .inr hgn.1)⟩
 · rw [List.range_succ,List.map_append];exact hown
 · have : b = g := by injection hb with hb;exact hb.symm
   subst this;exact hgn
theorem infoSl : (Tryd.prog.info? 29).map (fun i => (i.zero,i.size,i.bytes)) = some (some (.slice none 0 0),1,24) := by kernel_rfl
theorem BkIn.notB {w : World} {base BB G m cN : Nat} {L : Rows3} {X : Nat → List Int} (h : BkIn w base BB G m cN L X) : ¬ BkB L m BB ∧ ¬ BkB L m G :=
  ⟨fun ⟨j,hj,hb⟩ => (h.hap j hj _ hb).1 rfl,fun ⟨j,hj,hb⟩ => (h.hap j hj _ hb).2.1 rfl⟩
theorem bk_ints (BB G m cN base : Nat) (L : Rows3) (X : Nat → List Int) (w : World) (hin : BkIn w base BB G m cN L X) :
    Calls Tryd.prog 29 #[.pointer (some ⟨BB,0,none⟩)] w fun e w' => e = .returned (.bool true) ∧ KeptR (BkB L m) w w' := by
 have hm := hin.hm;obtain ⟨nB,nG⟩ := hin.notB;have hbase := hin.hbase;obtain ⟨ib,hib,hz0,hz1,hz2⟩ := info_parts infoInt;obtain ⟨is,his,hy0,hy1,hy2⟩ := info_parts infoSl;replace nB := Lh nB;replace nG := Lh nG;have hst := Lh (Fam1.start hin);replace hin := Lh hin;go_enter Tryd.func29,Tryd.ntmps29;go_wp2
 go_loopw [3] (fun i wr => ∃ (k : Nat),k ≤ m ∧ i = .int .i64 k ∧ Hid (Fam1 wr base m L X k 0) ∧ Hid (KeptR (BkB L m) w wr)) (fun i _ => m - (intOf i).toNat)
 case atStart => exact ⟨0,Nat.zero_le _,rfl,hst,KeptR.refl _ _⟩
 case round =>
  obtain ⟨i,hi,rfl,hf,hkp⟩ := hrel;have p := hkp.out.cell hin.out.hN nB.out
  by_cases hlt : i < m
  · go_wp2;obtain ⟨N,hN⟩ : ∃ N,N = L.n i := ⟨_,rfl⟩;obtain ⟨cc,hc⟩ : ∃ cc,cc = L.c i := ⟨_,rfl⟩;have hNb : N ≤ 17592186044000 := by rw [hN];exact hin.out.hn i hlt
    replace hN := Lh hN;replace hc := Lh hc;clear p hst
    go_loopw [4] (fun k wr => ∃ q : Nat,q ≤ N ∧ k = .int .i64 q ∧ Hid (Fam1 wr base m L X i q) ∧ Hid (KeptR (BkB L m) w wr)) (fun k _ => N - (intOf k).toNat)
    case atStart => exact ⟨0,Nat.zero_le _,rfl,hf,hkp⟩
    case round =>
     obtain ⟨k,hk,rfl,hf2,hkp2⟩ := hrel;have p := hkp2.out.cell hin.out.hN nB.out
     by_cases hk2 : k < N
     · have own := hf2.out i hlt;obtain ⟨g,cap,hV,hg0,hg1,_⟩ := own_shape own (by rw [← hN.out];omega);have hA : L.A i = some ⟨g,0,none⟩ := by unfold Rows3.V at hV;injection hV
       have q : wr.cell? ⟨G,i,none⟩ = some (.slice (some ⟨g,0,none⟩) N cc) := by
        rw [hN.out,hc.out,← hA];exact hkp2.out.cell (hin.out.hL i hlt) nG.out
       rw [hV] at own
       obtain ⟨old,r⟩ : ∃ old,wr.cell? ⟨g,k,none⟩ = some old := by
        have := own.1;rw [own.cellAt k (by rw [← hN.out];omega),List.getElem?_eq_getElem (by rw [this,← hN.out];omega)];exact ⟨_,rfl⟩
       have fz := own_frozenI own k;have hput := Lh (Fam1.put hin.out hf2.out hlt (by rw [← hN.out];exact hk2) hA);have hBg : Hid (BkB L m g) := ⟨i,hlt,by unfold Rows3.V;rw [hA];rfl⟩;clear own hV hA hg0 hg1;go_wp2;go_roundw
       case rel => exact ⟨k + 1,by omega,by go_num,hput,hkp2.out.set (.inl hBg.out)⟩
       case measure => simp [intOf];omega
     · have hkN : k = N := by omega
       have hf3 : Hid (Fam1 wr base m L X (i + 1) 0) := by
        have h := hf2.out;rw [hkN,hN.out] at h;exact h.next
       have q : ∃ a,wr.cell? ⟨G,i,none⟩ = some (.slice a N cc) := by
        rw [hN.out,hc.out];exact ⟨_,hkp2.out.cell (hin.out.hL i hlt) nG.out⟩
       obtain ⟨a,q⟩ := q;clear hkN hf2;go_wp2;go_roundw
       case rel => exact ⟨i + 1,by omega,by go_num,hf3,hkp2⟩
       case measure => simp [intOf];omega
  · have him : i = m := by omega
    have hf2 : Hid (Fam2 w wr base m L 0 0 L.V) := Fam2.start hin.out (by have h := hf.out;rw [him] at h;exact h);have hl2 : Hid (Long w wr base m 0 L.V (.slice none 0 0)) := ⟨World.ownsRow_nil _ _ _ _,fun b hb => by cases hb⟩;clear hst hf him;go_wp2;clear p
    go_loopw [5,6] (fun v i wr => ∃ (k : Nat) (V : Nat → Value) (a : Option Addr) (cl : Nat),k ≤ m ∧ i = .int .i64 k ∧ v = .slice a k cl ∧ Hid (Fam2 w wr base m L k 0 V) ∧ Hid (Long w wr base m k V (.slice a k cl)) ∧ Hid (KeptR (BkB L m) w wr)) (fun _ i _ => m - (intOf i).toNat)
    case atStart => exact ⟨0,L.V,none,0,Nat.zero_le _,rfl,rfl,hf2,hl2,hkp⟩
    case round =>
     clear hf2 hl2 hkp;obtain ⟨i,V,a,cl,hi,rfl,rfl,hf,hl,hkp⟩ := hrel;have p := hkp.out.cell hin.out.hN nB.out
     by_cases hlt : i < m
     · obtain ⟨N,hN⟩ : ∃ N,N = L.n i := ⟨_,rfl⟩;obtain ⟨ai,hai⟩ : ∃ a,a = L.A i := ⟨_,rfl⟩;obtain ⟨cc,hc⟩ : ∃ cc,cc = L.c i := ⟨_,rfl⟩;have hNb : N ≤ 17592186044000 := by rw [hN];exact hin.out.hn i hlt
       have q : wr.cell? ⟨G,i,none⟩ = some (.slice ai N cc) := by rw [hN,hai,hc];exact hkp.out.cell (hin.out.hL i hlt) nG.out
       have hVi : Hid (V i = .slice ai N cc) := by show _ = _;rw [hf.out.first rfl i hlt (Nat.le_refl _),hN,hai,hc];rfl
       replace hN := Lh hN;clear hai hc;go_wp2;clear p q
       go_loopw [7,8] (fun l i2 wr => ∃ (k : Nat) (V2 : Nat → Value) (a2 : Option Addr) (c2 : Nat),k ≤ 20 ∧ i2 = .int .i64 k ∧ l = .slice a2 (N + k) c2 ∧ Hid (V2 i = .slice a2 (N + k) c2) ∧ Hid (Fam2 w wr base m L i k V2) ∧ Hid (Long w wr base m i V2 (.slice a i cl)) ∧ Hid (KeptR (BkB L m) w wr)) (fun _ i2 _ => 20 - (intOf i2).toNat)
       case atStart => exact ⟨0,V,ai,cc,Nat.zero_le _,rfl,rfl,hVi,hf,hl,hkp⟩
       case round =>
        clear hf hl hkp hVi;obtain ⟨k,V2,a2,c2,hk,rfl,rfl,hV2,hf,hl,hkp⟩ := hrel
        by_cases hk2 : k < 20
        · have hrow : Hid (wr.ownsRow base 3 1 (.slice a2 (N + k) c2) (N + k) ((List.replicate (N + k) (mk1 i)).map (Value.int .i64))) := by
            have h := hf.out.block hlt;rw [hV2.out,← hN.out] at h;exact h
          have h63 : Hid (N + k + 1 ≤ maxLen) := by show N + k + 1 ≤ maxLen;unfold maxLen;omega
          have h64 : Hid ((N + k + 1) * 8 ≤ 140737488355328) := by show (N + k + 1) * 8 ≤ 140737488355328;omega
          have hbs : base ≤ wr.heap.size := by have := hkp.out.size;omega
          have hown2 : Hid ((Value.slice a2 (N + k) c2).ownBlock = (V2 i).ownBlock) := by show _ = _;rw [hV2.out]
          go_wp2_with (first
            | (at_builtin;refine wpList_append_two _ rfl (.tmp 63) (.tmp 66) 29 rfl base 3 ib (.int .i64 0) 1 8 Tryd.underlying29 hib hz0 hz1 hz2 rfl (by decide) _ (N + k) _ rfl (hrow.out.alloc _) ⟨wr.heap.size,0,none⟩ 1 1 [.int .i64 (mk1 i)] rfl rfl own_cells_one (by intro u hu;simp at hu;subst hu;rfl) (by decide) h63.out h64.out (by rw [World.size_alloc];omega) ?_))
          intro g4 c4 w4 own4 hg4;rw [hown2.out] at hg4;obtain ⟨hf5,hk5⟩ := Fam2.more (n2 := N + k + 1) (c := c4) hin.out hf.out hlt hkp.out (by rw [hN.out]) (by rw [← hN.out,List.map_replicate];exact own4) hg4;have hl5 := Lh (hl.out.more (n2 := N + k + 1) (c := c4) hlt hg4);replace hf5 := Lh hf5;replace hk5 := Lh hk5;clear own4 hg4 hrow hown2;go_wp2_with fail
          go_roundw
          case rel => exact ⟨k + 1,(fun j => if j = i then .slice (some ⟨g4,0,none⟩) (N + k + 1) c4 else V2 j),some ⟨g4,0,none⟩,c4,by omega,by go_num,rfl,(by show _ = _;exact if_pos rfl),hf5,hl5,hk5⟩
          case measure => simp [intOf];omega
        · have hk20 : k = 20 := by omega
          subst hk20;have hlrow := hl.out.row;rw [← (show (Value.slice a i cl) = Value.slice a i cl from rfl)] at hlrow;replace hlrow := Lh hlrow;have h63 : Hid (i + 1 ≤ maxLen) := by show i + 1 ≤ maxLen;unfold maxLen;omega
          have h64 : Hid ((i + 1) * 24 ≤ 140737488355328) := by show (i + 1) * 24 ≤ 140737488355328;omega
          have hbs : base ≤ wr.heap.size := by have := hkp.out.size;omega
          go_wp2_with (first
            | (at_builtin;refine wpList_append_two _ rfl (.tmp 68) (.tmp 70) 42 rfl base 29 is (.slice none 0 0) 1 24 Tryd.underlying42 his hy0 hy1 hy2 rfl (by decide) _ i _ rfl (hlrow.out.alloc _) ⟨wr.heap.size,0,none⟩ 1 1 [.slice a2 (N + 20) c2] rfl rfl own_cells_one (by intro u hu;simp at hu;subst hu;rfl) (by decide) h63.out h64.out (by rw [World.size_alloc];omega) ?_))
          intro g4 c4 w4 own4 hg4;obtain ⟨hl5,hf5,hk5⟩ := Long.next (c := c4) hl.out hf.out hlt hkp.out (by rw [hV2.out];exact own4) hg4;replace hf5 := Lh hf5;replace hk5 := Lh hk5;replace hl5 := Lh hl5;clear own4 hg4 hlrow;go_wp2_with fail;go_roundw
          case rel => exact ⟨i + 1,V2,some ⟨g4,0,none⟩,c4,by omega,by go_num,rfl,hf5,hl5,hk5⟩
          case measure => simp [intOf];omega
     · have him : m = i := by omega
       subst him;go_wp2;clear p hlt hi;generalize wr = W3 at hf hl hkp ⊢
       go_loopw [9] (fun i wr => ∃ k : Nat,k ≤ m ∧ i = .int .i64 k ∧ Drawn W3 wr) (fun i _ => m - (intOf i).toNat)
       case atStart => exact ⟨0,Nat.zero_le _,rfl,Drawn.refl _⟩
       case round =>
        obtain ⟨i,hi,rfl,⟨nd,rfl⟩⟩ := hrel;have p : W3.cell? ⟨BB,1,none⟩ = some (.slice (some ⟨G,0,none⟩) m cN) := hkp.out.cell hin.out.hN nB.out
        by_cases hlt : i < m
        · obtain ⟨N,hN⟩ : ∃ N,N = L.n i := ⟨_,rfl⟩;obtain ⟨cc,hc⟩ : ∃ cc,cc = L.c i := ⟨_,rfl⟩;have hNb : N ≤ 17592186044000 := by rw [hN];exact hin.out.hn i hlt
          have hri := hf.out.row i hlt;have hn2 : N2 L m 0 i = N + 20 := by unfold N2;rw [if_pos hlt,hN]
          rw [hn2] at hri;obtain ⟨ga,ca,hVi,_⟩ := own_shape hri (by omega);rw [hVi] at hri;have hlr := hl.out.row;obtain ⟨gl,c9,ha,_⟩ := own_shape hlr (by omega);have ha2 : a = some ⟨gl,0,none⟩ := by injection ha
          subst ha2
          have q1 : W3.cell? ⟨gl,i,none⟩ = some (.slice (some ⟨ga,0,none⟩) (N + 20) ca) := by
           rw [hlr.cellAt i (by omega)];simp [hlt,hVi]
          have q2 : ∃ a,W3.cell? ⟨G,i,none⟩ = some (.slice a N cc) := by
           rw [hN,hc];exact ⟨_,hkp.out.cell (hin.out.hL i hlt) nG.out⟩
          replace hri := Lh hri;replace hN := Lh hN;replace hc := Lh hc;clear hVi hlr ha hn2;go_wp2
          go_loopw [10] (fun k wr => ∃ q : Nat,q ≤ N + 20 ∧ k = .int .i64 q ∧ Drawn W3 wr) (fun k _ => N + 20 - (intOf k).toNat)
          case atStart => exact ⟨0,Nat.zero_le _,rfl,⟨_,rfl⟩⟩
          case round =>
           obtain ⟨k,hk,rfl,⟨nd2,rfl⟩⟩ := hrel
           by_cases hk2 : k < N + 20
           · have r1 : W3.cell? ⟨ga,k,none⟩ = some (.int .i64 (-1000 - (i : Int))) := by
               rw [hri.out.cellAt k (by omega)];simp [hk2];rfl
             by_cases hk3 : k < N
             · obtain ⟨g,hA,hgW,r2⟩ := hf.out.read i hlt k (by rw [← hN.out];exact hk3);replace r2 : W3.cell? ⟨g,k,none⟩ = some (.int .i64 (-1000 - (i : Int))) := r2
               have q3 : W3.cell? ⟨G,i,none⟩ = some (.slice (some ⟨g,0,none⟩) N cc) := by
                rw [hN.out,hc.out,← hA];exact hkp.out.cell (hin.out.hL i hlt) nG.out
               clear q2 hA hgW;go_wp2;go_roundw
               case rel => exact ⟨k + 1,by omega,by go_num,⟨_,rfl⟩⟩
               case measure => simp [intOf];omega
             · obtain ⟨a9,q3⟩ := q2;go_wp2;go_roundw
               case rel => exact ⟨k + 1,by omega,by go_num,⟨_,rfl⟩⟩
               case measure => simp [intOf];omega
           · clear q2;go_wp2;go_roundw
             case rel => exact ⟨i + 1,by omega,by go_num,⟨_,rfl⟩⟩
             case measure => simp [intOf];omega
        · go_wp2;go_ret;exact ⟨rfl,hkp.out.drewN nd⟩
theorem bk_texts (BB : Nat) (w : World) (hT : w.cell? ⟨BB,0,none⟩ = some (.slice none 0 0)) :
    Calls Tryd.prog 28 #[.pointer (some ⟨BB,0,none⟩)] w fun e w' => e = .returned (.bool true) ∧ w = w' := by
 go_enter Tryd.func28,Tryd.ntmps28;go_wp2;refine wp_loop_rounds 1 ?_;rw [rounds_succ];go_wp2;refine wp_loop_rounds 1 ?_;rw [rounds_succ];go_wp2;refine wp_loop_rounds 1 ?_;rw [rounds_succ];go_wp2;go_ret;exact ⟨rfl,rfl⟩
theorem bk_lists (BB : Nat) (w : World) (hT : w.cell? ⟨BB,2,none⟩ = some (.slice none 0 0)) :
    Calls Tryd.prog 30 #[.pointer (some ⟨BB,0,none⟩)] w fun e w' => e = .returned (.bool true) ∧ w = w' := by
 go_enter Tryd.func30,Tryd.ntmps30;go_wp2;refine wp_loop_rounds 1 ?_;rw [rounds_succ];go_wp2;refine wp_loop_rounds 1 ?_;rw [rounds_succ];go_wp2;refine wp_loop_rounds 1 ?_;rw [rounds_succ];go_wp2;go_ret;exact ⟨rfl,rfl⟩
theorem bk_Apart (BB G m cN base : Nat) (L : Rows3) (X : Nat → List Int) (w : World) (hin : BkIn w base BB G m cN L X) (hT : w.cell? ⟨BB,0,none⟩ = some (.slice none 0 0)) (hLs : w.cell? ⟨BB,2,none⟩ = some (.slice none 0 0)) :
    Calls Tryd.prog 15 #[.pointer (some ⟨BB,0,none⟩)] w fun e w' => e = .returned (.bool true) ∧ KeptR (BkB L m) w w' := by
 have nB := hin.notB.1;replace hT := Lh hT;replace hLs := Lh hLs;replace hin := Lh hin;replace nB := Lh nB;go_enter Tryd.func15,Tryd.ntmps15;go_wp2_with fail;refine (bk_texts BB w hT.out).mono ?_;rintro e w0 ⟨rfl,rfl⟩;go_wp2_with fail;refine (bk_ints BB G m cN base L X _ hin.out).mono ?_;rintro e w1 ⟨rfl,hk⟩;have h2 := hk.cell hLs.out nB.out
 replace hk := Lh hk
 go_wp2_with (go_at_call 30;refine (bk_lists BB _ h2).mono ?_;rintro e w2 ⟨rfl,rfl⟩)
 go_ret;exact ⟨rfl,hk.out⟩
/-- what Ints leaves: the book's list is a new row with the lists in it -/
def BkPost (BB m : Nat) (vs : List Value) (w : World) (e : Ending) (w' : World) : Prop :=
  e = .returned (.tuple #[]) ∧ ∃ G cN,w'.ownsRow w.heap.size 29 1 (.slice (some ⟨G,0,none⟩) m cN) m vs ∧ w'.heap[BB]? = some (.cells #[.slice none 0 0,.slice (some ⟨G,0,none⟩) m cN,.slice none 0 0] 45) ∧ KeptR (· = BB) w w'
theorem bk_Ints (BB G0 m c0 : Nat) (vs : List Value) (w : World) (h0 : w.heap[BB]? = some (.cells #[.slice none 0 0,.slice none 0 0,.slice none 0 0] 45))
    (hl : vs.length = m) (hvs : ∀ j u,vs[j]? = some u → w.cell? ⟨G0,j,none⟩ = some u) (h1 : ∀ u ∈ vs,u.oneCell' = true) (hm : 0 < m) (hm2 : m ≤ 100) :
    Calls Tryd.prog 14 #[.pointer (some ⟨BB,0,none⟩),.slice (some ⟨G0,0,none⟩) m c0] w (BkPost BB m vs w) := by
 obtain ⟨is,his,hy0,hy1,hy2⟩ := info_parts infoSl;have p : w.cell? ⟨BB,1,none⟩ = some (.slice none 0 0) := cell_of_row _ _ _ _ _ _ h0;have hBs : BB < w.heap.size := (Array.getElem?_eq_some_iff.1 h0).1;replace h0 := Lh h0;have hl2 : Hid (vs.length = m * 1) := by show vs.length = m * 1;omega
 replace hvs : Hid (∀ j u,vs[j]? = some u → w.cell? ((⟨G0,0,none⟩ : Addr).add j) = some u) := by
  show ∀ j u,vs[j]? = some u → w.cell? ((⟨G0,0,none⟩ : Addr).add j) = some u;intro j u hu;rw [addr_add,Nat.zero_add];exact hvs j u hu
 replace h1 := Lh h1;have h63 : Hid (0 + m ≤ maxLen) := by show 0 + m ≤ maxLen;unfold maxLen;omega
 have h64 : Hid ((0 + m) * 24 ≤ 140737488355328) := by show (0 + m) * 24 ≤ 140737488355328;omega
 clear hl;go_enter Tryd.func14,Tryd.ntmps14
 go_wp2_with (first
   | (at_builtin;refine wpList_append_two _ rfl (.tmp 8) (.tmp 9) 42 rfl w.heap.size 29 is (.slice none 0 0) 1 24 Tryd.underlying42 his hy0 hy1 hy2 rfl (by decide) (.slice none 0 0) 0 [] rfl (World.ownsRow_nil _ _ _ _) ⟨G0,0,none⟩ m c0 vs rfl hl2.out hvs.out h1.out hm h63.out h64.out (Nat.le_refl _) ?_))
 intro g c w2 own hg
 have hg2 : Hid (w.grownBy w2 none ∧ w.heap.size ≤ g) := by
  show _ ∧ _;rcases hg with ⟨h,_⟩ | ⟨h,h2⟩
  · cases h
  · exact ⟨h2,by omega⟩
 have hr := (hg2.out.1.block BB hBs (by simp)).trans h0.out;have p2 : w2.cell? ⟨BB,1,none⟩ = some (.slice none 0 0) := cell_of_row _ _ _ _ _ _ hr;have fz : w2.frozen? ⟨BB,1,none⟩ = false := frozen_of_row _ _ _ _ _ hr;have hr2 := Lh (heap_setCell_same w2 BB 1 _ _ (.slice (some ⟨g,0,none⟩) m c) hr)
 have own2 : Hid ((w2.setCell ⟨BB,1,none⟩ (.slice (some ⟨g,0,none⟩) m c)).ownsRow w.heap.size 29 1 (.slice (some ⟨g,0,none⟩) m c) m vs) := by
  show World.ownsRow _ _ _ _ _ _ _;refine own_setOther own (fun h => ?_);have : g = BB := by injection h
  have := hg2.out.2;omega
 have hk : Hid (KeptR (· = BB) w (w2.setCell ⟨BB,1,none⟩ (.slice (some ⟨g,0,none⟩) m c))) := ((KeptR.refl _ w).grown hg2.out.1 (fun b hb => by cases hb)).set (.inl rfl);clear own hg hr p;go_wp2;refine bodyPost_ret (v := .tuple #[]) (by simp [results,Tryd.results14,go_sem]) rfl ⟨rfl,g,c,own2.out,hr2.out,hk.out⟩
theorem own_keptR {w w' : World} {B : Nat → Prop} {base : Nat} {e : TypeId} {size : Nat} {v : Value} {n : Nat} {xs : List Value} (h : w.ownsRow base e size v n xs) (hk : KeptR B w w') (hn : ∀ b,v.ownBlock = some b → ¬ B b) : w'.ownsRow base e size v n xs := by
 refine ⟨h.1,?_⟩;rcases h.2 with h0 | ⟨k,cap,cur,rfl,hg1,hh,r⟩
 · exact .inl h0
 · exact .inr ⟨k,cap,cur,rfl,hg1,by rw [hk.block k (Array.getElem?_eq_some_iff.1 hh).1 (hn k rfl)];exact hh,r⟩
theorem own_lower {w : World} {base base' : Nat} {e : TypeId} {size : Nat} {v : Value} {n : Nat} {xs : List Value} (h : w.ownsRow base e size v n xs) (hb : base' ≤ base) : w.ownsRow base' e size v n xs := by
 refine ⟨h.1,?_⟩;rcases h.2 with hn | ⟨k,cap,cur,rfl,hg1,r⟩
 · exact .inl hn
 · exact .inr ⟨k,cap,cur,rfl,by omega,r⟩
structure SL where
  a : Option Addr
  n : Nat
  c : Nat
  xs : List Int
def SL.v (s : SL) : Value := .slice s.a s.n s.c
def nthS (T : List SL) (j : Nat) : SL := T.getD j ⟨none,0,0,[]⟩
def rowsT (T : List SL) : Rows3 := ⟨fun j => (nthS T j).a,fun j => (nthS T j).n,fun j => (nthS T j).c⟩
def xsT (T : List SL) (j : Nat) : List Int := (nthS T j).xs
theorem rowsT_V (T : List SL) (j : Nat) : (rowsT T).V j = (nthS T j).v := rfl
theorem mapT (T : List SL) (j : Nat) (hj : j < T.length) : (T.map SL.v)[j]? = some (nthS T j).v := by
 unfold nthS;rw [List.getElem?_map,List.getElem?_eq_getElem hj,List.getD_eq_getElem?_getD,List.getElem?_eq_getElem hj];rfl
/-- lists put into a book -/
theorem bkT_in {w w' : World} {base BB : Nat} {T : List SL} (hm : T.length ≤ 100) (hrow : ∀ j,j < T.length → w.ownsRow base 3 1 (nthS T j).v (nthS T j).n ((nthS T j).xs.map (Value.int .i64))) (hlt : ∀ j,j < T.length → ∀ b,(nthS T j).v.ownBlock = some b → b < BB)
    (hap : ∀ j j',j < T.length → j' < T.length → j' ≠ j → ∀ b,(nthS T j).v.ownBlock = some b → (nthS T j').v.ownBlock ≠ some b) (hBB : BB < w.heap.size) (hbase : base ≤ BB) (hn : ∀ j,j < T.length → (nthS T j).n ≤ 17592186044000) {e : Ending} (hp : BkPost BB T.length (T.map SL.v) w e w') :
    e = .returned (.tuple #[]) ∧ KeptR (· = BB) w w' ∧ ∃ G cN,BkIn w' base BB G T.length cN (rowsT T) (xsT T) ∧ w'.cell? ⟨BB,0,none⟩ = some (.slice none 0 0) ∧ w'.cell? ⟨BB,2,none⟩ = some (.slice none 0 0) := by
 obtain ⟨he,G,cN,hown,hbk,hk⟩ := hp;have hG := own_lt hown G rfl;refine ⟨he,hk,G,cN,⟨hm,by have := hk.size;omega,cell_of_row _ _ _ _ _ _ hbk,fun j hj => ?_,fun j hj => ?_,fun j hj => hn j hj,fun j hj b hb => ⟨?_,?_,fun j' hj' hne => ?_⟩⟩,cell_of_row _ _ _ _ _ _ hbk,cell_of_row _ _ _ _ _ _ hbk⟩
 · rw [hown.cellAt j (by omega),rowsT_V];exact mapT T j hj
 · refine own_keptR (hrow j hj) hk (fun b hb => ?_);have := hlt j hj b hb;omega
 · have := hlt j hj b hb;omega
 · have := hlt j hj b hb;omega
 · exact hap j j' hj hj' hne b hb
theorem bkT_base {w : World} {base BB G m cN : Nat} {L : Rows3} {X : Nat → List Int} (h : BkIn w base BB G m cN L X) : ∀ b,BkB L m b → base ≤ b := by
 rintro b ⟨j,hj,hb⟩;exact (own_lt (h.hX j hj) b hb).1
/-- six lists, three and three -/
theorem apart6 {a b c d e f : SL} {s : Nat} (h1 : ∀ k,a.v.ownBlock = some k → k < s ∧ b.v.ownBlock ≠ some k ∧ c.v.ownBlock ≠ some k) (h2 : ∀ k,b.v.ownBlock = some k → k < s ∧ c.v.ownBlock ≠ some k) (h3 : ∀ k,c.v.ownBlock = some k → k < s)
    (h4 : ∀ k,d.v.ownBlock = some k → s ≤ k ∧ e.v.ownBlock ≠ some k ∧ f.v.ownBlock ≠ some k) (h5 : ∀ k,e.v.ownBlock = some k → s ≤ k ∧ f.v.ownBlock ≠ some k) (h6 : ∀ k,f.v.ownBlock = some k → s ≤ k) :
    ∀ j j',j < [a,b,c,d,e,f].length → j' < [a,b,c,d,e,f].length → j' ≠ j → ∀ k,(nthS [a,b,c,d,e,f] j).v.ownBlock = some k → (nthS [a,b,c,d,e,f] j').v.ownBlock ≠ some k := by
 have key : ∀ j j',j < j' → j' < 6 → ∀ k,(nthS [a,b,c,d,e,f] j).v.ownBlock = some k → (nthS [a,b,c,d,e,f] j').v.ownBlock ≠ some k := by
  intro j j' hlt hj' k hk hk'
  match j,j',hlt,hj' with
  | 0,1,_,_ => exact (h1 k hk).2.1 hk'
  | 0,2,_,_ => exact (h1 k hk).2.2 hk'
  | 0,3,_,_ => have := (h1 k hk).1;have := (h4 k hk').1;omega
  | 0,4,_,_ => have := (h1 k hk).1;have := (h5 k hk').1;omega
  | 0,5,_,_ => have := (h1 k hk).1;have := h6 k hk';omega
  | 1,2,_,_ => exact (h2 k hk).2 hk'
  | 1,3,_,_ => have := (h2 k hk).1;have := (h4 k hk').1;omega
  | 1,4,_,_ => have := (h2 k hk).1;have := (h5 k hk').1;omega
  | 1,5,_,_ => have := (h2 k hk).1;have := h6 k hk';omega
  | 2,3,_,_ => have := h3 k hk;have := (h4 k hk').1;omega
  | 2,4,_,_ => have := h3 k hk;have := (h5 k hk').1;omega
  | 2,5,_,_ => have := h3 k hk;have := h6 k hk';omega
  | 3,4,_,_ => exact (h4 k hk).2.1 hk'
  | 3,5,_,_ => exact (h4 k hk).2.2 hk'
  | 4,5,_,_ => exact (h5 k hk).2 hk'
  | j + 5,j',h,h' => omega
 intro j j' hj hj' hne k hk hk';rcases Nat.lt_or_gt_of_ne hne with h | h
 · exact key j' j h hj k hk' hk
 · exact key j j' h hj' k hk hk'
end Go.Proofs.YtmjincocmhadeaaDoor
