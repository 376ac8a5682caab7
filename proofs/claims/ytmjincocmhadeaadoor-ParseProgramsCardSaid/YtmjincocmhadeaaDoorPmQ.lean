/- Parse: a program in memory as the document's reader makes it. (gen_per.py) -/
import Derived.Test.YtmjincocmhadeaaDoorPmP
import Derived.Test.YtmjincocmhadeaaDoorPmJ
import Derived.Test.YtmjincocmhadeaaDoorPmM
set_option maxHeartbeats 8000000
set_option maxRecDepth 100000
namespace Go.Proofs.YtmjincocmhadeaaDoor
open Go.RowKit Lx
theorem RuleV.stays {w w' : World} {lo : Nat} {av bv : Value} {r : PRule} {k : Option Nat} (h : RuleV w lo av bv r) (hg : w.grownBy w' k) (hT : ∀ g cur,w.heap[g]? = some (.cells cur 57) → k ≠ some g) (hL : ∀ g cur,w.heap[g]? = some (.cells cur 59) → k ≠ some g) : RuleV w' lo av bv r := by
 obtain ⟨h1,L,h2,h3⟩ := h;refine ⟨own_stays h1 hg fun g hk => ?_,L,h2,h3.stays hg (fun g hk => ?_) (fun y hy g hk => ?_)⟩
 · obtain ⟨cur,hc⟩ := own_typed h1 hk;exact hT g cur hc
 · obtain ⟨cur,hc⟩ := own_typed h3.own hk;exact hL g cur hc
 · obtain ⟨cur,hc⟩ := own_typed (h3.inner y hy) hk;exact hT g cur hc
theorem RuleV.mvd {w w' : World} {lo b : Nat} {av bv : Value} {r : PRule} (h : RuleV w lo av bv r) (hm : Mvd b w w') (hb : b < lo) : RuleV w' lo av bv r := by
 obtain ⟨h1,L,h2,h3⟩ := h;exact ⟨own_mvd h1 hm hb,L,h2,h3.mvd hm hb⟩
/-- a program and its places in memory, while they grow -/
structure PrgV (w : World) (lo : Nat) (R0 R1 R2 R3 R4 R5 : Value) (A : List (ByteArray × Int × ByteArray)) (B : List (ByteArray × Int)) (C : List PRule) (a b c : List Nat) : Prop where
  r0 : w.ownsRow lo 78 3 R0 A.length (inL A)
  r1 : w.ownsRow lo 80 2 R1 B.length (outL B)
  r2 : ∃ L : List (PRule × Value × Value),L.map (fun y => y.1) = C ∧ w.ownsRow lo 52 3 R2 L.length (ruL L) ∧ ∀ y ∈ L,RuleV w lo y.2.1 y.2.2 y.1
  r3 : w.ownsRow lo 3 1 R3 a.length (atL a)
  r4 : w.ownsRow lo 3 1 R4 b.length (atL b)
  r5 : w.ownsRow lo 3 1 R5 c.length (atL c)
  d34 : ∀ k,R3.ownBlock = some k → R4.ownBlock ≠ some k
  d35 : ∀ k,R3.ownBlock = some k → R5.ownBlock ≠ some k
  d45 : ∀ k,R4.ownBlock = some k → R5.ownBlock ≠ some k
theorem PrgV.nil (w : World) (lo : Nat) : PrgV w lo (.slice none 0 0) (.slice none 0 0) (.slice none 0 0) (.slice none 0 0) (.slice none 0 0) (.slice none 0 0) [] [] [] [] [] [] :=
  ⟨World.ownsRow_nil _ _ _ _,World.ownsRow_nil _ _ _ _,⟨[],rfl,World.ownsRow_nil _ _ _ _,by simp⟩,World.ownsRow_nil _ _ _ _,World.ownsRow_nil _ _ _ _,World.ownsRow_nil _ _ _ _,(fun k h => by cases h),(fun k h => by cases h),(fun k h => by cases h)⟩
section
variable {w w3 w4 w' : World} {lo b : Nat} {R0 R1 R2 R3 R4 R5 v' : Value} {A : List (ByteArray × Int × ByteArray)} {B : List (ByteArray × Int)} {C : List PRule} {a1 a2 a3 : List Nat} {ob : Obj}
theorem PrgV.mvd (h : PrgV w lo R0 R1 R2 R3 R4 R5 A B C a1 a2 a3) (hm : Mvd b w w') (hb : b < lo) : PrgV w' lo R0 R1 R2 R3 R4 R5 A B C a1 a2 a3 := by
 obtain ⟨L,hL,h2,h3⟩ := h.r2;exact ⟨own_mvd h.r0 hm hb,own_mvd h.r1 hm hb,⟨L,hL,own_mvd h2 hm hb,fun y hy => (h3 y hy).mvd hm hb⟩,own_mvd h.r3 hm hb,own_mvd h.r4 hm hb,own_mvd h.r5 hm hb,h.d34,h.d35,h.d45⟩
theorem PrgV.below (h : PrgV w lo R0 R1 R2 R3 R4 R5 A B C a1 a2 a3) (hm : Below w.heap.size w w') (hlo : 0 < lo) : PrgV w' lo R0 R1 R2 R3 R4 R5 A B C a1 a2 a3 :=
  h.mvd (b := 0) (Mvd.of hm) hlo
theorem ruleV_grown {e : TypeId} {size : Nat} {v : Value} {n : Nat} {xs : List Value} {av bv : Value} {r : PRule} (h : RuleV w3 lo av bv r) (ho : w3.ownsRow lo e size v n xs) (hg : (w3.alloc ob).grownBy w4 v.ownBlock) (hT : e ≠ 57) (hL : e ≠ 59) : RuleV w4 lo av bv r := by
 have h' : RuleV (w3.alloc ob) lo av bv r := by
  obtain ⟨h1,L,h2,h3⟩ := h;exact ⟨h1.alloc ob,L,h2,⟨h3.own.alloc ob,fun y hy => (h3.inner y hy).alloc ob⟩⟩
 have ho' := ho.alloc ob;refine h'.stays hg (fun g cur hc e => ?_) (fun g cur hc e => ?_)
 · exact own_apart ho' hc hT e
 · exact own_apart ho' hc hL e
theorem PrgV.push0 (h : PrgV w3 lo R0 R1 R2 R3 R4 R5 A B C a1 a2 a3) (hg : (w3.alloc ob).grownBy w4 R0.ownBlock) {x : ByteArray × Int × ByteArray} (ho : w4.ownsRow lo 78 3 v' (A.length + 1) (inL A ++ inC x)) :
    PrgV w4 lo v' R1 R2 R3 R4 R5 (A ++ [x]) B C a1 a2 a3 := by
 obtain ⟨L,hL,h2,h3⟩ := h.r2;obtain ⟨t1,t2,t3,t4,t5,-⟩ := typesIO;refine ⟨?_,row_grown h.r1 h.r0 hg t1,⟨L,hL,row_grown h2 h.r0 hg t2,fun y hy => ruleV_grown (h3 y hy) h.r0 hg t4 t5⟩,row_grown h.r3 h.r0 hg t3,row_grown h.r4 h.r0 hg t3,row_grown h.r5 h.r0 hg t3,h.d34,h.d35,h.d45⟩;rw [List.length_append,inL,List.flatMap_append];simpa [inL] using ho
theorem PrgV.push1 (h : PrgV w3 lo R0 R1 R2 R3 R4 R5 A B C a1 a2 a3) (hg : (w3.alloc ob).grownBy w4 R1.ownBlock) {x : ByteArray × Int} (ho : w4.ownsRow lo 80 2 v' (B.length + 1) (outL B ++ outC x)) :
    PrgV w4 lo R0 v' R2 R3 R4 R5 A (B ++ [x]) C a1 a2 a3 := by
 obtain ⟨L,hL,h2,h3⟩ := h.r2;obtain ⟨t1,-,-,-,-,t2,t3,t4,t5,-⟩ := typesIO;refine ⟨row_grown h.r0 h.r1 hg (Ne.symm t1),?_,⟨L,hL,row_grown h2 h.r1 hg t2,fun y hy => ruleV_grown (h3 y hy) h.r1 hg t4 t5⟩,row_grown h.r3 h.r1 hg t3,row_grown h.r4 h.r1 hg t3,row_grown h.r5 h.r1 hg t3,h.d34,h.d35,h.d45⟩;rw [List.length_append,outL,List.flatMap_append];simpa [outL] using ho
/-- the row of rules, with what a new one brings along -/
theorem PrgV.push2 (h : PrgV w3 lo R0 R1 R2 R3 R4 R5 A B C a1 a2 a3) {L : List (PRule × Value × Value)} (hL : L.map (fun y => y.1) = C) (h2 : w3.ownsRow lo 52 3 R2 L.length (ruL L)) (h3 : ∀ y ∈ L,RuleV w3 lo y.2.1 y.2.2 y.1) (hg : (w3.alloc ob).grownBy w4 R2.ownBlock) {x : PRule} {av bv : Value} (hx : RuleV w3 lo av bv x)
    (ho : w4.ownsRow lo 52 3 v' (L.length + 1) (ruL L ++ ruC (x,av,bv))) :
    PrgV w4 lo R0 R1 v' R3 R4 R5 A B (C ++ [x]) a1 a2 a3 := by
 obtain ⟨-,t0,-,-,-,t1,-,-,-,t3,t4,t5,-⟩ := typesIO;refine ⟨row_grown h.r0 h2 hg (Ne.symm t0),row_grown h.r1 h2 hg (Ne.symm t1),⟨L ++ [(x,av,bv)],by rw [List.map_append,hL];rfl,?_,fun y hy => ?_⟩,row_grown h.r3 h2 hg t3,row_grown h.r4 h2 hg t3,row_grown h.r5 h2 hg t3,h.d34,h.d35,h.d45⟩
 · rw [List.length_append,ruL,List.flatMap_append];simpa [ruL] using ho
 · rcases List.mem_append.1 hy with hy | hy
   · exact ruleV_grown (h3 y hy) h2 hg t4 t5
   · simp at hy;subst hy;exact ruleV_grown hx h2 hg t4 t5
theorem PrgV.push3 (h : PrgV w3 lo R0 R1 R2 R3 R4 R5 A B C a1 a2 a3) (hg : (w3.alloc ob).grownBy w4 R3.ownBlock) {x g n cp : Nat} (ho : w4.ownsRow lo 3 1 (.slice (some ⟨g,0,none⟩) n cp) (a1.length + 1) (atL a1 ++ [.int .i64 (x : Int)])) (hat : R3.ownBlock = some g ∨ g = w3.heap.size + 1) :
    PrgV w4 lo R0 R1 R2 (.slice (some ⟨g,0,none⟩) n cp) R4 R5 A B C (a1 ++ [x]) a2 a3 := by
 obtain ⟨L,hL,h2,h3⟩ := h.r2;obtain ⟨-,-,t0,-,-,-,t1,-,-,t2,-,-,t4,t5⟩ := typesIO;refine ⟨row_grown h.r0 h.r3 hg (Ne.symm t0),row_grown h.r1 h.r3 hg (Ne.symm t1),⟨L,hL,row_grown h2 h.r3 hg (Ne.symm t2),fun y hy => ruleV_grown (h3 y hy) h.r3 hg t4 t5⟩,by rw [List.length_append,atL_snoc];exact ho,row_grown' h.r4 hg h.d34,row_grown' h.r5 hg h.d35,?_,?_,h.d45⟩
 · intro k hk;cases hk;exact own_new h.r4 h.d34 hat
 · intro k hk;cases hk;exact own_new h.r5 h.d35 hat
theorem PrgV.push4 (h : PrgV w3 lo R0 R1 R2 R3 R4 R5 A B C a1 a2 a3) (hg : (w3.alloc ob).grownBy w4 R4.ownBlock) {x g n cp : Nat} (ho : w4.ownsRow lo 3 1 (.slice (some ⟨g,0,none⟩) n cp) (a2.length + 1) (atL a2 ++ [.int .i64 (x : Int)])) (hat : R4.ownBlock = some g ∨ g = w3.heap.size + 1) :
    PrgV w4 lo R0 R1 R2 R3 (.slice (some ⟨g,0,none⟩) n cp) R5 A B C a1 (a2 ++ [x]) a3 := by
 obtain ⟨L,hL,h2,h3⟩ := h.r2;obtain ⟨-,-,t0,-,-,-,t1,-,-,t2,-,-,t4,t5⟩ := typesIO;have h43 : ∀ k,R4.ownBlock = some k → R3.ownBlock ≠ some k := fun k h4 h3 => h.d34 k h3 h4
 refine ⟨row_grown h.r0 h.r4 hg (Ne.symm t0),row_grown h.r1 h.r4 hg (Ne.symm t1),⟨L,hL,row_grown h2 h.r4 hg (Ne.symm t2),fun y hy => ruleV_grown (h3 y hy) h.r4 hg t4 t5⟩,row_grown' h.r3 hg h43,by rw [List.length_append,atL_snoc];exact ho,row_grown' h.r5 hg h.d45,?_,h.d35,?_⟩
 · intro k h3 hk;cases hk;exact own_new h.r3 h43 hat h3
 · intro k hk;cases hk;exact own_new h.r5 h.d45 hat
theorem PrgV.push5 (h : PrgV w3 lo R0 R1 R2 R3 R4 R5 A B C a1 a2 a3) (hg : (w3.alloc ob).grownBy w4 R5.ownBlock) {x g n cp : Nat} (ho : w4.ownsRow lo 3 1 (.slice (some ⟨g,0,none⟩) n cp) (a3.length + 1) (atL a3 ++ [.int .i64 (x : Int)])) (hat : R5.ownBlock = some g ∨ g = w3.heap.size + 1) :
    PrgV w4 lo R0 R1 R2 R3 R4 (.slice (some ⟨g,0,none⟩) n cp) A B C a1 a2 (a3 ++ [x]) := by
 obtain ⟨L,hL,h2,h3⟩ := h.r2;obtain ⟨-,-,t0,-,-,-,t1,-,-,t2,-,-,t4,t5⟩ := typesIO;have h53 : ∀ k,R5.ownBlock = some k → R3.ownBlock ≠ some k := fun k h4 h3 => h.d35 k h3 h4;have h54 : ∀ k,R5.ownBlock = some k → R4.ownBlock ≠ some k := fun k h4 h3 => h.d45 k h3 h4
 refine ⟨row_grown h.r0 h.r5 hg (Ne.symm t0),row_grown h.r1 h.r5 hg (Ne.symm t1),⟨L,hL,row_grown h2 h.r5 hg (Ne.symm t2),fun y hy => ruleV_grown (h3 y hy) h.r5 hg t4 t5⟩,row_grown' h.r3 hg h53,row_grown' h.r4 hg h54,by rw [List.length_append,atL_snoc];exact ho,h.d34,?_,?_⟩
 · intro k h3 hk;cases hk;exact own_new h.r3 h53 hat h3
 · intro k h3 hk;cases hk;exact own_new h.r4 h54 hat h3
end
def PrgVS (w : World) (lo : Nat) (R0 R1 R2 R3 R4 R5 : Value) (l : List Stmt) : Prop := PrgV w lo R0 R1 R2 R3 R4 R5 (inpsOf l) (outsOf l) (rulesOf l) (inAts l) (outAts l) (ruAts l)
end Go.Proofs.YtmjincocmhadeaaDoor
/- Parse: the document's reader: an arity. (gen_pes.py) -/
namespace Go.Proofs.YtmjincocmhadeaaDoor
open Go.RowKit Lx
def VNum (_ : World) (v : Value) (x : Int) : Prop := v = .int .i64 x
theorem rArN_yes {L : Bs} {f k : Nat} {n : Int} {q : Nat} (h : digitB (pk L q) = true) : rArN L (f + 1) k n q = if 16 < 10 * n + (pk L q - 48) ∨ (0 < k ∧ n = 0) then .error (q : Int) else rArN L f (k + 1) (10 * n + (pk L q - 48)) (q + 1) := by
 show (if _ then _ else _) = _;rw [if_pos h]
theorem rArN_no {L : Bs} {f k : Nat} {n : Int} {q : Nat} (h : digitB (pk L q) = false) : rArN L (f + 1) k n q = .ok (n,q) := by
 show (if _ then _ else _) = _;rw [if_neg (by rw [h];decide)]
theorem digit_range {c : Int} (h : digitB c = true) : 48 ≤ c ∧ c ≤ 57 := by
 unfold digitB at h;simp at h;omega
theorem re_arity_bad {w : World} {b : Nat} {s : ByteArray} {p : Int} (h : Rd w b s p true) :
    Calls Tryd.prog 59 #[.pointer (some ⟨b,0,none⟩)] w fun e w' => e = .returned (.int .i64 0) ∧ w = w' := by
 obtain ⟨c0,c1,c2,-⟩ := h.cells;go_enter Tryd.func59,Tryd.ntmps59;go_wp2_with fail;go_ret;exact ⟨rfl,rfl⟩
theorem re_arity_no {w : World} {b : Nat} {s : ByteArray} {p : Nat} (h : Rd w b s (p : Int) false) (hd : digitB (pk (bl s) p) = false) :
    Calls Tryd.prog 59 #[.pointer (some ⟨b,0,none⟩)] w (RePost b s w VNum (rArity (bl s) p)) := by
 have hen := fun w h => re_end (w := w) (b := b) (s := s) (p := (p : Int)) (d := false) h;have hpk := fun w h => re_peek (w := w) (b := b) (s := s) (p := (p : Int)) (d := false) h;have hdc : Hid (Drawn w w) := Lh (Drawn.refl w);have hm : Hid (Mvd b w w) := Lh (Mvd.refl _ _);have hqs : (p : Int) ≤ s.size := h.le;have hlen := h.len
 have hst := fun w h => re_stop (w := w) (b := b) (s := s) (p := (p : Int)) h (p : Int) (by omega) hqs;obtain ⟨c0,c1,c2,-⟩ := h.cells;have hR : Hid (rArity (bl s) p = .error (p : Int)) := Lh (by unfold rArity;rw [if_neg (by rw [hd];decide)])
 by_cases hlt : p < s.size
 · rw [show decide ((s.size : Int) ≤ (p : Int)) = false from decide_eq_false (by omega)] at hen;rw [pe_in s p hlt] at hpk;have htest := fun w => r8_digit (pk (bl s) p) w;rw [hd] at htest;clear hd;generalize pk (bl s) p = c at hpk htest;go_enter Tryd.func59,Tryd.ntmps59
   go_wp2_with (first
     | (go_at_call 23;refine (hen _ (h.drawn hdc.out)).mono ?_;rintro e w1 ⟨rfl,hd1⟩;replace hdc := Lh (hdc.out.trans hd1);have hr1 := h.drawn hdc.out;obtain ⟨e0,e1,e2,e3,e4⟩ := hr1.cells;clear hd1)
     | (go_at_call 38;refine (hpk _ (h.drawn hdc.out)).mono ?_;rintro e w1 ⟨rfl,hd1⟩;replace hdc := Lh (hdc.out.trans hd1);have hr1 := h.drawn hdc.out;obtain ⟨e0,e1,e2,e3,e4⟩ := hr1.cells;clear hd1)
     | (go_at_call 72;refine (htest _).mono ?_;rintro e w' ⟨rfl,rfl⟩)
     | (go_at_call 40;refine (hst _ hr1).mono ?_;rintro e w2 ⟨rfl,hr2,hm2⟩;replace hr2 := Lh hr2;replace hm2 := Lh (hm.out.trans ((Mvd.of (hdc.out.below _)).trans hm2))))
   go_ret;rw [hR.out];exact ⟨_,0,rfl,rfl,fun y h => (by cases h),hr2.out,hm2.out⟩
 · rw [show decide ((s.size : Int) ≤ (p : Int)) = true from decide_eq_true (by omega)] at hen;clear hpk hd;go_enter Tryd.func59,Tryd.ntmps59
   go_wp2_with (first
     | (go_at_call 23;refine (hen _ (h.drawn hdc.out)).mono ?_;rintro e w1 ⟨rfl,hd1⟩;replace hdc := Lh (hdc.out.trans hd1);have hr1 := h.drawn hdc.out;obtain ⟨e0,e1,e2,e3,e4⟩ := hr1.cells;clear hd1)
     | (go_at_call 40;refine (hst _ hr1).mono ?_;rintro e w2 ⟨rfl,hr2,hm2⟩;replace hr2 := Lh hr2;replace hm2 := Lh (hm.out.trans ((Mvd.of (hdc.out.below _)).trans hm2))))
   go_ret;rw [hR.out];exact ⟨_,0,rfl,rfl,fun y h => (by cases h),hr2.out,hm2.out⟩
theorem re_arity_go {w : World} {b : Nat} {s : ByteArray} {p : Nat} (h : Rd w b s (p : Int) false) (hd : digitB (pk (bl s) p) = true) :
    Calls Tryd.prog 59 #[.pointer (some ⟨b,0,none⟩)] w (RePost b s w VNum (rArity (bl s) p)) := by
 have hd0 := Lh hd
 have hlt : p < s.size := by
  rcases Nat.lt_or_ge p s.size with h1 | h1
  · exact h1
  · rw [(pe_out s p (by omega)).2] at hd;cases hd
 have hen := fun w h => re_end (w := w) (b := b) (s := s) (p := (p : Int)) (d := false) h;have hpk := fun w h => re_peek (w := w) (b := b) (s := s) (p := (p : Int)) (d := false) h;have hdc : Hid (Drawn w w) := Lh (Drawn.refl w);have hm : Hid (Mvd b w w) := Lh (Mvd.refl _ _);have hqs : (p : Int) ≤ s.size := h.le;have hlen := h.len
 have hst := fun w h => re_stop (w := w) (b := b) (s := s) (p := (p : Int)) h (p : Int) (by omega) hqs;obtain ⟨c0,c1,c2,-⟩ := h.cells;rw [show decide ((s.size : Int) ≤ (p : Int)) = false from decide_eq_false (by omega)] at hen;rw [pe_in s p hlt] at hpk;have htest := fun w => r8_digit (pk (bl s) p) w;rw [hd] at htest;clear hd hst;generalize pk (bl s) p = cz at hpk htest
 go_enter Tryd.func59,Tryd.ntmps59
 go_wp2_with (first
   | (go_at_call 23;refine (hen _ (h.drawn hdc.out)).mono ?_;rintro e w1 ⟨rfl,hd1⟩;replace hdc := Lh (hdc.out.trans hd1);have hr1 := h.drawn hdc.out;obtain ⟨e0,e1,e2,e3,e4⟩ := hr1.cells;clear hd1)
   | (go_at_call 38;refine (hpk _ (h.drawn hdc.out)).mono ?_;rintro e w1 ⟨rfl,hd1⟩;replace hdc := Lh (hdc.out.trans hd1);have hr1 := h.drawn hdc.out;obtain ⟨e0,e1,e2,e3,e4⟩ := hr1.cells;clear hd1)
   | (go_at_call 72;refine (htest _).mono ?_;rintro e w' ⟨rfl,rfl⟩))
 have hrw := Lh hr1;have hmw := Lh (hm.out.trans (Mvd.of (b := b) (hdc.out.below _)));clear hr1 e0 e1 e2 e3 e4 c0 c1 c2 hen hpk htest hdc hm hqs
 go_loopw [3,5] (fun nv _ wr => ∃ k q : Nat,q = p + k ∧ ∃ n : Int,((k = 0 ∧ n = 0) ∨ (k = 1 ∧ 0 ≤ n ∧ n ≤ 9) ∨ (k = 2 ∧ 10 ≤ n ∧ n ≤ 16)) ∧ nv = .int .i64 n ∧ Hid (rArN (bl s) 4 0 0 p = rArN (bl s) (4 - k) k n q) ∧ Hid (Rd wr b s (q : Int) false) ∧ Hid (Mvd b w wr)) (fun _ _ wr => s.size - placeOf wr b)
 case atStart => exact ⟨0,p,rfl,0,.inl ⟨rfl,rfl⟩,rfl,Lh rfl,hrw,hmw⟩
 case round =>
  clear hrw hmw;obtain ⟨k,q,hqk,n,hkn,rfl,hA,hr,hm⟩ := hrel;have hmq := Lh (placeOf_rd hr.out);obtain ⟨c0,c1,c2,-⟩ := hr.out.cells;have hen := fun w h => re_end (w := w) (b := b) (s := s) (p := (q : Int)) (d := false) h;have hpk := fun w h => re_peek (w := w) (b := b) (s := s) (p := (q : Int)) (d := false) h
  have hwo := fun w h => re_wordly (w := w) (b := b) (s := s) (p := q) h;have hdc : Hid (Drawn wr wr) := Lh (Drawn.refl wr);have hqs : (q : Int) ≤ s.size := hr.out.le;have hst := fun w h => re_stop (w := w) (b := b) (s := s) (p := (q : Int)) h (q : Int) (by omega) hqs;have hn0 : 0 ≤ n := by omega
  have hn16 : n ≤ 16 := by omega
  obtain ⟨f,hf⟩ : ∃ f,4 - k = f + 1 := ⟨3 - k,by omega⟩
  cases hdq : digitB (pk (bl s) q) with
  | true =>
   have hsz : q < s.size := by
    rcases Nat.lt_or_ge q s.size with h1 | h1
    · exact h1
    · rw [(pe_out s q (by omega)).2] at hdq;cases hdq
   obtain ⟨hc48,hc57⟩ := digit_range hdq;have hstep := Lh fun (w : World) (h : Rd w b s (q : Int) false) => h.move ((q : Int) + 1) (by omega) (by omega);rw [show decide ((s.size : Int) ≤ (q : Int)) = false from decide_eq_false (by omega)] at hen;rw [pe_in s q hsz] at hpk;have htest := fun w => r8_digit (pk (bl s) q) w;have hAq := hA.out;rw [hf,rArN_yes hdq] at hAq
   rw [hdq] at htest;clear hdq hA;generalize pk (bl s) q = c at hpk htest hc48 hc57 hAq;have hw8 : IntKind.u8.wrap (c - 48) = c - 48 := by rw [IntKind.wrap_u8];omega
   rcases hkn with ⟨rfl,rfl⟩ | ⟨rfl,hn1,hn9⟩ | ⟨rfl,hn1,-⟩
   · have hm16 : ¬ 16 < 10 * (0 : Int) + (c - 48) := by omega
     rw [if_neg (by omega)] at hAq;have hnext : Hid _ := Lh hAq;clear hAq;obtain rfl : f = 3 := by omega
     obtain rfl : q = p := by omega
     clear hqk;clear hst hwo
     go_wp2_with (first
       | (go_at_call 23;refine (hen _ (hr.out.drawn hdc.out)).mono ?_;rintro e w1 ⟨rfl,hd1⟩;replace hdc := Lh (hdc.out.trans hd1);have hr1 := hr.out.drawn hdc.out;obtain ⟨e0,e1,e2,e3,e4⟩ := hr1.cells;clear hd1)
       | (go_at_call 38;refine (hpk _ (hr.out.drawn hdc.out)).mono ?_;rintro e w1 ⟨rfl,hd1⟩;replace hdc := Lh (hdc.out.trans hd1);have hr1 := hr.out.drawn hdc.out;obtain ⟨e0,e1,e2,e3,e4⟩ := hr1.cells;clear hd1)
       | (go_at_call 72;refine (htest _).mono ?_;rintro e w' ⟨rfl,rfl⟩))
     have hr3 := Lh (hstep.out _ hr1);have hm3 := Lh ((hm.out.trans (Mvd.of (hdc.out.below _))).trans ((Mvd.refl b _).set 1 (.int .i64 ((q : Int) + 1))));go_roundw
     case rel => exact ⟨1,q + 1,by omega,10 * 0 + (c - 48),by omega,by go_num,hnext,hr3,hm3⟩
     case measure =>
      have h2 : Rd _ b s ((q + 1 : Nat) : Int) false := hr3.out;rw [placeOf_rd h2,hmq.out];omega
   · have hpq : (p : Int) < (q : Int) := by omega
     replace hqk := Lh hqk
     by_cases hn : n = 0
     · subst hn;have hm16 : ¬ 16 < 10 * (0 : Int) + (c - 48) := by omega
       rw [if_pos (.inr ⟨by omega,rfl⟩)] at hAq;have hR : Hid (rArity (bl s) p = .error (q : Int)) := Lh (by unfold rArity;rw [if_pos hd0.out,hAq];rfl);clear hAq;clear hwo hstep
       go_wp2_with (first
         | (go_at_call 23;refine (hen _ (hr.out.drawn hdc.out)).mono ?_;rintro e w1 ⟨rfl,hd1⟩;replace hdc := Lh (hdc.out.trans hd1);have hr1 := hr.out.drawn hdc.out;obtain ⟨e0,e1,e2,e3,e4⟩ := hr1.cells;clear hd1)
         | (go_at_call 38;refine (hpk _ (hr.out.drawn hdc.out)).mono ?_;rintro e w1 ⟨rfl,hd1⟩;replace hdc := Lh (hdc.out.trans hd1);have hr1 := hr.out.drawn hdc.out;obtain ⟨e0,e1,e2,e3,e4⟩ := hr1.cells;clear hd1)
         | (go_at_call 72;refine (htest _).mono ?_;rintro e w' ⟨rfl,rfl⟩)
         | (go_at_call 40;refine (hst _ hr1).mono ?_;rintro e w2 ⟨rfl,hr2,hm2⟩;replace hr2 := Lh hr2;replace hm2 := Lh (hm.out.trans ((Mvd.of (hdc.out.below _)).trans hm2))))
       go_ret;rw [hR.out];exact ⟨_,0,rfl,rfl,fun y h => (by cases h),hr2.out,hm2.out⟩
     · have hn' : (n == 0) = false := by rw [beq_eq_false_iff_ne];exact hn
       by_cases hm16 : 16 < 10 * n + (c - 48)
       · rw [if_pos (.inl hm16)] at hAq;have hR : Hid (rArity (bl s) p = .error (q : Int)) := Lh (by unfold rArity;rw [if_pos hd0.out,hAq];rfl);clear hAq;clear hwo hstep
         go_wp2_with (first
           | (go_at_call 23;refine (hen _ (hr.out.drawn hdc.out)).mono ?_;rintro e w1 ⟨rfl,hd1⟩;replace hdc := Lh (hdc.out.trans hd1);have hr1 := hr.out.drawn hdc.out;obtain ⟨e0,e1,e2,e3,e4⟩ := hr1.cells;clear hd1)
           | (go_at_call 38;refine (hpk _ (hr.out.drawn hdc.out)).mono ?_;rintro e w1 ⟨rfl,hd1⟩;replace hdc := Lh (hdc.out.trans hd1);have hr1 := hr.out.drawn hdc.out;obtain ⟨e0,e1,e2,e3,e4⟩ := hr1.cells;clear hd1)
           | (go_at_call 72;refine (htest _).mono ?_;rintro e w' ⟨rfl,rfl⟩)
           | (go_at_call 40;refine (hst _ hr1).mono ?_;rintro e w2 ⟨rfl,hr2,hm2⟩;replace hr2 := Lh hr2;replace hm2 := Lh (hm.out.trans ((Mvd.of (hdc.out.below _)).trans hm2))))
         go_ret;rw [hR.out];exact ⟨_,0,rfl,rfl,fun y h => (by cases h),hr2.out,hm2.out⟩
       · rw [if_neg (by omega)] at hAq;have hnext : Hid _ := Lh hAq;clear hAq;obtain rfl : f = 2 := by omega
         clear hst hwo
         go_wp2_with (first
           | (go_at_call 23;refine (hen _ (hr.out.drawn hdc.out)).mono ?_;rintro e w1 ⟨rfl,hd1⟩;replace hdc := Lh (hdc.out.trans hd1);have hr1 := hr.out.drawn hdc.out;obtain ⟨e0,e1,e2,e3,e4⟩ := hr1.cells;clear hd1)
           | (go_at_call 38;refine (hpk _ (hr.out.drawn hdc.out)).mono ?_;rintro e w1 ⟨rfl,hd1⟩;replace hdc := Lh (hdc.out.trans hd1);have hr1 := hr.out.drawn hdc.out;obtain ⟨e0,e1,e2,e3,e4⟩ := hr1.cells;clear hd1)
           | (go_at_call 72;refine (htest _).mono ?_;rintro e w' ⟨rfl,rfl⟩))
         have hr3 := Lh (hstep.out _ hr1);have hm3 := Lh ((hm.out.trans (Mvd.of (hdc.out.below _))).trans ((Mvd.refl b _).set 1 (.int .i64 ((q : Int) + 1))));go_roundw
         case rel => exact ⟨2,q + 1,by have := hqk.out;omega,10 * n + (c - 48),by omega,by go_num,hnext,hr3,hm3⟩
         case measure =>
          have h2 : Rd _ b s ((q + 1 : Nat) : Int) false := hr3.out;rw [placeOf_rd h2,hmq.out];omega
   · have hpq : (p : Int) < (q : Int) := by omega
     replace hqk := Lh hqk;have hm16 : 16 < 10 * n + (c - 48) := by omega
     rw [if_pos (.inl hm16)] at hAq;have hR : Hid (rArity (bl s) p = .error (q : Int)) := Lh (by unfold rArity;rw [if_pos hd0.out,hAq];rfl);clear hAq;clear hwo hstep
     go_wp2_with (first
       | (go_at_call 23;refine (hen _ (hr.out.drawn hdc.out)).mono ?_;rintro e w1 ⟨rfl,hd1⟩;replace hdc := Lh (hdc.out.trans hd1);have hr1 := hr.out.drawn hdc.out;obtain ⟨e0,e1,e2,e3,e4⟩ := hr1.cells;clear hd1)
       | (go_at_call 38;refine (hpk _ (hr.out.drawn hdc.out)).mono ?_;rintro e w1 ⟨rfl,hd1⟩;replace hdc := Lh (hdc.out.trans hd1);have hr1 := hr.out.drawn hdc.out;obtain ⟨e0,e1,e2,e3,e4⟩ := hr1.cells;clear hd1)
       | (go_at_call 72;refine (htest _).mono ?_;rintro e w' ⟨rfl,rfl⟩)
       | (go_at_call 40;refine (hst _ hr1).mono ?_;rintro e w2 ⟨rfl,hr2,hm2⟩;replace hr2 := Lh hr2;replace hm2 := Lh (hm.out.trans ((Mvd.of (hdc.out.below _)).trans hm2))))
     go_ret;rw [hR.out];exact ⟨_,0,rfl,rfl,fun y h => (by cases h),hr2.out,hm2.out⟩
  | false =>
   replace hqk := Lh hqk;have hAq : Hid (rArN (bl s) 4 0 0 p = .ok (n,q)) := Lh (by rw [hA.out,hf,rArN_no hdq]);clear hA
   by_cases hsz : q < s.size
   · rw [show decide ((s.size : Int) ≤ (q : Int)) = false from decide_eq_false (by omega)] at hen;rw [pe_in s q hsz] at hpk;have htest := fun w => r8_digit (pk (bl s) q) w;rw [hdq] at htest;clear hdq;generalize hcc : pk (bl s) q = c at hpk htest;clear hcc;have hR0 : rArN (bl s) 4 0 0 p = .ok (n,q) := hAq.out
     cases hw : wordlyI (pk (bl s) q) with
     | true =>
      have hR : Hid (rArity (bl s) p = .error (q : Int)) := Lh (by unfold rArity;rw [if_pos hd0.out,hR0];show (if _ then _ else _) = _;rw [if_pos hw]);rw [hw] at hwo;clear hw hR0
      go_wp2_with (first
        | (go_at_call 23;refine (hen _ (hr.out.drawn hdc.out)).mono ?_;rintro e w1 ⟨rfl,hd1⟩;replace hdc := Lh (hdc.out.trans hd1);have hr1 := hr.out.drawn hdc.out;obtain ⟨e0,e1,e2,e3,e4⟩ := hr1.cells;clear hd1)
        | (go_at_call 38;refine (hpk _ (hr.out.drawn hdc.out)).mono ?_;rintro e w1 ⟨rfl,hd1⟩;replace hdc := Lh (hdc.out.trans hd1);have hr1 := hr.out.drawn hdc.out;obtain ⟨e0,e1,e2,e3,e4⟩ := hr1.cells;clear hd1)
        | (go_at_call 72;refine (htest _).mono ?_;rintro e w' ⟨rfl,rfl⟩)
        | (go_at_call 57;refine (hwo _ (hr.out.drawn hdc.out)).mono ?_;rintro e w1 ⟨rfl,hd1⟩;replace hdc := Lh (hdc.out.trans hd1);have hr1 := hr.out.drawn hdc.out;obtain ⟨e0,e1,e2,e3,e4⟩ := hr1.cells;clear hd1)
        | (go_at_call 40;refine (hst _ hr1).mono ?_;rintro e w2 ⟨rfl,hr2,hm2⟩;replace hr2 := Lh hr2;replace hm2 := Lh (hm.out.trans ((Mvd.of (hdc.out.below _)).trans hm2))))
      go_ret;rw [hR.out];exact ⟨_,n,rfl,rfl,fun y h => (by cases h),hr2.out,hm2.out⟩
     | false =>
      have hR : Hid (rArity (bl s) p = .ok (n,q)) := Lh (by unfold rArity;rw [if_pos hd0.out,hR0];show (if _ then _ else _) = _;rw [if_neg (by rw [hw];decide)]);rw [hw] at hwo;clear hw hR0 hst
      go_wp2_with (first
        | (go_at_call 23;refine (hen _ (hr.out.drawn hdc.out)).mono ?_;rintro e w1 ⟨rfl,hd1⟩;replace hdc := Lh (hdc.out.trans hd1);have hr1 := hr.out.drawn hdc.out;obtain ⟨e0,e1,e2,e3,e4⟩ := hr1.cells;clear hd1)
        | (go_at_call 38;refine (hpk _ (hr.out.drawn hdc.out)).mono ?_;rintro e w1 ⟨rfl,hd1⟩;replace hdc := Lh (hdc.out.trans hd1);have hr1 := hr.out.drawn hdc.out;obtain ⟨e0,e1,e2,e3,e4⟩ := hr1.cells;clear hd1)
        | (go_at_call 72;refine (htest _).mono ?_;rintro e w' ⟨rfl,rfl⟩)
        | (go_at_call 57;refine (hwo _ (hr.out.drawn hdc.out)).mono ?_;rintro e w1 ⟨rfl,hd1⟩;replace hdc := Lh (hdc.out.trans hd1);have hr1 := hr.out.drawn hdc.out;obtain ⟨e0,e1,e2,e3,e4⟩ := hr1.cells;clear hd1))
      go_ret;rw [hR.out];exact ⟨_,n,rfl,rfl,fun y h => (by injection h with h;rw [← h]),hr1,hm.out.trans (Mvd.of (hdc.out.below _))⟩
   · rw [show decide ((s.size : Int) ≤ (q : Int)) = true from decide_eq_true (by omega)] at hen;clear hpk hdq;have hR0 : rArN (bl s) 4 0 0 p = .ok (n,q) := hAq.out
     cases hw : wordlyI (pk (bl s) q) with
     | true =>
      have hR : Hid (rArity (bl s) p = .error (q : Int)) := Lh (by unfold rArity;rw [if_pos hd0.out,hR0];show (if _ then _ else _) = _;rw [if_pos hw]);rw [hw] at hwo;clear hw hR0
      go_wp2_with (first
        | (go_at_call 23;refine (hen _ (hr.out.drawn hdc.out)).mono ?_;rintro e w1 ⟨rfl,hd1⟩;replace hdc := Lh (hdc.out.trans hd1);have hr1 := hr.out.drawn hdc.out;obtain ⟨e0,e1,e2,e3,e4⟩ := hr1.cells;clear hd1)
        | (go_at_call 57;refine (hwo _ (hr.out.drawn hdc.out)).mono ?_;rintro e w1 ⟨rfl,hd1⟩;replace hdc := Lh (hdc.out.trans hd1);have hr1 := hr.out.drawn hdc.out;obtain ⟨e0,e1,e2,e3,e4⟩ := hr1.cells;clear hd1)
        | (go_at_call 40;refine (hst _ hr1).mono ?_;rintro e w2 ⟨rfl,hr2,hm2⟩;replace hr2 := Lh hr2;replace hm2 := Lh (hm.out.trans ((Mvd.of (hdc.out.below _)).trans hm2))))
      go_ret;rw [hR.out];exact ⟨_,n,rfl,rfl,fun y h => (by cases h),hr2.out,hm2.out⟩
     | false =>
      have hR : Hid (rArity (bl s) p = .ok (n,q)) := Lh (by unfold rArity;rw [if_pos hd0.out,hR0];show (if _ then _ else _) = _;rw [if_neg (by rw [hw];decide)]);rw [hw] at hwo;clear hw hR0 hst
      go_wp2_with (first
        | (go_at_call 23;refine (hen _ (hr.out.drawn hdc.out)).mono ?_;rintro e w1 ⟨rfl,hd1⟩;replace hdc := Lh (hdc.out.trans hd1);have hr1 := hr.out.drawn hdc.out;obtain ⟨e0,e1,e2,e3,e4⟩ := hr1.cells;clear hd1)
        | (go_at_call 57;refine (hwo _ (hr.out.drawn hdc.out)).mono ?_;rintro e w1 ⟨rfl,hd1⟩;replace hdc := Lh (hdc.out.trans hd1);have hr1 := hr.out.drawn hdc.out;obtain ⟨e0,e1,e2,e3,e4⟩ := hr1.cells;clear hd1))
      go_ret;rw [hR.out];exact ⟨_,n,rfl,rfl,fun y h => (by injection h with h;rw [← h]),hr1,hm.out.trans (Mvd.of (hdc.out.below _))⟩
theorem re_arity {w : World} {b : Nat} {s : ByteArray} {S : Except Int Nat} (h : Rs w b s S) :
    Calls Tryd.prog 59 #[.pointer (some ⟨b,0,none⟩)] w (RePost b s w VNum (S.bind (rArity (bl s)))) := by
 cases S with
 | error x => exact (re_arity_bad h).mono fun e w' ⟨h1,h2⟩ => ⟨_,0,h1,rfl,fun y h => (by cases h),h2 ▸ h,h2 ▸ Mvd.refl _ _⟩
 | ok p =>
  cases hd : digitB (pk (bl s) p) with
  | true => exact re_arity_go h hd
  | false => exact re_arity_no h hd
end Go.Proofs.YtmjincocmhadeaaDoor
/- Parse: the document's reader: a name, a slash, an arity. (gen_pet.py) -/
namespace Go.Proofs.YtmjincocmhadeaaDoor
open Go.RowKit Lx
def VSlash (_ : World) (v : Value) (x : ByteArray × Int) : Prop := v = .tuple #[.string x.1,.int .i64 x.2]
def rSlashOf (L : Bs) (S : Except Int Nat) : Except Int ((ByteArray × Int) × Nat) :=
  (S.bind (rName L)).bind fun x => (rSign 47 L (rSkip L x.2)).bind fun r => (rArity L (rSkip L r)).bind fun n => .ok ((mk x.1,n.1),rSkip L n.2)
theorem slash_true {L : Bs} {q : Nat} (h : wordlyI (pk L q) = true) : rSlash L q = rSlashOf L (.error q) := by
 unfold rSlash;rw [if_pos h];rfl
theorem slash_false {L : Bs} {q : Nat} (h : wordlyI (pk L q) = false) : rSlash L q = rSlashOf L (.ok (rSkip L q)) := by
 unfold rSlash;rw [if_neg (by rw [h];decide)];rfl
theorem slash_parts {L : Bs} {S0 S2 S3 S4 : Except Int Nat} {S1 : Except Int (Bs × Nat)} {S5 : Except Int (Int × Nat)} (h1 : S1 = S0.bind (rName L)) (h2 : S2 = (S1.map (·.2)).map (rSkip L)) (h3 : S3 = S2.bind (rSign 47 L)) (h4 : S4 = S3.map (rSkip L)) (h5 : S5 = S4.bind (rArity L)) :
    (rSlashOf L S0).map (·.2) = (S5.map (·.2)).map (rSkip L) ∧ ∀ y,rSlashOf L S0 = .ok y → ∃ y1 y5,S1 = .ok y1 ∧ S5 = .ok y5 ∧ y.1 = (mk y1.1,y5.1) := by
 unfold rSlashOf;rw [← h1];clear h1;subst h2 h3 h4 h5
 cases S1 with
 | error x => exact ⟨rfl,fun y h => by cases h⟩
 | ok x1 =>
  show ((rSign 47 L (rSkip L x1.2)).bind _).map _ = _ ∧ _
  cases hs : rSign 47 L (rSkip L x1.2) with
  | error x =>
   have e : ((((Except.ok x1 : Except Int (Bs × Nat)).map (·.2)).map (rSkip L)).bind (rSign 47 L)) = .error x := hs;rw [e];exact ⟨rfl,fun y h => by rw [show (Except.ok x1 : Except Int (Bs × Nat)).bind _ = (rSign 47 L (rSkip L x1.2)).bind _ from rfl,hs] at h;cases h⟩
  | ok r =>
   have e : ((((Except.ok x1 : Except Int (Bs × Nat)).map (·.2)).map (rSkip L)).bind (rSign 47 L)) = .ok r := hs;rw [e];show ((rArity L (rSkip L r)).bind _).map _ = (((rArity L (rSkip L r))).map _).map _ ∧ _
   cases ha : rArity L (rSkip L r) with
   | error x => exact ⟨rfl,fun y h => by rw [show (Except.ok x1 : Except Int (Bs × Nat)).bind _ = (rSign 47 L (rSkip L x1.2)).bind _ from rfl,hs,show (Except.ok r : Except Int Nat).bind _ = (rArity L (rSkip L r)).bind _ from rfl,ha] at h;cases h⟩
   | ok n =>
    refine ⟨rfl,fun y h => ⟨x1,n,rfl,ha,?_⟩⟩;rw [show (Except.ok x1 : Except Int (Bs × Nat)).bind _ = (rSign 47 L (rSkip L x1.2)).bind _ from rfl,hs,show (Except.ok r : Except Int Nat).bind _ = (rArity L (rSkip L r)).bind _ from rfl,ha] at h;injection h with h;rw [← h]
theorem re_slash_no {w : World} {b : Nat} {s : ByteArray} {p : Nat} (h : Rd w b s (p : Int) false) (hw : wordlyI (pk (bl s) p) = true) :
    Calls Tryd.prog 42 #[.pointer (some ⟨b,0,none⟩),.int .i64 (p : Int)] w (RePost b s w VSlash (rSlash (bl s) p)) := by
 have hR := Lh (slash_true hw);have hsk := word_skip hw;have hle := h.le;have hwo := fun wA h => re_wordly (w := wA) (b := b) (s := s) (p := p) h;rw [hw] at hwo;have hsk1 := fun wA h => re_skip_ok (w := wA) (b := b) (s := s) (p := p) h;rw [hsk] at hsk1;have hst := fun wA h => re_stop (w := wA) (b := b) (s := s) (p := (p : Int)) h (p : Int) (by omega) hle;replace hwo := Lh hwo
 replace hsk1 := Lh hsk1;replace hst := Lh hst;clear hw hsk;obtain ⟨S1,hS1⟩ : ∃ S1,S1 = (.error (p : Int) : Except Int Nat).bind (rName (bl s)) := ⟨_,rfl⟩;obtain ⟨S2,hS2⟩ : ∃ S2,S2 = (S1.map (·.2)).map (rSkip (bl s)) := ⟨_,rfl⟩;obtain ⟨S3,hS3⟩ : ∃ S3,S3 = S2.bind (rSign 47 (bl s)) := ⟨_,rfl⟩;obtain ⟨S4,hS4⟩ : ∃ S4,S4 = S3.map (rSkip (bl s)) := ⟨_,rfl⟩
 obtain ⟨S5,hS5⟩ : ∃ S5,S5 = S4.bind (rArity (bl s)) := ⟨_,rfl⟩;have hpt := Lh (slash_parts hS1 hS2 hS3 hS4 hS5);have hnm := fun wA h => re_name (w := wA) (b := b) (s := s) (S := .error (p : Int)) h;rw [← hS1] at hnm;have hsk2 := fun wA h => re_skip (w := wA) (b := b) (s := s) (S := S1.map (·.2)) h;rw [← hS2] at hsk2
 have hsg := fun wA h => re_sign (w := wA) (b := b) (s := s) (S := S2) 47 (by decide) h;rw [← hS3] at hsg;have hsk3 := fun wA h => re_skip (w := wA) (b := b) (s := s) (S := S3) h;rw [← hS4] at hsk3;have har := fun wA h => re_arity (w := wA) (b := b) (s := s) (S := S4) h;rw [← hS5] at har;have hsk4 := fun wA h => re_skip (w := wA) (b := b) (s := s) (S := S5.map (·.2)) h
 unfold RePost at hnm har;replace hnm := Lh hnm;replace hsk2 := Lh hsk2;replace hsg := Lh hsg;replace hsk3 := Lh hsk3;replace har := Lh har;replace hsk4 := Lh hsk4;clear hS1 hS2 hS3 hS4 hS5;go_enter Tryd.func42,Tryd.ntmps42
 go_wp2_with (first
   | (go_at_call 22;refine (hsk1.out _ h).mono ?_;rintro e w1 ⟨rfl,hr1,hm1⟩;obtain ⟨c0,c1,c2,-⟩ := hr1.cells;replace hm1 := Lh hm1;have hrA : Hid (Rs w1 b s (.ok p)) := Lh hr1;have hmA := hm1;clear hsk1)
   | (go_at_call 57;refine (hwo.out _ hr1).mono ?_;rintro e w2 ⟨rfl,hd2⟩;have hr2 := hr1.drawn hd2;obtain ⟨e0,e1,e2,-⟩ := hr2.cells;replace hm1 := Lh (hm1.out.trans (Mvd.of (hd2.below _)));replace hrA : Hid (Rs w2 b s (.ok p)) := Lh hr2;replace hmA := hm1;clear hd2)
   | (go_at_call 40;refine (hst.out _ hr2).mono ?_;rintro e w3 ⟨rfl,hr3,hm3⟩;replace hrA : Hid (Rs w3 b s (.error (p : Int))) := Lh hr3;replace hmA := Lh (hm1.out.trans hm3);clear hm3 hr3)
   | (go_at_call 58;refine (hnm.out _ hrA.out).mono ?_;rintro e w4 ⟨v4,x4,rfl,hv4,hx40,hr40,hm40⟩;unfold VStr at hv4;subst hv4;have hx4 := Lh hx40;have hr4 := Lh hr40;have hm4 := Lh (hmA.out.trans hm40);clear hx40 hr40 hm40)
   | (go_at_call 22;have hg := hr4;refine (hsk2.out _ hr4.out).mono ?_;rintro e w5 ⟨rfl,hr50,hm50⟩;have hr5 := Lh hr50;have hm5 := Lh (hm4.out.trans hm50);clear hg hr50 hm50 hsk2)
   | (go_at_call 44;have hg := hr5;refine (hsg.out _ hr5.out).mono ?_;rintro e w6 ⟨rfl,hr60,hm60⟩;have hr6 := Lh hr60;have hm6 := Lh (hm5.out.trans hm60);clear hg hr60 hm60 hsg)
   | (go_at_call 22;have hg := hr6;refine (hsk3.out _ hr6.out).mono ?_;rintro e w7 ⟨rfl,hr70,hm70⟩;have hr7 := Lh hr70;have hm7 := Lh (hm6.out.trans hm70);clear hg hr70 hm70 hsk3)
   | (go_at_call 59;refine (har.out _ hr7.out).mono ?_;rintro e w8 ⟨v8,x8,rfl,hv8,hx80,hr80,hm80⟩;unfold VNum at hv8;subst hv8;have hx8 := Lh hx80;have hr8 := Lh hr80;have hm8 := Lh (hm7.out.trans hm80);clear hx80 hr80 hm80)
   | (go_at_call 22;have hg := hr8;refine (hsk4.out _ hr8.out).mono ?_;rintro e w9 ⟨rfl,hr90,hm90⟩;have hr9 := Lh hr90;have hm9 := Lh (hm8.out.trans hm90);clear hg hr90 hm90 hsk4))
 ((try simp only [Exit.inBlock,Exit.then]);refine bodyPost_ret (results_tmp2 rfl _ _ _) rfl ?_)
 rw [hR.out];refine ⟨_,(mk x4,x8),rfl,rfl,fun y hy => ?_,?_,hm9.out⟩
 · obtain ⟨y1,y5,e1,e5,e⟩ := hpt.out.2 y hy;rw [e,hx4.out _ e1,hx8.out _ e5]
 · rw [hpt.out.1];exact hr9.out
theorem re_slash_on {w : World} {b : Nat} {s : ByteArray} {p : Nat} (h : Rd w b s (p : Int) false) (hw : wordlyI (pk (bl s) p) = false) (hsk : rSkip (bl s) p = p) :
    Calls Tryd.prog 42 #[.pointer (some ⟨b,0,none⟩),.int .i64 (p : Int)] w (RePost b s w VSlash (rSlash (bl s) p)) := by
 have hR := Lh (slash_false hw);have hwo := fun wA h => re_wordly (w := wA) (b := b) (s := s) (p := p) h;rw [hw] at hwo;have hsk1 := fun wA h => re_skip_ok (w := wA) (b := b) (s := s) (p := p) h;rw [hsk] at hsk1 hR;replace hwo := Lh hwo;replace hsk1 := Lh hsk1;clear hw hsk;obtain ⟨S1,hS1⟩ : ∃ S1,S1 = (.ok p : Except Int Nat).bind (rName (bl s)) := ⟨_,rfl⟩
 obtain ⟨S2,hS2⟩ : ∃ S2,S2 = (S1.map (·.2)).map (rSkip (bl s)) := ⟨_,rfl⟩;obtain ⟨S3,hS3⟩ : ∃ S3,S3 = S2.bind (rSign 47 (bl s)) := ⟨_,rfl⟩;obtain ⟨S4,hS4⟩ : ∃ S4,S4 = S3.map (rSkip (bl s)) := ⟨_,rfl⟩;obtain ⟨S5,hS5⟩ : ∃ S5,S5 = S4.bind (rArity (bl s)) := ⟨_,rfl⟩;have hpt := Lh (slash_parts hS1 hS2 hS3 hS4 hS5)
 have hnm := fun wA h => re_name (w := wA) (b := b) (s := s) (S := .ok p) h;rw [← hS1] at hnm;have hsk2 := fun wA h => re_skip (w := wA) (b := b) (s := s) (S := S1.map (·.2)) h;rw [← hS2] at hsk2;have hsg := fun wA h => re_sign (w := wA) (b := b) (s := s) (S := S2) 47 (by decide) h;rw [← hS3] at hsg;have hsk3 := fun wA h => re_skip (w := wA) (b := b) (s := s) (S := S3) h;rw [← hS4] at hsk3
 have har := fun wA h => re_arity (w := wA) (b := b) (s := s) (S := S4) h;rw [← hS5] at har;have hsk4 := fun wA h => re_skip (w := wA) (b := b) (s := s) (S := S5.map (·.2)) h;unfold RePost at hnm har;replace hnm := Lh hnm;replace hsk2 := Lh hsk2;replace hsg := Lh hsg;replace hsk3 := Lh hsk3;replace har := Lh har;replace hsk4 := Lh hsk4
 clear hS1 hS2 hS3 hS4 hS5;go_enter Tryd.func42,Tryd.ntmps42
 go_wp2_with (first
   | (go_at_call 22;refine (hsk1.out _ h).mono ?_;rintro e w1 ⟨rfl,hr1,hm1⟩;obtain ⟨c0,c1,c2,-⟩ := hr1.cells;replace hm1 := Lh hm1;have hrA : Hid (Rs w1 b s (.ok p)) := Lh hr1;have hmA := hm1;clear hsk1)
   | (go_at_call 57;refine (hwo.out _ hr1).mono ?_;rintro e w2 ⟨rfl,hd2⟩;have hr2 := hr1.drawn hd2;obtain ⟨e0,e1,e2,-⟩ := hr2.cells;replace hm1 := Lh (hm1.out.trans (Mvd.of (hd2.below _)));replace hrA : Hid (Rs w2 b s (.ok p)) := Lh hr2;replace hmA := hm1;clear hd2)
   | (go_at_call 58;refine (hnm.out _ hrA.out).mono ?_;rintro e w4 ⟨v4,x4,rfl,hv4,hx40,hr40,hm40⟩;unfold VStr at hv4;subst hv4;have hx4 := Lh hx40;have hr4 := Lh hr40;have hm4 := Lh (hmA.out.trans hm40);clear hx40 hr40 hm40)
   | (go_at_call 22;have hg := hr4;refine (hsk2.out _ hr4.out).mono ?_;rintro e w5 ⟨rfl,hr50,hm50⟩;have hr5 := Lh hr50;have hm5 := Lh (hm4.out.trans hm50);clear hg hr50 hm50 hsk2)
   | (go_at_call 44;have hg := hr5;refine (hsg.out _ hr5.out).mono ?_;rintro e w6 ⟨rfl,hr60,hm60⟩;have hr6 := Lh hr60;have hm6 := Lh (hm5.out.trans hm60);clear hg hr60 hm60 hsg)
   | (go_at_call 22;have hg := hr6;refine (hsk3.out _ hr6.out).mono ?_;rintro e w7 ⟨rfl,hr70,hm70⟩;have hr7 := Lh hr70;have hm7 := Lh (hm6.out.trans hm70);clear hg hr70 hm70 hsk3)
   | (go_at_call 59;refine (har.out _ hr7.out).mono ?_;rintro e w8 ⟨v8,x8,rfl,hv8,hx80,hr80,hm80⟩;unfold VNum at hv8;subst hv8;have hx8 := Lh hx80;have hr8 := Lh hr80;have hm8 := Lh (hm7.out.trans hm80);clear hx80 hr80 hm80)
   | (go_at_call 22;have hg := hr8;refine (hsk4.out _ hr8.out).mono ?_;rintro e w9 ⟨rfl,hr90,hm90⟩;have hr9 := Lh hr90;have hm9 := Lh (hm8.out.trans hm90);clear hg hr90 hm90 hsk4))
 ((try simp only [Exit.inBlock,Exit.then]);refine bodyPost_ret (results_tmp2 rfl _ _ _) rfl ?_)
 rw [hR.out];refine ⟨_,(mk x4,x8),rfl,rfl,fun y hy => ?_,?_,hm9.out⟩
 · obtain ⟨y1,y5,e1,e5,e⟩ := hpt.out.2 y hy;rw [e,hx4.out _ e1,hx8.out _ e5]
 · rw [hpt.out.1];exact hr9.out
theorem re_slash_off {w : World} {b : Nat} {s : ByteArray} {p : Nat} (h : Rd w b s (p : Int) false) (hw : wordlyI (pk (bl s) p) = false) (hsk : ¬ rSkip (bl s) p = p) :
    Calls Tryd.prog 42 #[.pointer (some ⟨b,0,none⟩),.int .i64 (p : Int)] w (RePost b s w VSlash (rSlash (bl s) p)) := by
 have hR := Lh (slash_false hw);have hne : (((rSkip (bl s) p : Nat) : Int) == (p : Int)) = false := by rw [beq_eq_false_iff_ne];omega
 have hsk1 := fun wA h => re_skip_ok (w := wA) (b := b) (s := s) (p := p) h;replace hsk1 := Lh hsk1;clear hw hsk;obtain ⟨S1,hS1⟩ : ∃ S1,S1 = (.ok (rSkip (bl s) p) : Except Int Nat).bind (rName (bl s)) := ⟨_,rfl⟩;obtain ⟨S2,hS2⟩ : ∃ S2,S2 = (S1.map (·.2)).map (rSkip (bl s)) := ⟨_,rfl⟩;obtain ⟨S3,hS3⟩ : ∃ S3,S3 = S2.bind (rSign 47 (bl s)) := ⟨_,rfl⟩
 obtain ⟨S4,hS4⟩ : ∃ S4,S4 = S3.map (rSkip (bl s)) := ⟨_,rfl⟩;obtain ⟨S5,hS5⟩ : ∃ S5,S5 = S4.bind (rArity (bl s)) := ⟨_,rfl⟩;have hpt := Lh (slash_parts hS1 hS2 hS3 hS4 hS5);have hnm := fun wA h => re_name (w := wA) (b := b) (s := s) (S := .ok (rSkip (bl s) p)) h;rw [← hS1] at hnm;have hsk2 := fun wA h => re_skip (w := wA) (b := b) (s := s) (S := S1.map (·.2)) h
 rw [← hS2] at hsk2;have hsg := fun wA h => re_sign (w := wA) (b := b) (s := s) (S := S2) 47 (by decide) h;rw [← hS3] at hsg;have hsk3 := fun wA h => re_skip (w := wA) (b := b) (s := s) (S := S3) h;rw [← hS4] at hsk3;have har := fun wA h => re_arity (w := wA) (b := b) (s := s) (S := S4) h;rw [← hS5] at har;have hsk4 := fun wA h => re_skip (w := wA) (b := b) (s := s) (S := S5.map (·.2)) h
 unfold RePost at hnm har;replace hnm := Lh hnm;replace hsk2 := Lh hsk2;replace hsg := Lh hsg;replace hsk3 := Lh hsk3;replace har := Lh har;replace hsk4 := Lh hsk4;clear hS1 hS2 hS3 hS4 hS5;go_enter Tryd.func42,Tryd.ntmps42
 go_wp2_with (first
   | (go_at_call 22;refine (hsk1.out _ h).mono ?_;rintro e w1 ⟨rfl,hr1,hm1⟩;obtain ⟨c0,c1,c2,-⟩ := hr1.cells;replace hm1 := Lh hm1;have hrA : Hid (Rs w1 b s (.ok (rSkip (bl s) p))) := Lh hr1;have hmA := hm1;clear hsk1)
   | (go_at_call 58;refine (hnm.out _ hrA.out).mono ?_;rintro e w4 ⟨v4,x4,rfl,hv4,hx40,hr40,hm40⟩;unfold VStr at hv4;subst hv4;have hx4 := Lh hx40;have hr4 := Lh hr40;have hm4 := Lh (hmA.out.trans hm40);clear hx40 hr40 hm40)
   | (go_at_call 22;have hg := hr4;refine (hsk2.out _ hr4.out).mono ?_;rintro e w5 ⟨rfl,hr50,hm50⟩;have hr5 := Lh hr50;have hm5 := Lh (hm4.out.trans hm50);clear hg hr50 hm50 hsk2)
   | (go_at_call 44;have hg := hr5;refine (hsg.out _ hr5.out).mono ?_;rintro e w6 ⟨rfl,hr60,hm60⟩;have hr6 := Lh hr60;have hm6 := Lh (hm5.out.trans hm60);clear hg hr60 hm60 hsg)
   | (go_at_call 22;have hg := hr6;refine (hsk3.out _ hr6.out).mono ?_;rintro e w7 ⟨rfl,hr70,hm70⟩;have hr7 := Lh hr70;have hm7 := Lh (hm6.out.trans hm70);clear hg hr70 hm70 hsk3)
   | (go_at_call 59;refine (har.out _ hr7.out).mono ?_;rintro e w8 ⟨v8,x8,rfl,hv8,hx80,hr80,hm80⟩;unfold VNum at hv8;subst hv8;have hx8 := Lh hx80;have hr8 := Lh hr80;have hm8 := Lh (hm7.out.trans hm80);clear hx80 hr80 hm80)
   | (go_at_call 22;have hg := hr8;refine (hsk4.out _ hr8.out).mono ?_;rintro e w9 ⟨rfl,hr90,hm90⟩;have hr9 := Lh hr90;have hm9 := Lh (hm8.out.trans hm90);clear hg hr90 hm90 hsk4))
 ((try simp only [Exit.inBlock,Exit.then]);refine bodyPost_ret (results_tmp2 rfl _ _ _) rfl ?_)
 rw [hR.out];refine ⟨_,(mk x4,x8),rfl,rfl,fun y hy => ?_,?_,hm9.out⟩
 · obtain ⟨y1,y5,e1,e5,e⟩ := hpt.out.2 y hy;rw [e,hx4.out _ e1,hx8.out _ e5]
 · rw [hpt.out.1];exact hr9.out
theorem re_slash {w : World} {b : Nat} {s : ByteArray} {p : Nat} (h : Rd w b s (p : Int) false) :
    Calls Tryd.prog 42 #[.pointer (some ⟨b,0,none⟩),.int .i64 (p : Int)] w (RePost b s w VSlash (rSlash (bl s) p)) := by
 cases hw : wordlyI (pk (bl s) p) with
 | true => exact re_slash_no h hw
 | false =>
  by_cases hsk : rSkip (bl s) p = p
  · exact re_slash_on h hw hsk
  · exact re_slash_off h hw hsk
end Go.Proofs.YtmjincocmhadeaaDoor
/- Parse: the document's reader: what stands while a statement is read. (gen_peu.py) -/
namespace Go.Proofs.YtmjincocmhadeaaDoor
open Go.RowKit Lx
/-- the reader at b, the program at gp, its places at gq, their rows from lo on; below l0 all is as in w0 -/
structure SQ (w0 w : World) (l0 lo b gp gq : Nat) (s : ByteArray) (S : Except Int Nat) (R0 R1 R2 R3 R4 R5 : Value) (A : List (ByteArray × Int × ByteArray)) (B : List (ByteArray × Int)) (C : List PRule) (a1 a2 a3 : List Nat) : Prop where
  fr : Below l0 w0 w
  rd : Rs w b s S
  bp : w.heap[gp]? = some (.cells #[R0,R1,R2] 28)
  bq : w.heap[gq]? = some (.cells #[R3,R4,R5] 31)
  pg : PrgV w lo R0 R1 R2 R3 R4 R5 A B C a1 a2 a3
  lb : l0 ≤ b ∧ b < lo
  lp : l0 ≤ gp ∧ gp < lo ∧ gp ≠ b
  lq : l0 ≤ gq ∧ gq < lo ∧ gq ≠ b ∧ gq ≠ gp
  size : lo ≤ w.heap.size
section
variable {w0 w w3 w4 w' : World} {l0 lo b gp gq : Nat} {s : ByteArray} {S S' : Except Int Nat} {R0 R1 R2 R3 R4 R5 v' : Value} {A : List (ByteArray × Int × ByteArray)} {B : List (ByteArray × Int)} {C : List PRule} {a1 a2 a3 : List Nat} {ob : Obj}
theorem below_mvd {r B : Nat} (h : Below B w0 w) (hm : Mvd r w w') (hr : B ≤ r) (hs : B ≤ w.heap.size) : Below B w0 w' :=
  h.trans ⟨hm.os,hm.tape,hm.output,hm.size,fun k hk => hm.block k (by omega) (fun e => by injection e with e;omega)⟩
theorem SQ.step (h : SQ w0 w l0 lo b gp gq s S R0 R1 R2 R3 R4 R5 A B C a1 a2 a3) (hm : Mvd b w w') (hr : Rs w' b s S') : SQ w0 w' l0 lo b gp gq s S' R0 R1 R2 R3 R4 R5 A B C a1 a2 a3 :=
  ⟨below_mvd h.fr hm h.lb.1 (by have := h.size;have := h.lb;omega),hr,keepB hm h.bp h.lp.2.2,keepB hm h.bq h.lq.2.2.1,h.pg.mvd hm h.lb.2,h.lb,h.lp,h.lq,Nat.le_trans h.size hm.size⟩
theorem SQ.below (h : SQ w0 w l0 lo b gp gq s S R0 R1 R2 R3 R4 R5 A B C a1 a2 a3) (hb : Below w.heap.size w w') : SQ w0 w' l0 lo b gp gq s S R0 R1 R2 R3 R4 R5 A B C a1 a2 a3 :=
  h.step (Mvd.of hb) (Rd.below h.rd hb)
theorem SQ.cells (h : SQ w0 w l0 lo b gp gq s S R0 R1 R2 R3 R4 R5 A B C a1 a2 a3) : (w.cell? ⟨b,1,none⟩ = some (.int .i64 (posI S)) ∧ w.cell? ⟨b,2,none⟩ = some (.bool (badB S))) ∧ (w.cell? ⟨gp,0,none⟩ = some R0 ∧ w.cell? ⟨gp,1,none⟩ = some R1 ∧ w.cell? ⟨gp,2,none⟩ = some R2) ∧ (w.cell? ⟨gq,0,none⟩ = some R3 ∧ w.cell? ⟨gq,1,none⟩ = some R4 ∧ w.cell? ⟨gq,2,none⟩ = some R5) ∧ (∀ n,w.frozen? ⟨gp,n,none⟩ = false) ∧ ∀ n,w.frozen? ⟨gq,n,none⟩ = false := by
 refine ⟨⟨h.rd.cells.2.1,h.rd.cells.2.2.1⟩,⟨(cell_of_row _ _ 0 _ _ _ h.bp).trans rfl,(cell_of_row _ _ 1 _ _ _ h.bp).trans rfl,(cell_of_row _ _ 2 _ _ _ h.bp).trans rfl⟩,⟨(cell_of_row _ _ 0 _ _ _ h.bq).trans rfl,(cell_of_row _ _ 1 _ _ _ h.bq).trans rfl,(cell_of_row _ _ 2 _ _ _ h.bq).trans rfl⟩,fun n => ?_,fun n => ?_⟩
 · have := h.bp;simp [World.frozen?,this]
 · have := h.bq;simp [World.frozen?,this]
/-- a row of the program's own was grown, and the box written to -/
theorem SQ.grow (h : SQ w0 w3 l0 lo b gp gq s S R0 R1 R2 R3 R4 R5 A B C a1 a2 a3) {r : Option Nat} (hg : (w3.alloc ob).grownBy w4 r) (hr : ∀ k,r = some k → lo ≤ k) :
    Below l0 w0 w4 ∧ Rs w4 b s S ∧ w4.heap[gp]? = some (.cells #[R0,R1,R2] 28) ∧ w4.heap[gq]? = some (.cells #[R3,R4,R5] 31) ∧ lo ≤ w4.heap.size := by
 have hsz := h.size;have hlow : ∀ k,k < lo → w4.heap[k]? = w3.heap[k]? := fun k hk => (hg.block k (by rw [World.size_alloc];omega) (fun e => by have := hr k e.symm;omega)).trans (heap_alloc_old _ _ (by omega));have hs4 := hg.size;rw [World.size_alloc] at hs4
 refine ⟨h.fr.trans ⟨hg.os,hg.tape,hg.output,by omega,fun k hk => hlow k (by have := h.lb;omega)⟩,⟨(hlow b h.lb.2).trans h.rd.blk,h.rd.le0,h.rd.le,h.rd.len⟩,(hlow gp h.lp.2.1).trans h.bp,(hlow gq h.lq.2.1).trans h.bq,by omega⟩
theorem SQ.put0 (h : SQ w0 w3 l0 lo b gp gq s S R0 R1 R2 R3 R4 R5 A B C a1 a2 a3) (hg : (w3.alloc ob).grownBy w4 R0.ownBlock) {x : ByteArray × Int × ByteArray} (ho : w4.ownsRow lo 78 3 v' (A.length + 1) (inL A ++ inC x)) : SQ w0 (w4.setCell ⟨gp,0,none⟩ v') l0 lo b gp gq s S v' R1 R2 R3 R4 R5 (A ++ [x]) B C a1 a2 a3 := by
 obtain ⟨h1,h2',h3p,h3q,h4⟩ := h.grow hg fun j e => own_ge h.pg.r0 j e;have hm : Mvd gp w4 (w4.setCell ⟨gp,0,none⟩ v') := (Mvd.refl _ _).set _ _;exact ⟨below_mvd h1 hm h.lp.1 (by have := h.lb;omega),Rs.other h2' hm (Ne.symm h.lp.2.2),Go.heap_setCell_same w4 gp 0 _ _ v' h3p,keepB hm h3q h.lq.2.2.2,(h.pg.push0 hg ho).mvd hm h.lp.2.1,h.lb,h.lp,h.lq,Nat.le_trans h4 hm.size⟩
theorem SQ.put1 (h : SQ w0 w3 l0 lo b gp gq s S R0 R1 R2 R3 R4 R5 A B C a1 a2 a3) (hg : (w3.alloc ob).grownBy w4 R1.ownBlock) {x : ByteArray × Int} (ho : w4.ownsRow lo 80 2 v' (B.length + 1) (outL B ++ outC x)) : SQ w0 (w4.setCell ⟨gp,1,none⟩ v') l0 lo b gp gq s S R0 v' R2 R3 R4 R5 A (B ++ [x]) C a1 a2 a3 := by
 obtain ⟨h1,h2',h3p,h3q,h4⟩ := h.grow hg fun j e => own_ge h.pg.r1 j e;have hm : Mvd gp w4 (w4.setCell ⟨gp,1,none⟩ v') := (Mvd.refl _ _).set _ _;exact ⟨below_mvd h1 hm h.lp.1 (by have := h.lb;omega),Rs.other h2' hm (Ne.symm h.lp.2.2),Go.heap_setCell_same w4 gp 1 _ _ v' h3p,keepB hm h3q h.lq.2.2.2,(h.pg.push1 hg ho).mvd hm h.lp.2.1,h.lb,h.lp,h.lq,Nat.le_trans h4 hm.size⟩
theorem SQ.put2 (h : SQ w0 w3 l0 lo b gp gq s S R0 R1 R2 R3 R4 R5 A B C a1 a2 a3) (hg : (w3.alloc ob).grownBy w4 R2.ownBlock) {x : PRule} {av bv : Value} {L : List (PRule × Value × Value)} (hL : L.map (fun y => y.1) = C) (h2 : w3.ownsRow lo 52 3 R2 L.length (ruL L)) (h3 : ∀ y ∈ L,RuleV w3 lo y.2.1 y.2.2 y.1) (hx : RuleV w3 lo av bv x) (ho : w4.ownsRow lo 52 3 v' (L.length + 1) (ruL L ++ ruC (x,av,bv))) : SQ w0 (w4.setCell ⟨gp,2,none⟩ v') l0 lo b gp gq s S R0 R1 v' R3 R4 R5 A B (C ++ [x]) a1 a2 a3 := by
 obtain ⟨h1,h2',h3p,h3q,h4⟩ := h.grow hg fun j e => own_ge h2 j e;have hm : Mvd gp w4 (w4.setCell ⟨gp,2,none⟩ v') := (Mvd.refl _ _).set _ _;exact ⟨below_mvd h1 hm h.lp.1 (by have := h.lb;omega),Rs.other h2' hm (Ne.symm h.lp.2.2),Go.heap_setCell_same w4 gp 2 _ _ v' h3p,keepB hm h3q h.lq.2.2.2,(h.pg.push2 hL h2 h3 hg hx ho).mvd hm h.lp.2.1,h.lb,h.lp,h.lq,Nat.le_trans h4 hm.size⟩
theorem SQ.put3 (h : SQ w0 w3 l0 lo b gp gq s S R0 R1 R2 R3 R4 R5 A B C a1 a2 a3) (hg : (w3.alloc ob).grownBy w4 R3.ownBlock) {x n gg cp : Nat} (ho : w4.ownsRow lo 3 1 (.slice (some ⟨gg,0,none⟩) n cp) (a1.length + 1) (atL a1 ++ [.int .i64 (x : Int)])) (hat : R3.ownBlock = some gg ∨ gg = w3.heap.size + 1) : SQ w0 (w4.setCell ⟨gq,0,none⟩ (.slice (some ⟨gg,0,none⟩) n cp)) l0 lo b gp gq s S R0 R1 R2 (.slice (some ⟨gg,0,none⟩) n cp) R4 R5 A B C (a1 ++ [x]) a2 a3 := by
 obtain ⟨h1,h2',h3p,h3q,h4⟩ := h.grow hg fun j e => own_ge h.pg.r3 j e;have hm : Mvd gq w4 (w4.setCell ⟨gq,0,none⟩ (.slice (some ⟨gg,0,none⟩) n cp)) := (Mvd.refl _ _).set _ _
 exact ⟨below_mvd h1 hm h.lq.1 (by have := h.lb;omega),Rs.other h2' hm (Ne.symm h.lq.2.2.1),keepB hm h3p (Ne.symm h.lq.2.2.2),Go.heap_setCell_same w4 gq 0 _ _ (.slice (some ⟨gg,0,none⟩) n cp) h3q,(h.pg.push3 hg ho hat).mvd hm h.lq.2.1,h.lb,h.lp,h.lq,Nat.le_trans h4 hm.size⟩
theorem SQ.put4 (h : SQ w0 w3 l0 lo b gp gq s S R0 R1 R2 R3 R4 R5 A B C a1 a2 a3) (hg : (w3.alloc ob).grownBy w4 R4.ownBlock) {x n gg cp : Nat} (ho : w4.ownsRow lo 3 1 (.slice (some ⟨gg,0,none⟩) n cp) (a2.length + 1) (atL a2 ++ [.int .i64 (x : Int)])) (hat : R4.ownBlock = some gg ∨ gg = w3.heap.size + 1) : SQ w0 (w4.setCell ⟨gq,1,none⟩ (.slice (some ⟨gg,0,none⟩) n cp)) l0 lo b gp gq s S R0 R1 R2 R3 (.slice (some ⟨gg,0,none⟩) n cp) R5 A B C a1 (a2 ++ [x]) a3 := by
 obtain ⟨h1,h2',h3p,h3q,h4⟩ := h.grow hg fun j e => own_ge h.pg.r4 j e;have hm : Mvd gq w4 (w4.setCell ⟨gq,1,none⟩ (.slice (some ⟨gg,0,none⟩) n cp)) := (Mvd.refl _ _).set _ _
 exact ⟨below_mvd h1 hm h.lq.1 (by have := h.lb;omega),Rs.other h2' hm (Ne.symm h.lq.2.2.1),keepB hm h3p (Ne.symm h.lq.2.2.2),Go.heap_setCell_same w4 gq 1 _ _ (.slice (some ⟨gg,0,none⟩) n cp) h3q,(h.pg.push4 hg ho hat).mvd hm h.lq.2.1,h.lb,h.lp,h.lq,Nat.le_trans h4 hm.size⟩
theorem SQ.put5 (h : SQ w0 w3 l0 lo b gp gq s S R0 R1 R2 R3 R4 R5 A B C a1 a2 a3) (hg : (w3.alloc ob).grownBy w4 R5.ownBlock) {x n gg cp : Nat} (ho : w4.ownsRow lo 3 1 (.slice (some ⟨gg,0,none⟩) n cp) (a3.length + 1) (atL a3 ++ [.int .i64 (x : Int)])) (hat : R5.ownBlock = some gg ∨ gg = w3.heap.size + 1) : SQ w0 (w4.setCell ⟨gq,2,none⟩ (.slice (some ⟨gg,0,none⟩) n cp)) l0 lo b gp gq s S R0 R1 R2 R3 R4 (.slice (some ⟨gg,0,none⟩) n cp) A B C a1 a2 (a3 ++ [x]) := by
 obtain ⟨h1,h2',h3p,h3q,h4⟩ := h.grow hg fun j e => own_ge h.pg.r5 j e;have hm : Mvd gq w4 (w4.setCell ⟨gq,2,none⟩ (.slice (some ⟨gg,0,none⟩) n cp)) := (Mvd.refl _ _).set _ _
 exact ⟨below_mvd h1 hm h.lq.1 (by have := h.lb;omega),Rs.other h2' hm (Ne.symm h.lq.2.2.1),keepB hm h3p (Ne.symm h.lq.2.2.2),Go.heap_setCell_same w4 gq 2 _ _ (.slice (some ⟨gg,0,none⟩) n cp) h3q,(h.pg.push5 hg ho hat).mvd hm h.lq.2.1,h.lb,h.lp,h.lq,Nat.le_trans h4 hm.size⟩
end
end Go.Proofs.YtmjincocmhadeaaDoor
