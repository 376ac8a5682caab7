/- A region that draws its order, by an invariant of what is listed; two calls, two boxes, two stores. -/
import Derived.Test.YtoklbofobcloaaaDoorNmB
import Derived.Deep.RegionHeldLaw
namespace Go.Proofs.YtoklbofobcloaaaDoor
open Go Go.RowKit
set_option linter.unusedVariables false
section
variable {P : Program} {ops : Array Oper} {Q : Exit → Act → World → Prop} {md : Region.Mode}
theorem wpAny_inv (I : Nat → Array Bool → Act → World → Prop)
    (h0 : ∀ listed a w, I 0 listed a w → Region.ready md ops listed = [] ∧ Q .normal a w)
    (hn : ∀ n listed a w, I (n + 1) listed a w → Region.ready md ops listed ≠ [])
    (hs : ∀ n listed a w, I (n + 1) listed a w → ∀ i ∈ Region.ready md ops listed, wpOp P ops Q i (I n (listed.setIfInBounds i true)) a w) :
    ∀ (n : Nat) (listed : Array Bool) (a : Act) (w : World), I n listed a w → wpAny P md ops Q n listed a w
  | 0, listed, a, w, h => h0 listed a w h
  | n + 1, listed, a, w, h => ⟨fun e => absurd e (hn n listed a w h), fun i hi => wpOp_mono (fun a' w' h' => wpAny_inv I h0 hn hs n _ a' w' h') (hs n listed a w h i hi)⟩
theorem wpOp_shut {i : Nat} {o : Oper} {K : Act → World → Prop} {a : Act} {w : World} (ho : ops[i]? = some o)
    (h : ∀ K' : Act → World → Prop, Shut (∀ a w, K a w → K' a w) → if Region.wanted o (yielded ops a.tmps) = true then Oper.wp P o a w K' Q else K' (a.put o.dst undef) w) : wpOp P ops Q i K a w :=
  wpOp_step ho fun K' hK => h K' hK
end
theorem use_it {a b : Prop} (h : a) (k : a → b) : b := k h
theorem al_keep {w : World} {k : Nat} {o o' : Obj} (h : w.heap[k]? = some o) : (w.alloc o').heap[k]? = some o := by
  rw [heap_alloc_old _ _ (Array.getElem?_eq_some_iff.1 h).1]; exact h
theorem al_new {w : World} {k : Nat} {o : Obj} (h : k = w.heap.size) : (w.alloc o).heap[k]? = some o := by
  subst h; exact heap_alloc_new _ _
theorem bl_keep {w w' : World} {k : Nat} {o : Obj} (hb : Below w.heap.size w w') (h : w.heap[k]? = some o) : w'.heap[k]? = some o :=
  (hb.block _ (Array.getElem?_eq_some_iff.1 h).1).trans h
theorem bl_al {A B C : World} (h : Below A.heap.size A B) (hb : Below B.heap.size B C) : Below A.heap.size A C := h.trans (hb.mono h.size)
theorem box_all {w : World} {k : Nat} {a b c : Value} {t : TypeId} (h : w.heap[k]? = some (.cells #[a, b, c] t)) : w.cell? ⟨k, 0, none⟩ = some a ∧ w.cell? ⟨k, 1, none⟩ = some b ∧ w.cell? ⟨k, 2, none⟩ = some c ∧ w.frozen? ⟨k, 0, none⟩ = false ∧ w.frozen? ⟨k, 1, none⟩ = false ∧ w.frozen? ⟨k, 2, none⟩ = false :=
  ⟨by simp [World.cell?, h], by simp [World.cell?, h], by simp [World.cell?, h], by simp [World.frozen?, h], by simp [World.frozen?, h], by simp [World.frozen?, h]⟩
/-- a rule's box is written whole -/
def put3 (w : World) (A : Nat) (x y z : Value) : World := ((w.setCell ⟨A, 0, none⟩ x).setCell ⟨A, 1, none⟩ y).setCell ⟨A, 2, none⟩ z
theorem put3_other (w : World) {A k : Nat} (x y z : Value) (h : k ≠ A) : (put3 w A x y z).heap[k]? = w.heap[k]? := by
  unfold put3
  rw [heap_setCell_other _ _ _ _ h, heap_setCell_other _ _ _ _ h, heap_setCell_other _ _ _ _ h]
theorem put3_same {w : World} {A : Nat} {a b c x y z : Value} {t : TypeId} (h : w.heap[A]? = some (.cells #[a, b, c] t)) : (put3 w A x y z).heap[A]? = some (.cells #[x, y, z] t) :=
  Go.heap_setCell_same _ _ _ _ _ _ (Go.heap_setCell_same _ _ _ _ _ _ (Go.heap_setCell_same _ _ _ _ _ _ h))
theorem put3_below {w0 w : World} {A n : Nat} (x y z : Value) (h : Below n w0 w) (hA : n ≤ A) : Below n w0 (put3 w A x y z) :=
  ((h.setCell (p := ⟨A, 0, none⟩) hA _).setCell (p := ⟨A, 1, none⟩) hA _).setCell (p := ⟨A, 2, none⟩) hA _
/-- a rule in memory stays: what is newly made, and what is written into a box of rules, does not touch it -/
structure Stays (R : ByteArray → Value → Value → World → Prop) : Prop where
  below : ∀ s a b w w', R s a b w → Below w.heap.size w w' → R s a b w'
  put : ∀ s a b w A s' x y p q r, R s a b w → w.heap[A]? = some (.cells #[.string s', x, y] 27) → R s a b (put3 w A p q r)
def Boxed (W0 w : World) (st : Bool) (v u : Value) : Prop :=
  ∃ A s a b, u = .pointer (some ⟨A, 0, none⟩) ∧ W0.heap.size ≤ A ∧ w.heap[A]? = some (.cells #[.string s, a, b] 27) ∧ (st = true → v = .agg #[.string s, a, b])
def Told (R : ByteArray → Value → Value → World → Prop) (v : Value) (w : World) : Prop := ∃ s a b, v = .agg #[.string s, a, b] ∧ (∃ x n c y m d, a = .slice x n c ∧ b = .slice y m d) ∧ R s a b w
structure TwoS (W0 : World) (U V : Value) (R1 R2 : ByteArray → Value → Value → World → Prop) (b0 b1 b2 b3 b4 b5 b6 b7 : Bool) (u5 u6 u9 u10 u11 u12 : Value) (w : World) : Prop where
  bel : Below W0.heap.size W0 w
  k0 : b0 = true → u9 = U
  k1 : b1 = true → Told R1 u10 w
  k2 : b2 = true → u11 = V
  k3 : b3 = true → Told R2 u12 w
  k4 : b4 = true → Boxed W0 w b6 u10 u5
  k5 : b5 = true → Boxed W0 w b7 u12 u6
  ne : b4 = true → b5 = true → u5 ≠ u6
  o6 : b6 = true → b1 = true ∧ b3 = true ∧ b4 = true ∧ b5 = true
  o7 : b7 = true → b1 = true ∧ b3 = true ∧ b4 = true ∧ b5 = true
section
variable {W0 : World} {U V : Value} {R1 R2 : ByteArray → Value → Value → World → Prop} {b0 b1 b2 b3 b4 b5 b6 b7 : Bool} {u5 u6 u9 u10 u11 u12 : Value} {w w' : World}
theorem Told.below {R : ByteArray → Value → Value → World → Prop} {v : Value} (hR : Stays R) (h : Told R v w) (hb : Below w.heap.size w w') : Told R v w' := by
  obtain ⟨s, a, b, e, hf, h⟩ := h
  exact ⟨s, a, b, e, hf, hR.below _ _ _ _ _ h hb⟩
theorem Told.put {R : ByteArray → Value → Value → World → Prop} {v : Value} (hR : Stays R) (h : Told R v w) {A : Nat} {s' : ByteArray} {x y : Value} (hA : w.heap[A]? = some (.cells #[.string s', x, y] 27)) (p q r : Value) : Told R v (put3 w A p q r) := by
  obtain ⟨s, a, b, e, hf, h⟩ := h
  exact ⟨s, a, b, e, hf, hR.put _ _ _ _ _ _ _ _ _ _ _ h hA⟩
theorem Boxed.below {st : Bool} {v u : Value} (h : Boxed W0 w st v u) (hb : Below w.heap.size w w') : Boxed W0 w' st v u := by
  obtain ⟨A, s, a, b, e, hA, h, hs⟩ := h
  exact ⟨A, s, a, b, e, hA, bl_keep hb h, hs⟩
theorem Boxed.un {v v' u : Value} (h : Boxed W0 w false v u) : Boxed W0 w false v' u := by
  obtain ⟨A, s, a, b, e, hA, h, hs⟩ := h
  exact ⟨A, s, a, b, e, hA, h, fun e => by cases e⟩
theorem Boxed.put {st : Bool} {v u : Value} (h : Boxed W0 w st v u) {A : Nat} (hne : u ≠ .pointer (some ⟨A, 0, none⟩)) (p q r : Value) : Boxed W0 (put3 w A p q r) st v u := by
  obtain ⟨B, s, a, b, e, hB, h, hs⟩ := h
  exact ⟨B, s, a, b, e, hB, (put3_other w p q r (fun e2 => hne (by rw [e, e2]))).trans h, hs⟩
theorem TwoS.start (W0 : World) : TwoS W0 U V R1 R2 false false false false false false false false u5 u6 u9 u10 u11 u12 W0.drew := by
  refine ⟨(Below.refl _ _).drew, ?_, ?_, ?_, ?_, ?_, ?_, ?_, ?_, ?_⟩ <;> exact fun e => absurd e (by decide)
theorem TwoS.s0 (h : TwoS W0 U V R1 R2 b0 b1 b2 b3 b4 b5 b6 b7 u5 u6 u9 u10 u11 u12 w) : TwoS W0 U V R1 R2 true b1 b2 b3 b4 b5 b6 b7 u5 u6 U u10 u11 u12 w :=
  ⟨h.bel, fun _ => rfl, h.k1, h.k2, h.k3, h.k4, h.k5, h.ne, h.o6, h.o7⟩
theorem TwoS.s2 (h : TwoS W0 U V R1 R2 b0 b1 b2 b3 b4 b5 b6 b7 u5 u6 u9 u10 u11 u12 w) : TwoS W0 U V R1 R2 b0 b1 true b3 b4 b5 b6 b7 u5 u6 u9 u10 V u12 w :=
  ⟨h.bel, h.k0, h.k1, fun _ => rfl, h.k3, h.k4, h.k5, h.ne, h.o6, h.o7⟩
theorem TwoS.s1 (h : TwoS W0 U V R1 R2 b0 false b2 b3 b4 b5 b6 b7 u5 u6 u9 u10 u11 u12 w) (hR2 : Stays R2) (hb : Below w.heap.size w w') {v : Value} (hv : Told R1 v w') : TwoS W0 U V R1 R2 b0 true b2 b3 b4 b5 b6 b7 u5 u6 u9 v u11 u12 w' := by
  cases b6 with
  | true => exact absurd (h.o6 rfl).1 (by decide)
  | false => exact ⟨bl_al h.bel hb, h.k0, fun _ => hv, h.k2, fun e => (h.k3 e).below hR2 hb, fun e => ((h.k4 e).below hb).un, fun e => (h.k5 e).below hb, h.ne, fun e => absurd e (by decide), fun e => absurd (h.o7 e).1 (by decide)⟩
theorem TwoS.s3 (h : TwoS W0 U V R1 R2 b0 b1 b2 false b4 b5 b6 b7 u5 u6 u9 u10 u11 u12 w) (hR1 : Stays R1) (hb : Below w.heap.size w w') {v : Value} (hv : Told R2 v w') : TwoS W0 U V R1 R2 b0 b1 b2 true b4 b5 b6 b7 u5 u6 u9 u10 u11 v w' := by
  cases b7 with
  | true => exact absurd (h.o7 rfl).2.1 (by decide)
  | false => exact ⟨bl_al h.bel hb, h.k0, fun e => (h.k1 e).below hR1 hb, h.k2, fun _ => hv, fun e => (h.k4 e).below hb, fun e => ((h.k5 e).below hb).un, h.ne, fun e => absurd (h.o6 e).2.1 (by decide), fun e => absurd e (by decide)⟩
theorem TwoS.s4 (h : TwoS W0 U V R1 R2 b0 b1 b2 b3 false b5 b6 b7 u5 u6 u9 u10 u11 u12 w) (hR1 : Stays R1) (hR2 : Stays R2) : TwoS W0 U V R1 R2 b0 b1 b2 b3 true b5 b6 b7 (.pointer (some ⟨w.heap.size, 0, none⟩)) u6 u9 u10 u11 u12 (w.alloc (.cells #[.string ⟨#[]⟩, .slice none 0 0, .slice none 0 0] 27)) := by
  have hb := (Below.refl w.heap.size w).al (.cells #[.string ⟨#[]⟩, .slice none 0 0, .slice none 0 0] 27)
  have n6 : b6 = false := by cases b6 with | true => exact absurd (h.o6 rfl).2.2.1 (by decide) | false => rfl
  refine ⟨bl_al h.bel hb, h.k0, fun e => (h.k1 e).below hR1 hb, h.k2, fun e => (h.k3 e).below hR2 hb, fun _ => ⟨w.heap.size, _, _, _, rfl, h.bel.size, heap_alloc_new _ _, fun e => (by rw [n6] at e; cases e)⟩, fun e => (h.k5 e).below hb, fun _ e he => ?_, fun e => (by rw [n6] at e; cases e), fun e => absurd (h.o7 e).2.2.1 (by decide)⟩
  obtain ⟨B, s, a, b, e2, -, hB, -⟩ := h.k5 e
  rw [e2] at he
  injection he with he
  injection he with he
  injection he with he
  have := (Array.getElem?_eq_some_iff.1 hB).1
  omega
theorem TwoS.s5 (h : TwoS W0 U V R1 R2 b0 b1 b2 b3 b4 false b6 b7 u5 u6 u9 u10 u11 u12 w) (hR1 : Stays R1) (hR2 : Stays R2) : TwoS W0 U V R1 R2 b0 b1 b2 b3 b4 true b6 b7 u5 (.pointer (some ⟨w.heap.size, 0, none⟩)) u9 u10 u11 u12 (w.alloc (.cells #[.string ⟨#[]⟩, .slice none 0 0, .slice none 0 0] 27)) := by
  have hb := (Below.refl w.heap.size w).al (.cells #[.string ⟨#[]⟩, .slice none 0 0, .slice none 0 0] 27)
  have n7 : b7 = false := by cases b7 with | true => exact absurd (h.o7 rfl).2.2.2 (by decide) | false => rfl
  refine ⟨bl_al h.bel hb, h.k0, fun e => (h.k1 e).below hR1 hb, h.k2, fun e => (h.k3 e).below hR2 hb, fun e => (h.k4 e).below hb, fun _ => ⟨w.heap.size, _, _, _, rfl, h.bel.size, heap_alloc_new _ _, fun e => (by rw [n7] at e; cases e)⟩, fun e _ he => ?_, fun e => absurd (h.o6 e).2.2.2 (by decide), fun e => (by rw [n7] at e; cases e)⟩
  obtain ⟨B, s, a, b, e2, -, hB, -⟩ := h.k4 e
  rw [e2] at he
  injection he with he
  injection he with he
  injection he with he
  have := (Array.getElem?_eq_some_iff.1 hB).1
  omega
theorem TwoS.s6 (h : TwoS W0 U V R1 R2 b0 true b2 true true true false b7 u5 u6 u9 u10 u11 u12 w) (hR1 : Stays R1) (hR2 : Stays R2) :
    ∃ A s a b x y z, u5 = .pointer (some ⟨A, 0, none⟩) ∧ u10 = .agg #[.string s, a, b] ∧ (∃ x n c y m d, a = .slice x n c ∧ b = .slice y m d) ∧ w.heap[A]? = some (.cells #[.string x, y, z] 27) ∧ TwoS W0 U V R1 R2 b0 true b2 true true true true b7 u5 u6 u9 u10 u11 u12 (put3 w A (.string s) a b) := by
  obtain ⟨A, x, y, z, e5, hA, hh, -⟩ := h.k4 rfl
  obtain ⟨s, a, b, e10, hf, hR⟩ := h.k1 rfl
  have hne := h.ne rfl rfl
  refine ⟨A, s, a, b, x, y, z, e5, e10, hf, hh, put3_below _ _ _ h.bel hA, h.k0, fun e => (h.k1 e).put hR1 hh _ _ _, h.k2, fun e => (h.k3 e).put hR2 hh _ _ _, fun _ => ⟨A, s, a, b, e5, hA, put3_same hh, fun _ => e10⟩, fun e => (h.k5 e).put (fun e2 => hne (e5.trans e2.symm)) _ _ _, h.ne, fun _ => ⟨rfl, rfl, rfl, rfl⟩, h.o7⟩
theorem TwoS.s7 (h : TwoS W0 U V R1 R2 b0 true b2 true true true b6 false u5 u6 u9 u10 u11 u12 w) (hR1 : Stays R1) (hR2 : Stays R2) :
    ∃ A s a b x y z, u6 = .pointer (some ⟨A, 0, none⟩) ∧ u12 = .agg #[.string s, a, b] ∧ (∃ x n c y m d, a = .slice x n c ∧ b = .slice y m d) ∧ w.heap[A]? = some (.cells #[.string x, y, z] 27) ∧ TwoS W0 U V R1 R2 b0 true b2 true true true b6 true u5 u6 u9 u10 u11 u12 (put3 w A (.string s) a b) := by
  obtain ⟨A, x, y, z, e6, hA, hh, -⟩ := h.k5 rfl
  obtain ⟨s, a, b, e12, hf, hR⟩ := h.k3 rfl
  have hne := h.ne rfl rfl
  refine ⟨A, s, a, b, x, y, z, e6, e12, hf, hh, put3_below _ _ _ h.bel hA, h.k0, fun e => (h.k1 e).put hR1 hh _ _ _, h.k2, fun e => (h.k3 e).put hR2 hh _ _ _, fun e => (h.k4 e).put (fun e2 => hne (e2.trans e6.symm)) _ _ _, fun _ => ⟨A, s, a, b, e6, hA, put3_same hh, fun _ => e12⟩, h.ne, h.o6, fun _ => ⟨rfl, rfl, rfl, rfl⟩⟩
/-- all is listed -/
theorem TwoS.fin (h : TwoS W0 U V R1 R2 true true true true true true true true u5 u6 u9 u10 u11 u12 w) :
    ∃ A B s a b s' a' b', u5 = .pointer (some ⟨A, 0, none⟩) ∧ u6 = .pointer (some ⟨B, 0, none⟩) ∧ A ≠ B ∧ W0.heap.size ≤ A ∧ W0.heap.size ≤ B ∧ w.heap[A]? = some (.cells #[.string s, a, b] 27) ∧ w.heap[B]? = some (.cells #[.string s', a', b'] 27) ∧ R1 s a b w ∧ R2 s' a' b' w ∧ Below W0.heap.size W0 w := by
  obtain ⟨A, s, a, b, e5, hA, hh, ha⟩ := h.k4 rfl
  obtain ⟨B, s', a', b', e6, hB, hh', hb⟩ := h.k5 rfl
  obtain ⟨x, y, z, e, -, hR⟩ := h.k1 rfl
  obtain ⟨x', y', z', e', -, hR'⟩ := h.k3 rfl
  have := (ha rfl).symm.trans e
  injection this with this
  have t := congrArg Array.toList this
  injection t with t1 t
  injection t with t2 t
  injection t with t3 t
  injection t1 with t1
  have := (hb rfl).symm.trans e'
  injection this with this
  have t' := congrArg Array.toList this
  injection t' with t1' t'
  injection t' with t2' t'
  injection t' with t3' t'
  injection t1' with t1'
  subst t1; subst t2; subst t3; subst t1'; subst t2'; subst t3'
  exact ⟨A, B, s, a, b, s', a', b', e5, e6, fun e => h.ne rfl rfl (by rw [e5, e6, e]), hA, hB, hh, hh', hR, hR', h.bel⟩
end
/-- what may come up in a region of the form: load, call, load, call, two boxes, two stores -/
def allB (f : Bool → Bool) : Bool := f true && f false
theorem allB_all {f : Bool → Bool} (h : allB f = true) : ∀ b, f b = true := fun b => by
  unfold allB at h
  rw [Bool.and_eq_true] at h
  cases b
  · exact h.2
  · exact h.1
def twoOk (ops : Array Oper) : Bool :=
  allB fun b0 => allB fun b1 => allB fun b2 => allB fun b3 => allB fun b4 => allB fun b5 => allB fun b6 => allB fun b7 =>
    ((Region.ready .any ops #[b0, b1, b2, b3, b4, b5, b6, b7]).all fun i => decide ((i = 0 ∧ b0 = false) ∨ (i = 1 ∧ b1 = false ∧ b0 = true) ∨ (i = 2 ∧ b2 = false) ∨ (i = 3 ∧ b3 = false ∧ b2 = true) ∨ (i = 4 ∧ b4 = false) ∨ (i = 5 ∧ b5 = false) ∨ (i = 6 ∧ b6 = false ∧ b1 = true ∧ b3 = true ∧ b4 = true ∧ b5 = true) ∨ (i = 7 ∧ b7 = false ∧ b1 = true ∧ b3 = true ∧ b4 = true ∧ b5 = true))) && ((Region.ready .any ops #[b0, b1, b2, b3, b4, b5, b6, b7]).isEmpty == (b0 && b1 && b2 && b3 && b4 && b5 && b6 && b7))
theorem two_ready {ops : Array Oper} (h : twoOk ops = true) : ∀ b0 b1 b2 b3 b4 b5 b6 b7 : Bool, (∀ i ∈ Region.ready .any ops #[b0, b1, b2, b3, b4, b5, b6, b7], (i = 0 ∧ b0 = false) ∨ (i = 1 ∧ b1 = false ∧ b0 = true) ∨ (i = 2 ∧ b2 = false) ∨ (i = 3 ∧ b3 = false ∧ b2 = true) ∨ (i = 4 ∧ b4 = false) ∨ (i = 5 ∧ b5 = false) ∨ (i = 6 ∧ b6 = false ∧ b1 = true ∧ b3 = true ∧ b4 = true ∧ b5 = true) ∨ (i = 7 ∧ b7 = false ∧ b1 = true ∧ b3 = true ∧ b4 = true ∧ b5 = true)) ∧ (Region.ready .any ops #[b0, b1, b2, b3, b4, b5, b6, b7] = [] → (b0 && b1 && b2 && b3 && b4 && b5 && b6 && b7) = true) ∧ ((b0 && b1 && b2 && b3 && b4 && b5 && b6 && b7) = true → Region.ready .any ops #[b0, b1, b2, b3, b4, b5, b6, b7] = []) := by
  intro b0 b1 b2 b3 b4 b5 b6 b7
  have := allB_all (allB_all (allB_all (allB_all (allB_all (allB_all (allB_all (allB_all h b0) b1) b2) b3) b4) b5) b6) b7
  rw [Bool.and_eq_true] at this
  obtain ⟨h1, h2⟩ := this
  refine ⟨fun i hi => of_decide_eq_true (List.all_eq_true.1 h1 i hi), fun e => ?_, fun e => ?_⟩
  · rw [e] at h2
    simpa using h2
  · rw [e] at h2
    simpa using h2
def cnt8 (b0 b1 b2 b3 b4 b5 b6 b7 : Bool) : Nat := (!b0).toNat + (!b1).toNat + (!b2).toNat + (!b3).toNat + (!b4).toNat + (!b5).toNat + (!b6).toNat + (!b7).toNat
theorem wp_two {P : Program} {ops : Array Oper} {Q : Exit → Act → World → Prop} {id : Nat} {a : Act} {w : World} (F : Value → Value → Value → Value → Value → Value → Act) (S : Bool → Bool → Bool → Bool → Bool → Bool → Bool → Bool → Value → Value → Value → Value → Value → Value → World → Prop)
    (hm : P.follows .mixedOrders = true) (hok : twoOk ops = true) (hsz : ops.size = 8) (u5 u6 u9 u10 u11 u12 : Value) (ha : a = F u5 u6 u9 u10 u11 u12) (hS : S false false false false false false false false u5 u6 u9 u10 u11 u12 w.drew)
    (st0 : ∀ (b1 b2 b3 b4 b5 b6 b7 : Bool) (u5 u6 u9 u10 u11 u12 : Value) (w : World), S false b1 b2 b3 b4 b5 b6 b7 u5 u6 u9 u10 u11 u12 w → wpOp P ops Q 0 (fun a' w' => ∃ u5' u6' u9' u10' u11' u12', a' = F u5' u6' u9' u10' u11' u12' ∧ S true b1 b2 b3 b4 b5 b6 b7 u5' u6' u9' u10' u11' u12' w') (F u5 u6 u9 u10 u11 u12) w)
    (st1 : ∀ (b2 b3 b4 b5 b6 b7 : Bool) (u5 u6 u9 u10 u11 u12 : Value) (w : World), S true false b2 b3 b4 b5 b6 b7 u5 u6 u9 u10 u11 u12 w → wpOp P ops Q 1 (fun a' w' => ∃ u5' u6' u9' u10' u11' u12', a' = F u5' u6' u9' u10' u11' u12' ∧ S true true b2 b3 b4 b5 b6 b7 u5' u6' u9' u10' u11' u12' w') (F u5 u6 u9 u10 u11 u12) w)
    (st2 : ∀ (b0 b1 b3 b4 b5 b6 b7 : Bool) (u5 u6 u9 u10 u11 u12 : Value) (w : World), S b0 b1 false b3 b4 b5 b6 b7 u5 u6 u9 u10 u11 u12 w → wpOp P ops Q 2 (fun a' w' => ∃ u5' u6' u9' u10' u11' u12', a' = F u5' u6' u9' u10' u11' u12' ∧ S b0 b1 true b3 b4 b5 b6 b7 u5' u6' u9' u10' u11' u12' w') (F u5 u6 u9 u10 u11 u12) w)
    (st3 : ∀ (b0 b1 b4 b5 b6 b7 : Bool) (u5 u6 u9 u10 u11 u12 : Value) (w : World), S b0 b1 true false b4 b5 b6 b7 u5 u6 u9 u10 u11 u12 w → wpOp P ops Q 3 (fun a' w' => ∃ u5' u6' u9' u10' u11' u12', a' = F u5' u6' u9' u10' u11' u12' ∧ S b0 b1 true true b4 b5 b6 b7 u5' u6' u9' u10' u11' u12' w') (F u5 u6 u9 u10 u11 u12) w)
    (st4 : ∀ (b0 b1 b2 b3 b5 b6 b7 : Bool) (u5 u6 u9 u10 u11 u12 : Value) (w : World), S b0 b1 b2 b3 false b5 b6 b7 u5 u6 u9 u10 u11 u12 w → wpOp P ops Q 4 (fun a' w' => ∃ u5' u6' u9' u10' u11' u12', a' = F u5' u6' u9' u10' u11' u12' ∧ S b0 b1 b2 b3 true b5 b6 b7 u5' u6' u9' u10' u11' u12' w') (F u5 u6 u9 u10 u11 u12) w)
    (st5 : ∀ (b0 b1 b2 b3 b4 b6 b7 : Bool) (u5 u6 u9 u10 u11 u12 : Value) (w : World), S b0 b1 b2 b3 b4 false b6 b7 u5 u6 u9 u10 u11 u12 w → wpOp P ops Q 5 (fun a' w' => ∃ u5' u6' u9' u10' u11' u12', a' = F u5' u6' u9' u10' u11' u12' ∧ S b0 b1 b2 b3 b4 true b6 b7 u5' u6' u9' u10' u11' u12' w') (F u5 u6 u9 u10 u11 u12) w)
    (st6 : ∀ (b0 b2 b7 : Bool) (u5 u6 u9 u10 u11 u12 : Value) (w : World), S b0 true b2 true true true false b7 u5 u6 u9 u10 u11 u12 w → wpOp P ops Q 6 (fun a' w' => ∃ u5' u6' u9' u10' u11' u12', a' = F u5' u6' u9' u10' u11' u12' ∧ S b0 true b2 true true true true b7 u5' u6' u9' u10' u11' u12' w') (F u5 u6 u9 u10 u11 u12) w)
    (st7 : ∀ (b0 b2 b6 : Bool) (u5 u6 u9 u10 u11 u12 : Value) (w : World), S b0 true b2 true true true b6 false u5 u6 u9 u10 u11 u12 w → wpOp P ops Q 7 (fun a' w' => ∃ u5' u6' u9' u10' u11' u12', a' = F u5' u6' u9' u10' u11' u12' ∧ S b0 true b2 true true true b6 true u5' u6' u9' u10' u11' u12' w') (F u5 u6 u9 u10 u11 u12) w)
    (fin : ∀ (u5 u6 u9 u10 u11 u12 : Value) (w : World), S true true true true true true true true u5 u6 u9 u10 u11 u12 w → Q .normal (F u5 u6 u9 u10 u11 u12) w) : (Code.region id ops true).wp P Q a w := by
  refine wp_region_any hm ?_
  rw [hsz]
  refine wpAny_inv (fun n listed a w => ∃ b0 b1 b2 b3 b4 b5 b6 b7 u5 u6 u9 u10 u11 u12, n = cnt8 b0 b1 b2 b3 b4 b5 b6 b7 ∧ listed = #[b0, b1, b2, b3, b4, b5, b6, b7] ∧ a = F u5 u6 u9 u10 u11 u12 ∧ S b0 b1 b2 b3 b4 b5 b6 b7 u5 u6 u9 u10 u11 u12 w) ?_ ?_ ?_ 8 _ _ _ ⟨false, false, false, false, false, false, false, false, u5, u6, u9, u10, u11, u12, rfl, rfl, ha, hS⟩
  · rintro listed a w ⟨b0, b1, b2, b3, b4, b5, b6, b7, u5, u6, u9, u10, u11, u12, hn, rfl, rfl, hS⟩
    have hall : (b0 && b1 && b2 && b3 && b4 && b5 && b6 && b7) = true := by
      unfold cnt8 at hn
      revert hn
      cases b0 <;> cases b1 <;> cases b2 <;> cases b3 <;> cases b4 <;> cases b5 <;> cases b6 <;> cases b7 <;> decide
    refine ⟨(two_ready hok b0 b1 b2 b3 b4 b5 b6 b7).2.2 hall, ?_⟩
    simp only [Bool.and_eq_true] at hall
    obtain ⟨⟨⟨⟨⟨⟨⟨rfl, rfl⟩, rfl⟩, rfl⟩, rfl⟩, rfl⟩, rfl⟩, rfl⟩ := hall
    exact fin _ _ _ _ _ _ _ hS
  · rintro n listed a w ⟨b0, b1, b2, b3, b4, b5, b6, b7, u5, u6, u9, u10, u11, u12, hn, rfl, rfl, hS⟩ he
    have hall := (two_ready hok b0 b1 b2 b3 b4 b5 b6 b7).2.1 he
    simp only [Bool.and_eq_true] at hall
    obtain ⟨⟨⟨⟨⟨⟨⟨rfl, rfl⟩, rfl⟩, rfl⟩, rfl⟩, rfl⟩, rfl⟩, rfl⟩ := hall
    cases hn
  · rintro n listed a w ⟨b0, b1, b2, b3, b4, b5, b6, b7, u5, u6, u9, u10, u11, u12, hn, rfl, rfl, hS⟩ i hi
    have hc := (two_ready hok b0 b1 b2 b3 b4 b5 b6 b7).1 i hi
    rcases hc with ⟨rfl, rfl⟩ | ⟨rfl, rfl, rfl⟩ | ⟨rfl, rfl⟩ | ⟨rfl, rfl, rfl⟩ | ⟨rfl, rfl⟩ | ⟨rfl, rfl⟩ | ⟨rfl, rfl, rfl, rfl, rfl, rfl⟩ | ⟨rfl, rfl, rfl, rfl, rfl, rfl⟩
    · exact wpOp_mono (fun a' w' ⟨v5, v6, v9, v10, v11, v12, e, h⟩ => ⟨true, b1, b2, b3, b4, b5, b6, b7, v5, v6, v9, v10, v11, v12, (by unfold cnt8 at hn ⊢; simp at hn ⊢; omega), rfl, e, h⟩) (st0 b1 b2 b3 b4 b5 b6 b7 u5 u6 u9 u10 u11 u12 w hS)
    · exact wpOp_mono (fun a' w' ⟨v5, v6, v9, v10, v11, v12, e, h⟩ => ⟨true, true, b2, b3, b4, b5, b6, b7, v5, v6, v9, v10, v11, v12, (by unfold cnt8 at hn ⊢; simp at hn ⊢; omega), rfl, e, h⟩) (st1 b2 b3 b4 b5 b6 b7 u5 u6 u9 u10 u11 u12 w hS)
    · exact wpOp_mono (fun a' w' ⟨v5, v6, v9, v10, v11, v12, e, h⟩ => ⟨b0, b1, true, b3, b4, b5, b6, b7, v5, v6, v9, v10, v11, v12, (by unfold cnt8 at hn ⊢; simp at hn ⊢; omega), rfl, e, h⟩) (st2 b0 b1 b3 b4 b5 b6 b7 u5 u6 u9 u10 u11 u12 w hS)
    · exact wpOp_mono (fun a' w' ⟨v5, v6, v9, v10, v11, v12, e, h⟩ => ⟨b0, b1, true, true, b4, b5, b6, b7, v5, v6, v9, v10, v11, v12, (by unfold cnt8 at hn ⊢; simp at hn ⊢; omega), rfl, e, h⟩) (st3 b0 b1 b4 b5 b6 b7 u5 u6 u9 u10 u11 u12 w hS)
    · exact wpOp_mono (fun a' w' ⟨v5, v6, v9, v10, v11, v12, e, h⟩ => ⟨b0, b1, b2, b3, true, b5, b6, b7, v5, v6, v9, v10, v11, v12, (by unfold cnt8 at hn ⊢; simp at hn ⊢; omega), rfl, e, h⟩) (st4 b0 b1 b2 b3 b5 b6 b7 u5 u6 u9 u10 u11 u12 w hS)
    · exact wpOp_mono (fun a' w' ⟨v5, v6, v9, v10, v11, v12, e, h⟩ => ⟨b0, b1, b2, b3, b4, true, b6, b7, v5, v6, v9, v10, v11, v12, (by unfold cnt8 at hn ⊢; simp at hn ⊢; omega), rfl, e, h⟩) (st5 b0 b1 b2 b3 b4 b6 b7 u5 u6 u9 u10 u11 u12 w hS)
    · exact wpOp_mono (fun a' w' ⟨v5, v6, v9, v10, v11, v12, e, h⟩ => ⟨b0, true, b2, true, true, true, true, b7, v5, v6, v9, v10, v11, v12, (by unfold cnt8 at hn ⊢; simp at hn ⊢; omega), rfl, e, h⟩) (st6 b0 b2 b7 u5 u6 u9 u10 u11 u12 w hS)
    · exact wpOp_mono (fun a' w' ⟨v5, v6, v9, v10, v11, v12, e, h⟩ => ⟨b0, true, b2, true, true, true, b6, true, v5, v6, v9, v10, v11, v12, (by unfold cnt8 at hn ⊢; simp at hn ⊢; omega), rfl, e, h⟩) (st7 b0 b2 b6 u5 u6 u9 u10 u11 u12 w hS)
end Go.Proofs.YtoklbofobcloaaaDoor
