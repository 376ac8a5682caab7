/- Parse: any rule; a program in memory while it grows. -/
import Derived.Test.YtclioihichcpiaaDoorPmD
namespace Go.Proofs.YtclioihichcpiaaDoor
open Go.RowKit Lx
theorem pa_rule (w : World) (b : Nat) (P : Ps) (tx : ByteArray) (ta : Option Addr) (tc i : Nat) (R0 R1 R2 R3 R4 R5 : Value) (h : PSt w b P tx ta tc i R0 R1 R2 R3 R4 R5) (pr : ByteArray) :
    Calls Tryd.prog 57 #[.pointer (some ⟨b, 0, none⟩), .string pr] w (RulePost b P tx ta tc R0 R1 R2 R3 R4 R5 w (psRule P i pr)) := by
  cases hx : psArgs P i with
  | error x => exact pa_rule_bad w b P tx ta tc i R0 R1 R2 R3 R4 R5 h pr x hx
  | ok r =>
    obtain ⟨l, j⟩ := r
    by_cases h13 : P.kind j = 13
    · exact pa_rule_more w b P tx ta tc i R0 R1 R2 R3 R4 R5 h pr l j hx h13
    · by_cases h11 : P.kind j = 11
      · exact pa_rule_dot w b P tx ta tc i R0 R1 R2 R3 R4 R5 h pr l j hx h11
      · exact pa_rule_stop w b P tx ta tc i R0 R1 R2 R3 R4 R5 h pr l j hx h11 h13
/-- all below lo stays but the parser's block -/
structure Frm (lo b : Nat) (w w' : World) : Prop where
  os : w'.os = w.os
  tape : w'.tape = w.tape
  output : w'.output = w.output
  size : w.heap.size ≤ w'.heap.size
  block : ∀ k, k < lo → k ≠ b → w'.heap[k]? = w.heap[k]?
theorem Frm.refl (lo b : Nat) (w : World) : Frm lo b w w := ⟨rfl, rfl, rfl, Nat.le_refl _, fun _ _ _ => rfl⟩
theorem Frm.trans {lo b : Nat} {w w1 w2 : World} (h : Frm lo b w w1) (h2 : Frm lo b w1 w2) : Frm lo b w w2 :=
  ⟨h2.os.trans h.os, h2.tape.trans h.tape, h2.output.trans h.output, Nat.le_trans h.size h2.size, fun k hk hb => (h2.block k hk hb).trans (h.block k hk hb)⟩
theorem Frm.of_mvd {lo b : Nat} {w w' : World} (h : Mvd b w w') (hlo : lo ≤ w.heap.size) : Frm lo b w w' :=
  ⟨h.os, h.tape, h.output, h.size, fun k hk hb => h.block k (Nat.lt_of_lt_of_le hk hlo) (fun e => by injection e with e; exact hb e)⟩
theorem Frm.of_below {lo b : Nat} {w w' : World} (h : Below w.heap.size w w') (hlo : lo ≤ w.heap.size) : Frm lo b w w' := Frm.of_mvd (Mvd.of h) hlo
theorem Frm.of_grown {lo b : Nat} {w w' : World} {ob : Obj} {r : Option Nat} (h : (w.alloc ob).grownBy w' r) (hlo : lo ≤ w.heap.size) (hr : ∀ k, r = some k → lo ≤ k) : Frm lo b w w' :=
  ⟨h.os, h.tape, h.output, Nat.le_trans (by rw [World.size_alloc]; omega) h.size, fun k hk _ => (h.block k (by rw [World.size_alloc]; omega) (fun e => by have := hr k e.symm; omega)).trans (heap_alloc_old _ _ (by omega))⟩
theorem RuleIn.stays {w w' : World} {lo : Nat} {av bv : Value} {r : PRule} {k : Option Nat} (h : RuleIn w lo av bv r) (hg : w.grownBy w' k) (hT : ∀ g cur, w.heap[g]? = some (.cells cur 76) → k ≠ some g) (hL : ∀ g cur, w.heap[g]? = some (.cells cur 79) → k ≠ some g) : RuleIn w' lo av bv r := by
  obtain ⟨h1, L, h2, h3, h4⟩ := h
  refine ⟨own_stays h1 hg fun g hk => ?_, L, h2, h3.stays hg (fun g hk => ?_) (fun y hy g hk => ?_), h4⟩
  · obtain ⟨cur, hc⟩ := own_typed h1 hk; exact hT g cur hc
  · obtain ⟨cur, hc⟩ := own_typed h3.own hk; exact hL g cur hc
  · obtain ⟨cur, hc⟩ := own_typed (h3.inner y hy) hk; exact hT g cur hc
theorem RuleIn.base {w : World} {lo lo' : Nat} {av bv : Value} {r : PRule} (h : RuleIn w lo av bv r) (hb : lo' ≤ lo) : RuleIn w lo' av bv r := by
  obtain ⟨h1, L, h2, h3, h4⟩ := h
  exact ⟨own_baseP h1 hb, L, h2, ⟨own_baseP h3.own hb, fun y hy => own_baseP (h3.inner y hy) hb⟩, h4⟩
theorem RuleIn.mvd {w w' : World} {lo b : Nat} {av bv : Value} {r : PRule} (h : RuleIn w lo av bv r) (hm : Mvd b w w') (hb : b < lo) : RuleIn w' lo av bv r := by
  obtain ⟨h1, L, h2, h3, h4⟩ := h
  exact ⟨own_mvd h1 hm hb, L, h2, h3.mvd hm hb, h4⟩
/-- a rule in memory, all of its blocks within lo .. hi -/
structure RuleAt (w : World) (lo hi : Nat) (av bv : Value) (r : PRule) : Prop where
  args : w.ownsRow lo 76 2 av r.a.length (flatTT r.a)
  body : ∃ L : List (PLit × Value), L.map (·.1) = r.b ∧ Bod w lo bv L ∧ Sep av L ∧ (∀ k, bv.ownBlock = some k → k < hi) ∧ ∀ y ∈ L, ∀ k, y.2.ownBlock = some k → k < hi
  top : ∀ k, av.ownBlock = some k → k < hi
theorem RuleAt.of {w : World} {lo : Nat} {av bv : Value} {r : PRule} (h : RuleIn w lo av bv r) : RuleAt w lo w.heap.size av bv r := by
  obtain ⟨h1, L, h2, h3, h4⟩ := h
  exact ⟨h1, ⟨L, h2, h3, h4, fun k hk => (h3.own.lt k hk).2, fun y hy k hk => ((h3.inner y hy).lt k hk).2⟩, fun k hk => (h1.lt k hk).2⟩
theorem RuleAt.inn {w : World} {lo hi : Nat} {av bv : Value} {r : PRule} (h : RuleAt w lo hi av bv r) : RuleIn w lo av bv r := by
  obtain ⟨h1, ⟨L, h2, h3, h4, -⟩, -⟩ := h
  exact ⟨h1, L, h2, h3, h4⟩
theorem RuleAt.base {w : World} {lo lo' hi : Nat} {av bv : Value} {r : PRule} (h : RuleAt w lo hi av bv r) (hb : lo' ≤ lo) : RuleAt w lo' hi av bv r := by
  obtain ⟨h1, ⟨L, h2, h3, h4⟩, h5⟩ := h
  exact ⟨own_baseP h1 hb, ⟨L, h2, ⟨own_baseP h3.own hb, fun y hy => own_baseP (h3.inner y hy) hb⟩, h4⟩, h5⟩
theorem RuleAt.stays {w w' : World} {lo hi : Nat} {av bv : Value} {r : PRule} {k : Option Nat} (h : RuleAt w lo hi av bv r) (hg : w.grownBy w' k) (hT : ∀ g cur, w.heap[g]? = some (.cells cur 76) → k ≠ some g) (hL : ∀ g cur, w.heap[g]? = some (.cells cur 79) → k ≠ some g) : RuleAt w' lo hi av bv r := by
  obtain ⟨h1, ⟨L, h2, h3, h4⟩, h5⟩ := h
  refine ⟨own_stays h1 hg fun g hk => ?_, ⟨L, h2, h3.stays hg (fun g hk => ?_) (fun y hy g hk => ?_), h4⟩, h5⟩
  · obtain ⟨cur, hc⟩ := own_typed h1 hk; exact hT g cur hc
  · obtain ⟨cur, hc⟩ := own_typed h3.own hk; exact hL g cur hc
  · obtain ⟨cur, hc⟩ := own_typed (h3.inner y hy) hk; exact hT g cur hc
theorem RuleAt.mvd {w w' : World} {lo hi b : Nat} {av bv : Value} {r : PRule} (h : RuleAt w lo hi av bv r) (hm : Mvd b w w') (hb : b < lo) : RuleAt w' lo hi av bv r := by
  obtain ⟨h1, ⟨L, h2, h3, h4⟩, h5⟩ := h
  exact ⟨own_mvd h1 hm hb, ⟨L, h2, h3.mvd hm hb, h4⟩, h5⟩
theorem RuleAt.below {w w' : World} {lo hi : Nat} {av bv : Value} {r : PRule} (h : RuleAt w lo hi av bv r) (hb : Below w.heap.size w w') : RuleAt w' lo hi av bv r := by
  obtain ⟨h1, ⟨L, h2, h3, h4⟩, h5⟩ := h
  exact ⟨own_below h1 hb, ⟨L, h2, ⟨own_below h3.own hb, fun y hy => own_below (h3.inner y hy) hb⟩, h4⟩, h5⟩
/-- rules one behind the other: rule i within f i .. g i -/
structure RRows (w : World) (lo : Nat) (f g : Nat → Nat) (L : List (PRule × Value × Value)) : Prop where
  lo : lo ≤ f 0
  mono : ∀ i, i < L.length → f i ≤ g i ∧ g i ≤ f (i + 1)
  top : f L.length ≤ w.heap.size
  rows : ∀ i (h : i < L.length), RuleAt w (f i) (g i) L[i].2.1 L[i].2.2 L[i].1
theorem RRows.ge {w : World} {lo : Nat} {f g : Nat → Nat} {L : List (PRule × Value × Value)} (h : RRows w lo f g L) : ∀ i, i ≤ L.length → lo ≤ f i
  | 0, _ => h.lo
  | i + 1, hi => by have := RRows.ge h i (by omega); have := h.mono i hi; omega
theorem RRows.up {w : World} {lo : Nat} {f g : Nat → Nat} {L : List (PRule × Value × Value)} (h : RRows w lo f g L) (i : Nat) : ∀ d, i + d ≤ L.length → f i ≤ f (i + d)
  | 0, _ => Nat.le_refl _
  | d + 1, hd => by have := RRows.up h i d (by omega); have := h.mono (i + d) (by omega); rw [← Nat.add_assoc]; omega
theorem RRows.le {w : World} {lo : Nat} {f g : Nat → Nat} {L : List (PRule × Value × Value)} (h : RRows w lo f g L) (i j : Nat) (hi : i < j) (hj : j ≤ L.length) : g i ≤ f j := by
  have h1 := h.mono i (by omega)
  have h2 := h.up (i + 1) (j - (i + 1)) (by omega)
  rw [show i + 1 + (j - (i + 1)) = j by omega] at h2
  omega
theorem RRows.turn {w w' : World} {lo : Nat} {f g : Nat → Nat} {L : List (PRule × Value × Value)} (h : RRows w lo f g L) (hs : w.heap.size ≤ w'.heap.size) (ht : ∀ lo2 hi av bv r, lo ≤ lo2 → RuleAt w lo2 hi av bv r → RuleAt w' lo2 hi av bv r) : RRows w' lo f g L :=
  ⟨h.lo, h.mono, Nat.le_trans h.top hs, fun i hi => ht _ _ _ _ _ (h.ge i (Nat.le_of_lt hi)) (h.rows i hi)⟩
/-- a value's own block lies within none of the rules' ranges -/
def VApart (v : Value) (f g : Nat → Nat) (n : Nat) : Prop := ∀ i, i < n → ∀ k, v.ownBlock = some k → k < f i ∨ g i ≤ k
theorem VApart.new {w : World} {lo : Nat} {f g : Nat → Nat} {L : List (PRule × Value × Value)} {R : Value} (hR : RRows w lo f g L) (h : VApart R f g L.length) {v : Value} (hat : ∀ k, v.ownBlock = some k → R.ownBlock = some k ∨ w.heap.size ≤ k) : VApart v f g L.length := fun i hi k hk => by
  rcases hat k hk with h1 | h1
  · exact h i hi k h1
  · have := hR.le i L.length hi (Nat.le_refl _); have := hR.top; omega
def RRs (w : World) (lo : Nat) (v v3 v4 v5 : Value) (L : List (PRule × Value × Value)) : Prop := ∃ f g, RRows w lo f g L ∧ VApart v f g L.length ∧ VApart v3 f g L.length ∧ VApart v4 f g L.length ∧ VApart v5 f g L.length
theorem RRs.inn {w : World} {lo : Nat} {v v3 v4 v5 : Value} {L : List (PRule × Value × Value)} (h : RRs w lo v v3 v4 v5 L) : ∀ y ∈ L, RuleIn w lo y.2.1 y.2.2 y.1 := by
  intro y hy
  obtain ⟨f, g, h, -⟩ := h
  obtain ⟨i, hi, rfl⟩ := List.getElem_of_mem hy
  exact ((h.rows i hi).inn).base (h.ge i (Nat.le_of_lt hi))
theorem RRs.nil (w : World) (lo : Nat) (v v3 v4 v5 : Value) (hlo : lo ≤ w.heap.size) : RRs w lo v v3 v4 v5 [] := ⟨fun _ => lo, fun _ => lo, ⟨Nat.le_refl _, fun _ h => absurd h (Nat.not_lt_zero _), hlo, fun _ h => absurd h (Nat.not_lt_zero _)⟩, (fun _ h => absurd h (Nat.not_lt_zero _)), (fun _ h => absurd h (Nat.not_lt_zero _)), (fun _ h => absurd h (Nat.not_lt_zero _)), fun _ h => absurd h (Nat.not_lt_zero _)⟩
theorem RRs.turn {w w' : World} {lo : Nat} {v v3 v4 v5 : Value} {L : List (PRule × Value × Value)} (h : RRs w lo v v3 v4 v5 L) (hs : w.heap.size ≤ w'.heap.size) (ht : ∀ lo2 hi av bv r, lo ≤ lo2 → RuleAt w lo2 hi av bv r → RuleAt w' lo2 hi av bv r) : RRs w' lo v v3 v4 v5 L := by
  obtain ⟨f, g, h, hv⟩ := h
  exact ⟨f, g, h.turn hs ht, hv⟩
theorem RRs.mvd {w w' : World} {lo b : Nat} {v v3 v4 v5 : Value} {L : List (PRule × Value × Value)} (h : RRs w lo v v3 v4 v5 L) (hm : Mvd b w w') (hb : b < lo) : RRs w' lo v v3 v4 v5 L :=
  h.turn hm.size fun _ _ _ _ _ hl h => h.mvd hm (Nat.lt_of_lt_of_le hb hl)
theorem RRs.below {w w' : World} {lo : Nat} {v v3 v4 v5 : Value} {L : List (PRule × Value × Value)} (h : RRs w lo v v3 v4 v5 L) (hm : Below w.heap.size w w') : RRs w' lo v v3 v4 v5 L :=
  h.turn hm.size fun _ _ _ _ _ _ h => h.below hm
theorem RRs.base {w : World} {lo lo' : Nat} {v v3 v4 v5 : Value} {L : List (PRule × Value × Value)} (h : RRs w lo v v3 v4 v5 L) (hb : lo' ≤ lo) : RRs w lo' v v3 v4 v5 L := by
  obtain ⟨f, g, h, hv⟩ := h
  exact ⟨f, g, ⟨Nat.le_trans hb h.lo, h.mono, h.top, h.rows⟩, hv⟩
def inC (x : ByteArray × Int × ByteArray) : List Value := [.string x.1, .int .i64 x.2.1, .string x.2.2]
def outC (x : ByteArray × Int) : List Value := [.string x.1, .int .i64 x.2]
def ruC (x : PRule × Value × Value) : List Value := [.string x.1.p, x.2.1, x.2.2]
def inL (l : List (ByteArray × Int × ByteArray)) : List Value := l.flatMap inC
def outL (l : List (ByteArray × Int)) : List Value := l.flatMap outC
def ruL (l : List (PRule × Value × Value)) : List Value := l.flatMap ruC
def atL (l : List Nat) : List Value := l.map fun n : Nat => Value.int .i64 (n : Int)
/-- a program and its places in memory, while they grow -/
structure Prg (w : World) (lo : Nat) (R0 R1 R2 R3 R4 R5 : Value) (A : List (ByteArray × Int × ByteArray)) (B : List (ByteArray × Int)) (C : List PRule) (a b c : List Nat) : Prop where
  r0 : w.ownsRow lo 43 3 R0 A.length (inL A)
  r1 : w.ownsRow lo 47 2 R1 B.length (outL B)
  r2 : ∃ L : List (PRule × Value × Value), L.map (fun y => y.1) = C ∧ w.ownsRow lo 54 3 R2 L.length (ruL L) ∧ RRs w lo R2 R3 R4 R5 L
  r3 : w.ownsRow lo 3 1 R3 a.length (atL a)
  r4 : w.ownsRow lo 3 1 R4 b.length (atL b)
  r5 : w.ownsRow lo 3 1 R5 c.length (atL c)
  d34 : ∀ k, R3.ownBlock = some k → R4.ownBlock ≠ some k
  d35 : ∀ k, R3.ownBlock = some k → R5.ownBlock ≠ some k
  d45 : ∀ k, R4.ownBlock = some k → R5.ownBlock ≠ some k
theorem Prg.nil (w : World) (lo : Nat) (hlo : lo ≤ w.heap.size) : Prg w lo (.slice none 0 0) (.slice none 0 0) (.slice none 0 0) (.slice none 0 0) (.slice none 0 0) (.slice none 0 0) [] [] [] [] [] [] :=
  ⟨World.ownsRow_nil _ _ _ _, World.ownsRow_nil _ _ _ _, ⟨[], rfl, World.ownsRow_nil _ _ _ _, RRs.nil _ _ _ _ _ _ hlo⟩, World.ownsRow_nil _ _ _ _, World.ownsRow_nil _ _ _ _, World.ownsRow_nil _ _ _ _, (fun k h => by cases h), (fun k h => by cases h), (fun k h => by cases h)⟩
section
variable {w w3 w4 w' : World} {lo b : Nat} {R0 R1 R2 R3 R4 R5 v' : Value} {A : List (ByteArray × Int × ByteArray)} {B : List (ByteArray × Int)} {C : List PRule} {a1 a2 a3 : List Nat} {ob : Obj}
theorem Prg.mvd (h : Prg w lo R0 R1 R2 R3 R4 R5 A B C a1 a2 a3) (hm : Mvd b w w') (hb : b < lo) : Prg w' lo R0 R1 R2 R3 R4 R5 A B C a1 a2 a3 := by
  obtain ⟨L, hL, h2, h3⟩ := h.r2
  exact ⟨own_mvd h.r0 hm hb, own_mvd h.r1 hm hb, ⟨L, hL, own_mvd h2 hm hb, h3.mvd hm hb⟩, own_mvd h.r3 hm hb, own_mvd h.r4 hm hb, own_mvd h.r5 hm hb, h.d34, h.d35, h.d45⟩
theorem Prg.lts (h : Prg w lo R0 R1 R2 R3 R4 R5 A B C a1 a2 a3) : ∀ k, R2.ownBlock = some k ∨ R3.ownBlock = some k ∨ R4.ownBlock = some k ∨ R5.ownBlock = some k → k < w.heap.size := fun k hk => by
  obtain ⟨L, hL, h2, -⟩ := h.r2
  rcases hk with hk | hk | hk | hk
  · exact (h2.lt k hk).2
  · exact (h.r3.lt k hk).2
  · exact (h.r4.lt k hk).2
  · exact (h.r5.lt k hk).2
theorem Prg.below (h : Prg w lo R0 R1 R2 R3 R4 R5 A B C a1 a2 a3) (hm : Below w.heap.size w w') (hlo : 0 < lo) : Prg w' lo R0 R1 R2 R3 R4 R5 A B C a1 a2 a3 :=
  h.mvd (b := 0) (Mvd.of hm) hlo
theorem typesIO : (43 : TypeId) ≠ 47 ∧ (43 : TypeId) ≠ 54 ∧ (43 : TypeId) ≠ 3 ∧ (43 : TypeId) ≠ 76 ∧ (43 : TypeId) ≠ 79 ∧ (47 : TypeId) ≠ 54 ∧ (47 : TypeId) ≠ 3 ∧ (47 : TypeId) ≠ 76 ∧ (47 : TypeId) ≠ 79 ∧ (54 : TypeId) ≠ 3 ∧ (54 : TypeId) ≠ 76 ∧ (54 : TypeId) ≠ 79 ∧ (3 : TypeId) ≠ 76 ∧ (3 : TypeId) ≠ 79 := by decide
theorem ruleAt_grown {e : TypeId} {size : Nat} {v : Value} {n : Nat} {xs : List Value} {lo2 hi : Nat} {av bv : Value} {r : PRule} (h : RuleAt w3 lo2 hi av bv r) (ho : w3.ownsRow lo e size v n xs) (hg : (w3.alloc ob).grownBy w4 v.ownBlock) (hT : e ≠ 76) (hL : e ≠ 79) : RuleAt w4 lo2 hi av bv r := by
  have h' : RuleAt (w3.alloc ob) lo2 hi av bv r := h.below ((Below.refl _ _).al _)
  have ho' := ho.alloc ob
  refine h'.stays hg (fun g cur hc e => ?_) (fun g cur hc e => ?_)
  · exact own_apart ho' hc hT e
  · exact own_apart ho' hc hL e
theorem rrs_grown {e : TypeId} {size : Nat} {v : Value} {n : Nat} {xs : List Value} {u2 u3 u4 u5 : Value} {L : List (PRule × Value × Value)} (h : RRs w3 lo u2 u3 u4 u5 L) (ho : w3.ownsRow lo e size v n xs) (hg : (w3.alloc ob).grownBy w4 v.ownBlock) (hT : e ≠ 76) (hL : e ≠ 79) : RRs w4 lo u2 u3 u4 u5 L :=
  h.turn (Nat.le_trans (by rw [World.size_alloc]; omega) hg.size) fun _ _ _ _ _ _ h => ruleAt_grown h ho hg hT hL
theorem row_grown {e e' : TypeId} {size size' : Nat} {v u : Value} {n n' : Nat} {xs xs' : List Value} (h : w3.ownsRow lo e' size' u n' xs') (ho : w3.ownsRow lo e size v n xs) (hg : (w3.alloc ob).grownBy w4 v.ownBlock) (hT : e ≠ e') : w4.ownsRow lo e' size' u n' xs' :=
  own_stays (h.alloc ob) hg fun k hk e2 => own_apart2 ho h hT k e2 hk
theorem row_grown' {e' : TypeId} {size' : Nat} {v u : Value} {n' : Nat} {xs' : List Value} (h : w3.ownsRow lo e' size' u n' xs') (hg : (w3.alloc ob).grownBy w4 v.ownBlock) (hd : ∀ k, v.ownBlock = some k → u.ownBlock ≠ some k) : w4.ownsRow lo e' size' u n' xs' :=
  own_stays (h.alloc ob) hg fun k hk e2 => hd k e2 hk
theorem Prg.push0 (h : Prg w3 lo R0 R1 R2 R3 R4 R5 A B C a1 a2 a3) (hg : (w3.alloc ob).grownBy w4 R0.ownBlock) {x : ByteArray × Int × ByteArray} (ho : w4.ownsRow lo 43 3 v' (A.length + 1) (inL A ++ inC x)) :
    Prg w4 lo v' R1 R2 R3 R4 R5 (A ++ [x]) B C a1 a2 a3 := by
  obtain ⟨L, hL, h2, h3⟩ := h.r2
  obtain ⟨t1, t2, t3, t4, t5, -⟩ := typesIO
  refine ⟨?_, row_grown h.r1 h.r0 hg t1, ⟨L, hL, row_grown h2 h.r0 hg t2, rrs_grown h3 h.r0 hg t4 t5⟩, row_grown h.r3 h.r0 hg t3, row_grown h.r4 h.r0 hg t3, row_grown h.r5 h.r0 hg t3, h.d34, h.d35, h.d45⟩
  rw [List.length_append, inL, List.flatMap_append]; simpa [inL] using ho
theorem Prg.push1 (h : Prg w3 lo R0 R1 R2 R3 R4 R5 A B C a1 a2 a3) (hg : (w3.alloc ob).grownBy w4 R1.ownBlock) {x : ByteArray × Int} (ho : w4.ownsRow lo 47 2 v' (B.length + 1) (outL B ++ outC x)) :
    Prg w4 lo R0 v' R2 R3 R4 R5 A (B ++ [x]) C a1 a2 a3 := by
  obtain ⟨L, hL, h2, h3⟩ := h.r2
  obtain ⟨t1, -, -, -, -, t2, t3, t4, t5, -⟩ := typesIO
  refine ⟨row_grown h.r0 h.r1 hg (Ne.symm t1), ?_, ⟨L, hL, row_grown h2 h.r1 hg t2, rrs_grown h3 h.r1 hg t4 t5⟩, row_grown h.r3 h.r1 hg t3, row_grown h.r4 h.r1 hg t3, row_grown h.r5 h.r1 hg t3, h.d34, h.d35, h.d45⟩
  rw [List.length_append, outL, List.flatMap_append]; simpa [outL] using ho
/-- the row of rules, with what a new one brings along -/
theorem Prg.push2 (h : Prg w3 lo R0 R1 R2 R3 R4 R5 A B C a1 a2 a3) {L : List (PRule × Value × Value)} (hL : L.map (fun y => y.1) = C) (h2 : w3.ownsRow lo 54 3 R2 L.length (ruL L)) {f gf : Nat → Nat} (h3 : RRows w3 lo f gf L) (hva : VApart R2 f gf L.length ∧ VApart R3 f gf L.length ∧ VApart R4 f gf L.length ∧ VApart R5 f gf L.length) (hg : (w3.alloc ob).grownBy w4 R2.ownBlock) {x : PRule} {av bv : Value} {fl : Nat} (hx : RuleIn w3 fl av bv x) (hf : f L.length ≤ fl) (hfl : fl ≤ w3.heap.size) (hv : ∀ k, R2.ownBlock = some k ∨ R3.ownBlock = some k ∨ R4.ownBlock = some k ∨ R5.ownBlock = some k → k < fl) (hat : ∀ k, v'.ownBlock = some k → R2.ownBlock = some k ∨ w3.heap.size ≤ k)
    (ho : w4.ownsRow lo 54 3 v' (L.length + 1) (ruL L ++ ruC (x, av, bv))) :
    Prg w4 lo R0 R1 v' R3 R4 R5 A B (C ++ [x]) a1 a2 a3 := by
  obtain ⟨-, t0, -, -, -, t1, -, -, -, t3, t4, t5, -⟩ := typesIO
  refine ⟨row_grown h.r0 h2 hg (Ne.symm t0), row_grown h.r1 h2 hg (Ne.symm t1), ⟨L ++ [(x, av, bv)], by rw [List.map_append, hL]; rfl, ?_, ?_⟩, row_grown h.r3 h2 hg t3, row_grown h.r4 h2 hg t3, row_grown h.r5 h2 hg t3, h.d34, h.d35, h.d45⟩
  · rw [List.length_append, ruL, List.flatMap_append]; simpa [ruL] using ho
  · have hs4 : w3.heap.size ≤ w4.heap.size := Nat.le_trans (by rw [World.size_alloc]; omega) hg.size
    have hln : ∀ i, i < (L ++ [(x, av, bv)]).length → i < L.length ∨ i = L.length := fun i hi => by rw [List.length_append, List.length_singleton] at hi; omega
    have hap : ∀ v u : Value, VApart u f gf L.length → (∀ k, u.ownBlock = some k → k < fl) → (∀ k, v.ownBlock = some k → u.ownBlock = some k ∨ w3.heap.size ≤ k) → VApart v (fun i => if i < L.length then f i else if i = L.length then fl else w3.heap.size) (fun i => if i < L.length then gf i else w3.heap.size) (L ++ [(x, av, bv)]).length := fun v u hu hul hat i hi k hk => by
      dsimp only
      rcases hln i hi with h | rfl
      · rw [if_pos h, if_pos h]
        rcases hat k hk with h4 | h4
        · exact hu i h k h4
        · have := h3.le i L.length h (Nat.le_refl _); have := h3.top; omega
      · simp only [Nat.lt_irrefl, if_false, eq_self, if_true]
        rcases hat k hk with h4 | h4
        · exact .inl (hul k h4)
        · exact .inr h4
    refine ⟨fun i => if i < L.length then f i else if i = L.length then fl else w3.heap.size, fun i => if i < L.length then gf i else w3.heap.size, ⟨?_, fun i hi => ?_, ?_, fun i hi => ?_⟩, hap v' R2 hva.1 (fun k hk => hv k (.inl hk)) hat, hap R3 R3 hva.2.1 (fun k hk => hv k (.inr (.inl hk))) (fun k hk => .inl hk), hap R4 R4 hva.2.2.1 (fun k hk => hv k (.inr (.inr (.inl hk)))) (fun k hk => .inl hk), hap R5 R5 hva.2.2.2 (fun k hk => hv k (.inr (.inr (.inr hk)))) (fun k hk => .inl hk)⟩
    · show lo ≤ if 0 < L.length then f 0 else if 0 = L.length then fl else w3.heap.size
      have := h3.lo
      have := h3.ge L.length (Nat.le_refl _)
      split
      · exact h3.lo
      · split <;> omega
    · rcases hln i hi with h | rfl
      · have h1 := h3.mono i h
        rw [if_pos h, if_pos h]
        refine ⟨h1.1, ?_⟩
        have h2 := h3.le i L.length h (Nat.le_refl _)
        split
        · exact h1.2
        · split <;> omega
      · have n1 : ¬ L.length + 1 < L.length := by omega
        have n2 : ¬ L.length + 1 = L.length := by omega
        simp only [Nat.lt_irrefl, if_false, eq_self, if_true, n1, n2]
        exact ⟨hfl, Nat.le_refl _⟩
    · have n1 : ¬ L.length + 1 < L.length := by omega
      have n2 : ¬ L.length + 1 = L.length := by omega
      simp only [List.length_append, List.length_singleton, if_false, n1, n2]; exact hs4
    · rcases hln i hi with h | rfl
      · rw [if_pos h, if_pos h, List.getElem_append_left h]; exact ruleAt_grown (h3.rows i h) h2 hg t4 t5
      · rw [List.getElem_append_right (Nat.le_refl _)]
        simp only [Nat.lt_irrefl, if_false, eq_self, if_true, Nat.sub_self, List.getElem_cons_zero]
        exact ruleAt_grown (RuleAt.of hx) h2 hg t4 t5
theorem atL_snoc (l : List Nat) (n : Nat) : atL (l ++ [n]) = atL l ++ [.int .i64 (n : Int)] := by simp [atL]
theorem own_new {u : Value} {e : TypeId} {size n : Nat} {xs : List Value} {g : Nat} {R : Value} (h : w3.ownsRow lo e size u n xs) (hd : ∀ k, R.ownBlock = some k → u.ownBlock ≠ some k) (hat : R.ownBlock = some g ∨ g = w3.heap.size + 1) : u.ownBlock ≠ some g := fun hk => by
  rcases hat with h1 | h1
  · exact hd g h1 hk
  · have := (h.lt g hk).2; omega
theorem Prg.push3 (h : Prg w3 lo R0 R1 R2 R3 R4 R5 A B C a1 a2 a3) (hg : (w3.alloc ob).grownBy w4 R3.ownBlock) {x g n cp : Nat} (ho : w4.ownsRow lo 3 1 (.slice (some ⟨g, 0, none⟩) n cp) (a1.length + 1) (atL a1 ++ [.int .i64 (x : Int)])) (hat : R3.ownBlock = some g ∨ g = w3.heap.size + 1) :
    Prg w4 lo R0 R1 R2 (.slice (some ⟨g, 0, none⟩) n cp) R4 R5 A B C (a1 ++ [x]) a2 a3 := by
  obtain ⟨L, hL, h2, h30⟩ := h.r2
  have hr3 : RRs w3 lo R2 (.slice (some ⟨g, 0, none⟩) n cp) R4 R5 L := by
    obtain ⟨f, gf, hr, ap2, ap3, ap4, ap5⟩ := h30
    exact ⟨f, gf, hr, ap2, ap3.new hr (fun k hk => by cases hk; exact hat.imp id fun e => by show w3.heap.size ≤ g; omega), ap4, ap5⟩
  obtain ⟨-, -, t0, -, -, -, t1, -, -, t2, -, -, t4, t5⟩ := typesIO
  refine ⟨row_grown h.r0 h.r3 hg (Ne.symm t0), row_grown h.r1 h.r3 hg (Ne.symm t1), ⟨L, hL, row_grown h2 h.r3 hg (Ne.symm t2), rrs_grown hr3 h.r3 hg t4 t5⟩, by rw [List.length_append, atL_snoc]; exact ho, row_grown' h.r4 hg h.d34, row_grown' h.r5 hg h.d35, ?_, ?_, h.d45⟩
  · intro k hk; cases hk; exact own_new h.r4 h.d34 hat
  · intro k hk; cases hk; exact own_new h.r5 h.d35 hat
theorem Prg.push4 (h : Prg w3 lo R0 R1 R2 R3 R4 R5 A B C a1 a2 a3) (hg : (w3.alloc ob).grownBy w4 R4.ownBlock) {x g n cp : Nat} (ho : w4.ownsRow lo 3 1 (.slice (some ⟨g, 0, none⟩) n cp) (a2.length + 1) (atL a2 ++ [.int .i64 (x : Int)])) (hat : R4.ownBlock = some g ∨ g = w3.heap.size + 1) :
    Prg w4 lo R0 R1 R2 R3 (.slice (some ⟨g, 0, none⟩) n cp) R5 A B C a1 (a2 ++ [x]) a3 := by
  obtain ⟨L, hL, h2, h30⟩ := h.r2
  have hr3 : RRs w3 lo R2 R3 (.slice (some ⟨g, 0, none⟩) n cp) R5 L := by
    obtain ⟨f, gf, hr, ap2, ap3, ap4, ap5⟩ := h30
    exact ⟨f, gf, hr, ap2, ap3, ap4.new hr (fun k hk => by cases hk; exact hat.imp id fun e => by show w3.heap.size ≤ g; omega), ap5⟩
  obtain ⟨-, -, t0, -, -, -, t1, -, -, t2, -, -, t4, t5⟩ := typesIO
  have h43 : ∀ k, R4.ownBlock = some k → R3.ownBlock ≠ some k := fun k h4 h3 => h.d34 k h3 h4
  refine ⟨row_grown h.r0 h.r4 hg (Ne.symm t0), row_grown h.r1 h.r4 hg (Ne.symm t1), ⟨L, hL, row_grown h2 h.r4 hg (Ne.symm t2), rrs_grown hr3 h.r4 hg t4 t5⟩, row_grown' h.r3 hg h43, by rw [List.length_append, atL_snoc]; exact ho, row_grown' h.r5 hg h.d45, ?_, h.d35, ?_⟩
  · intro k h3 hk; cases hk; exact own_new h.r3 h43 hat h3
  · intro k hk; cases hk; exact own_new h.r5 h.d45 hat
theorem Prg.push5 (h : Prg w3 lo R0 R1 R2 R3 R4 R5 A B C a1 a2 a3) (hg : (w3.alloc ob).grownBy w4 R5.ownBlock) {x g n cp : Nat} (ho : w4.ownsRow lo 3 1 (.slice (some ⟨g, 0, none⟩) n cp) (a3.length + 1) (atL a3 ++ [.int .i64 (x : Int)])) (hat : R5.ownBlock = some g ∨ g = w3.heap.size + 1) :
    Prg w4 lo R0 R1 R2 R3 R4 (.slice (some ⟨g, 0, none⟩) n cp) A B C a1 a2 (a3 ++ [x]) := by
  obtain ⟨L, hL, h2, h30⟩ := h.r2
  have hr3 : RRs w3 lo R2 R3 R4 (.slice (some ⟨g, 0, none⟩) n cp) L := by
    obtain ⟨f, gf, hr, ap2, ap3, ap4, ap5⟩ := h30
    exact ⟨f, gf, hr, ap2, ap3, ap4, ap5.new hr (fun k hk => by cases hk; exact hat.imp id fun e => by show w3.heap.size ≤ g; omega)⟩
  obtain ⟨-, -, t0, -, -, -, t1, -, -, t2, -, -, t4, t5⟩ := typesIO
  have h53 : ∀ k, R5.ownBlock = some k → R3.ownBlock ≠ some k := fun k h4 h3 => h.d35 k h3 h4
  have h54 : ∀ k, R5.ownBlock = some k → R4.ownBlock ≠ some k := fun k h4 h3 => h.d45 k h3 h4
  refine ⟨row_grown h.r0 h.r5 hg (Ne.symm t0), row_grown h.r1 h.r5 hg (Ne.symm t1), ⟨L, hL, row_grown h2 h.r5 hg (Ne.symm t2), rrs_grown hr3 h.r5 hg t4 t5⟩, row_grown' h.r3 hg h53, row_grown' h.r4 hg h54, by rw [List.length_append, atL_snoc]; exact ho, h.d34, ?_, ?_⟩
  · intro k h3 hk; cases hk; exact own_new h.r3 h53 hat h3
  · intro k h3 hk; cases hk; exact own_new h.r4 h54 hat h3
end
def inpsOf (l : List Stmt) : List (ByteArray × Int × ByteArray) := l.filterMap fun | .inp p n f _ => some (p, n, f) | _ => none
def outsOf (l : List Stmt) : List (ByteArray × Int) := l.filterMap fun | .outp p n _ => some (p, n) | _ => none
def rulesOf (l : List Stmt) : List PRule := l.filterMap fun | .rule r _ => some r | _ => none
def inAts (l : List Stmt) : List Nat := l.filterMap fun | .inp _ _ _ a => some a | _ => none
def outAts (l : List Stmt) : List Nat := l.filterMap fun | .outp _ _ a => some a | _ => none
def ruAts (l : List Stmt) : List Nat := l.filterMap fun | .rule _ a => some a | _ => none
/-- the statements in memory -/
def PrgS (w : World) (lo : Nat) (R0 R1 R2 R3 R4 R5 : Value) (l : List Stmt) : Prop := Prg w lo R0 R1 R2 R3 R4 R5 (inpsOf l) (outsOf l) (rulesOf l) (inAts l) (outAts l) (ruAts l)
end Go.Proofs.YtclioihichcpiaaDoor


/- Parse: a statement. (gen_par.py) -/
namespace Go.Proofs.YtclioihichcpiaaDoor
open Go.RowKit Lx
theorem PSt.put0 {w : World} {b : Nat} {P : Ps} {tx : ByteArray} {ta : Option Addr} {tc i : Nat} {R0 R1 R2 R3 R4 R5 : Value} (h : PSt w b P tx ta tc i R0 R1 R2 R3 R4 R5) (v : Value) : PSt (w.setCell ⟨b, 8, none⟩ v) b P tx ta tc i v R1 R2 R3 R4 R5 := by
  refine ⟨Go.heap_setCell_same w b 8 _ _ v h.blk, fun j t hj => ?_, h.len, h.pos⟩
  obtain ⟨tb, h1, h2, h3, h4, h5⟩ := h.toks j t hj
  have hc : ∀ n, (w.setCell ⟨b, 8, none⟩ v).cell? ⟨tb, n, none⟩ = w.cell? ⟨tb, n, none⟩ := fun n => World.cell?_of_block (heap_setCell_other _ _ _ _ (h.tok_ne h1 (by have := (List.getElem?_eq_some_iff.1 hj).1; omega)))
  exact ⟨tb, h1, by rw [hc]; exact h2, by rw [hc]; exact h3, by rw [hc]; exact h4, by rw [hc]; exact h5⟩
theorem PSt.put1 {w : World} {b : Nat} {P : Ps} {tx : ByteArray} {ta : Option Addr} {tc i : Nat} {R0 R1 R2 R3 R4 R5 : Value} (h : PSt w b P tx ta tc i R0 R1 R2 R3 R4 R5) (v : Value) : PSt (w.setCell ⟨b, 9, none⟩ v) b P tx ta tc i R0 v R2 R3 R4 R5 := by
  refine ⟨Go.heap_setCell_same w b 9 _ _ v h.blk, fun j t hj => ?_, h.len, h.pos⟩
  obtain ⟨tb, h1, h2, h3, h4, h5⟩ := h.toks j t hj
  have hc : ∀ n, (w.setCell ⟨b, 9, none⟩ v).cell? ⟨tb, n, none⟩ = w.cell? ⟨tb, n, none⟩ := fun n => World.cell?_of_block (heap_setCell_other _ _ _ _ (h.tok_ne h1 (by have := (List.getElem?_eq_some_iff.1 hj).1; omega)))
  exact ⟨tb, h1, by rw [hc]; exact h2, by rw [hc]; exact h3, by rw [hc]; exact h4, by rw [hc]; exact h5⟩
theorem PSt.put2 {w : World} {b : Nat} {P : Ps} {tx : ByteArray} {ta : Option Addr} {tc i : Nat} {R0 R1 R2 R3 R4 R5 : Value} (h : PSt w b P tx ta tc i R0 R1 R2 R3 R4 R5) (v : Value) : PSt (w.setCell ⟨b, 10, none⟩ v) b P tx ta tc i R0 R1 v R3 R4 R5 := by
  refine ⟨Go.heap_setCell_same w b 10 _ _ v h.blk, fun j t hj => ?_, h.len, h.pos⟩
  obtain ⟨tb, h1, h2, h3, h4, h5⟩ := h.toks j t hj
  have hc : ∀ n, (w.setCell ⟨b, 10, none⟩ v).cell? ⟨tb, n, none⟩ = w.cell? ⟨tb, n, none⟩ := fun n => World.cell?_of_block (heap_setCell_other _ _ _ _ (h.tok_ne h1 (by have := (List.getElem?_eq_some_iff.1 hj).1; omega)))
  exact ⟨tb, h1, by rw [hc]; exact h2, by rw [hc]; exact h3, by rw [hc]; exact h4, by rw [hc]; exact h5⟩
theorem PSt.put3 {w : World} {b : Nat} {P : Ps} {tx : ByteArray} {ta : Option Addr} {tc i : Nat} {R0 R1 R2 R3 R4 R5 : Value} (h : PSt w b P tx ta tc i R0 R1 R2 R3 R4 R5) (v : Value) : PSt (w.setCell ⟨b, 11, none⟩ v) b P tx ta tc i R0 R1 R2 v R4 R5 := by
  refine ⟨Go.heap_setCell_same w b 11 _ _ v h.blk, fun j t hj => ?_, h.len, h.pos⟩
  obtain ⟨tb, h1, h2, h3, h4, h5⟩ := h.toks j t hj
  have hc : ∀ n, (w.setCell ⟨b, 11, none⟩ v).cell? ⟨tb, n, none⟩ = w.cell? ⟨tb, n, none⟩ := fun n => World.cell?_of_block (heap_setCell_other _ _ _ _ (h.tok_ne h1 (by have := (List.getElem?_eq_some_iff.1 hj).1; omega)))
  exact ⟨tb, h1, by rw [hc]; exact h2, by rw [hc]; exact h3, by rw [hc]; exact h4, by rw [hc]; exact h5⟩
theorem PSt.put4 {w : World} {b : Nat} {P : Ps} {tx : ByteArray} {ta : Option Addr} {tc i : Nat} {R0 R1 R2 R3 R4 R5 : Value} (h : PSt w b P tx ta tc i R0 R1 R2 R3 R4 R5) (v : Value) : PSt (w.setCell ⟨b, 12, none⟩ v) b P tx ta tc i R0 R1 R2 R3 v R5 := by
  refine ⟨Go.heap_setCell_same w b 12 _ _ v h.blk, fun j t hj => ?_, h.len, h.pos⟩
  obtain ⟨tb, h1, h2, h3, h4, h5⟩ := h.toks j t hj
  have hc : ∀ n, (w.setCell ⟨b, 12, none⟩ v).cell? ⟨tb, n, none⟩ = w.cell? ⟨tb, n, none⟩ := fun n => World.cell?_of_block (heap_setCell_other _ _ _ _ (h.tok_ne h1 (by have := (List.getElem?_eq_some_iff.1 hj).1; omega)))
  exact ⟨tb, h1, by rw [hc]; exact h2, by rw [hc]; exact h3, by rw [hc]; exact h4, by rw [hc]; exact h5⟩
theorem PSt.put5 {w : World} {b : Nat} {P : Ps} {tx : ByteArray} {ta : Option Addr} {tc i : Nat} {R0 R1 R2 R3 R4 R5 : Value} (h : PSt w b P tx ta tc i R0 R1 R2 R3 R4 R5) (v : Value) : PSt (w.setCell ⟨b, 13, none⟩ v) b P tx ta tc i R0 R1 R2 R3 R4 v := by
  refine ⟨Go.heap_setCell_same w b 13 _ _ v h.blk, fun j t hj => ?_, h.len, h.pos⟩
  obtain ⟨tb, h1, h2, h3, h4, h5⟩ := h.toks j t hj
  have hc : ∀ n, (w.setCell ⟨b, 13, none⟩ v).cell? ⟨tb, n, none⟩ = w.cell? ⟨tb, n, none⟩ := fun n => World.cell?_of_block (heap_setCell_other _ _ _ _ (h.tok_ne h1 (by have := (List.getElem?_eq_some_iff.1 hj).1; omega)))
  exact ⟨tb, h1, by rw [hc]; exact h2, by rw [hc]; exact h3, by rw [hc]; exact h4, by rw [hc]; exact h5⟩
/-- what stands while a statement is read -/
structure SS (w0 w : World) (lo b : Nat) (P : Ps) (tx : ByteArray) (ta : Option Addr) (tc i : Nat) (R0 R1 R2 R3 R4 R5 : Value) (A : List (ByteArray × Int × ByteArray)) (B : List (ByteArray × Int)) (C : List PRule) (a1 a2 a3 : List Nat) (g : Nat) (tcs : Array Value) : Prop where
  st : PSt w b P tx ta tc i R0 R1 R2 R3 R4 R5
  fr : Frm lo b w0 w
  pg : Prg w lo R0 R1 R2 R3 R4 R5 A B C a1 a2 a3
  tok : w.heap[g]? = some (.cells tcs 92)
  gt : lo ≤ g
  lo0 : lo ≤ w0.heap.size
  blo : b < lo
  tlo : ∀ x, ta = some x → x.block < lo
section
variable {w0 w w' w3 w4 : World} {lo b : Nat} {P : Ps} {tx : ByteArray} {ta : Option Addr} {tc i i' : Nat} {R0 R1 R2 R3 R4 R5 : Value} {A : List (ByteArray × Int × ByteArray)} {B : List (ByteArray × Int)} {C : List PRule} {a1 a2 a3 : List Nat} {g : Nat} {tcs : Array Value} {ob : Obj} {v' : Value}
theorem SS.move (h : SS w0 w lo b P tx ta tc i R0 R1 R2 R3 R4 R5 A B C a1 a2 a3 g tcs) (hm : Mvd b w w') (hs : PSt w' b P tx ta tc i' R0 R1 R2 R3 R4 R5) : SS w0 w' lo b P tx ta tc i' R0 R1 R2 R3 R4 R5 A B C a1 a2 a3 g tcs :=
  ⟨hs, h.fr.trans (Frm.of_mvd hm (Nat.le_trans h.lo0 h.fr.size)), h.pg.mvd hm h.blo, (hm.block _ (Array.getElem?_eq_some_iff.1 h.tok).1 (fun e => by injection e with e; have := h.gt; have := h.blo; omega)).trans h.tok, h.gt, h.lo0, h.blo, h.tlo⟩
theorem SS.below (h : SS w0 w lo b P tx ta tc i R0 R1 R2 R3 R4 R5 A B C a1 a2 a3 g tcs) (hm : Below w.heap.size w w') : SS w0 w' lo b P tx ta tc i R0 R1 R2 R3 R4 R5 A B C a1 a2 a3 g tcs := h.move (Mvd.of hm) (h.st.below hm)
theorem SS.cells (h : SS w0 w lo b P tx ta tc i R0 R1 R2 R3 R4 R5 A B C a1 a2 a3 g tcs) : (∀ k v, tcs[k]? = some v → w.cell? ⟨g, k, none⟩ = some v) ∧ w.cell? ⟨b, 8, none⟩ = some R0 ∧ w.cell? ⟨b, 9, none⟩ = some R1 ∧ w.cell? ⟨b, 10, none⟩ = some R2 ∧ w.cell? ⟨b, 11, none⟩ = some R3 ∧ w.cell? ⟨b, 12, none⟩ = some R4 ∧ w.cell? ⟨b, 13, none⟩ = some R5 ∧ (∀ k, w.frozen? ⟨b, k, none⟩ = false) := by
  have h1 := h.st.blk
  have h2 := h.tok
  refine ⟨fun k v hk => ?_, by simp [World.cell?, h1], by simp [World.cell?, h1], by simp [World.cell?, h1], by simp [World.cell?, h1], by simp [World.cell?, h1], by simp [World.cell?, h1], fun k => by simp [World.frozen?, h1]⟩
  simp [World.cell?, h2, hk]
theorem SS.bump0 (h : SS w0 w3 lo b P tx ta tc i R0 R1 R2 R3 R4 R5 A B C a1 a2 a3 g tcs) (hg : (w3.alloc ob).grownBy w4 R0.ownBlock) {x : ByteArray × Int × ByteArray} (ho : w4.ownsRow lo 43 3 v' (A.length + 1) (inL A ++ inC x)) :
    (w4.heap[b]? = w3.heap[b]? ∧ w4.heap[g]? = w3.heap[g]?) ∧ SS w0 (w4.setCell ⟨b, 8, none⟩ v') lo b P tx ta tc i v' R1 R2 R3 R4 R5 (A ++ [x]) B C a1 a2 a3 g tcs := by
  have hlow : ∀ j, j < w3.heap.size → R0.ownBlock ≠ some j → w4.heap[j]? = w3.heap[j]? := fun j hj hne => (hg.block j (by rw [World.size_alloc]; omega) (fun e => hne e.symm)).trans (heap_alloc_old _ _ hj)
  have hbl := h.st.lt
  have hgl := (Array.getElem?_eq_some_iff.1 h.tok).1
  have hbb : w4.heap[b]? = w3.heap[b]? := hlow b hbl (own_apart h.pg.r0 h.st.blk (by decide))
  have hgg : w4.heap[g]? = w3.heap[g]? := hlow g hgl (own_apart h.pg.r0 h.tok (by decide))
  have hlo3 : lo ≤ w3.heap.size := Nat.le_trans h.lo0 h.fr.size
  have hs4 : PSt w4 b P tx ta tc i R0 R1 R2 R3 R4 R5 := h.st.low (B := lo) (fun j hj => hlow j (by omega) (fun e => by have := own_ge h.pg.r0 j e; omega)) h.blo h.tlo
  have hm : Mvd b w4 (w4.setCell ⟨b, 8, none⟩ v') := (Mvd.refl _ _).set _ _
  refine ⟨⟨hbb, hgg⟩, hs4.put0 _, ?_, (h.pg.push0 hg ho).mvd hm h.blo, (hm.block _ (by have := hg.size; rw [World.size_alloc] at this; omega) (fun e => by injection e with e; have := h.gt; have := h.blo; omega)).trans (hgg.trans h.tok), h.gt, h.lo0, h.blo, h.tlo⟩
  have h1 : Frm lo b w3 w4 := Frm.of_grown hg hlo3 fun j e => own_ge h.pg.r0 j e
  exact (h.fr.trans h1).trans (Frm.of_mvd hm (Nat.le_trans hlo3 h1.size))
theorem SS.bump1 (h : SS w0 w3 lo b P tx ta tc i R0 R1 R2 R3 R4 R5 A B C a1 a2 a3 g tcs) (hg : (w3.alloc ob).grownBy w4 R1.ownBlock) {x : ByteArray × Int} (ho : w4.ownsRow lo 47 2 v' (B.length + 1) (outL B ++ outC x)) :
    (w4.heap[b]? = w3.heap[b]? ∧ w4.heap[g]? = w3.heap[g]?) ∧ SS w0 (w4.setCell ⟨b, 9, none⟩ v') lo b P tx ta tc i R0 v' R2 R3 R4 R5 A (B ++ [x]) C a1 a2 a3 g tcs := by
  have hlow : ∀ j, j < w3.heap.size → R1.ownBlock ≠ some j → w4.heap[j]? = w3.heap[j]? := fun j hj hne => (hg.block j (by rw [World.size_alloc]; omega) (fun e => hne e.symm)).trans (heap_alloc_old _ _ hj)
  have hbl := h.st.lt
  have hgl := (Array.getElem?_eq_some_iff.1 h.tok).1
  have hbb : w4.heap[b]? = w3.heap[b]? := hlow b hbl (own_apart h.pg.r1 h.st.blk (by decide))
  have hgg : w4.heap[g]? = w3.heap[g]? := hlow g hgl (own_apart h.pg.r1 h.tok (by decide))
  have hlo3 : lo ≤ w3.heap.size := Nat.le_trans h.lo0 h.fr.size
  have hs4 : PSt w4 b P tx ta tc i R0 R1 R2 R3 R4 R5 := h.st.low (B := lo) (fun j hj => hlow j (by omega) (fun e => by have := own_ge h.pg.r1 j e; omega)) h.blo h.tlo
  have hm : Mvd b w4 (w4.setCell ⟨b, 9, none⟩ v') := (Mvd.refl _ _).set _ _
  refine ⟨⟨hbb, hgg⟩, hs4.put1 _, ?_, (h.pg.push1 hg ho).mvd hm h.blo, (hm.block _ (by have := hg.size; rw [World.size_alloc] at this; omega) (fun e => by injection e with e; have := h.gt; have := h.blo; omega)).trans (hgg.trans h.tok), h.gt, h.lo0, h.blo, h.tlo⟩
  have h1 : Frm lo b w3 w4 := Frm.of_grown hg hlo3 fun j e => own_ge h.pg.r1 j e
  exact (h.fr.trans h1).trans (Frm.of_mvd hm (Nat.le_trans hlo3 h1.size))
theorem SS.bump2 (h : SS w0 w3 lo b P tx ta tc i R0 R1 R2 R3 R4 R5 A B C a1 a2 a3 g tcs) (hg : (w3.alloc ob).grownBy w4 R2.ownBlock) {x : PRule} {av bv : Value} {L : List (PRule × Value × Value)} (hL : L.map (fun y => y.1) = C) (h2 : w3.ownsRow lo 54 3 R2 L.length (ruL L)) {f gf : Nat → Nat} (h3 : RRows w3 lo f gf L) (hva : VApart R2 f gf L.length ∧ VApart R3 f gf L.length ∧ VApart R4 f gf L.length ∧ VApart R5 f gf L.length) {fl : Nat} (hx : RuleIn w3 fl av bv x) (hf : f L.length ≤ fl) (hfl : fl ≤ w3.heap.size) (hv : ∀ k, R2.ownBlock = some k ∨ R3.ownBlock = some k ∨ R4.ownBlock = some k ∨ R5.ownBlock = some k → k < fl) (hat : ∀ k, v'.ownBlock = some k → R2.ownBlock = some k ∨ w3.heap.size ≤ k) (ho : w4.ownsRow lo 54 3 v' (L.length + 1) (ruL L ++ ruC (x, av, bv))) :
    (w4.heap[b]? = w3.heap[b]? ∧ w4.heap[g]? = w3.heap[g]?) ∧ SS w0 (w4.setCell ⟨b, 10, none⟩ v') lo b P tx ta tc i R0 R1 v' R3 R4 R5 A B (C ++ [x]) a1 a2 a3 g tcs := by
  have hlow : ∀ j, j < w3.heap.size → R2.ownBlock ≠ some j → w4.heap[j]? = w3.heap[j]? := fun j hj hne => (hg.block j (by rw [World.size_alloc]; omega) (fun e => hne e.symm)).trans (heap_alloc_old _ _ hj)
  have hbl := h.st.lt
  have hgl := (Array.getElem?_eq_some_iff.1 h.tok).1
  have hbb : w4.heap[b]? = w3.heap[b]? := hlow b hbl (own_apart h2 h.st.blk (by decide))
  have hgg : w4.heap[g]? = w3.heap[g]? := hlow g hgl (own_apart h2 h.tok (by decide))
  have hlo3 : lo ≤ w3.heap.size := Nat.le_trans h.lo0 h.fr.size
  have hs4 : PSt w4 b P tx ta tc i R0 R1 R2 R3 R4 R5 := h.st.low (B := lo) (fun j hj => hlow j (by omega) (fun e => by have := own_ge h2 j e; omega)) h.blo h.tlo
  have hm : Mvd b w4 (w4.setCell ⟨b, 10, none⟩ v') := (Mvd.refl _ _).set _ _
  refine ⟨⟨hbb, hgg⟩, hs4.put2 _, ?_, (h.pg.push2 hL h2 h3 hva hg hx hf hfl hv hat ho).mvd hm h.blo, (hm.block _ (by have := hg.size; rw [World.size_alloc] at this; omega) (fun e => by injection e with e; have := h.gt; have := h.blo; omega)).trans (hgg.trans h.tok), h.gt, h.lo0, h.blo, h.tlo⟩
  have h1 : Frm lo b w3 w4 := Frm.of_grown hg hlo3 fun j e => own_ge h2 j e
  exact (h.fr.trans h1).trans (Frm.of_mvd hm (Nat.le_trans hlo3 h1.size))
theorem SS.bump3 (h : SS w0 w3 lo b P tx ta tc i R0 R1 R2 R3 R4 R5 A B C a1 a2 a3 g tcs) (hg : (w3.alloc ob).grownBy w4 R3.ownBlock) {x n gg cp : Nat} (ho : w4.ownsRow lo 3 1 (.slice (some ⟨gg, 0, none⟩) n cp) (a1.length + 1) (atL a1 ++ [.int .i64 (x : Int)])) (hat : R3.ownBlock = some gg ∨ gg = w3.heap.size + 1) :
    (w4.heap[b]? = w3.heap[b]? ∧ w4.heap[g]? = w3.heap[g]?) ∧ SS w0 (w4.setCell ⟨b, 11, none⟩ (.slice (some ⟨gg, 0, none⟩) n cp)) lo b P tx ta tc i R0 R1 R2 (.slice (some ⟨gg, 0, none⟩) n cp) R4 R5 A B C (a1 ++ [x]) a2 a3 g tcs := by
  have hlow : ∀ j, j < w3.heap.size → R3.ownBlock ≠ some j → w4.heap[j]? = w3.heap[j]? := fun j hj hne => (hg.block j (by rw [World.size_alloc]; omega) (fun e => hne e.symm)).trans (heap_alloc_old _ _ hj)
  have hbl := h.st.lt
  have hgl := (Array.getElem?_eq_some_iff.1 h.tok).1
  have hbb : w4.heap[b]? = w3.heap[b]? := hlow b hbl (own_apart h.pg.r3 h.st.blk (by decide))
  have hgg : w4.heap[g]? = w3.heap[g]? := hlow g hgl (own_apart h.pg.r3 h.tok (by decide))
  have hlo3 : lo ≤ w3.heap.size := Nat.le_trans h.lo0 h.fr.size
  have hs4 : PSt w4 b P tx ta tc i R0 R1 R2 R3 R4 R5 := h.st.low (B := lo) (fun j hj => hlow j (by omega) (fun e => by have := own_ge h.pg.r3 j e; omega)) h.blo h.tlo
  have hm : Mvd b w4 (w4.setCell ⟨b, 11, none⟩ (.slice (some ⟨gg, 0, none⟩) n cp)) := (Mvd.refl _ _).set _ _
  refine ⟨⟨hbb, hgg⟩, hs4.put3 _, ?_, (h.pg.push3 hg ho hat).mvd hm h.blo, (hm.block _ (by have := hg.size; rw [World.size_alloc] at this; omega) (fun e => by injection e with e; have := h.gt; have := h.blo; omega)).trans (hgg.trans h.tok), h.gt, h.lo0, h.blo, h.tlo⟩
  have h1 : Frm lo b w3 w4 := Frm.of_grown hg hlo3 fun j e => own_ge h.pg.r3 j e
  exact (h.fr.trans h1).trans (Frm.of_mvd hm (Nat.le_trans hlo3 h1.size))
theorem SS.bump4 (h : SS w0 w3 lo b P tx ta tc i R0 R1 R2 R3 R4 R5 A B C a1 a2 a3 g tcs) (hg : (w3.alloc ob).grownBy w4 R4.ownBlock) {x n gg cp : Nat} (ho : w4.ownsRow lo 3 1 (.slice (some ⟨gg, 0, none⟩) n cp) (a2.length + 1) (atL a2 ++ [.int .i64 (x : Int)])) (hat : R4.ownBlock = some gg ∨ gg = w3.heap.size + 1) :
    (w4.heap[b]? = w3.heap[b]? ∧ w4.heap[g]? = w3.heap[g]?) ∧ SS w0 (w4.setCell ⟨b, 12, none⟩ (.slice (some ⟨gg, 0, none⟩) n cp)) lo b P tx ta tc i R0 R1 R2 R3 (.slice (some ⟨gg, 0, none⟩) n cp) R5 A B C a1 (a2 ++ [x]) a3 g tcs := by
  have hlow : ∀ j, j < w3.heap.size → R4.ownBlock ≠ some j → w4.heap[j]? = w3.heap[j]? := fun j hj hne => (hg.block j (by rw [World.size_alloc]; omega) (fun e => hne e.symm)).trans (heap_alloc_old _ _ hj)
  have hbl := h.st.lt
  have hgl := (Array.getElem?_eq_some_iff.1 h.tok).1
  have hbb : w4.heap[b]? = w3.heap[b]? := hlow b hbl (own_apart h.pg.r4 h.st.blk (by decide))
  have hgg : w4.heap[g]? = w3.heap[g]? := hlow g hgl (own_apart h.pg.r4 h.tok (by decide))
  have hlo3 : lo ≤ w3.heap.size := Nat.le_trans h.lo0 h.fr.size
  have hs4 : PSt w4 b P tx ta tc i R0 R1 R2 R3 R4 R5 := h.st.low (B := lo) (fun j hj => hlow j (by omega) (fun e => by have := own_ge h.pg.r4 j e; omega)) h.blo h.tlo
  have hm : Mvd b w4 (w4.setCell ⟨b, 12, none⟩ (.slice (some ⟨gg, 0, none⟩) n cp)) := (Mvd.refl _ _).set _ _
  refine ⟨⟨hbb, hgg⟩, hs4.put4 _, ?_, (h.pg.push4 hg ho hat).mvd hm h.blo, (hm.block _ (by have := hg.size; rw [World.size_alloc] at this; omega) (fun e => by injection e with e; have := h.gt; have := h.blo; omega)).trans (hgg.trans h.tok), h.gt, h.lo0, h.blo, h.tlo⟩
  have h1 : Frm lo b w3 w4 := Frm.of_grown hg hlo3 fun j e => own_ge h.pg.r4 j e
  exact (h.fr.trans h1).trans (Frm.of_mvd hm (Nat.le_trans hlo3 h1.size))
theorem SS.bump5 (h : SS w0 w3 lo b P tx ta tc i R0 R1 R2 R3 R4 R5 A B C a1 a2 a3 g tcs) (hg : (w3.alloc ob).grownBy w4 R5.ownBlock) {x n gg cp : Nat} (ho : w4.ownsRow lo 3 1 (.slice (some ⟨gg, 0, none⟩) n cp) (a3.length + 1) (atL a3 ++ [.int .i64 (x : Int)])) (hat : R5.ownBlock = some gg ∨ gg = w3.heap.size + 1) :
    (w4.heap[b]? = w3.heap[b]? ∧ w4.heap[g]? = w3.heap[g]?) ∧ SS w0 (w4.setCell ⟨b, 13, none⟩ (.slice (some ⟨gg, 0, none⟩) n cp)) lo b P tx ta tc i R0 R1 R2 R3 R4 (.slice (some ⟨gg, 0, none⟩) n cp) A B C a1 a2 (a3 ++ [x]) g tcs := by
  have hlow : ∀ j, j < w3.heap.size → R5.ownBlock ≠ some j → w4.heap[j]? = w3.heap[j]? := fun j hj hne => (hg.block j (by rw [World.size_alloc]; omega) (fun e => hne e.symm)).trans (heap_alloc_old _ _ hj)
  have hbl := h.st.lt
  have hgl := (Array.getElem?_eq_some_iff.1 h.tok).1
  have hbb : w4.heap[b]? = w3.heap[b]? := hlow b hbl (own_apart h.pg.r5 h.st.blk (by decide))
  have hgg : w4.heap[g]? = w3.heap[g]? := hlow g hgl (own_apart h.pg.r5 h.tok (by decide))
  have hlo3 : lo ≤ w3.heap.size := Nat.le_trans h.lo0 h.fr.size
  have hs4 : PSt w4 b P tx ta tc i R0 R1 R2 R3 R4 R5 := h.st.low (B := lo) (fun j hj => hlow j (by omega) (fun e => by have := own_ge h.pg.r5 j e; omega)) h.blo h.tlo
  have hm : Mvd b w4 (w4.setCell ⟨b, 13, none⟩ (.slice (some ⟨gg, 0, none⟩) n cp)) := (Mvd.refl _ _).set _ _
  refine ⟨⟨hbb, hgg⟩, hs4.put5 _, ?_, (h.pg.push5 hg ho hat).mvd hm h.blo, (hm.block _ (by have := hg.size; rw [World.size_alloc] at this; omega) (fun e => by injection e with e; have := h.gt; have := h.blo; omega)).trans (hgg.trans h.tok), h.gt, h.lo0, h.blo, h.tlo⟩
  have h1 : Frm lo b w3 w4 := Frm.of_grown hg hlo3 fun j e => own_ge h.pg.r5 j e
  exact (h.fr.trans h1).trans (Frm.of_mvd hm (Nat.le_trans hlo3 h1.size))
end
end Go.Proofs.YtclioihichcpiaaDoor


/- Parse: a statement, walked. (gen_pas.py) -/
namespace Go.Proofs.YtclioihichcpiaaDoor
open Go.RowKit Lx
set_option linter.unusedVariables false
def StPost (lo b : Nat) (P : Ps) (tx : ByteArray) (ta : Option Addr) (tc : Nat) (A : List (ByteArray × Int × ByteArray)) (B : List (ByteArray × Int)) (C : List PRule) (a1 a2 a3 : List Nat) (w0 : World) (R : Except Int (Stmt × Nat)) (e : Ending) (w' : World) : Prop :=
  match R with
  | .ok (s, k) => e = .returned (.tuple #[]) ∧ Frm lo b w0 w' ∧ ∃ R0 R1 R2 R3 R4 R5, PSt w' b P tx ta tc k R0 R1 R2 R3 R4 R5 ∧ Prg w' lo R0 R1 R2 R3 R4 R5 (A ++ inpsOf [s]) (B ++ outsOf [s]) (C ++ rulesOf [s]) (a1 ++ inAts [s]) (a2 ++ outAts [s]) (a3 ++ ruAts [s])
  | .error x => e = thrown x ∧ Frm lo b w0 w'
section
variable {w : World} {lo : Nat} {R0 R1 R2 R3 R4 R5 : Value} {A : List (ByteArray × Int × ByteArray)} {B : List (ByteArray × Int)} {C : List PRule} {a1 a2 a3 : List Nat}
theorem Prg.form0 (h : Prg w lo R0 R1 R2 R3 R4 R5 A B C a1 a2 a3) : ∃ va vc, R0 = .slice va A.length vc := (own_slice h.r0).elim fun va h => h.elim fun vc h => ⟨va, vc, h.1⟩
theorem Prg.form1 (h : Prg w lo R0 R1 R2 R3 R4 R5 A B C a1 a2 a3) : ∃ va vc, R1 = .slice va B.length vc := (own_slice h.r1).elim fun va h => h.elim fun vc h => ⟨va, vc, h.1⟩
theorem Prg.form2 (h : Prg w lo R0 R1 R2 R3 R4 R5 A B C a1 a2 a3) : ∃ va vc, R2 = .slice va C.length vc := by
  obtain ⟨L, hL, h2, _⟩ := h.r2
  obtain ⟨va, vc, e, _⟩ := own_slice h2
  refine ⟨va, vc, ?_⟩
  rw [e, ← hL, List.length_map]
theorem Prg.form3 (h : Prg w lo R0 R1 R2 R3 R4 R5 A B C a1 a2 a3) : ∃ va vc, R3 = .slice va a1.length vc := (own_slice h.r3).elim fun va h => h.elim fun vc h => ⟨va, vc, h.1⟩
theorem Prg.form4 (h : Prg w lo R0 R1 R2 R3 R4 R5 A B C a1 a2 a3) : ∃ va vc, R4 = .slice va a2.length vc := (own_slice h.r4).elim fun va h => h.elim fun vc h => ⟨va, vc, h.1⟩
theorem Prg.form5 (h : Prg w lo R0 R1 R2 R3 R4 R5 A B C a1 a2 a3) : ∃ va vc, R5 = .slice va a3.length vc := (own_slice h.r5).elim fun va h => h.elim fun vc h => ⟨va, vc, h.1⟩
end
theorem RuleIn.form {w : World} {lo : Nat} {av bv : Value} {r : PRule} (h : RuleIn w lo av bv r) : ∃ xa xn xc ya yn yc, av = .slice xa xn xc ∧ bv = .slice ya yn yc := by
  obtain ⟨h1, L, _, h3, _⟩ := h
  obtain ⟨xa, xc, e1, _⟩ := own_slice h1
  obtain ⟨ya, yc, e2, _⟩ := own_slice h3.own
  exact ⟨_, _, _, _, _, _, e1, e2⟩
theorem infoInt : (Tryd.prog.info? 3).map (fun i => (i.zero, i.size, i.bytes)) = some (some (.int .i64 0), 1, 8) := by kernel_rfl
theorem infoRule : (Tryd.prog.info? 54).map (fun i => (i.zero, i.size, i.bytes)) = some (some (.agg #[.string ⟨#[]⟩, .slice none 0 0, .slice none 0 0]), 3, 64) := by kernel_rfl
set_option maxHeartbeats 4000000 in
set_option maxRecDepth 100000 in
theorem pa_stmt_rule (w : World) (b : Nat) (P : Ps) (tx : ByteArray) (ta : Option Addr) (tc i : Nat) (R0 R1 R2 R3 R4 R5 : Value) (h : PSt w b P tx ta tc i R0 R1 R2 R3 R4 R5) (lo : Nat) (A : List (ByteArray × Int × ByteArray)) (B : List (ByteArray × Int)) (C : List PRule) (a1 a2 a3 : List Nat) (hpg : Prg w lo R0 R1 R2 R3 R4 R5 A B C a1 a2 a3) (hblo : b < lo) (hlo : lo ≤ w.heap.size) (htlo : ∀ x, ta = some x → x.block < lo) (hA : A.length ≤ 4194304) (hB : B.length ≤ 4194304) (hC : C.length ≤ 4194304) (h1 : a1.length ≤ 4194304) (h2 : a2.length ≤ 4194304) (h3 : a3.length ≤ 4194304) (hsz : ∀ j, (P.tok j).text.length ≤ 4194304) (hat : ∀ j, (P.tok j).at_ ≤ 4194304) (hK : P.kind i = 1) (hlt : i < P.ts.length) :
    Calls Tryd.prog 33 #[.pointer (some ⟨b, 0, none⟩)] w (StPost lo b P tx ta tc A B C a1 a2 a3 w (psStmt P i)) := by
  obtain ⟨it, hit, ht0, ht1, ht2⟩ := info_parts infoRule
  obtain ⟨iti, hiti, hti0, hti1, hti2⟩ := info_parts infoInt
  have hlen := h.len
  have hbl := h.lt
  have htk := fun w h wa hw => pa_take_ok w b P tx ta tc i R0 R1 R2 R3 R4 R5 h wa [1, 5, 6] 3 hw (by decide) (by rw [hK]; rfl) hlt
  rw [hK] at htk
  have hta : P.take i [1, 5, 6] = .ok (P.tok i, i + 1) := by unfold Ps.take; rw [hK]; rfl
  have hkk : (P.tok i).kind = 1 := hK
  have hru := fun w h => pa_rule w b P tx ta tc (i + 1) R0 R1 R2 R3 R4 R5 h (mk (P.tok i).text)
  have hL : Hid (psStmt P i = match psRule P (i + 1) (mk (P.tok i).text) with | .error e => .error e | .ok (r, k) => .ok (.rule r (P.tok i).at_, k)) := Lib.hid (by
    unfold psStmt; rw [hta]; dsimp only; rw [if_neg (by omega), if_neg (by omega)]; cases psRule P (i + 1) (mk (P.tok i).text) <;> rfl)
  generalize psRule P (i + 1) (mk (P.tok i).text) = RR at hru hL
  generalize mk (P.tok i).text = tt at htk hru
  generalize (P.tok i).at_ = ta1 at htk hL
  generalize ((P.tok i).end_ : Int) = te1 at htk
  clear hK hta hkk
  go_enter Tryd.func33, Tryd.ntmps33
  go_wp2_with (go_at_call 55; refine (htk _ (h.below ((Below.refl _ _).al _)) _ (kinds_lit _ _ [1, 5, 6] _ rfl (by decide) rfl)).mono ?_; rintro e w1 ⟨rfl, hs10, hm10⟩; have hs1 := Lib.hid hs10; have hm1 := Lib.hid ((Mvd.of ((Below.refl w.heap.size w).al _)).trans hm10); clear hs10 hm10)
  have hsz1 := Nat.le_trans hlo hm1.out.size
  obtain ⟨w2, hw2⟩ : ∃ w2, w2 = w1.alloc (.cells #[.int .i64 1, .string tt, .int .i64 (ta1 : Nat), .int .i64 te1] 92) := ⟨_, rfl⟩
  have hss : Hid (SS w w2 lo b P tx ta tc (i + 1) R0 R1 R2 R3 R4 R5 A B C a1 a2 a3 w1.heap.size #[.int .i64 1, .string tt, .int .i64 (ta1 : Nat), .int .i64 te1]) := Lib.hid (by
    rw [hw2]
    have hb := (Below.refl w1.heap.size w1).al (.cells #[.int .i64 1, .string tt, .int .i64 (ta1 : Nat), .int .i64 te1] 92)
    exact ⟨hs1.out.below hb, (Frm.of_mvd hm1.out hlo).trans (Frm.of_below hb hsz1), (hpg.mvd hm1.out hblo).below hb (by omega), heap_alloc_new _ _, hsz1, hlo, hblo, htlo⟩)
  rw [← hw2]
  clear hw2 hs1 hm1 htk hpg h hsz1
  generalize w1.heap.size = g at hss ⊢
  obtain ⟨tk, b0, b1, b2, b3, b4, b5, bz⟩ := hss.out.cells
  have t0 := tk 0 _ rfl
  have t1 := tk 1 _ rfl
  have t2 := tk 2 _ rfl
  clear tk
  go_wp2_with fail
  obtain ⟨va2, vc2, rfl⟩ := hss.out.pg.form2
  obtain ⟨va5, vc5, rfl⟩ := hss.out.pg.form5
  cases RR with
  | error x =>
    have hP : Hid (psStmt P i = .error x) := Lib.hid (by rw [hL.out])
    replace hru := Lib.hid hru
    unfold RulePost thrown at hru
    dsimp only at hru
    clear hL
    refine wp_region_T (fun w' => w'.cell? ⟨b, 10, none⟩ = some (.slice va2 C.length vc2) ∧ w'.cell? ⟨g, 1, none⟩ = some (.string tt)) [0, 1, 2, 3, 4, 5, 6, 7, 8] (by kernel_rfl) ⟨b2, t1⟩ (fun hHeld => ?_)
    refine wpAnyT_take (i := 0) (oi := _) (v := ?_) rfl rfl (by kernel_rfl) (by kernel_rfl) (by kernel_rfl) (fun _ _ _ h => h) (Or.inl ⟨by rfl, ?_⟩) (by assumption) ?_
    rotate_left
    · intro w hSw
      try dsimp only at hSw
      go_simp
      try with_reducible rfl
    refine wpAnyT_take (i := 1) (oi := _) (v := ?_) rfl rfl (by kernel_rfl) (by kernel_rfl) (by kernel_rfl) (fun _ _ _ h => h) (Or.inl ⟨by rfl, ?_⟩) (by assumption) ?_
    rotate_left
    · intro w hSw
      try dsimp only at hSw
      go_simp
      try with_reducible rfl
    refine wpAnyT_take (i := 2) (oi := _) (v := ?_) rfl rfl (by kernel_rfl) (by kernel_rfl) (by kernel_rfl) (fun _ _ _ h => h) (Or.inl ⟨by rfl, ?_⟩) (by assumption) ?_
    rotate_left
    · intro w hSw
      try dsimp only at hSw
      go_simp
      try with_reducible rfl
    refine wpAnyT_take (i := 3) (oi := _) (v := ?_) rfl rfl (by kernel_rfl) (by kernel_rfl) (by kernel_rfl) (fun _ _ _ h => h) (Or.inl ⟨by rfl, ?_⟩) (by assumption) ?_
    rotate_left
    · intro w hSw
      try dsimp only at hSw
      go_simp
      try with_reducible rfl
    refine wpAnyT_take (i := 4) (oi := _) (v := ?_) rfl rfl (by kernel_rfl) (by kernel_rfl) (by kernel_rfl) (fun _ _ _ h => h) (Or.inl ⟨by rfl, ?_⟩) (by assumption) ?_
    rotate_left
    · intro w hSw
      try dsimp only at hSw
      go_simp
      try with_reducible rfl
    refine wpAnyT_take (i := 5) (oi := _) (v := ?_) rfl rfl (by kernel_rfl) (by kernel_rfl) (by kernel_rfl) (fun _ _ _ h => h) (Or.inl ⟨by rfl, ?_⟩) (by assumption) ?_
    rotate_left
    · intro w hSw
      try dsimp only at hSw
      go_simp
      try with_reducible rfl
    refine wpAnyT_take (i := 6) (oi := _) (v := ?_) rfl rfl (by kernel_rfl) (by kernel_rfl) (by kernel_rfl) (fun _ _ _ h => h) (Or.inl ⟨by rfl, ?_⟩) (by assumption) ?_
    rotate_left
    · intro w hSw
      try dsimp only at hSw
      go_simp
      try with_reducible rfl
    refine wpAnyT_take (i := 7) (oi := _) (v := ?_) rfl rfl (by kernel_rfl) (by kernel_rfl) (by kernel_rfl) (fun _ _ _ h => h) (Or.inl ⟨by rfl, ?_⟩) (by assumption) ?_
    rotate_left
    · intro w hSw
      try dsimp only at hSw
      go_simp
      try with_reducible rfl
    refine wpAnyT_take (i := 8) (oi := _) (v := ?_) rfl rfl (by kernel_rfl) (by kernel_rfl) (by kernel_rfl) (fun _ _ _ h => h) (Or.inl ⟨by rfl, ?_⟩) (by assumption) ?_
    rotate_left
    · intro w hSw
      try dsimp only at hSw
      go_simp
      try with_reducible rfl
    refine wpAnyT_one (i := 9) (o := _) (by kernel_rfl) rfl (fun K hK => ?_)
    go_simp
    go_wp2_with (go_at_call 57; refine (hru.out _ (hss.out.st.below (Below.refl _ _).drew)).mono ?_; rintro e w3 ⟨rfl, hm3⟩; have hmv := Lib.hid (hss.out.fr.trans (Frm.of_mvd ((Mvd.of (Below.refl _ _).drew).trans hm3) (Nat.le_trans hlo hss.out.fr.size))); exact ⟨rfl, by rw [hP.out]; exact ⟨rfl, hmv.out⟩⟩)
  | ok r =>
    obtain ⟨⟨rp, ra, rb⟩, k⟩ := r
    have hP : Hid (psStmt P i = .ok (.rule ⟨rp, ra, rb⟩ ta1, k)) := Lib.hid (by rw [hL.out])
    replace hru := Lib.hid hru
    unfold RulePost at hru
    dsimp only at hru
    clear hL
    refine wp_region_T (fun w' => w'.cell? ⟨b, 10, none⟩ = some (.slice va2 C.length vc2) ∧ w'.cell? ⟨g, 1, none⟩ = some (.string tt)) [0, 1, 2, 3, 4, 5, 6, 7, 8] (by kernel_rfl) ⟨b2, t1⟩ (fun hHeld => ?_)
    refine wpAnyT_take (i := 0) (oi := _) (v := ?_) rfl rfl (by kernel_rfl) (by kernel_rfl) (by kernel_rfl) (fun _ _ _ h => h) (Or.inl ⟨by rfl, ?_⟩) (by assumption) ?_
    rotate_left
    · intro w hSw
      try dsimp only at hSw
      go_simp
      try with_reducible rfl
    refine wpAnyT_take (i := 1) (oi := _) (v := ?_) rfl rfl (by kernel_rfl) (by kernel_rfl) (by kernel_rfl) (fun _ _ _ h => h) (Or.inl ⟨by rfl, ?_⟩) (by assumption) ?_
    rotate_left
    · intro w hSw
      try dsimp only at hSw
      go_simp
      try with_reducible rfl
    refine wpAnyT_take (i := 2) (oi := _) (v := ?_) rfl rfl (by kernel_rfl) (by kernel_rfl) (by kernel_rfl) (fun _ _ _ h => h) (Or.inl ⟨by rfl, ?_⟩) (by assumption) ?_
    rotate_left
    · intro w hSw
      try dsimp only at hSw
      go_simp
      try with_reducible rfl
    refine wpAnyT_take (i := 3) (oi := _) (v := ?_) rfl rfl (by kernel_rfl) (by kernel_rfl) (by kernel_rfl) (fun _ _ _ h => h) (Or.inl ⟨by rfl, ?_⟩) (by assumption) ?_
    rotate_left
    · intro w hSw
      try dsimp only at hSw
      go_simp
      try with_reducible rfl
    refine wpAnyT_take (i := 4) (oi := _) (v := ?_) rfl rfl (by kernel_rfl) (by kernel_rfl) (by kernel_rfl) (fun _ _ _ h => h) (Or.inl ⟨by rfl, ?_⟩) (by assumption) ?_
    rotate_left
    · intro w hSw
      try dsimp only at hSw
      go_simp
      try with_reducible rfl
    refine wpAnyT_take (i := 5) (oi := _) (v := ?_) rfl rfl (by kernel_rfl) (by kernel_rfl) (by kernel_rfl) (fun _ _ _ h => h) (Or.inl ⟨by rfl, ?_⟩) (by assumption) ?_
    rotate_left
    · intro w hSw
      try dsimp only at hSw
      go_simp
      try with_reducible rfl
    refine wpAnyT_take (i := 6) (oi := _) (v := ?_) rfl rfl (by kernel_rfl) (by kernel_rfl) (by kernel_rfl) (fun _ _ _ h => h) (Or.inl ⟨by rfl, ?_⟩) (by assumption) ?_
    rotate_left
    · intro w hSw
      try dsimp only at hSw
      go_simp
      try with_reducible rfl
    refine wpAnyT_take (i := 7) (oi := _) (v := ?_) rfl rfl (by kernel_rfl) (by kernel_rfl) (by kernel_rfl) (fun _ _ _ h => h) (Or.inl ⟨by rfl, ?_⟩) (by assumption) ?_
    rotate_left
    · intro w hSw
      try dsimp only at hSw
      go_simp
      try with_reducible rfl
    refine wpAnyT_take (i := 8) (oi := _) (v := ?_) rfl rfl (by kernel_rfl) (by kernel_rfl) (by kernel_rfl) (fun _ _ _ h => h) (Or.inl ⟨by rfl, ?_⟩) (by assumption) ?_
    rotate_left
    · intro w hSw
      try dsimp only at hSw
      go_simp
      try with_reducible rfl
    refine wpAnyT_one (i := 9) (o := _) (by kernel_rfl) rfl (fun K hK => ?_)
    go_simp
    go_wp2_with (go_at_call 57; refine (hru.out _ (hss.out.st.below (Below.refl _ _).drew)).mono ?_; rintro e w3 ⟨av, bv, rfl, hs30, hm30, hri0⟩
                 have hss3 := Lib.hid (hss.out.move ((Mvd.of (b := b) (Below.refl w2.heap.size w2).drew).trans hm30) hs30)
                 obtain ⟨xa, xn, xc, ya, yn, yc, rfl, rfl⟩ := hri0.form
                 obtain ⟨L, hL3, ho20, ff, gf, hin20, hva0⟩ := hss.out.pg.r2
                 have hmm0 := (Mvd.of (b := b) (Below.refl w2.heap.size w2).drew).trans hm30
                 have ho30 := own_mvd ho20 hmm0 hss.out.blo
                 have hin30 := hin20.turn hmm0.size fun _ _ _ _ _ hl h => RuleAt.mvd h hmm0 (Nat.lt_of_lt_of_le hss.out.blo hl)
                 have hri3 := Lib.hid (hri0.base (lo' := w2.heap.size) (Nat.le_refl _))
                 have hva3 := Lib.hid hva0
                 have hff3 := Lib.hid hin20.top
                 have hfl3 := Lib.hid hmm0.size
                 have hlt3 := Lib.hid hss.out.pg.lts
                 have ho3 := Lib.hid ho30
                 have hin3 := Lib.hid hin30
                 have hLL : L.length = C.length := by rw [← hL3, List.length_map]
                 have h63 : Hid (L.length + 1 ≤ maxLen) := Lib.hid (by unfold maxLen; omega)
                 have h64 : Hid ((L.length + 1) * 64 ≤ 140737488355328) := Lib.hid (by omega)
                 replace hL3 := Lib.hid hL3
                 clear hs30 hm30 hri0 ho30 hin30 ho20 hin20 hmm0 hva0)
    refine hK.out _ _ (by have hq := hss3.out.cells; exact ⟨hq.2.2.2.1, hq.1 1 _ rfl⟩) ?_
    clear hK K
    refine wpAnyT_one (i := 10) (o := _) (by kernel_rfl) rfl (fun K hK => ?_)
    go_simp
    refine hK.out _ _ (by have hq := (hss3.out.below ((Below.refl w3.heap.size w3).al (.cells #[.string rp, .slice xa xn xc, .slice ya yn yc] 54))).cells; exact ⟨hq.2.2.2.1, hq.1 1 _ rfl⟩) ?_
    clear hK K
    refine wpAnyT_one (i := 11) (o := _) (by kernel_rfl) rfl (fun K hK => ?_)
    refine step_append_lies (w3.alloc (.cells #[.string rp, .slice xa xn xc, .slice ya yn yc] 54)) ?guard (.tmp 17) (.tmp 22) 24 ?op lo 54 it (.agg #[.string ⟨#[]⟩, .slice none 0 0, .slice none 0 0]) 3 64 Tryd.underlying24 hit ht0 ht1 ht2 (by rfl) (by omega) (.slice va2 C.length vc2) L.length (ruL L) ?ev1 (ho3.out.alloc _) ⟨w3.heap.size, 0, none⟩ 1 1 (ruC (⟨rp, ra, rb⟩, .slice xa xn xc, .slice ya yn yc)) ?ev2 (by rfl) (own_cells_row rfl rfl) (by intro u hu; simp [ruC] at hu; rcases hu with rfl | rfl | rfl <;> rfl) (by omega) h63.out h64.out (by have := hss3.out.fr.size; rw [World.size_alloc]; omega) (w3.heap.size + 1) (by rw [World.size_alloc]) ?rest
    case guard => rfl
    case op => rfl
    case ev1 => rfl
    case ev2 => rfl
    intro gg cp w4 hown4 hgrow hat hlt4
    have hbu := SS.bump2 (x := ⟨rp, ra, rb⟩) hss3.out hgrow hL3.out ho3.out hin3.out hva3.out hri3.out hff3.out hfl3.out hlt3.out (fun k hk => by cases hk; exact hat.imp id fun e => by show w3.heap.size ≤ gg; omega) hown4
    have hq := hss3.out.cells
    have y2 : w4.cell? ⟨b, 10, none⟩ = some (.slice va2 C.length vc2) := (World.cell?_of_block hbu.1.1).trans hq.2.2.2.1
    have yt : w4.cell? ⟨g, 1, none⟩ = some (.string tt) := (World.cell?_of_block hbu.1.2).trans (hq.1 1 _ rfl)
    have yz : w4.frozen? ⟨b, 10, none⟩ = false := (World.frozen?_of_block hbu.1.1).trans (hq.2.2.2.2.2.2.2 10)
    have hss4 := Lib.hid hbu.2
    clear hown4 hgrow hat hlt4 hbu hq
    refine hK.out _ _ ⟨y2, yt⟩ ?_
    clear hK K
    refine wpAnyT_free (i := 12) (o := _) (by kernel_rfl) rfl (by kernel_rfl) (fun K hK => ?_)
    go_simp
    refine hK.out _ _ ?_
    clear hK K
    refine wpAnyT_free (i := 13) (o := _) (by kernel_rfl) rfl (by kernel_rfl) (fun K hK => ?_)
    go_simp
    refine hK.out _ _ ?_
    clear hK K
    refine wpAnyT_free (i := 14) (o := _) (by kernel_rfl) rfl (by kernel_rfl) (fun K hK => ?_)
    go_simp
    refine hK.out _ _ ?_
    clear hK K
    refine wpAnyT_free (i := 15) (o := _) (by kernel_rfl) rfl (by kernel_rfl) (fun K hK => ?_)
    go_simp
    refine hK.out _ _ ?_
    clear hK K

    refine wpAnyT_done (by kernel_rfl) ?_ _
    rw [hLL] at hss4
    clear hHeld y2 yt yz hss hss3 hri3 ho3 hin3 hL3 h63 h64 hLL hru b0 b1 b2 b3 b4 b5 bz t0 t1 t2
    generalize w4.setCell ⟨b, 10, none⟩ (.slice (some ⟨gg, 0, none⟩) (C.length + 1) cp) = wA at hss4 ⊢
    refine ‹∀ (a : Act) (w : World), Code.wp _ _ _ a w → _› _ _ ?_
    have hss := hss4
    clear hss4
    go_wp2_with fail
    have hssd := Lib.hid (hss.out.below (Below.refl wA.heap.size wA).drew)
    have hn63 : Hid (a3.length + 1 ≤ maxLen) := Lib.hid (by unfold maxLen; omega)
    have hn64 : Hid ((a3.length + 1) * 8 ≤ 140737488355328) := Lib.hid (by omega)
    have hqA := hss.out.cells
    have z1 : wA.cell? ⟨b, 13, none⟩ = some (.slice va5 a3.length vc5) := hqA.2.2.2.2.2.2.1
    have z2 : wA.cell? ⟨g, 2, none⟩ = some (.int .i64 (ta1 : Nat)) := hqA.1 2 _ rfl
    clear hqA
    refine wp_region_T (fun w' => w'.cell? ⟨b, 13, none⟩ = some (.slice va5 a3.length vc5) ∧ w'.cell? ⟨g, 2, none⟩ = some (.int .i64 (ta1 : Nat))) [0, 1, 2, 3, 4, 5, 6, 7] (by kernel_rfl) ⟨z1, z2⟩ (fun hHeld => ?_)
    refine wpAnyT_take (i := 0) (oi := _) (v := ?_) rfl rfl (by kernel_rfl) (by kernel_rfl) (by kernel_rfl) (fun _ _ _ h => h) (Or.inl ⟨by rfl, ?_⟩) (by assumption) ?_
    rotate_left
    · intro w hSw
      try dsimp only at hSw
      go_simp
      try with_reducible rfl
    refine wpAnyT_take (i := 1) (oi := _) (v := ?_) rfl rfl (by kernel_rfl) (by kernel_rfl) (by kernel_rfl) (fun _ _ _ h => h) (Or.inl ⟨by rfl, ?_⟩) (by assumption) ?_
    rotate_left
    · intro w hSw
      try dsimp only at hSw
      go_simp
      try with_reducible rfl
    refine wpAnyT_take (i := 2) (oi := _) (v := ?_) rfl rfl (by kernel_rfl) (by kernel_rfl) (by kernel_rfl) (fun _ _ _ h => h) (Or.inl ⟨by rfl, ?_⟩) (by assumption) ?_
    rotate_left
    · intro w hSw
      try dsimp only at hSw
      go_simp
      try with_reducible rfl
    refine wpAnyT_take (i := 3) (oi := _) (v := ?_) rfl rfl (by kernel_rfl) (by kernel_rfl) (by kernel_rfl) (fun _ _ _ h => h) (Or.inl ⟨by rfl, ?_⟩) (by assumption) ?_
    rotate_left
    · intro w hSw
      try dsimp only at hSw
      go_simp
      try with_reducible rfl
    refine wpAnyT_take (i := 4) (oi := _) (v := ?_) rfl rfl (by kernel_rfl) (by kernel_rfl) (by kernel_rfl) (fun _ _ _ h => h) (Or.inl ⟨by rfl, ?_⟩) (by assumption) ?_
    rotate_left
    · intro w hSw
      try dsimp only at hSw
      go_simp
      try with_reducible rfl
    refine wpAnyT_take (i := 5) (oi := _) (v := ?_) rfl rfl (by kernel_rfl) (by kernel_rfl) (by kernel_rfl) (fun _ _ _ h => h) (Or.inl ⟨by rfl, ?_⟩) (by assumption) ?_
    rotate_left
    · intro w hSw
      try dsimp only at hSw
      go_simp
      try with_reducible rfl
    refine wpAnyT_take (i := 6) (oi := _) (v := ?_) rfl rfl (by kernel_rfl) (by kernel_rfl) (by kernel_rfl) (fun _ _ _ h => h) (Or.inl ⟨by rfl, ?_⟩) (by assumption) ?_
    rotate_left
    · intro w hSw
      try dsimp only at hSw
      go_simp
      try with_reducible rfl
    refine wpAnyT_take (i := 7) (oi := _) (v := ?_) rfl rfl (by kernel_rfl) (by kernel_rfl) (by kernel_rfl) (fun _ _ _ h => h) (Or.inl ⟨by rfl, ?_⟩) (by assumption) ?_
    rotate_left
    · intro w hSw
      try dsimp only at hSw
      go_simp
      try with_reducible rfl
    refine wpAnyT_one (i := 8) (o := _) (by kernel_rfl) rfl (fun K hK => ?_)
    go_simp
    refine hK.out _ _ (by have hq := (hss.out.below ((Below.refl wA.heap.size wA).al (.cells #[.int .i64 (ta1 : Nat)] 3)).drew).cells; exact ⟨hq.2.2.2.2.2.2.1, hq.1 2 _ rfl⟩) ?_
    clear hK K
    refine wpAnyT_one (i := 9) (o := _) (by kernel_rfl) rfl (fun K hK => ?_)
    refine step_append_lies (wA.alloc (.cells #[.int .i64 (ta1 : Nat)] 3)).drew ?guardI (.tmp 32) (.tmp 35) 36 ?opI lo 3 iti (.int .i64 0) 1 8 Tryd.underlying36 hiti hti0 hti1 hti2 (by rfl) (by omega) (.slice va5 a3.length vc5) a3.length (atL a3) ?evI1 (own_below (hss.out.pg.r5.alloc _) (Below.refl _ _).drew) ⟨wA.heap.size, 0, none⟩ 1 1 [.int .i64 (ta1 : Nat)] ?evI2 (by rfl) (own_cells_row (w := wA) rfl rfl) (by intro u hu; simp at hu; subst hu; rfl) (by omega) hn63.out hn64.out (by have := hss.out.fr.size; show _ ≤ (wA.alloc _).heap.size; rw [World.size_alloc]; omega) (wA.heap.size + 1) (by show (wA.alloc _).heap.size = _; rw [World.size_alloc]) ?restI
    case guardI => rfl
    case opI => rfl
    case evI1 => rfl
    case evI2 => rfl
    intro gi ci wB hownB hgrowB hatB hltB
    have hbu := SS.bump5 (w3 := wA.drew) (ob := (.cells #[.int .i64 (ta1 : Nat)] 3)) hssd.out hgrowB hownB hatB
    have hq := hssd.out.cells
    have yi : wB.cell? ⟨b, 13, none⟩ = some (.slice va5 a3.length vc5) := (World.cell?_of_block hbu.1.1).trans hq.2.2.2.2.2.2.1
    have yj : wB.cell? ⟨g, 2, none⟩ = some (.int .i64 (ta1 : Nat)) := (World.cell?_of_block hbu.1.2).trans (hq.1 2 _ rfl)
    have yk : wB.frozen? ⟨b, 13, none⟩ = false := (World.frozen?_of_block hbu.1.1).trans (hq.2.2.2.2.2.2.2 13)
    have hssB := Lib.hid hbu.2
    clear hownB hgrowB hatB hltB hbu hq
    refine hK.out _ _ ⟨yi, yj⟩ ?_
    clear hK K
    refine wpAnyT_free (i := 10) (o := _) (by kernel_rfl) rfl (by kernel_rfl) (fun K hK => ?_)
    go_simp
    refine hK.out _ _ ?_
    clear hK K
    refine wpAnyT_free (i := 11) (o := _) (by kernel_rfl) rfl (by kernel_rfl) (fun K hK => ?_)
    go_simp
    refine hK.out _ _ ?_
    clear hK K
    refine wpAnyT_free (i := 12) (o := _) (by kernel_rfl) rfl (by kernel_rfl) (fun K hK => ?_)
    go_simp
    refine hK.out _ _ ?_
    clear hK K
    refine wpAnyT_free (i := 13) (o := _) (by kernel_rfl) rfl (by kernel_rfl) (fun K hK => ?_)
    go_simp
    refine hK.out _ _ ?_
    clear hK K
    refine wpAnyT_done (by kernel_rfl) ?_ _
    clear hHeld z1 z2 yi yj yk hn63 hn64 hssd hss
    generalize wB.setCell ⟨b, 13, none⟩ (.slice (some ⟨gi, 0, none⟩) (a3.length + 1) ci) = wC at hssB ⊢
    refine ‹∀ (a : Act) (w : World), Code.wp _ _ _ a w → _› _ _ ?_
    go_wp2_with fail
    refine bodyPost_ret (results_none rfl _ _ _) rfl ?_
    rw [hP.out]
    refine ⟨rfl, hssB.out.fr, _, _, _, _, _, _, hssB.out.st, ?_⟩
    simpa [inpsOf, outsOf, rulesOf, inAts, outAts, ruAts] using hssB.out.pg
theorem infoInput : (Tryd.prog.info? 43).map (fun i => (i.zero, i.size, i.bytes)) = some (some (.agg #[.string ⟨#[]⟩, .int .i64 0, .string ⟨#[]⟩]), 3, 40) := by kernel_rfl
theorem infoOutput : (Tryd.prog.info? 47).map (fun i => (i.zero, i.size, i.bytes)) = some (some (.agg #[.string ⟨#[]⟩, .int .i64 0]), 2, 24) := by kernel_rfl
set_option maxHeartbeats 4000000 in
set_option maxRecDepth 100000 in
theorem pa_stmt_inp (w : World) (b : Nat) (P : Ps) (tx : ByteArray) (ta : Option Addr) (tc i : Nat) (R0 R1 R2 R3 R4 R5 : Value) (h : PSt w b P tx ta tc i R0 R1 R2 R3 R4 R5) (lo : Nat) (A : List (ByteArray × Int × ByteArray)) (B : List (ByteArray × Int)) (C : List PRule) (a1 a2 a3 : List Nat) (hpg : Prg w lo R0 R1 R2 R3 R4 R5 A B C a1 a2 a3) (hblo : b < lo) (hlo : lo ≤ w.heap.size) (htlo : ∀ x, ta = some x → x.block < lo) (hA : A.length ≤ 4194304) (hB : B.length ≤ 4194304) (hC : C.length ≤ 4194304) (h1 : a1.length ≤ 4194304) (h2 : a2.length ≤ 4194304) (h3 : a3.length ≤ 4194304) (hsz : ∀ j, (P.tok j).text.length ≤ 4194304) (hat : ∀ j, (P.tok j).at_ ≤ 4194304) (hK : P.kind i = 5) (hlt : i < P.ts.length) :
    Calls Tryd.prog 33 #[.pointer (some ⟨b, 0, none⟩)] w (StPost lo b P tx ta tc A B C a1 a2 a3 w (psStmt P i)) := by
  obtain ⟨it, hit, ht0, ht1, ht2⟩ := info_parts infoInput
  obtain ⟨iti, hiti, hti0, hti1, hti2⟩ := info_parts infoInt
  have hlen := h.len
  have hbl := h.lt
  have htk := fun w h wa hw => pa_take_ok w b P tx ta tc i R0 R1 R2 R3 R4 R5 h wa [1, 5, 6] 3 hw (by decide) (by rw [hK]; rfl) hlt
  rw [hK] at htk
  have hta : P.take i [1, 5, 6] = .ok (P.tok i, i + 1) := by unfold Ps.take; rw [hK]; rfl
  have hkk : (P.tok i).kind = 5 := hK
  have har := fun w h => pa_arity w b P tx ta tc (i + 1) R0 R1 R2 R3 R4 R5 h hsz hat
  have hfld := run_tok_text
  have hL : Hid (psStmt P i = match psArity P (i + 1) with | .error e => .error e | .ok ((p, n), k) => match P.take k [4] with | .error e => .error e | .ok (f, m) => match P.take m [11] with | .error e => .error e | .ok (_, o) => .ok (.inp p n (mk f.text) (P.tok i).at_, o)) := Lib.hid (by
    unfold psStmt; rw [hta]; dsimp only; rw [if_pos hkk]; rfl)
  clear hsz hat
  generalize mk (P.tok i).text = tt at htk
  generalize (P.tok i).at_ = ta1 at htk hL
  generalize ((P.tok i).end_ : Int) = te1 at htk
  clear hK hta hkk
  go_enter Tryd.func33, Tryd.ntmps33
  go_wp2_with (go_at_call 55; refine (htk _ (h.below ((Below.refl _ _).al _)) _ (kinds_lit _ _ [1, 5, 6] _ rfl (by decide) rfl)).mono ?_; rintro e w1 ⟨rfl, hs10, hm10⟩; have hs1 := Lib.hid hs10; have hm1 := Lib.hid ((Mvd.of ((Below.refl w.heap.size w).al _)).trans hm10); clear hs10 hm10)
  have hsz1 := Nat.le_trans hlo hm1.out.size
  obtain ⟨w2, hw2⟩ : ∃ w2, w2 = w1.alloc (.cells #[.int .i64 5, .string tt, .int .i64 (ta1 : Nat), .int .i64 te1] 92) := ⟨_, rfl⟩
  have hss : Hid (SS w w2 lo b P tx ta tc (i + 1) R0 R1 R2 R3 R4 R5 A B C a1 a2 a3 w1.heap.size #[.int .i64 5, .string tt, .int .i64 (ta1 : Nat), .int .i64 te1]) := Lib.hid (by
    rw [hw2]
    have hb := (Below.refl w1.heap.size w1).al (.cells #[.int .i64 5, .string tt, .int .i64 (ta1 : Nat), .int .i64 te1] 92)
    exact ⟨hs1.out.below hb, (Frm.of_mvd hm1.out hlo).trans (Frm.of_below hb hsz1), (hpg.mvd hm1.out hblo).below hb (by omega), heap_alloc_new _ _, hsz1, hlo, hblo, htlo⟩)
  rw [← hw2]
  clear hw2 hs1 hm1 htk hpg h hsz1
  generalize w1.heap.size = g at hss ⊢
  obtain ⟨tk, b0, b1, b2, b3, b4, b5, bz⟩ := hss.out.cells
  have t0 := tk 0 _ rfl
  have t1 := tk 1 _ rfl
  have t2 := tk 2 _ rfl
  clear tk
  go_wp2_with fail
  obtain ⟨va0, vc0, rfl⟩ := hss.out.pg.form0
  obtain ⟨va3, vc3, rfl⟩ := hss.out.pg.form3
  have h63 : Hid (A.length + 1 ≤ maxLen) := Lib.hid (by unfold maxLen; omega)
  have h64 : Hid ((A.length + 1) * 40 ≤ 140737488355328) := Lib.hid (by omega)
  cases hAr : psArity P (i + 1) with
  | error x =>
    have hP : Hid (psStmt P i = .error x) := Lib.hid (by rw [hL.out, hAr])
    rw [hAr] at har
    replace har := Lib.hid har
    unfold ArPost thrown at har
    dsimp only at har
    clear hL hAr
    go_wp2_with (go_at_call 56; refine (har.out _ hss.out.st).mono ?_; rintro e wR ⟨rfl, hmR⟩; have hmv := Lib.hid (hss.out.fr.trans (Frm.of_mvd hmR (Nat.le_trans hlo hss.out.fr.size))); clear hmR)
    exact ⟨rfl, by rw [hP.out]; exact ⟨rfl, hmv.out⟩⟩
  | ok r =>
    obtain ⟨⟨pn, nn⟩, k⟩ := r
    rw [hAr] at har
    replace har := Lib.hid har
    unfold ArPost at har
    dsimp only at har
    go_wp2_with (go_at_call 56; refine (har.out _ hss.out.st).mono ?_; rintro e wR ⟨rfl, hsR, hmR⟩; have hssR := Lib.hid (hss.out.move hmR hsR); clear hsR hmR)
    clear hss har t0 t1 t2 b0 b1 b2 b3 b4 b5 bz
    have hss := hssR
    clear hssR
    rcases take_cases P k [4] (by decide) with ⟨t4, h4, h4t, hc4, hlt4⟩ | ⟨x, h4, h4x, hc4⟩
    · have htk4 := Lib.hid (fun w h wa hw => pa_take_ok w b P tx ta tc k (.slice va0 A.length vc0) R1 R2 (.slice va3 a1.length vc3) R4 R5 h wa [4] 1 hw (by decide) hc4 hlt4)
      have hL5 : Hid (psStmt P i = match P.take (k + 1) [11] with | .error e => .error e | .ok (_, o) => .ok (.inp pn nn (mk (P.tok k).text) ta1, o)) := Lib.hid (by rw [hL.out, hAr]; dsimp only; rw [h4]; dsimp only; rw [h4t])
      clear hL hAr h4 h4t hc4
      generalize mk (P.tok k).text = ft at htk4 hL5
      generalize ((P.tok k).at_ : Int) = f3 at htk4
      generalize ((P.tok k).end_ : Int) = f4 at htk4
      generalize P.kind k = f5 at htk4
      have hqR := hss.out.cells
      have z0 : wR.cell? ⟨b, 8, none⟩ = some (.slice va0 A.length vc0) := hqR.2.1
      clear hqR
      refine wp_region_T (fun w' => w'.cell? ⟨b, 8, none⟩ = some (.slice va0 A.length vc0)) [0, 1, 2, 3, 4, 5, 6, 7, 8] (by kernel_rfl) z0 (fun hHeld => ?_)
      refine wpAnyT_take (i := 0) (oi := _) (v := ?_) rfl rfl (by kernel_rfl) (by kernel_rfl) (by kernel_rfl) (fun _ _ _ h => h) (Or.inl ⟨by rfl, ?_⟩) (by assumption) ?_
      rotate_left
      · intro w hSw
        try dsimp only at hSw
        go_simp
        try with_reducible rfl
      refine wpAnyT_take (i := 1) (oi := _) (v := ?_) rfl rfl (by kernel_rfl) (by kernel_rfl) (by kernel_rfl) (fun _ _ _ h => h) (Or.inl ⟨by rfl, ?_⟩) (by assumption) ?_
      rotate_left
      · intro w hSw
        try dsimp only at hSw
        go_simp
        try with_reducible rfl
      refine wpAnyT_take (i := 2) (oi := _) (v := ?_) rfl rfl (by kernel_rfl) (by kernel_rfl) (by kernel_rfl) (fun _ _ _ h => h) (Or.inl ⟨by rfl, ?_⟩) (by assumption) ?_
      rotate_left
      · intro w hSw
        try dsimp only at hSw
        go_simp
        try with_reducible rfl
      refine wpAnyT_take (i := 3) (oi := _) (v := ?_) rfl rfl (by kernel_rfl) (by kernel_rfl) (by kernel_rfl) (fun _ _ _ h => h) (Or.inl ⟨by rfl, ?_⟩) (by assumption) ?_
      rotate_left
      · intro w hSw
        try dsimp only at hSw
        go_simp
        try with_reducible rfl
      refine wpAnyT_take (i := 4) (oi := _) (v := ?_) rfl rfl (by kernel_rfl) (by kernel_rfl) (by kernel_rfl) (fun _ _ _ h => h) (Or.inl ⟨by rfl, ?_⟩) (by assumption) ?_
      rotate_left
      · intro w hSw
        try dsimp only at hSw
        go_simp
        try with_reducible rfl
      refine wpAnyT_take (i := 5) (oi := _) (v := ?_) rfl rfl (by kernel_rfl) (by kernel_rfl) (by kernel_rfl) (fun _ _ _ h => h) (Or.inl ⟨by rfl, ?_⟩) (by assumption) ?_
      rotate_left
      · intro w hSw
        try dsimp only at hSw
        go_simp
        try with_reducible rfl
      refine wpAnyT_take (i := 6) (oi := _) (v := ?_) rfl rfl (by kernel_rfl) (by kernel_rfl) (by kernel_rfl) (fun _ _ _ h => h) (Or.inl ⟨by rfl, ?_⟩) (by assumption) ?_
      rotate_left
      · intro w hSw
        try dsimp only at hSw
        go_simp
        try with_reducible rfl
      refine wpAnyT_take (i := 7) (oi := _) (v := ?_) rfl rfl (by kernel_rfl) (by kernel_rfl) (by kernel_rfl) (fun _ _ _ h => h) (Or.inl ⟨by rfl, ?_⟩) (by assumption) ?_
      rotate_left
      · intro w hSw
        try dsimp only at hSw
        go_simp
        try with_reducible rfl
      refine wpAnyT_take (i := 8) (oi := _) (v := ?_) rfl rfl (by kernel_rfl) (by kernel_rfl) (by kernel_rfl) (fun _ _ _ h => h) (Or.inl ⟨by rfl, ?_⟩) (by assumption) ?_
      rotate_left
      · intro w hSw
        try dsimp only at hSw
        go_simp
        try with_reducible rfl
      refine wpAnyT_one (i := 9) (o := _) (by kernel_rfl) rfl (fun K hK => ?_)
      go_simp
      refine hK.out _ _ (by have hq := (hss.out.below ((Below.refl wR.heap.size wR).al (.cells #[.int .i64 4] 90)).drew).cells; exact hq.2.1) ?_
      clear hK K
      refine wpAnyT_one (i := 10) (o := _) (by kernel_rfl) rfl (fun K hK => ?_)
      go_simp
      go_wp2_with (go_at_call 55; refine (htk4.out _ (hss.out.st.below ((Below.refl _ _).al _).drew) _ ((kinds_lit wR _ [4] _ rfl (by decide) rfl).below (Below.refl _ _).drew)).mono ?_; rintro e w3 ⟨rfl, hs30, hm30⟩
                   have hss3 := Lib.hid (hss.out.move ((Mvd.of (b := b) ((Below.refl wR.heap.size wR).al _).drew).trans hm30) hs30)
                   clear hs30 hm30)
      refine hK.out _ _ (by have hq := hss3.out.cells; exact hq.2.1) ?_
      clear hK K
      refine wpAnyT_one (i := 11) (o := _) (by kernel_rfl) rfl (fun K hK => ?_)
      go_simp
      refine hK.out _ _ (by have hq := hss3.out.cells; exact hq.2.1) ?_
      clear hK K
      refine wpAnyT_one (i := 12) (o := _) (by kernel_rfl) rfl (fun K hK => ?_)
      go_simp
      refine hK.out _ _ (by have hq := hss3.out.cells; exact hq.2.1) ?_
      clear hK K
      refine wpAnyT_one (i := 13) (o := _) (by kernel_rfl) rfl (fun K hK => ?_)
      go_simp
      refine hK.out _ _ (by have hq := (hss3.out.below ((Below.refl w3.heap.size w3).al (.cells #[.string pn, .int .i64 nn, .string ft] 43))).cells; exact hq.2.1) ?_
      clear hK K
      refine wpAnyT_one (i := 14) (o := _) (by kernel_rfl) rfl (fun K hK => ?_)
      refine step_append_lies (w3.alloc (.cells #[.string pn, .int .i64 nn, .string ft] 43)) ?guardA (.tmp 52) (.tmp 60) 22 ?opA lo 43 it (.agg #[.string ⟨#[]⟩, .int .i64 0, .string ⟨#[]⟩]) 3 40 Tryd.underlying22 hit ht0 ht1 ht2 (by rfl) (by omega) (.slice va0 A.length vc0) A.length (inL A) ?evA1 (hss3.out.pg.r0.alloc _) ⟨w3.heap.size, 0, none⟩ 1 1 (inC (pn, nn, ft)) ?evA2 (by rfl) (own_cells_row rfl rfl) (by intro u hu; simp [inC] at hu; rcases hu with rfl | rfl | rfl <;> rfl) (by omega) h63.out h64.out (by have := hss3.out.fr.size; rw [World.size_alloc]; omega) (w3.heap.size + 1) (by rw [World.size_alloc]) ?restA
      case guardA => rfl
      case opA => rfl
      case evA1 => rfl
      case evA2 => rfl
      intro gg cp w4 hown4 hgrow hat4 hlt4
      have hbu := SS.bump0 (x := (pn, nn, ft)) hss3.out hgrow hown4
      have hq := hss3.out.cells
      have y0 : w4.cell? ⟨b, 8, none⟩ = some (.slice va0 A.length vc0) := (World.cell?_of_block hbu.1.1).trans hq.2.1
      have yz : w4.frozen? ⟨b, 8, none⟩ = false := (World.frozen?_of_block hbu.1.1).trans (hq.2.2.2.2.2.2.2 8)
      have hss4 := Lib.hid hbu.2
      clear hown4 hgrow hat4 hlt4 hbu hq
      refine hK.out _ _ y0 ?_
      clear hK K
      refine wpAnyT_free (i := 15) (o := _) (by kernel_rfl) rfl (by kernel_rfl) (fun K hK => ?_)
      go_simp
      refine hK.out _ _ ?_
      clear hK K
      refine wpAnyT_free (i := 16) (o := _) (by kernel_rfl) rfl (by kernel_rfl) (fun K hK => ?_)
      go_simp
      refine hK.out _ _ ?_
      clear hK K
      refine wpAnyT_free (i := 17) (o := _) (by kernel_rfl) rfl (by kernel_rfl) (fun K hK => ?_)
      go_simp
      refine hK.out _ _ ?_
      clear hK K
      refine wpAnyT_free (i := 18) (o := _) (by kernel_rfl) rfl (by kernel_rfl) (fun K hK => ?_)
      go_simp
      refine hK.out _ _ ?_
      clear hK K
      refine wpAnyT_done (by kernel_rfl) ?_ _
      clear hHeld z0 y0 yz hss hss3 htk4
      generalize w4.setCell ⟨b, 8, none⟩ (.slice (some ⟨gg, 0, none⟩) (A.length + 1) cp) = wA at hss4 ⊢
      refine ‹∀ (a : Act) (w : World), Code.wp _ _ _ a w → _› _ _ ?_
      have hss := hss4
      clear hss4
      go_wp2_with fail
      have hssd := Lib.hid (hss.out.below (Below.refl wA.heap.size wA).drew)
      have hn63 : Hid (a1.length + 1 ≤ maxLen) := Lib.hid (by unfold maxLen; omega)
      have hn64 : Hid ((a1.length + 1) * 8 ≤ 140737488355328) := Lib.hid (by omega)
      have hqA := hss.out.cells
      have z1 : wA.cell? ⟨b, 11, none⟩ = some (.slice va3 a1.length vc3) := hqA.2.2.2.2.1
      have z2 : wA.cell? ⟨g, 2, none⟩ = some (.int .i64 (ta1 : Nat)) := hqA.1 2 _ rfl
      clear hqA
      refine wp_region_T (fun w' => w'.cell? ⟨b, 11, none⟩ = some (.slice va3 a1.length vc3) ∧ w'.cell? ⟨g, 2, none⟩ = some (.int .i64 (ta1 : Nat))) [0, 1, 2, 3, 4, 5, 6, 7] (by kernel_rfl) ⟨z1, z2⟩ (fun hHeld => ?_)
      refine wpAnyT_take (i := 0) (oi := _) (v := ?_) rfl rfl (by kernel_rfl) (by kernel_rfl) (by kernel_rfl) (fun _ _ _ h => h) (Or.inl ⟨by rfl, ?_⟩) (by assumption) ?_
      rotate_left
      · intro w hSw
        try dsimp only at hSw
        go_simp
        try with_reducible rfl
      refine wpAnyT_take (i := 1) (oi := _) (v := ?_) rfl rfl (by kernel_rfl) (by kernel_rfl) (by kernel_rfl) (fun _ _ _ h => h) (Or.inl ⟨by rfl, ?_⟩) (by assumption) ?_
      rotate_left
      · intro w hSw
        try dsimp only at hSw
        go_simp
        try with_reducible rfl
      refine wpAnyT_take (i := 2) (oi := _) (v := ?_) rfl rfl (by kernel_rfl) (by kernel_rfl) (by kernel_rfl) (fun _ _ _ h => h) (Or.inl ⟨by rfl, ?_⟩) (by assumption) ?_
      rotate_left
      · intro w hSw
        try dsimp only at hSw
        go_simp
        try with_reducible rfl
      refine wpAnyT_take (i := 3) (oi := _) (v := ?_) rfl rfl (by kernel_rfl) (by kernel_rfl) (by kernel_rfl) (fun _ _ _ h => h) (Or.inl ⟨by rfl, ?_⟩) (by assumption) ?_
      rotate_left
      · intro w hSw
        try dsimp only at hSw
        go_simp
        try with_reducible rfl
      refine wpAnyT_take (i := 4) (oi := _) (v := ?_) rfl rfl (by kernel_rfl) (by kernel_rfl) (by kernel_rfl) (fun _ _ _ h => h) (Or.inl ⟨by rfl, ?_⟩) (by assumption) ?_
      rotate_left
      · intro w hSw
        try dsimp only at hSw
        go_simp
        try with_reducible rfl
      refine wpAnyT_take (i := 5) (oi := _) (v := ?_) rfl rfl (by kernel_rfl) (by kernel_rfl) (by kernel_rfl) (fun _ _ _ h => h) (Or.inl ⟨by rfl, ?_⟩) (by assumption) ?_
      rotate_left
      · intro w hSw
        try dsimp only at hSw
        go_simp
        try with_reducible rfl
      refine wpAnyT_take (i := 6) (oi := _) (v := ?_) rfl rfl (by kernel_rfl) (by kernel_rfl) (by kernel_rfl) (fun _ _ _ h => h) (Or.inl ⟨by rfl, ?_⟩) (by assumption) ?_
      rotate_left
      · intro w hSw
        try dsimp only at hSw
        go_simp
        try with_reducible rfl
      refine wpAnyT_take (i := 7) (oi := _) (v := ?_) rfl rfl (by kernel_rfl) (by kernel_rfl) (by kernel_rfl) (fun _ _ _ h => h) (Or.inl ⟨by rfl, ?_⟩) (by assumption) ?_
      rotate_left
      · intro w hSw
        try dsimp only at hSw
        go_simp
        try with_reducible rfl
      refine wpAnyT_one (i := 8) (o := _) (by kernel_rfl) rfl (fun K hK => ?_)
      go_simp
      refine hK.out _ _ (by have hq := (hss.out.below ((Below.refl wA.heap.size wA).al (.cells #[.int .i64 (ta1 : Nat)] 3)).drew).cells; exact ⟨hq.2.2.2.2.1, hq.1 2 _ rfl⟩) ?_
      clear hK K
      refine wpAnyT_one (i := 9) (o := _) (by kernel_rfl) rfl (fun K hK => ?_)
      refine step_append_lies (wA.alloc (.cells #[.int .i64 (ta1 : Nat)] 3)).drew ?guardI (.tmp 70) (.tmp 73) 36 ?opI lo 3 iti (.int .i64 0) 1 8 Tryd.underlying36 hiti hti0 hti1 hti2 (by rfl) (by omega) (.slice va3 a1.length vc3) a1.length (atL a1) ?evI1 (own_below (hss.out.pg.r3.alloc _) (Below.refl _ _).drew) ⟨wA.heap.size, 0, none⟩ 1 1 [.int .i64 (ta1 : Nat)] ?evI2 (by rfl) (own_cells_row (w := wA) rfl rfl) (by intro u hu; simp at hu; subst hu; rfl) (by omega) hn63.out hn64.out (by have := hss.out.fr.size; show _ ≤ (wA.alloc _).heap.size; rw [World.size_alloc]; omega) (wA.heap.size + 1) (by show (wA.alloc _).heap.size = _; rw [World.size_alloc]) ?restI
      case guardI => rfl
      case opI => rfl
      case evI1 => rfl
      case evI2 => rfl
      intro gi ci wB hownB hgrowB hatB hltB
      have hbu := SS.bump3 (w3 := wA.drew) (ob := (.cells #[.int .i64 (ta1 : Nat)] 3)) hssd.out hgrowB hownB hatB
      have hq := hssd.out.cells
      have yi : wB.cell? ⟨b, 11, none⟩ = some (.slice va3 a1.length vc3) := (World.cell?_of_block hbu.1.1).trans hq.2.2.2.2.1
      have yj : wB.cell? ⟨g, 2, none⟩ = some (.int .i64 (ta1 : Nat)) := (World.cell?_of_block hbu.1.2).trans (hq.1 2 _ rfl)
      have yk : wB.frozen? ⟨b, 11, none⟩ = false := (World.frozen?_of_block hbu.1.1).trans (hq.2.2.2.2.2.2.2 11)
      have hssB := Lib.hid hbu.2
      clear hownB hgrowB hatB hltB hbu hq
      refine hK.out _ _ ⟨yi, yj⟩ ?_
      clear hK K
      refine wpAnyT_free (i := 10) (o := _) (by kernel_rfl) rfl (by kernel_rfl) (fun K hK => ?_)
      go_simp
      refine hK.out _ _ ?_
      clear hK K
      refine wpAnyT_free (i := 11) (o := _) (by kernel_rfl) rfl (by kernel_rfl) (fun K hK => ?_)
      go_simp
      refine hK.out _ _ ?_
      clear hK K
      refine wpAnyT_free (i := 12) (o := _) (by kernel_rfl) rfl (by kernel_rfl) (fun K hK => ?_)
      go_simp
      refine hK.out _ _ ?_
      clear hK K
      refine wpAnyT_free (i := 13) (o := _) (by kernel_rfl) rfl (by kernel_rfl) (fun K hK => ?_)
      go_simp
      refine hK.out _ _ ?_
      clear hK K
      refine wpAnyT_done (by kernel_rfl) ?_ _
      clear hHeld z1 z2 yi yj yk hn63 hn64 hssd hss
      generalize wB.setCell ⟨b, 11, none⟩ (.slice (some ⟨gi, 0, none⟩) (a1.length + 1) ci) = wC at hssB ⊢
      refine ‹∀ (a : Act) (w : World), Code.wp _ _ _ a w → _› _ _ ?_
      rcases take_cases P (k + 1) [11] (by decide) with ⟨td, hd1, _, hcd, hltd⟩ | ⟨xd, hd1, hxd, hcd⟩
      · have hP : Hid (psStmt P i = .ok (.inp pn nn ft ta1, k + 1 + 1)) := Lib.hid (by rw [hL5.out, hd1])
        have htkd := Lib.hid (fun w h wa hw => pa_take_ok w b P tx ta tc (k + 1) (.slice (some ⟨gg, 0, none⟩) (A.length + 1) cp) R1 R2 (.slice (some ⟨gi, 0, none⟩) (a1.length + 1) ci) R4 R5 h wa [11] 1 hw (by decide) hcd hltd)
        clear hd1 hcd hL5
        generalize mk (P.tok (k + 1)).text = td2 at htkd
        generalize ((P.tok (k + 1)).at_ : Int) = td3 at htkd
        generalize ((P.tok (k + 1)).end_ : Int) = td4 at htkd
        generalize P.kind (k + 1) = td5 at htkd
        go_wp2_with (go_at_call 55; refine (htkd.out _ (hssB.out.st.below ((Below.refl _ _).al _)) _ (kinds_lit _ _ [11] _ rfl (by decide) rfl)).mono ?_; rintro e wZ ⟨rfl, hsZ, hmZ⟩; have hssZ := Lib.hid (hssB.out.move ((Mvd.of (b := b) ((Below.refl wC.heap.size wC).al _)).trans hmZ) hsZ); clear hsZ hmZ)
        go_end0
        rw [hP.out]
        refine ⟨rfl, hssZ.out.fr, _, _, _, _, _, _, hssZ.out.st, ?_⟩
        simpa [inpsOf, outsOf, rulesOf, inAts, outAts, ruAts] using hssZ.out.pg
      · have hP : Hid (psStmt P i = .error xd) := Lib.hid (by rw [hL5.out, hd1])
        have htkd := Lib.hid (fun w h wa hw => pa_take_err w b P tx ta tc (k + 1) (.slice (some ⟨gg, 0, none⟩) (A.length + 1) cp) R1 R2 (.slice (some ⟨gi, 0, none⟩) (a1.length + 1) ci) R4 R5 h wa [11] 1 hw (by decide) hcd)
        rw [← hxd] at htkd
        unfold thrown at htkd
        clear hd1 hcd hL5 hxd
        go_wp2_with (go_at_call 55; refine (htkd.out _ (hssB.out.st.below ((Below.refl _ _).al _)) _ (kinds_lit _ _ [11] _ rfl (by decide) rfl)).mono ?_; rintro e wZ ⟨rfl, hbZ⟩; have hmv := Lib.hid (hssB.out.fr.trans (Frm.of_mvd ((Mvd.of ((Below.refl _ _).al _)).trans (Mvd.of hbZ)) (Nat.le_trans hlo hssB.out.fr.size))); clear hbZ)
        exact ⟨rfl, by rw [hP.out]; exact ⟨rfl, hmv.out⟩⟩
    · have hP : Hid (psStmt P i = .error x) := Lib.hid (by rw [hL.out, hAr]; dsimp only; rw [h4])
      have htk4 := Lib.hid (fun w h wa hw => pa_take_err w b P tx ta tc k (.slice va0 A.length vc0) R1 R2 (.slice va3 a1.length vc3) R4 R5 h wa [4] 1 hw (by decide) hc4)
      rw [← h4x] at htk4
      unfold thrown at htk4
      clear hL hAr h4 h4x hc4
      have hqR := hss.out.cells
      have z0 : wR.cell? ⟨b, 8, none⟩ = some (.slice va0 A.length vc0) := hqR.2.1
      clear hqR
      refine wp_region_T (fun w' => w'.cell? ⟨b, 8, none⟩ = some (.slice va0 A.length vc0)) [0, 1, 2, 3, 4, 5, 6, 7, 8] (by kernel_rfl) z0 (fun hHeld => ?_)
      refine wpAnyT_take (i := 0) (oi := _) (v := ?_) rfl rfl (by kernel_rfl) (by kernel_rfl) (by kernel_rfl) (fun _ _ _ h => h) (Or.inl ⟨by rfl, ?_⟩) (by assumption) ?_
      rotate_left
      · intro w hSw
        try dsimp only at hSw
        go_simp
        try with_reducible rfl
      refine wpAnyT_take (i := 1) (oi := _) (v := ?_) rfl rfl (by kernel_rfl) (by kernel_rfl) (by kernel_rfl) (fun _ _ _ h => h) (Or.inl ⟨by rfl, ?_⟩) (by assumption) ?_
      rotate_left
      · intro w hSw
        try dsimp only at hSw
        go_simp
        try with_reducible rfl
      refine wpAnyT_take (i := 2) (oi := _) (v := ?_) rfl rfl (by kernel_rfl) (by kernel_rfl) (by kernel_rfl) (fun _ _ _ h => h) (Or.inl ⟨by rfl, ?_⟩) (by assumption) ?_
      rotate_left
      · intro w hSw
        try dsimp only at hSw
        go_simp
        try with_reducible rfl
      refine wpAnyT_take (i := 3) (oi := _) (v := ?_) rfl rfl (by kernel_rfl) (by kernel_rfl) (by kernel_rfl) (fun _ _ _ h => h) (Or.inl ⟨by rfl, ?_⟩) (by assumption) ?_
      rotate_left
      · intro w hSw
        try dsimp only at hSw
        go_simp
        try with_reducible rfl
      refine wpAnyT_take (i := 4) (oi := _) (v := ?_) rfl rfl (by kernel_rfl) (by kernel_rfl) (by kernel_rfl) (fun _ _ _ h => h) (Or.inl ⟨by rfl, ?_⟩) (by assumption) ?_
      rotate_left
      · intro w hSw
        try dsimp only at hSw
        go_simp
        try with_reducible rfl
      refine wpAnyT_take (i := 5) (oi := _) (v := ?_) rfl rfl (by kernel_rfl) (by kernel_rfl) (by kernel_rfl) (fun _ _ _ h => h) (Or.inl ⟨by rfl, ?_⟩) (by assumption) ?_
      rotate_left
      · intro w hSw
        try dsimp only at hSw
        go_simp
        try with_reducible rfl
      refine wpAnyT_take (i := 6) (oi := _) (v := ?_) rfl rfl (by kernel_rfl) (by kernel_rfl) (by kernel_rfl) (fun _ _ _ h => h) (Or.inl ⟨by rfl, ?_⟩) (by assumption) ?_
      rotate_left
      · intro w hSw
        try dsimp only at hSw
        go_simp
        try with_reducible rfl
      refine wpAnyT_take (i := 7) (oi := _) (v := ?_) rfl rfl (by kernel_rfl) (by kernel_rfl) (by kernel_rfl) (fun _ _ _ h => h) (Or.inl ⟨by rfl, ?_⟩) (by assumption) ?_
      rotate_left
      · intro w hSw
        try dsimp only at hSw
        go_simp
        try with_reducible rfl
      refine wpAnyT_take (i := 8) (oi := _) (v := ?_) rfl rfl (by kernel_rfl) (by kernel_rfl) (by kernel_rfl) (fun _ _ _ h => h) (Or.inl ⟨by rfl, ?_⟩) (by assumption) ?_
      rotate_left
      · intro w hSw
        try dsimp only at hSw
        go_simp
        try with_reducible rfl
      refine wpAnyT_one (i := 9) (o := _) (by kernel_rfl) rfl (fun K hK => ?_)
      go_simp
      refine hK.out _ _ (by have hq := (hss.out.below ((Below.refl wR.heap.size wR).al (.cells #[.int .i64 4] 90)).drew).cells; exact hq.2.1) ?_
      clear hK K
      refine wpAnyT_one (i := 10) (o := _) (by kernel_rfl) rfl (fun K hK => ?_)
      go_simp
      go_wp2_with (go_at_call 55; refine (htk4.out _ (hss.out.st.below ((Below.refl _ _).al _).drew) _ ((kinds_lit wR _ [4] _ rfl (by decide) rfl).below (Below.refl _ _).drew)).mono ?_; rintro e w3 ⟨rfl, hb3⟩; have hmv := Lib.hid (hss.out.fr.trans ((Frm.of_below ((Below.refl _ _).al _).drew (Nat.le_trans hlo hss.out.fr.size)).trans (Frm.of_below hb3 (by have := hss.out.fr.size; show _ ≤ (wR.alloc _).heap.size; rw [World.size_alloc]; omega)))); exact ⟨rfl, by rw [hP.out]; exact ⟨rfl, hmv.out⟩⟩)
set_option maxHeartbeats 4000000 in
set_option maxRecDepth 100000 in
theorem pa_stmt_outp (w : World) (b : Nat) (P : Ps) (tx : ByteArray) (ta : Option Addr) (tc i : Nat) (R0 R1 R2 R3 R4 R5 : Value) (h : PSt w b P tx ta tc i R0 R1 R2 R3 R4 R5) (lo : Nat) (A : List (ByteArray × Int × ByteArray)) (B : List (ByteArray × Int)) (C : List PRule) (a1 a2 a3 : List Nat) (hpg : Prg w lo R0 R1 R2 R3 R4 R5 A B C a1 a2 a3) (hblo : b < lo) (hlo : lo ≤ w.heap.size) (htlo : ∀ x, ta = some x → x.block < lo) (hA : A.length ≤ 4194304) (hB : B.length ≤ 4194304) (hC : C.length ≤ 4194304) (h1 : a1.length ≤ 4194304) (h2 : a2.length ≤ 4194304) (h3 : a3.length ≤ 4194304) (hsz : ∀ j, (P.tok j).text.length ≤ 4194304) (hat : ∀ j, (P.tok j).at_ ≤ 4194304) (hK : P.kind i = 6) (hlt : i < P.ts.length) :
    Calls Tryd.prog 33 #[.pointer (some ⟨b, 0, none⟩)] w (StPost lo b P tx ta tc A B C a1 a2 a3 w (psStmt P i)) := by
  obtain ⟨it, hit, ht0, ht1, ht2⟩ := info_parts infoOutput
  obtain ⟨iti, hiti, hti0, hti1, hti2⟩ := info_parts infoInt
  have hlen := h.len
  have hbl := h.lt
  have htk := fun w h wa hw => pa_take_ok w b P tx ta tc i R0 R1 R2 R3 R4 R5 h wa [1, 5, 6] 3 hw (by decide) (by rw [hK]; rfl) hlt
  rw [hK] at htk
  have hta : P.take i [1, 5, 6] = .ok (P.tok i, i + 1) := by unfold Ps.take; rw [hK]; rfl
  have hkk : (P.tok i).kind = 6 := hK
  have har := fun w h => pa_arity w b P tx ta tc (i + 1) R0 R1 R2 R3 R4 R5 h hsz hat
  have hL : Hid (psStmt P i = match psArity P (i + 1) with | .error e => .error e | .ok ((p, n), k) => match P.take k [11] with | .error e => .error e | .ok (_, o) => .ok (.outp p n (P.tok i).at_, o)) := Lib.hid (by
    unfold psStmt; rw [hta]; dsimp only; rw [if_neg (by omega), if_pos hkk]; rfl)
  clear hsz hat
  generalize mk (P.tok i).text = tt at htk
  generalize (P.tok i).at_ = ta1 at htk hL
  generalize ((P.tok i).end_ : Int) = te1 at htk
  clear hK hta hkk
  go_enter Tryd.func33, Tryd.ntmps33
  go_wp2_with (go_at_call 55; refine (htk _ (h.below ((Below.refl _ _).al _)) _ (kinds_lit _ _ [1, 5, 6] _ rfl (by decide) rfl)).mono ?_; rintro e w1 ⟨rfl, hs10, hm10⟩; have hs1 := Lib.hid hs10; have hm1 := Lib.hid ((Mvd.of ((Below.refl w.heap.size w).al _)).trans hm10); clear hs10 hm10)
  have hsz1 := Nat.le_trans hlo hm1.out.size
  obtain ⟨w2, hw2⟩ : ∃ w2, w2 = w1.alloc (.cells #[.int .i64 6, .string tt, .int .i64 (ta1 : Nat), .int .i64 te1] 92) := ⟨_, rfl⟩
  have hss : Hid (SS w w2 lo b P tx ta tc (i + 1) R0 R1 R2 R3 R4 R5 A B C a1 a2 a3 w1.heap.size #[.int .i64 6, .string tt, .int .i64 (ta1 : Nat), .int .i64 te1]) := Lib.hid (by
    rw [hw2]
    have hb := (Below.refl w1.heap.size w1).al (.cells #[.int .i64 6, .string tt, .int .i64 (ta1 : Nat), .int .i64 te1] 92)
    exact ⟨hs1.out.below hb, (Frm.of_mvd hm1.out hlo).trans (Frm.of_below hb hsz1), (hpg.mvd hm1.out hblo).below hb (by omega), heap_alloc_new _ _, hsz1, hlo, hblo, htlo⟩)
  rw [← hw2]
  clear hw2 hs1 hm1 htk hpg h hsz1
  generalize w1.heap.size = g at hss ⊢
  obtain ⟨tk, b0, b1, b2, b3, b4, b5, bz⟩ := hss.out.cells
  have t0 := tk 0 _ rfl
  have t1 := tk 1 _ rfl
  have t2 := tk 2 _ rfl
  clear tk
  go_wp2_with fail
  obtain ⟨va1, vc1, rfl⟩ := hss.out.pg.form1
  obtain ⟨va4, vc4, rfl⟩ := hss.out.pg.form4
  have h63 : Hid (B.length + 1 ≤ maxLen) := Lib.hid (by unfold maxLen; omega)
  cases hAr : psArity P (i + 1) with
  | error x =>
    have hP : Hid (psStmt P i = .error x) := Lib.hid (by rw [hL.out, hAr])
    rw [hAr] at har
    replace har := Lib.hid har
    unfold ArPost thrown at har
    dsimp only at har
    clear hL hAr
    go_wp2_with (go_at_call 56; refine (har.out _ hss.out.st).mono ?_; rintro e wR ⟨rfl, hmR⟩; have hmv := Lib.hid (hss.out.fr.trans (Frm.of_mvd hmR (Nat.le_trans hlo hss.out.fr.size))); clear hmR)
    exact ⟨rfl, by rw [hP.out]; exact ⟨rfl, hmv.out⟩⟩
  | ok r =>
    obtain ⟨⟨pn, nn⟩, k⟩ := r
    rw [hAr] at har
    replace har := Lib.hid har
    unfold ArPost at har
    dsimp only at har
    go_wp2_with (first
      | (at_builtin
         have hg := hssR.out
         clear hg
         go_loud (refine wpList_append_own _ rfl (.tmp 90) (.tmp 94) 23 rfl lo 47 it (.agg #[.string ⟨#[]⟩, .int .i64 0]) 2 24 Tryd.underlying23 hit ht0 ht1 ht2 rfl (by decide) (.slice va1 B.length vc1) B.length (outL B) rfl (hssR.out.pg.r1.alloc _) ⟨wR.heap.size, 0, none⟩ 1 1 (outC (pn, nn)) rfl rfl (own_cells_row rfl rfl) (by intro u hu; simp [outC] at hu; rcases hu with rfl | rfl <;> rfl) h63.out (by omega) (by have := hssR.out.fr.size; rw [World.size_alloc]; omega) ?_))
      | (go_at_call 56
         refine (har.out _ hss.out.st).mono ?_
         rintro e wR ⟨rfl, hsR, hmR⟩
         have hssR := Lib.hid (hss.out.move hmR hsR)
         have hqR := hssR.out.cells
         have z1 : wR.cell? ⟨b, 9, none⟩ = some (.slice va1 B.length vc1) := hqR.2.2.1
         clear hsR hmR hqR))
    have hL5 : Hid (psStmt P i = match P.take k [11] with | .error e => .error e | .ok (_, o) => .ok (.outp pn nn ta1, o)) := Lib.hid (by rw [hL.out, hAr])
    clear hL hAr
    intro v4 w4 hown4 hgr4 hv4
    have hbu := SS.bump1 (x := (pn, nn)) hssR.out hgr4 hown4
    have hq := hssR.out.cells
    have y0 : w4.cell? ⟨b, 9, none⟩ = some (.slice va1 B.length vc1) := (World.cell?_of_block hbu.1.1).trans hq.2.2.1
    have yz : w4.frozen? ⟨b, 9, none⟩ = false := (World.frozen?_of_block hbu.1.1).trans (hq.2.2.2.2.2.2.2 9)
    obtain ⟨gg, cp, rfl, -⟩ := own_slice hown4
    have hss4 := Lib.hid hbu.2
    clear hown4 hgr4 hv4 hbu hq hss har t0 t1 t2 b0 b1 b2 b3 b4 b5 bz z1
    go_wp2_with fail
    generalize w4.setCell ⟨b, 9, none⟩ (.slice gg (B.length + 1) cp) = wA at hss4 ⊢
    have hss := hss4
    clear hss4 y0 yz
    have hssd := Lib.hid (hss.out.below (Below.refl wA.heap.size wA).drew)
    have hn63 : Hid (a2.length + 1 ≤ maxLen) := Lib.hid (by unfold maxLen; omega)
    have hn64 : Hid ((a2.length + 1) * 8 ≤ 140737488355328) := Lib.hid (by omega)
    have hqA := hss.out.cells
    have z1 : wA.cell? ⟨b, 12, none⟩ = some (.slice va4 a2.length vc4) := hqA.2.2.2.2.2.1
    have z2 : wA.cell? ⟨g, 2, none⟩ = some (.int .i64 (ta1 : Nat)) := hqA.1 2 _ rfl
    clear hqA
    refine wp_region_T (fun w' => w'.cell? ⟨b, 12, none⟩ = some (.slice va4 a2.length vc4) ∧ w'.cell? ⟨g, 2, none⟩ = some (.int .i64 (ta1 : Nat))) [0, 1, 2, 3, 4, 5, 6, 7] (by kernel_rfl) ⟨z1, z2⟩ (fun hHeld => ?_)
    refine wpAnyT_take (i := 0) (oi := _) (v := ?_) rfl rfl (by kernel_rfl) (by kernel_rfl) (by kernel_rfl) (fun _ _ _ h => h) (Or.inl ⟨by rfl, ?_⟩) (by assumption) ?_
    rotate_left
    · intro w hSw
      try dsimp only at hSw
      go_simp
      try with_reducible rfl
    refine wpAnyT_take (i := 1) (oi := _) (v := ?_) rfl rfl (by kernel_rfl) (by kernel_rfl) (by kernel_rfl) (fun _ _ _ h => h) (Or.inl ⟨by rfl, ?_⟩) (by assumption) ?_
    rotate_left
    · intro w hSw
      try dsimp only at hSw
      go_simp
      try with_reducible rfl
    refine wpAnyT_take (i := 2) (oi := _) (v := ?_) rfl rfl (by kernel_rfl) (by kernel_rfl) (by kernel_rfl) (fun _ _ _ h => h) (Or.inl ⟨by rfl, ?_⟩) (by assumption) ?_
    rotate_left
    · intro w hSw
      try dsimp only at hSw
      go_simp
      try with_reducible rfl
    refine wpAnyT_take (i := 3) (oi := _) (v := ?_) rfl rfl (by kernel_rfl) (by kernel_rfl) (by kernel_rfl) (fun _ _ _ h => h) (Or.inl ⟨by rfl, ?_⟩) (by assumption) ?_
    rotate_left
    · intro w hSw
      try dsimp only at hSw
      go_simp
      try with_reducible rfl
    refine wpAnyT_take (i := 4) (oi := _) (v := ?_) rfl rfl (by kernel_rfl) (by kernel_rfl) (by kernel_rfl) (fun _ _ _ h => h) (Or.inl ⟨by rfl, ?_⟩) (by assumption) ?_
    rotate_left
    · intro w hSw
      try dsimp only at hSw
      go_simp
      try with_reducible rfl
    refine wpAnyT_take (i := 5) (oi := _) (v := ?_) rfl rfl (by kernel_rfl) (by kernel_rfl) (by kernel_rfl) (fun _ _ _ h => h) (Or.inl ⟨by rfl, ?_⟩) (by assumption) ?_
    rotate_left
    · intro w hSw
      try dsimp only at hSw
      go_simp
      try with_reducible rfl
    refine wpAnyT_take (i := 6) (oi := _) (v := ?_) rfl rfl (by kernel_rfl) (by kernel_rfl) (by kernel_rfl) (fun _ _ _ h => h) (Or.inl ⟨by rfl, ?_⟩) (by assumption) ?_
    rotate_left
    · intro w hSw
      try dsimp only at hSw
      go_simp
      try with_reducible rfl
    refine wpAnyT_take (i := 7) (oi := _) (v := ?_) rfl rfl (by kernel_rfl) (by kernel_rfl) (by kernel_rfl) (fun _ _ _ h => h) (Or.inl ⟨by rfl, ?_⟩) (by assumption) ?_
    rotate_left
    · intro w hSw
      try dsimp only at hSw
      go_simp
      try with_reducible rfl
    refine wpAnyT_one (i := 8) (o := _) (by kernel_rfl) rfl (fun K hK => ?_)
    go_simp
    refine hK.out _ _ (by have hq := (hss.out.below ((Below.refl wA.heap.size wA).al (.cells #[.int .i64 (ta1 : Nat)] 3)).drew).cells; exact ⟨hq.2.2.2.2.2.1, hq.1 2 _ rfl⟩) ?_
    clear hK K
    refine wpAnyT_one (i := 9) (o := _) (by kernel_rfl) rfl (fun K hK => ?_)
    refine step_append_lies (wA.alloc (.cells #[.int .i64 (ta1 : Nat)] 3)).drew ?guardI (.tmp 104) (.tmp 107) 36 ?opI lo 3 iti (.int .i64 0) 1 8 Tryd.underlying36 hiti hti0 hti1 hti2 (by rfl) (by omega) (.slice va4 a2.length vc4) a2.length (atL a2) ?evI1 (own_below (hss.out.pg.r4.alloc _) (Below.refl _ _).drew) ⟨wA.heap.size, 0, none⟩ 1 1 [.int .i64 (ta1 : Nat)] ?evI2 (by rfl) (own_cells_row (w := wA) rfl rfl) (by intro u hu; simp at hu; subst hu; rfl) (by omega) hn63.out hn64.out (by have := hss.out.fr.size; show _ ≤ (wA.alloc _).heap.size; rw [World.size_alloc]; omega) (wA.heap.size + 1) (by show (wA.alloc _).heap.size = _; rw [World.size_alloc]) ?restI
    case guardI => rfl
    case opI => rfl
    case evI1 => rfl
    case evI2 => rfl
    intro gi ci wB hownB hgrowB hatB hltB
    have hbu := SS.bump4 (w3 := wA.drew) (ob := (.cells #[.int .i64 (ta1 : Nat)] 3)) hssd.out hgrowB hownB hatB
    have hq := hssd.out.cells
    have yi : wB.cell? ⟨b, 12, none⟩ = some (.slice va4 a2.length vc4) := (World.cell?_of_block hbu.1.1).trans hq.2.2.2.2.2.1
    have yj : wB.cell? ⟨g, 2, none⟩ = some (.int .i64 (ta1 : Nat)) := (World.cell?_of_block hbu.1.2).trans (hq.1 2 _ rfl)
    have yk : wB.frozen? ⟨b, 12, none⟩ = false := (World.frozen?_of_block hbu.1.1).trans (hq.2.2.2.2.2.2.2 12)
    have hssB := Lib.hid hbu.2
    clear hownB hgrowB hatB hltB hbu hq
    refine hK.out _ _ ⟨yi, yj⟩ ?_
    clear hK K
    refine wpAnyT_free (i := 10) (o := _) (by kernel_rfl) rfl (by kernel_rfl) (fun K hK => ?_)
    go_simp
    refine hK.out _ _ ?_
    clear hK K
    refine wpAnyT_free (i := 11) (o := _) (by kernel_rfl) rfl (by kernel_rfl) (fun K hK => ?_)
    go_simp
    refine hK.out _ _ ?_
    clear hK K
    refine wpAnyT_free (i := 12) (o := _) (by kernel_rfl) rfl (by kernel_rfl) (fun K hK => ?_)
    go_simp
    refine hK.out _ _ ?_
    clear hK K
    refine wpAnyT_free (i := 13) (o := _) (by kernel_rfl) rfl (by kernel_rfl) (fun K hK => ?_)
    go_simp
    refine hK.out _ _ ?_
    clear hK K
    refine wpAnyT_done (by kernel_rfl) ?_ _
    clear hHeld z1 z2 yi yj yk hn63 hn64 hssd hss
    generalize wB.setCell ⟨b, 12, none⟩ (.slice (some ⟨gi, 0, none⟩) (a2.length + 1) ci) = wC at hssB ⊢
    refine ‹∀ (a : Act) (w : World), Code.wp _ _ _ a w → _› _ _ ?_
    rcases take_cases P k [11] (by decide) with ⟨td, hd1, _, hcd, hltd⟩ | ⟨xd, hd1, hxd, hcd⟩
    · have hP : Hid (psStmt P i = .ok (.outp pn nn ta1, k + 1)) := Lib.hid (by rw [hL5.out, hd1])
      have htkd := Lib.hid (fun w h wa hw => pa_take_ok w b P tx ta tc k R0 (.slice gg (B.length + 1) cp) R2 R3 (.slice (some ⟨gi, 0, none⟩) (a2.length + 1) ci) R5 h wa [11] 1 hw (by decide) hcd hltd)
      clear hd1 hcd hL5
      generalize mk (P.tok k).text = td2 at htkd
      generalize ((P.tok k).at_ : Int) = td3 at htkd
      generalize ((P.tok k).end_ : Int) = td4 at htkd
      generalize P.kind k = td5 at htkd
      go_wp2_with (go_at_call 55; refine (htkd.out _ (hssB.out.st.below ((Below.refl _ _).al _)) _ (kinds_lit _ _ [11] _ rfl (by decide) rfl)).mono ?_; rintro e wZ ⟨rfl, hsZ, hmZ⟩; have hssZ := Lib.hid (hssB.out.move ((Mvd.of (b := b) ((Below.refl wC.heap.size wC).al _)).trans hmZ) hsZ); clear hsZ hmZ)
      go_end0
      rw [hP.out]
      refine ⟨rfl, hssZ.out.fr, _, _, _, _, _, _, hssZ.out.st, ?_⟩
      simpa [inpsOf, outsOf, rulesOf, inAts, outAts, ruAts] using hssZ.out.pg
    · have hP : Hid (psStmt P i = .error xd) := Lib.hid (by rw [hL5.out, hd1])
      have htkd := Lib.hid (fun w h wa hw => pa_take_err w b P tx ta tc k R0 (.slice gg (B.length + 1) cp) R2 R3 (.slice (some ⟨gi, 0, none⟩) (a2.length + 1) ci) R5 h wa [11] 1 hw (by decide) hcd)
      rw [← hxd] at htkd
      unfold thrown at htkd
      clear hd1 hcd hL5 hxd
      go_wp2_with (go_at_call 55; refine (htkd.out _ (hssB.out.st.below ((Below.refl _ _).al _)) _ (kinds_lit _ _ [11] _ rfl (by decide) rfl)).mono ?_; rintro e wZ ⟨rfl, hbZ⟩; have hmv := Lib.hid (hssB.out.fr.trans (Frm.of_mvd ((Mvd.of ((Below.refl _ _).al _)).trans (Mvd.of hbZ)) (Nat.le_trans hlo hssB.out.fr.size))); clear hbZ)
      exact ⟨rfl, by rw [hP.out]; exact ⟨rfl, hmv.out⟩⟩
set_option maxHeartbeats 4000000 in
set_option maxRecDepth 100000 in
theorem pa_stmt (w : World) (b : Nat) (P : Ps) (tx : ByteArray) (ta : Option Addr) (tc i : Nat) (R0 R1 R2 R3 R4 R5 : Value) (h : PSt w b P tx ta tc i R0 R1 R2 R3 R4 R5) (lo : Nat) (A : List (ByteArray × Int × ByteArray)) (B : List (ByteArray × Int)) (C : List PRule) (a1 a2 a3 : List Nat) (hpg : Prg w lo R0 R1 R2 R3 R4 R5 A B C a1 a2 a3) (hblo : b < lo) (hlo : lo ≤ w.heap.size) (htlo : ∀ x, ta = some x → x.block < lo) (hA : A.length ≤ 4194304) (hB : B.length ≤ 4194304) (hC : C.length ≤ 4194304) (h1 : a1.length ≤ 4194304) (h2 : a2.length ≤ 4194304) (h3 : a3.length ≤ 4194304) (hsz : ∀ j, (P.tok j).text.length ≤ 4194304) (hat : ∀ j, (P.tok j).at_ ≤ 4194304) :
    Calls Tryd.prog 33 #[.pointer (some ⟨b, 0, none⟩)] w (StPost lo b P tx ta tc A B C a1 a2 a3 w (psStmt P i)) := by
  have hlt : ¬ P.kind i = 0 → i < P.ts.length := fun h0 => by
    rcases Nat.lt_or_ge i P.ts.length with h' | h'
    · exact h'
    · exact absurd (Ps.kind_end h') h0
  by_cases hk1 : P.kind i = 1
  · exact pa_stmt_rule w b P tx ta tc i R0 R1 R2 R3 R4 R5 h lo A B C a1 a2 a3 hpg hblo hlo htlo hA hB hC h1 h2 h3 hsz hat hk1 (hlt (by omega))
  · by_cases hk5 : P.kind i = 5
    · exact pa_stmt_inp w b P tx ta tc i R0 R1 R2 R3 R4 R5 h lo A B C a1 a2 a3 hpg hblo hlo htlo hA hB hC h1 h2 h3 hsz hat hk5 (hlt (by omega))
    · by_cases hk6 : P.kind i = 6
      · exact pa_stmt_outp w b P tx ta tc i R0 R1 R2 R3 R4 R5 h lo A B C a1 a2 a3 hpg hblo hlo htlo hA hB hC h1 h2 h3 hsz hat hk6 (hlt (by omega))
      · have hc : [1, 5, 6].contains (P.kind i) = false := by
          rw [Bool.eq_false_iff]
          intro hc
          rw [List.contains_iff_mem] at hc
          simp at hc
          omega
        have htk := fun w h wa hw => pa_take_err w b P tx ta tc i R0 R1 R2 R3 R4 R5 h wa [1, 5, 6] 3 hw (by decide) hc
        have hP : Hid (psStmt P i = .error (P.stop i [1, 5, 6])) := Lib.hid (by unfold psStmt Ps.take; rw [hc]; rfl)
        generalize P.stop i [1, 5, 6] = x at htk hP
        unfold thrown at htk
        clear hc hlt hk1 hk5 hk6
        go_enter Tryd.func33, Tryd.ntmps33
        go_wp2_with (go_at_call 55; refine (htk _ (h.below ((Below.refl _ _).al _)) _ (kinds_lit _ _ [1, 5, 6] _ rfl (by decide) rfl)).mono ?_; rintro e w1 ⟨rfl, hb10⟩; have hmv := Lib.hid (Frm.of_mvd (lo := lo) ((Mvd.of (b := b) ((Below.refl w.heap.size w).al _)).trans (Mvd.of hb10)) hlo); clear hb10)
        exact ⟨rfl, by rw [hP.out]; exact ⟨rfl, hmv.out⟩⟩
end Go.Proofs.YtclioihichcpiaaDoor
