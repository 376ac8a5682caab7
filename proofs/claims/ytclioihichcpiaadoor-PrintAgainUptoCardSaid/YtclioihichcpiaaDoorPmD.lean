/- Parse: a rule in memory. -/
import Derived.Test.YtclioihichcpiaaDoorPmC
import Derived.Test.YtclioihichcpiaaDoorProg
import Derived.WalkKit
import Derived.Deep.RegionHeldLaw
import Derived.Deep.AppendLies
namespace Go.Proofs.YtclioihichcpiaaDoor
open Go.RowKit Lx
/-- a rule -/
structure PRule where
  p : ByteArray
  a : List (Bool × ByteArray)
  b : List PLit
namespace Lx
def psBodyN (P : Ps) : Nat → Nat → List PLit → Except Int (List PLit × Nat)
  | 0, _, _ => .error 0
  | n + 1, i, l =>
    match psLit P i with
    | .error e => .error e
    | .ok (x, j) =>
      if P.kind j = 10 ∧ n ≠ 0 then psBodyN P n (j + 1) (l ++ [x])
      else match P.take j [11] with
        | .ok (_, k) => .ok (l ++ [x], k)
        | .error e => .error e
def psRule (P : Ps) (i : Nat) (pr : ByteArray) : Except Int (PRule × Nat) :=
  match psArgs P i with
  | .error e => .error e
  | .ok (a, j) =>
    if P.kind j = 13 then match psBodyN P 256 (j + 1) [] with
      | .error e => .error e
      | .ok (l, k) => .ok (⟨pr, a, l⟩, k)
    else match P.take j [11, 13] with
      | .error e => .error e
      | .ok (_, k) => .ok (⟨pr, a, []⟩, k)
end Lx
theorem own_typed {w : World} {base : Nat} {e : TypeId} {size : Nat} {v : Value} {n : Nat} {xs : List Value} (h : w.ownsRow base e size v n xs) {k : Nat} (hk : v.ownBlock = some k) : ∃ cur, w.heap[k]? = some (.cells cur e (0, 0)) := by
  rcases h.2 with ⟨rfl, _⟩ | ⟨g, cap, cur, rfl, _, hg, _⟩
  · cases hk
  · cases hk; exact ⟨cur, hg⟩
theorem own_apart {w : World} {base : Nat} {e : TypeId} {size : Nat} {v : Value} {n : Nat} {xs : List Value} (h : w.ownsRow base e size v n xs) {g : Nat} {cs : Array Value} {t : TypeId} {fr : Nat × Nat} (hg : w.heap[g]? = some (.cells cs t fr)) (hne : e ≠ t) : v.ownBlock ≠ some g := fun hk => by
  obtain ⟨cur, h2⟩ := own_typed h hk
  rw [hg] at h2
  injection h2 with h2
  injection h2 with _ h3
  exact hne h3.symm
theorem own_apart2 {w : World} {base base' : Nat} {e e' : TypeId} {size size' : Nat} {v v' : Value} {n n' : Nat} {xs xs' : List Value} (h : w.ownsRow base e size v n xs) (h' : w.ownsRow base' e' size' v' n' xs') (hne : e ≠ e') : ∀ k, v.ownBlock = some k → v'.ownBlock ≠ some k := fun k hk hk' => by
  obtain ⟨cur, h2⟩ := own_typed h' hk'
  exact own_apart h h2 hne hk
def litC (x : PLit × Value) : List Value := [.int .i64 x.1.k, .string x.1.p, x.2, .bool x.1.l.1, .string x.1.l.2, .bool x.1.r.1, .string x.1.r.2]
def flatLV (L : List (PLit × Value)) : List Value := L.flatMap litC
theorem flatLV_snoc (L : List (PLit × Value)) (y : PLit × Value) : flatLV (L ++ [y]) = flatLV L ++ litC y := by simp [flatLV]
theorem typesLT : (79 : TypeId) ≠ 76 := by decide
theorem typesTL : (76 : TypeId) ≠ 79 := by decide
theorem typesTR : (76 : TypeId) ≠ 54 := by decide
theorem typesLR : (79 : TypeId) ≠ 54 := by decide
/-- a body in memory -/
structure Bod (w : World) (lo : Nat) (v : Value) (L : List (PLit × Value)) : Prop where
  own : w.ownsRow lo 79 7 v L.length (flatLV L)
  inner : ∀ y ∈ L, w.ownsRow lo 76 2 y.2 y.1.a.length (flatTT y.1.a)
theorem Bod.nil (w : World) (lo : Nat) : Bod w lo (.slice none 0 0) [] := ⟨World.ownsRow_nil _ _ _ _, by simp⟩
theorem Bod.stays {w w' : World} {lo : Nat} {v : Value} {L : List (PLit × Value)} {r : Option Nat} (h : Bod w lo v L) (hg : w.grownBy w' r) (hv : ∀ k, v.ownBlock = some k → r ≠ some k) (hin : ∀ y ∈ L, ∀ k, y.2.ownBlock = some k → r ≠ some k) : Bod w' lo v L :=
  ⟨own_stays h.own hg hv, fun y hy => own_stays (h.inner y hy) hg (hin y hy)⟩
theorem Bod.mvd {w w' : World} {lo b : Nat} {v : Value} {L : List (PLit × Value)} (h : Bod w lo v L) (hm : Mvd b w w') (hb : b < lo) : Bod w' lo v L :=
  ⟨own_mvd h.own hm hb, fun y hy => own_mvd (h.inner y hy) hm hb⟩
/-- nothing of a block of rules turns a body -/
theorem Bod.rule {w w' : World} {lo g : Nat} {v : Value} {L : List (PLit × Value)} {cs : Array Value} {fr : Nat × Nat} (h : Bod w lo v L) (hm : Mvd g w w') (hg : w.heap[g]? = some (.cells cs 54 fr)) : Bod w' lo v L :=
  h.stays hm (fun k hk e => own_apart h.own hg typesLR (by rw [hk]; exact e.symm)) (fun y hy k hk e => own_apart (h.inner y hy) hg typesTR (by rw [hk]; exact e.symm))
theorem Bod.push {w w4 : World} {lo : Nat} {v v' : Value} {L : List (PLit × Value)} {x : PLit} {lv : Value} {ob : Obj} (h : Bod w lo v L) (hlv : w.ownsRow lo 76 2 lv x.a.length (flatTT x.a)) (hg : (w.alloc ob).grownBy w4 v.ownBlock)
    (ho : w4.ownsRow lo 79 7 v' (L.length + 1) (flatLV L ++ litC (x, lv))) : Bod w4 lo v' (L ++ [(x, lv)]) := by
  constructor
  · rw [List.length_append, flatLV_snoc]; exact ho
  · intro y hy
    have hy' : w.ownsRow lo 76 2 y.2 y.1.a.length (flatTT y.1.a) := by
      rcases List.mem_append.1 hy with hy | hy
      · exact h.inner y hy
      · simp at hy; subst hy; exact hlv
    exact own_stays (hy'.alloc ob) hg fun k hk e => own_apart2 hy' h.own typesTL k hk e
/-- the terms of a rule's atoms lie apart -/
def Sep (av : Value) (L : List (PLit × Value)) : Prop := (∀ y ∈ L, ∀ k, av.ownBlock = some k → y.2.ownBlock ≠ some k) ∧ L.Pairwise fun x y => ∀ k, x.2.ownBlock = some k → y.2.ownBlock ≠ some k
theorem Sep.nil (av : Value) : Sep av [] := ⟨by simp, .nil⟩
theorem Sep.push {av lv : Value} {L : List (PLit × Value)} {x : PLit} {B : Nat} (h : Sep av L) (ha : ∀ k, av.ownBlock = some k → k < B) (hL : ∀ y ∈ L, ∀ k, y.2.ownBlock = some k → k < B) (hx : ∀ k, lv.ownBlock = some k → B ≤ k) : Sep av (L ++ [(x, lv)]) := by
  refine ⟨fun y hy k hk e => ?_, List.pairwise_append.2 ⟨h.2, List.pairwise_singleton _ _, fun u hu y hy k hk e => ?_⟩⟩
  · rcases List.mem_append.1 hy with hy | hy
    · exact h.1 y hy k hk e
    · rw [List.mem_singleton.1 hy] at e
      have := ha k hk; have := hx k e; omega
  · rw [List.mem_singleton.1 hy] at e
    have := hL u hu k hk; have := hx k e; omega
/-- a rule in memory -/
structure RuleIn (w : World) (lo : Nat) (av bv : Value) (r : PRule) : Prop where
  args : w.ownsRow lo 76 2 av r.a.length (flatTT r.a)
  body : ∃ L : List (PLit × Value), L.map (·.1) = r.b ∧ Bod w lo bv L ∧ Sep av L
def RulePost (b : Nat) (P : Ps) (tx : ByteArray) (ta : Option Addr) (tc : Nat) (R0 R1 R2 R3 R4 R5 : Value) (w0 : World) (R : Except Int (PRule × Nat)) (e : Ending) (w' : World) : Prop :=
  match R with
  | .ok (r, k) => ∃ av bv, e = .returned (.agg #[.string r.p, av, bv]) ∧ PSt w' b P tx ta tc k R0 R1 R2 R3 R4 R5 ∧ Mvd b w0 w' ∧ RuleIn w' w0.heap.size av bv r
  | .error x => e = thrown x ∧ Mvd b w0 w'
end Go.Proofs.YtclioihichcpiaaDoor


/- Parse: a rule without a body. (gen_pan.py) -/
namespace Go.Proofs.YtclioihichcpiaaDoor
open Go.RowKit Lx
theorem sizeRule : (Tryd.prog.info? 54).map (fun i => i.size) = some 3 := by kernel_rfl
theorem rule_res {b : Nat} {w wn : World} {a0 a1 a2 : Value} {t : TypeId} (hb : b < w.heap.size) (h : Mvd b (w.alloc (.cells #[a0, a1, a2] t)) wn) : wn.heap[w.heap.size]? = some (.cells #[a0, a1, a2] t) ∧ Mvd b w wn :=
  ⟨(h.block w.heap.size (by rw [World.size_alloc]; omega) (fun e => by injection e with e; omega)).trans (heap_alloc_new _ _), (Mvd.of ((Below.refl _ _).al _)).trans h⟩
theorem PSt.tok_ne {w : World} {b : Nat} {P : Ps} {tx : ByteArray} {ta : Option Addr} {tc i : Nat} {R0 R1 R2 R3 R4 R5 : Value} (h : PSt w b P tx ta tc i R0 R1 R2 R3 R4 R5) {tb : Nat} (h0 : ta = some ⟨tb, 0, none⟩) (hn : 0 < P.ts.length) : tb ≠ b := fun e => by
  obtain ⟨tb', h1, h2, _⟩ := h.toks 0 _ (List.getElem?_eq_getElem hn)
  rw [h0] at h1
  cases h1
  subst e
  simp [World.cell?, h.blk] at h2
/-- the parser stands as it stood, where only its own block was written to since the beginning -/
theorem PSt.keep {w0 w1 w' : World} {b : Nat} {P : Ps} {tx : ByteArray} {ta : Option Addr} {tc i0 i : Nat} {Q0 Q1 Q2 Q3 Q4 Q5 R0 R1 R2 R3 R4 R5 : Value} (h0 : PSt w0 b P tx ta tc i0 Q0 Q1 Q2 Q3 Q4 Q5) (hm : Mvd b w0 w') (h1 : PSt w1 b P tx ta tc i R0 R1 R2 R3 R4 R5) (hb : w'.heap[b]? = w1.heap[b]?) : PSt w' b P tx ta tc i R0 R1 R2 R3 R4 R5 :=
  ⟨hb.trans h1.blk, fun j t hj => by
    obtain ⟨tb, g1, g2, g3, g4, g5⟩ := h0.toks j t hj
    have hne := h0.tok_ne g1 (by have := (List.getElem?_eq_some_iff.1 hj).1; omega)
    exact ⟨tb, g1, mvd_cell hm g2 hne, mvd_cell hm g3 hne, mvd_cell hm g4 hne, mvd_cell hm g5 hne⟩, h1.len, h1.pos⟩
theorem Mvd.newer {b r : Nat} {w w1 w2 : World} (h : Mvd b w w1) (h2 : Mvd r w1 w2) (hr : w.heap.size ≤ r) : Mvd b w w2 :=
  ⟨h2.os.trans h.os, h2.tape.trans h.tape, h2.output.trans h.output, Nat.le_trans h.size h2.size, fun k hk hne => (h2.block k (Nat.lt_of_lt_of_le hk h.size) (fun e => by injection e with e; omega)).trans (h.block k hk hne)⟩
theorem below_of_new {w1 w2 : World} {ob : Obj} (h : (w1.alloc ob).grownBy w2 (some w1.heap.size)) : Below w1.heap.size w1 w2 :=
  ⟨h.os, h.tape, h.output, Nat.le_trans (by rw [World.size_alloc]; omega) h.size, fun k hk => (h.block k (by rw [World.size_alloc]; omega) (fun e => by injection e with e; omega)).trans (heap_alloc_old _ _ hk)⟩
/-- what stands while a rule is read -/
structure RS (w0 w : World) (b : Nat) (P : Ps) (tx : ByteArray) (ta : Option Addr) (tc i : Nat) (R0 R1 R2 R3 R4 R5 : Value) (pr : ByteArray) (l : List (Bool × ByteArray)) (g5 : Nat) (av bv : Value) (L : List (PLit × Value)) : Prop where
  st : PSt w b P tx ta tc i R0 R1 R2 R3 R4 R5
  mv : Mvd b w0 w
  args : w.ownsRow w0.heap.size 76 2 av l.length (flatTT l)
  bod : Bod w w0.heap.size bv L
  res : w.heap[w0.heap.size]? = some (.cells #[.string ⟨#[]⟩, .slice none 0 0, .slice none 0 0] 54)
  loc : w.heap[g5]? = some (.cells #[.string pr, av, bv] 54)
  gt : w0.heap.size < g5
  sep : Sep av L
theorem RS.move {w0 w w' : World} {b : Nat} {P : Ps} {tx : ByteArray} {ta : Option Addr} {tc i i' : Nat} {R0 R1 R2 R3 R4 R5 : Value} {pr : ByteArray} {l : List (Bool × ByteArray)} {g5 : Nat} {av bv : Value} {L : List (PLit × Value)} (h : RS w0 w b P tx ta tc i R0 R1 R2 R3 R4 R5 pr l g5 av bv L) (hm : Mvd b w w') (hb : b < w0.heap.size) (hs : PSt w' b P tx ta tc i' R0 R1 R2 R3 R4 R5) : RS w0 w' b P tx ta tc i' R0 R1 R2 R3 R4 R5 pr l g5 av bv L :=
  ⟨hs, h.mv.trans hm, own_mvd h.args hm hb, h.bod.mvd hm hb, (hm.block _ (Array.getElem?_eq_some_iff.1 h.res).1 (fun e => by injection e with e; omega)).trans h.res, (hm.block _ (Array.getElem?_eq_some_iff.1 h.loc).1 (fun e => by injection e with e; have := h.gt; omega)).trans h.loc, h.gt, h.sep⟩
theorem RS.drawn {w0 w w' : World} {b : Nat} {P : Ps} {tx : ByteArray} {ta : Option Addr} {tc i : Nat} {R0 R1 R2 R3 R4 R5 : Value} {pr : ByteArray} {l : List (Bool × ByteArray)} {g5 : Nat} {av bv : Value} {L : List (PLit × Value)} (h : RS w0 w b P tx ta tc i R0 R1 R2 R3 R4 R5 pr l g5 av bv L) (hd : Drawn w w') (hb : b < w0.heap.size) : RS w0 w' b P tx ta tc i R0 R1 R2 R3 R4 R5 pr l g5 av bv L :=
  h.move (Mvd.of (hd.below _)) hb (h.st.drawn hd)
theorem RS.cells {w0 w : World} {b : Nat} {P : Ps} {tx : ByteArray} {ta : Option Addr} {tc i : Nat} {R0 R1 R2 R3 R4 R5 : Value} {pr : ByteArray} {l : List (Bool × ByteArray)} {g5 : Nat} {av bv : Value} {L : List (PLit × Value)} (h : RS w0 w b P tx ta tc i R0 R1 R2 R3 R4 R5 pr l g5 av bv L) : w.cell? ⟨g5, 0, none⟩ = some (.string pr) ∧ w.cell? ⟨g5, 1, none⟩ = some av ∧ w.cell? ⟨g5, 2, none⟩ = some bv ∧ w.frozen? ⟨g5, 2, none⟩ = false := by
  have := h.loc
  exact ⟨by simp [World.cell?, this], by simp [World.cell?, this], by simp [World.cell?, this], by simp [World.frozen?, this]⟩
theorem RS.begun {w w1 w2 : World} {b : Nat} {P : Ps} {tx : ByteArray} {ta : Option Addr} {tc i : Nat} {R0 R1 R2 R3 R4 R5 : Value} {pr : ByteArray} {l : List (Bool × ByteArray)} {av : Value} {ob : Obj} (hb : b < w.heap.size) (hm : Mvd b (w.alloc (.cells #[.string ⟨#[]⟩, .slice none 0 0, .slice none 0 0] 54)) w1) (hs : PSt w1 b P tx ta tc i R0 R1 R2 R3 R4 R5) (ho : w1.ownsRow (w.alloc (.cells #[.string ⟨#[]⟩, .slice none 0 0, .slice none 0 0] 54)).heap.size 76 2 av l.length (flatTT l))
    (hgr : (w1.alloc ob).grownBy w2 (some w1.heap.size)) (hr : w2.heap[w1.heap.size]? = some (.cells #[.string pr, av, .slice none 0 0] 54)) : RS w w2 b P tx ta tc i R0 R1 R2 R3 R4 R5 pr l w1.heap.size av (.slice none 0 0) [] := by
  have hB := below_of_new hgr
  have h1 := rule_res hb hm
  have hlt := (Array.getElem?_eq_some_iff.1 h1.1).1
  exact ⟨hs.below hB, h1.2.trans (Mvd.of hB), own_baseP (own_below ho hB) (by rw [World.size_alloc]; omega), Bod.nil _ _, (hB.block _ hlt).trans h1.1, hr, hlt, Sep.nil _⟩
theorem RS.done {w0 w w' : World} {b : Nat} {P : Ps} {tx : ByteArray} {ta : Option Addr} {tc i0 i : Nat} {Q0 Q1 Q2 Q3 Q4 Q5 R0 R1 R2 R3 R4 R5 : Value} {pr : ByteArray} {l : List (Bool × ByteArray)} {g5 : Nat} {av bv : Value} {L : List (PLit × Value)} (h0 : PSt w0 b P tx ta tc i0 Q0 Q1 Q2 Q3 Q4 Q5) (h : RS w0 w b P tx ta tc i R0 R1 R2 R3 R4 R5 pr l g5 av bv L) (hm : Mvd w0.heap.size w w') : PSt w' b P tx ta tc i R0 R1 R2 R3 R4 R5 ∧ Mvd b w0 w' ∧ RuleIn w' w0.heap.size av bv ⟨pr, l, L.map (·.1)⟩ := by
  have hmm := h.mv.newer hm (Nat.le_refl _)
  refine ⟨h0.keep hmm h.st (hm.block _ h.st.lt (fun e => by injection e with e; have := h0.lt; omega)), hmm, own_stays h.args hm fun k hk e => own_apart h.args h.res typesTR (by rw [hk]; exact e.symm), L, rfl, h.bod.rule hm h.res, h.sep⟩
theorem contains_two {a b k : Int} (ha : ¬ k = a) (hb : ¬ k = b) : List.contains [a, b] k = false := by
  rw [Bool.eq_false_iff]
  intro hc
  rw [List.contains_iff_mem] at hc
  rcases List.mem_cons.1 hc with e | hc
  · exact ha e
  · rcases List.mem_cons.1 hc with e | hc
    · exact hb e
    · cases hc
set_option maxHeartbeats 4000000 in
set_option maxRecDepth 100000 in
theorem pa_rule_bad (w : World) (b : Nat) (P : Ps) (tx : ByteArray) (ta : Option Addr) (tc i : Nat) (R0 R1 R2 R3 R4 R5 : Value) (h : PSt w b P tx ta tc i R0 R1 R2 R3 R4 R5) (pr : ByteArray) (x : Int) (hx : psArgs P i = .error x) :
    Calls Tryd.prog 57 #[.pointer (some ⟨b, 0, none⟩), .string pr] w (RulePost b P tx ta tc R0 R1 R2 R3 R4 R5 w (psRule P i pr)) := by
  have har := fun w h => pa_args_all w b P tx ta tc i R0 R1 R2 R3 R4 R5 h
  have hbl := h.lt
  rw [hx] at har
  have hP : Hid (psRule P i pr = .error x) := Lib.hid (by unfold psRule; rw [hx])
  clear hx
  have hW0 : Hid (PSt (w.alloc (.cells #[.string ⟨#[]⟩, .slice none 0 0, .slice none 0 0] 54)) b P tx ta tc i R0 R1 R2 R3 R4 R5) := Lib.hid (h.below ((Below.refl _ _).al _))
  have har' : Hid (∀ w, PSt w b P tx ta tc i R0 R1 R2 R3 R4 R5 → Calls Tryd.prog 73 #[.pointer (some ⟨b, 0, none⟩)] w fun e w' => e = .panicked [{ v := .iface 114 (.agg #[.int .i64 x]), recovered := false }] ∧ Mvd b w w') := Lib.hid har
  clear har h
  go_enter Tryd.func57, Tryd.ntmps57
  go_wp2_with (go_at_call 73; refine (har'.out _ hW0.out).mono ?_; rintro e w1 ⟨rfl, hm⟩; have hm1 := Lib.hid hm; clear hm)
  exact ⟨rfl, by rw [hP.out]; exact ⟨rfl, (rule_res hbl hm1.out).2⟩⟩
set_option maxHeartbeats 4000000 in
set_option maxRecDepth 100000 in
theorem pa_rule_dot (w : World) (b : Nat) (P : Ps) (tx : ByteArray) (ta : Option Addr) (tc i : Nat) (R0 R1 R2 R3 R4 R5 : Value) (h : PSt w b P tx ta tc i R0 R1 R2 R3 R4 R5) (pr : ByteArray) (l : List (Bool × ByteArray)) (j : Nat) (hx : psArgs P i = .ok (l, j)) (h11 : P.kind j = 11) :
    Calls Tryd.prog 57 #[.pointer (some ⟨b, 0, none⟩), .string pr] w (RulePost b P tx ta tc R0 R1 R2 R3 R4 R5 w (psRule P i pr)) := by
  have har := fun w h => pa_args_all w b P tx ta tc i R0 R1 R2 R3 R4 R5 h
  have hbl := h.lt
  have hlen := h.len
  rw [hx] at har
  have hk := fun w h => pa_kind w b P tx ta tc j R0 R1 R2 R3 R4 R5 h
  have hjl : j < P.ts.length := by
    rcases Nat.lt_or_ge j P.ts.length with h' | h'
    · exact h'
    · rw [Ps.kind_end h'] at h11; cases h11
  have htk := fun w h wa hw => pa_take_ok w b P tx ta tc j R0 R1 R2 R3 R4 R5 h wa [11] 1 hw (by decide) (by rw [h11]; try rfl) hjl
  have hP : Hid (psRule P i pr = .ok (⟨pr, l, []⟩, j + 1)) := Lib.hid (by
    unfold psRule; rw [hx]; dsimp only; rw [if_neg (by omega)]; unfold Ps.take; rw [h11]; try rfl)
  rw [h11] at hk htk
  generalize mk (P.tok j).text = tt at htk
  generalize ((P.tok j).at_ : Int) = ta1 at htk
  generalize ((P.tok j).end_ : Int) = te1 at htk
  clear h11
  clear hx
  have hW0 : Hid (PSt (w.alloc (.cells #[.string ⟨#[]⟩, .slice none 0 0, .slice none 0 0] 54)) b P tx ta tc i R0 R1 R2 R3 R4 R5) := Lib.hid (h.below ((Below.refl _ _).al _))
  replace h := Lib.hid h
  have har' : Hid (∀ w, PSt w b P tx ta tc i R0 R1 R2 R3 R4 R5 → Calls Tryd.prog 73 #[.pointer (some ⟨b, 0, none⟩)] w fun e w' => ∃ lv, e = .returned lv ∧ PSt w' b P tx ta tc j R0 R1 R2 R3 R4 R5 ∧ Mvd b w w' ∧ w'.ownsRow w.heap.size 76 2 lv l.length (flatTT l)) := Lib.hid har
  clear har
  go_enter Tryd.func57, Tryd.ntmps57
  go_wp2_with (first
    | (have hg := hs1.out
       clear hg
       refine wpList_store_rowA rfl 54 (.tmp 5) (.tmp 11) rfl w1.heap.size #[.string pr, .slice va l.length vc, .slice none 0 0] rfl rfl 54 #[.string ⟨#[]⟩, .slice none 0 0, .slice none 0 0] hr5.out sizeRule rfl (by simp [Value.oneCell']) ?_)
    | (go_at_call 73
       refine (har'.out _ hW0.out).mono ?_
       rintro e w1 ⟨lv, rfl, hs10, hm10, hown10⟩
       obtain ⟨va, vc, rfl, hva⟩ := own_slice hown10
       have hr5 := Lib.hid (heap_alloc_new w1 (.cells #[.string ⟨#[]⟩, .slice none 0 0, .slice none 0 0] 54))
       have hm1 := Lib.hid hm10
       have hs1 := Lib.hid hs10
       have hown1 := Lib.hid hown10
       clear hs10 hm10 hown10))
  intro w2 hg2 hgr2 hsz2
  have hrs := Lib.hid (RS.begun hbl hm1.out hs1.out hown1.out hgr2 hg2.out)
  clear hs1 hm1 hown1 hr5 hg2 hgr2 hsz2 hva
  generalize w1.heap.size = g5 at hrs ⊢
  go_wp2_with (first
    | (have hg := hrr.out
       clear hg
       refine wpList_store_rowA rfl 54 (.tmp 4) (.tmp 55) rfl w.heap.size #[.string pr, .slice va l.length vc, .slice none 0 0] rfl rfl 54 #[.string ⟨#[]⟩, .slice none 0 0, .slice none 0 0] hrr.out sizeRule rfl (by simp [Value.oneCell']) ?_)
    | (go_at_call 55
       refine (htk _ (hr5.out.st.below ((Below.refl _ _).al _)) _ (kinds_lit _ _ [11] _ rfl (by decide) rfl)).mono ?_
       rintro e w6 ⟨rfl, hs40, hm40⟩
       have hr40 := hr5.out.move ((Mvd.of ((Below.refl _ _).al _)).trans hm40) hbl hs40
       obtain ⟨e0, e1, e2, ez⟩ := hr40.cells
       have hr4 := Lib.hid hr40
       have hrr := Lib.hid hr40.res
       clear hs40 hm40 hr40)
    | (go_at_call 72
       have hg := hr3.out
       clear hg
       refine (hk _ hr3.out.st).mono ?_
       rintro e w4 ⟨rfl, hd⟩
       have hr5 := Lib.hid (hr3.out.drawn hd hbl)
       clear hd hr3)
    | (go_at_call 72
       refine (hk _ hrs.out.st).mono ?_
       rintro e w3 ⟨rfl, hd⟩
       have hr3 := Lib.hid (hrs.out.drawn hd hbl)
       clear hd))
  intro w7 hg7 hgr7 hsz7
  have hfin := Lib.hid (RS.done h.out hr4.out hgr7)
  clear hgr7 hsz7
  go_wp2_with fail
  refine bodyPost_ret (v := .agg #[.string pr, .slice va l.length vc, .slice none 0 0]) (results_cell_row rfl _ _ w.heap.size 54 _ (0, 0) _ rfl hg7.out Tryd.underlying54 rfl sizeRule) rfl ?_
  rw [hP.out]
  exact ⟨_, _, rfl, hfin.out.1, hfin.out.2.1, hfin.out.2.2⟩
set_option maxHeartbeats 4000000 in
set_option maxRecDepth 100000 in
theorem pa_rule_stop (w : World) (b : Nat) (P : Ps) (tx : ByteArray) (ta : Option Addr) (tc i : Nat) (R0 R1 R2 R3 R4 R5 : Value) (h : PSt w b P tx ta tc i R0 R1 R2 R3 R4 R5) (pr : ByteArray) (l : List (Bool × ByteArray)) (j : Nat) (hx : psArgs P i = .ok (l, j)) (h11 : ¬ P.kind j = 11) (h13 : ¬ P.kind j = 13) :
    Calls Tryd.prog 57 #[.pointer (some ⟨b, 0, none⟩), .string pr] w (RulePost b P tx ta tc R0 R1 R2 R3 R4 R5 w (psRule P i pr)) := by
  have har := fun w h => pa_args_all w b P tx ta tc i R0 R1 R2 R3 R4 R5 h
  have hbl := h.lt
  have hlen := h.len
  rw [hx] at har
  have hk := fun w h => pa_kind w b P tx ta tc j R0 R1 R2 R3 R4 R5 h
  have hst := fun w h wa hw => pa_stop w b P tx ta tc j R0 R1 R2 R3 R4 R5 h wa [11, 13] 2 hw (by decide)
  have h11' : (P.kind j == 11) = false := by rw [beq_eq_false_iff_ne]; exact h11
  have h13' : (P.kind j == 13) = false := by rw [beq_eq_false_iff_ne]; exact h13
  have hP : Hid (psRule P i pr = .error (P.stop j [11, 13])) := Lib.hid (by
    unfold psRule; rw [hx]; dsimp only; rw [if_neg h13]; unfold Ps.take; rw [show List.contains [11, 13] (P.kind j) = false from contains_two h11 h13]; try rfl)
  generalize P.stop j [11, 13] = y at hst hP
  unfold thrown at hst
  clear h11 h13
  generalize P.kind j = kj at hk h11' h13'
  clear hx
  have hW0 : Hid (PSt (w.alloc (.cells #[.string ⟨#[]⟩, .slice none 0 0, .slice none 0 0] 54)) b P tx ta tc i R0 R1 R2 R3 R4 R5) := Lib.hid (h.below ((Below.refl _ _).al _))
  replace h := Lib.hid h
  have har' : Hid (∀ w, PSt w b P tx ta tc i R0 R1 R2 R3 R4 R5 → Calls Tryd.prog 73 #[.pointer (some ⟨b, 0, none⟩)] w fun e w' => ∃ lv, e = .returned lv ∧ PSt w' b P tx ta tc j R0 R1 R2 R3 R4 R5 ∧ Mvd b w w' ∧ w'.ownsRow w.heap.size 76 2 lv l.length (flatTT l)) := Lib.hid har
  clear har
  go_enter Tryd.func57, Tryd.ntmps57
  go_wp2_with (first
    | (have hg := hs1.out
       clear hg
       refine wpList_store_rowA rfl 54 (.tmp 5) (.tmp 11) rfl w1.heap.size #[.string pr, .slice va l.length vc, .slice none 0 0] rfl rfl 54 #[.string ⟨#[]⟩, .slice none 0 0, .slice none 0 0] hr5.out sizeRule rfl (by simp [Value.oneCell']) ?_)
    | (go_at_call 73
       refine (har'.out _ hW0.out).mono ?_
       rintro e w1 ⟨lv, rfl, hs10, hm10, hown10⟩
       obtain ⟨va, vc, rfl, hva⟩ := own_slice hown10
       have hr5 := Lib.hid (heap_alloc_new w1 (.cells #[.string ⟨#[]⟩, .slice none 0 0, .slice none 0 0] 54))
       have hm1 := Lib.hid hm10
       have hs1 := Lib.hid hs10
       have hown1 := Lib.hid hown10
       clear hs10 hm10 hown10))
  intro w2 hg2 hgr2 hsz2
  have hrs := Lib.hid (RS.begun hbl hm1.out hs1.out hown1.out hgr2 hg2.out)
  clear hs1 hm1 hown1 hr5 hg2 hgr2 hsz2 hva
  generalize w1.heap.size = g5 at hrs ⊢
  go_wp2_with (first
    | (go_at_call 34
       refine (hst _ (hr5.out.st.below ((Below.refl _ _).al _)) _ (kinds_lit _ _ [11, 13] _ rfl (by decide) rfl)).mono ?_
       rintro e w6 ⟨rfl, hb6⟩
       have hm6 := Lib.hid (hr5.out.mv.trans ((Mvd.of ((Below.refl _ _).al _)).trans (Mvd.of hb6)))
       clear hb6)
    | (go_at_call 72
       have hg := hr3.out
       clear hg
       refine (hk _ hr3.out.st).mono ?_
       rintro e w4 ⟨rfl, hd⟩
       have hr5 := Lib.hid (hr3.out.drawn hd hbl)
       clear hd hr3)
    | (go_at_call 72
       refine (hk _ hrs.out.st).mono ?_
       rintro e w3 ⟨rfl, hd⟩
       have hr3 := Lib.hid (hrs.out.drawn hd hbl)
       clear hd))
  exact ⟨rfl, by rw [hP.out]; exact ⟨rfl, hm6.out⟩⟩
end Go.Proofs.YtclioihichcpiaaDoor


/- A region that draws its order, whose last operation writes what an earlier one reads: the condition S is shown only while the takers of T may still be waiting. -/
namespace Go.Proofs.YtclioihichcpiaaDoor
open Go
section
variable {P : Program} {ops : Array Oper} {Q : Exit → Act → World → Prop} {md : Region.Mode} {S : World → Prop} {T : List Nat}
/-- does operation j wait for all of T by its own arrows? -/
def waitsT (md : Region.Mode) (ops : Array Oper) (T : List Nat) (j : Nat) : Bool :=
  match ops[j]? with
  | some o => T.all fun t => o.after.any fun e => Region.binds md e && e.on == t
  | none => true
def wpAnyT (P : Program) (md : Region.Mode) (ops : Array Oper) (Q : Exit → Act → World → Prop) (S : World → Prop) (T : List Nat) : Nat → Array Bool → Act → World → Prop
  | 0, listed, a, w => Region.ready md ops listed = [] ∧ Q .normal a w
  | fuel + 1, listed, a, w =>
    (Region.ready md ops listed = [] → Q .normal a w) ∧
    ∀ i ∈ Region.ready md ops listed, wpOp P ops Q i (fun a' w' => (waitsT md ops T i = false → S w') ∧ wpAnyT P md ops Q S T fuel (listed.setIfInBounds i true) a' w') a w
theorem wpAny_of_T : ∀ (fuel : Nat) (listed : Array Bool) (a : Act) (w : World), wpAnyT P md ops Q S T fuel listed a w → wpAny P md ops Q fuel listed a w
  | 0, _, _, _, h => h
  | fuel + 1, _, _, _, h => ⟨h.1, fun i hi => wpOp_mono (fun a' w' h' => wpAny_of_T fuel _ a' w' h'.2) (h.2 i hi)⟩
theorem waitsT_no {i j : Nat} {oj : Oper} (hiT : i ∈ T) (hoj : ops[j]? = some oj) (hnot : ∀ e ∈ oj.after, Region.binds md e = true → e.on ≠ i) : waitsT md ops T j = false := by
  unfold waitsT
  rw [hoj]
  rw [Bool.eq_false_iff]
  intro h
  have h1 := List.all_eq_true.1 h i hiT
  rw [Array.any_eq_true] at h1
  obtain ⟨k, hk, h2⟩ := h1
  rw [Bool.and_eq_true] at h2
  exact hnot _ (Array.getElem_mem hk) h2.1 (by simpa using h2.2)
theorem wpAnyT_first {i : Nat} {oi : Oper} {v : Value} (hi : ops[i]? = some oi) (hiT : i ∈ T) (hsel : ∀ (j : Nat) (o : Oper) cs b, ops[j]? = some o → o.op ≠ .select cs b)
    (hQ : ∀ c a w, Q (.panic c) (a.put oi.dst v) w → Q (.panic c) a w) :
    ∀ (fuel : Nat) (listed : Array Bool) (a : Act) (w : World),
      (∀ j oj, ops[j]? = some oj → j ≠ i → listed.getD j true = false → (∀ e ∈ oj.after, Region.binds md e = true → e.on ≠ i) → oi.apart ops oj = true) →
      i ∈ Region.ready md ops listed → YieldsIf P ops S oi v a → S w →
      wpAnyT P md ops Q S T fuel (listed.setIfInBounds i true) (a.put oi.dst v) w → wpAnyT P md ops Q S T (fuel + 1) listed a w := by
  intro fuel
  induction fuel with
  | zero =>
    intro listed a w _ hr hy hS H
    refine ⟨fun h => (by rw [h] at hr; cases hr), fun j hj => ?_⟩
    by_cases hji : j = i
    · subst hji; exact hy.wpOp hi hS ⟨fun _ => hS, H⟩
    · have := ready_mono hj hji
      rw [H.1] at this
      cases this
  | succ fuel ih =>
    intro listed a w hfree hr hy hS H
    refine ⟨fun h => (by rw [h] at hr; cases hr), fun j hj => ?_⟩
    by_cases hji : j = i
    · subst hji; exact hy.wpOp hi hS ⟨fun _ => hS, H⟩
    · have h1 := H.2 j (ready_mono hj hji)
      obtain ⟨hjun, oj, hoj, hall⟩ := mem_ready.1 hj
      have hnot : ∀ e ∈ oj.after, Region.binds md e = true → e.on ≠ i := fun e he hb heq => by
        have h1 := hall e he hb
        have h0 := (mem_ready.1 hr).1
        rw [heq] at h1
        rcases Nat.lt_or_ge i listed.size with h' | h'
        · simp [h'] at h0 h1; rw [h0] at h1; cases h1
        · simp [Array.getElem?_eq_none h'] at h1
      have hw := waitsT_no hiT hoj hnot
      have h2 := wpOp_putIf hoj (hfree j oj hoj hji hjun hnot) (fun cs b => hsel i oi cs b hi) (fun cs b => hsel j oj cs b hoj) hQ hy h1
      have hfree' : ∀ k ok, ops[k]? = some ok → k ≠ i → (listed.setIfInBounds j true).getD k true = false →
          (∀ e ∈ ok.after, Region.binds md e = true → e.on ≠ i) → oi.apart ops ok = true := fun k ok hk hki hun hno => by
        refine hfree k ok hk hki ?_ hno
        by_cases hjk : j = k
        · subst hjk; exact hjun
        · rw [getD_set_ne true hjk] at hun; exact hun
      refine wpOp_mono (fun a' w' h3 => ⟨h3.2.1, ih (listed.setIfInBounds j true) a' w' hfree' (ready_mono hr (Ne.symm hji)) h3.1 (h3.2.1 hw) ?_⟩) h2
      rw [Array.setIfInBounds_comm _ _ hji]
      exact h3.2.2
theorem wpAnyT_take {i : Nat} {oi : Oper} {v : Value} {fuel : Nat} {listed : Array Bool} {a : Act} {w : World} (hi : ops[i]? = some oi) (hT : T.contains i = true)
    (hs : Region.noSelect ops = true) (hf : Region.free md ops listed i = true) (hr : (Region.ready md ops listed).contains i = true)
    (hQ : ∀ c a w, Q (.panic c) (a.put oi.dst v) w → Q (.panic c) a w) (hy : YieldsIf P ops S oi v a) (hS : S w)
    (h : wpAnyT P md ops Q S T fuel (listed.setIfInBounds i true) (a.put oi.dst v) w) : wpAnyT P md ops Q S T (fuel + 1) listed a w :=
  wpAnyT_first hi (by simpa using hT) (Region.noSelect_spec hs) hQ fuel listed a w (Region.free_spec hi hf) (by simpa using hr) hy hS h
/-- one operation alone may come up; others may still be waiting for it: S anew -/
theorem wpAnyT_one {i : Nat} {o : Oper} {fuel : Nat} {listed : Array Bool} {a : Act} {w : World} (hr : Region.ready md ops listed = [i]) (ho : ops[i]? = some o)
    (h : ∀ K' : Act → World → Prop, Shut (∀ a w, S w → wpAnyT P md ops Q S T fuel (listed.setIfInBounds i true) a w → K' a w) → if Region.wanted o (yielded ops a.tmps) = true then Oper.wp P o a w K' Q else K' (a.put o.dst undef) w) :
    wpAnyT P md ops Q S T (fuel + 1) listed a w :=
  ⟨fun h0 => (by rw [hr] at h0; cases h0), fun j hj => by
    rw [hr] at hj
    rw [List.mem_singleton.1 hj]
    exact wpOp_step ho fun K' hK => h K' fun a w hS hW => hK a w ⟨fun _ => hS, hW⟩⟩
/-- .. and it waits for all of T itself: S is asked no more -/
theorem wpAnyT_free {i : Nat} {o : Oper} {fuel : Nat} {listed : Array Bool} {a : Act} {w : World} (hr : Region.ready md ops listed = [i]) (ho : ops[i]? = some o) (hw : waitsT md ops T i = true)
    (h : ∀ K' : Act → World → Prop, Shut (∀ a w, wpAnyT P md ops Q S T fuel (listed.setIfInBounds i true) a w → K' a w) → if Region.wanted o (yielded ops a.tmps) = true then Oper.wp P o a w K' Q else K' (a.put o.dst undef) w) :
    wpAnyT P md ops Q S T (fuel + 1) listed a w :=
  ⟨fun h0 => (by rw [hr] at h0; cases h0), fun j hj => by
    rw [hr] at hj
    rw [List.mem_singleton.1 hj]
    exact wpOp_step ho fun K' hK => h K' fun a w hW => hK a w ⟨fun h0 => (by rw [hw] at h0; cases h0), hW⟩⟩
theorem wpAnyT_done {listed : Array Bool} {a : Act} {w : World} (hr : Region.ready md ops listed = []) (h : Q .normal a w) : ∀ fuel, wpAnyT P md ops Q S T fuel listed a w
  | 0 => ⟨hr, h⟩
  | _ + 1 => ⟨fun _ => h, by rw [hr]; simp⟩
theorem wp_region_T (S : World → Prop) (T : List Nat) {id : Nat} {a : Act} {w : World} (hm : P.follows .mixedOrders = true) (hS : S w.drew)
    (h : S w.drew → wpAnyT P .any ops Q S T ops.size (Array.replicate ops.size false) a w.drew) : (Code.region id ops true).wp P Q a w :=
  wp_region_any hm (wpAny_of_T _ _ _ _ (h hS))
end
end Go.Proofs.YtclioihichcpiaaDoor


/- Parse: a rule with a body. (gen_pao.py) -/
namespace Go.Proofs.YtclioihichcpiaaDoor
open Go.RowKit Lx
theorem infoLit : (Tryd.prog.info? 79).map (fun i => (i.zero, i.size, i.bytes)) = some (some (.agg #[.int .i64 0, .string ⟨#[]⟩, .slice none 0 0, .bool false, .string ⟨#[]⟩, .bool false, .string ⟨#[]⟩]), 7, 96) := by kernel_rfl
theorem RS.grown {w0 w3 w4 : World} {b : Nat} {P : Ps} {tx : ByteArray} {ta : Option Addr} {tc i : Nat} {R0 R1 R2 R3 R4 R5 : Value} {pr : ByteArray} {l : List (Bool × ByteArray)} {g5 : Nat} {av bv : Value} {L : List (PLit × Value)} {ob : Obj} (h : RS w0 w3 b P tx ta tc i R0 R1 R2 R3 R4 R5 pr l g5 av bv L) (hg : (w3.alloc ob).grownBy w4 bv.ownBlock) : w4.heap[g5]? = some (.cells #[.string pr, av, bv] 54) ∧ w4.heap[w0.heap.size]? = some (.cells #[.string ⟨#[]⟩, .slice none 0 0, .slice none 0 0] 54) ∧ w4.heap[b]? = w3.heap[b]? ∧ Mvd b w0 w4 := by
  have hlo : ∀ k, k < w3.heap.size → bv.ownBlock ≠ some k → w4.heap[k]? = w3.heap[k]? := fun k hk hne =>
    (hg.block k (by rw [World.size_alloc]; omega) (fun e => hne e.symm)).trans (heap_alloc_old _ _ hk)
  have hge := own_ge h.bod.own
  have hs := h.mv.size
  refine ⟨(hlo _ (Array.getElem?_eq_some_iff.1 h.loc).1 (own_apart h.bod.own h.loc typesLR)).trans h.loc, (hlo _ (Array.getElem?_eq_some_iff.1 h.res).1 (own_apart h.bod.own h.res typesLR)).trans h.res, hlo _ h.st.lt (own_apart h.bod.own h.st.blk (by decide)), ?_⟩
  exact h.mv.low hg (fun k hk => hlo k (by omega) (fun e => by have := hge k e; omega))
theorem RS.push {w0 w3 w4 : World} {b : Nat} {P : Ps} {tx : ByteArray} {ta : Option Addr} {tc i i0 : Nat} {Q0 Q1 Q2 Q3 Q4 Q5 R0 R1 R2 R3 R4 R5 : Value} {pr : ByteArray} {l : List (Bool × ByteArray)} {g5 : Nat} {av bv v' : Value} {L : List (PLit × Value)} {x : PLit} {lv : Value} {ob : Obj} (h0 : PSt w0 b P tx ta tc i0 Q0 Q1 Q2 Q3 Q4 Q5) (h : RS w0 w3 b P tx ta tc i R0 R1 R2 R3 R4 R5 pr l g5 av bv L) {w2 : World} {i2 : Nat} (hw2 : RS w0 w2 b P tx ta tc i2 R0 R1 R2 R3 R4 R5 pr l g5 av bv L) (hnew : ∀ k, lv.ownBlock = some k → w2.heap.size ≤ k) (hlv : w3.ownsRow w0.heap.size 76 2 lv x.a.length (flatTT x.a)) (hg : (w3.alloc ob).grownBy w4 bv.ownBlock)
    (ho : w4.ownsRow w0.heap.size 79 7 v' (L.length + 1) (flatLV L ++ litC (x, lv))) : RS w0 (w4.setCell ⟨g5, 2, none⟩ v') b P tx ta tc i R0 R1 R2 R3 R4 R5 pr l g5 av v' (L ++ [(x, lv)]) := by
  obtain ⟨k1, k2, k3, k4⟩ := h.grown hg
  have hm5 : Mvd g5 w4 (w4.setCell ⟨g5, 2, none⟩ v') := (Mvd.refl _ _).set _ _
  have hgt := h.gt
  have hb0 := h0.lt
  have hmv := k4.newer hm5 (by omega)
  have hlt4 : w0.heap.size < w4.heap.size := (Array.getElem?_eq_some_iff.1 k2).1
  have hbb : (w4.setCell ⟨g5, 2, none⟩ v').heap[b]? = w3.heap[b]? := (hm5.block b (by omega) (fun e => by injection e with e; omega)).trans k3
  refine ⟨h0.keep hmv h.st hbb, hmv, ?_, (h.bod.push hlv hg ho).rule hm5 k1, (hm5.block _ hlt4 (fun e => by injection e with e; omega)).trans k2, ?_, hgt, hw2.sep.push (fun k hk => (hw2.args.lt k hk).2) (fun y hy k hk => ((hw2.bod.inner y hy).lt k hk).2) hnew⟩
  · have ha4 : w4.ownsRow w0.heap.size 76 2 av l.length (flatTT l) := own_stays (h.args.alloc ob) hg fun k hk e => own_apart2 h.args h.bod.own typesTL k hk e
    exact own_stays ha4 hm5 fun k hk e => own_apart ha4 k1 typesTR (by rw [hk]; exact e.symm)
  · exact Go.heap_setCell_same _ _ _ _ _ _ k1
def psMore (pr : ByteArray) (l : List (Bool × ByteArray)) (R : Except Int (List PLit × Nat)) : Except Int (PRule × Nat) :=
  match R with
  | .error e => .error e
  | .ok (m, k) => .ok (⟨pr, l, m⟩, k)
def BodyJ (P : Ps) (b : Nat) (tx : ByteArray) (ta : Option Addr) (tc : Nat) (R0 R1 R2 R3 R4 R5 : Value) (pr : ByteArray) (l : List (Bool × ByteArray)) (g5 : Nat) (av : Value) (w0 : World) (R : Except Int (List PLit × Nat)) (n : Nat) (a : Act) (w : World) : Prop :=
  ∃ (s2 s3 s7 s8 s9 s10 s11 s12 s13 s14 s15 s16 s17 s18 s19 s20 s21 s22 s23 s24 s25 s26 s27 s28 s29 s30 s31 s32 s33 s34 s35 s36 s37 s38 s39 s40 s41 s42 s43 s44 s45 s46 s47 s48 s49 s50 s51 s52 s53 s54 s55 bv : Value) (i : Nat) (L : List (PLit × Value)), a = { tmps := #[.pointer (some ⟨b, 0, none⟩), .string pr, s2, s3, .pointer (some ⟨w0.heap.size, 0, none⟩), .pointer (some ⟨g5, 0, none⟩), .int .i64 11, s7, s8, s9, s10, s11, s12, s13, s14, s15, s16, s17, s18, s19, s20, s21, s22, s23, s24, s25, s26, s27, s28, s29, s30, s31, s32, s33, s34, s35, s36, s37, s38, s39, s40, s41, s42, s43, s44, s45, s46, s47, s48, s49, s50, s51, s52, s53, s54, s55], defers := [] } ∧ 0 < n ∧ L.length + n = 256 ∧ psBodyN P n i (L.map (·.1)) = R ∧ RS w0 w b P tx ta tc i R0 R1 R2 R3 R4 R5 pr l g5 av bv L
set_option maxHeartbeats 4000000 in
set_option maxRecDepth 100000 in
theorem pa_rule_more (w : World) (b : Nat) (P : Ps) (tx : ByteArray) (ta : Option Addr) (tc i : Nat) (R0 R1 R2 R3 R4 R5 : Value) (h : PSt w b P tx ta tc i R0 R1 R2 R3 R4 R5) (pr : ByteArray) (l : List (Bool × ByteArray)) (j : Nat) (hx : psArgs P i = .ok (l, j)) (h13 : P.kind j = 13) :
    Calls Tryd.prog 57 #[.pointer (some ⟨b, 0, none⟩), .string pr] w (RulePost b P tx ta tc R0 R1 R2 R3 R4 R5 w (psRule P i pr)) := by
  obtain ⟨it, hit, ht0, ht1, ht2⟩ := info_parts infoLit
  have har := fun w h => pa_args_all w b P tx ta tc i R0 R1 R2 R3 R4 R5 h
  have hbl := h.lt
  have hlen := h.len
  rw [hx] at har
  have hk := fun w h => pa_kind w b P tx ta tc j R0 R1 R2 R3 R4 R5 h
  rw [h13] at hk
  have hjl : j < P.ts.length := by
    rcases Nat.lt_or_ge j P.ts.length with h' | h'
    · exact h'
    · rw [Ps.kind_end h'] at h13; cases h13
  obtain ⟨R, hR⟩ : ∃ R, R = psBodyN P 256 (j + 1) [] := ⟨_, rfl⟩
  have hP : Hid (psRule P i pr = psMore pr l R) := Lib.hid (by
    unfold psRule; rw [hx]; dsimp only; rw [if_pos h13, ← hR]; try rfl)
  replace hR := Lib.hid hR
  clear hx
  have hW0 : Hid (PSt (w.alloc (.cells #[.string ⟨#[]⟩, .slice none 0 0, .slice none 0 0] 54)) b P tx ta tc i R0 R1 R2 R3 R4 R5) := Lib.hid (h.below ((Below.refl _ _).al _))
  replace h := Lib.hid h
  have har' : Hid (∀ w, PSt w b P tx ta tc i R0 R1 R2 R3 R4 R5 → Calls Tryd.prog 73 #[.pointer (some ⟨b, 0, none⟩)] w fun e w' => ∃ lv, e = .returned lv ∧ PSt w' b P tx ta tc j R0 R1 R2 R3 R4 R5 ∧ Mvd b w w' ∧ w'.ownsRow w.heap.size 76 2 lv l.length (flatTT l)) := Lib.hid har
  clear har
  go_enter Tryd.func57, Tryd.ntmps57
  go_wp2_with (first
    | (have hg := hs1.out
       clear hg
       refine wpList_store_rowA rfl 54 (.tmp 5) (.tmp 11) rfl w1.heap.size #[.string pr, .slice va l.length vc, .slice none 0 0] rfl rfl 54 #[.string ⟨#[]⟩, .slice none 0 0, .slice none 0 0] hr5.out sizeRule rfl (by simp [Value.oneCell']) ?_)
    | (go_at_call 73
       refine (har'.out _ hW0.out).mono ?_
       rintro e w1 ⟨lv, rfl, hs10, hm10, hown10⟩
       obtain ⟨va, vc, rfl, hva⟩ := own_slice hown10
       have hr5 := Lib.hid (heap_alloc_new w1 (.cells #[.string ⟨#[]⟩, .slice none 0 0, .slice none 0 0] 54))
       have hm1 := Lib.hid hm10
       have hs1 := Lib.hid hs10
       have hown1 := Lib.hid hown10
       clear hs10 hm10 hown10))
  intro w2 hg2 hgr2 hsz2
  have hrs := Lib.hid (RS.begun hbl hm1.out hs1.out hown1.out hgr2 hg2.out)
  clear hs1 hm1 hown1 hr5 hg2 hgr2 hsz2 hva
  generalize w1.heap.size = g5 at hrs ⊢
  go_wp2_with (go_at_call 72; refine (hk _ hrs.out.st).mono ?_; rintro e w3 ⟨rfl, hd⟩; have hr3 := Lib.hid (hrs.out.drawn hd hbl); obtain ⟨c1, c2, c4, c6, c7, cf⟩ := hr3.out.st.cells; clear hd)
  refine wp_scope_again 0 (BodyJ P b tx ta tc R0 R1 R2 R3 R4 R5 pr l g5 (.slice va l.length vc) w R) rfl ?first ?pass
  case first =>
    intro hpass
    replace hpass := Lib.hid hpass
    go_wp2_with fail
    have hw4 := hr3.out.st.step hjl
    rw [show ((j + 1 : Nat) : Int) = (j : Int) + 1 from by omega] at hw4
    generalize w3.setCell ⟨b, 7, none⟩ (.int .i64 ((j : Int) + 1)) = w4 at hw4 ⊢
    go_step3
    refine ‹∀ (a : Act) (w : World), Code.wp _ _ _ a w → _› _ _ (hpass.out 256 _ _ ?_)
    exact ⟨_, _, _, _, _, _, _, _, _, _, _, _, _, _, _, _, _, _, _, _, _, _, _, _, _, _, _, _, _, _, _, _, _, _, _, _, _, _, _, _, _, _, _, _, _, _, _, _, _, _, _, _, j + 1, [], rfl, by decide, rfl, hR.out.symm, hr3.out.move hw4.2 hbl hw4.1⟩
  case pass =>
    clear hk h13 hjl hR hrs hW0 har' hr3 c1 c2 c4 c6 c7 cf
    rintro n a' w2 ⟨s2, s3, s7, s8, s9, s10, s11, s12, s13, s14, s15, s16, s17, s18, s19, s20, s21, s22, s23, s24, s25, s26, s27, s28, s29, s30, s31, s32, s33, s34, s35, s36, s37, s38, s39, s40, s41, s42, s43, s44, s45, s46, s47, s48, s49, s50, s51, s52, s53, s54, s55, bv, i2, L, rfl, hn, hln, hR, hrs⟩
    obtain ⟨n, rfl⟩ : ∃ m, n = m + 1 := ⟨n - 1, by omega⟩
    obtain ⟨e0, e1, e2, ez⟩ := hrs.cells
    unfold psBodyN at hR
    have hli := fun w h => pa_lit w b P tx ta tc i2 R0 R1 R2 R3 R4 R5 h
    obtain ⟨va2, vc2, rfl, hva⟩ := own_slice hrs.bod.own
    clear hva
    have hkeep : Hid (∀ w', Mvd b w2 w' → w'.cell? ⟨g5, 2, none⟩ = some (.slice va2 L.length vc2)) := Lib.hid fun w' hm => mvd_cell hm e2 (by have := hrs.gt; omega)
    have h63 : Hid (L.length + 1 ≤ maxLen) := Lib.hid (by unfold maxLen; omega)
    have h64 : Hid ((L.length + 1) * 96 ≤ 140737488355328) := Lib.hid (by omega)
    replace hrs := Lib.hid hrs
    cases hx : psLit P i2 with
    | error x =>
      rw [hx] at hR hli
      dsimp only at hR
      have hP2 : Hid (psRule P i pr = .error x) := Lib.hid (by rw [hP.out, ← hR]; try rfl)
      have hli' : Hid (∀ w, PSt w b P tx ta tc i2 R0 R1 R2 R3 R4 R5 → Calls Tryd.prog 74 #[.pointer (some ⟨b, 0, none⟩)] w fun e w' => e = .panicked [{ v := .iface 114 (.agg #[.int .i64 x]), recovered := false }] ∧ Mvd b w w') := Lib.hid hli
      clear hR hx hli
      refine wp_seq ?_
      refine wp_region_held_drew (S := fun w' => w'.cell? ⟨g5, 2, none⟩ = some (.slice va2 L.length vc2)) (by kernel_rfl) ?_ (fun hHeld => ?_)
      · exact hkeep.out _ (Mvd.of (Below.refl _ _).drew)
      · refine wpAnyH_take (i := 0) (oi := _) (v := ?_) rfl (by kernel_rfl) (by kernel_rfl) (by kernel_rfl) (fun _ _ _ h => h) (Or.inl ⟨by rfl, ?_⟩) (by assumption) ?_
        rotate_left
        · intro w hSw
          try dsimp only at hSw
          go_simp
          try with_reducible rfl
        refine wpAnyH_take (i := 1) (oi := _) (v := ?_) rfl (by kernel_rfl) (by kernel_rfl) (by kernel_rfl) (fun _ _ _ h => h) (Or.inl ⟨by rfl, ?_⟩) (by assumption) ?_
        rotate_left
        · intro w hSw
          try dsimp only at hSw
          go_simp
          try with_reducible rfl
        refine wpAnyH_take (i := 2) (oi := _) (v := ?_) rfl (by kernel_rfl) (by kernel_rfl) (by kernel_rfl) (fun _ _ _ h => h) (Or.inl ⟨by rfl, ?_⟩) (by assumption) ?_
        rotate_left
        · intro w hSw
          try dsimp only at hSw
          go_simp
          try with_reducible rfl
        refine wpAnyH_ready (rs := [3]) (by kernel_rfl) (by simp) ?_
        refine AllReadyH.cons rfl (fun K hK => ?_) AllReadyH.nil
        go_simp
        go_wp2_with (go_at_call 74; refine (hli'.out _ (hrs.out.st.below (Below.refl _ _).drew)).mono ?_; rintro e w3 ⟨rfl, hm3⟩; have hmv := Lib.hid ((hrs.out.mv.trans (Mvd.of (Below.refl _ _).drew)).trans hm3); exact ⟨rfl, by rw [hP2.out]; exact ⟨rfl, hmv.out⟩⟩)
    | ok r =>
      obtain ⟨⟨xk, xp, xa, ⟨xlv, xlt⟩, ⟨xrv, xrt⟩⟩, jj⟩ := r
      rw [hx] at hR hli
      dsimp only at hR
      have hli' : Hid (∀ w, PSt w b P tx ta tc i2 R0 R1 R2 R3 R4 R5 → Calls Tryd.prog 74 #[.pointer (some ⟨b, 0, none⟩)] w fun e w' => ∃ lv, e = .returned (.agg #[.int .i64 xk, .string xp, lv, .bool xlv, .string xlt, .bool xrv, .string xrt]) ∧ PSt w' b P tx ta tc jj R0 R1 R2 R3 R4 R5 ∧ Mvd b w w' ∧ w'.ownsRow w.heap.size 76 2 lv xa.length (flatTT xa)) := Lib.hid hli
      clear hx hli
      refine wp_seq ?_
      refine wp_region_T (fun w' => w'.cell? ⟨g5, 2, none⟩ = some (.slice va2 L.length vc2)) [0, 1, 2] (by kernel_rfl) ?_ (fun hHeld => ?_)
      · exact hkeep.out _ (Mvd.of (Below.refl _ _).drew)
      refine wpAnyT_take (i := 0) (oi := _) (v := ?_) rfl rfl (by kernel_rfl) (by kernel_rfl) (by kernel_rfl) (fun _ _ _ h => h) (Or.inl ⟨by rfl, ?_⟩) (by assumption) ?_
      rotate_left
      · intro w hSw
        try dsimp only at hSw
        go_simp
        try with_reducible rfl
      refine wpAnyT_take (i := 1) (oi := _) (v := ?_) rfl rfl (by kernel_rfl) (by kernel_rfl) (by kernel_rfl) (fun _ _ _ h => h) (Or.inl ⟨by rfl, ?_⟩) (by assumption) ?_
      rotate_left
      · intro w hSw
        try dsimp only at hSw
        go_simp
        try with_reducible rfl
      refine wpAnyT_take (i := 2) (oi := _) (v := ?_) rfl rfl (by kernel_rfl) (by kernel_rfl) (by kernel_rfl) (fun _ _ _ h => h) (Or.inl ⟨by rfl, ?_⟩) (by assumption) ?_
      rotate_left
      · intro w hSw
        try dsimp only at hSw
        go_simp
        try with_reducible rfl
      refine wpAnyT_one (i := 3) (o := _) (by kernel_rfl) rfl (fun K hK => ?_)
      go_simp
      go_wp2_with (go_at_call 74; refine (hli'.out _ (hrs.out.st.below (Below.refl _ _).drew)).mono ?_; rintro e w3 ⟨lv, rfl, hs30, hm30, hown30⟩
                   have hm3 := Lib.hid ((Mvd.of (b := b) (Below.refl w2.heap.size w2).drew).trans hm30)
                   have hr3 := Lib.hid (hrs.out.move hm3.out hbl hs30)
                   obtain ⟨xav, xac, rfl, hxa⟩ := own_slice hown30
                   have hown3 := Lib.hid (own_baseP hown30 (hrs.out.mv.size))
                   have hnew3 := Lib.hid (own_ge hown30)
                   clear hs30 hm30 hown30 hxa)
      refine hK.out _ _ (hkeep.out _ hm3.out) ?_
      clear hK K
      refine wpAnyT_one (i := 4) (o := _) (by kernel_rfl) rfl (fun K hK => ?_)
      go_simp
      refine hK.out _ _ (hkeep.out _ (hm3.out.trans (Mvd.of ((Below.refl _ _).al _)))) ?_
      clear hK K
      refine wpAnyT_one (i := 5) (o := _) (by kernel_rfl) rfl (fun K hK => ?_)
      refine step_append_lies (w3.alloc (.cells #[.int .i64 xk, .string xp, .slice xav xa.length xac, .bool xlv, .string xlt, .bool xrv, .string xrt] 79)) ?guard (.tmp 23) (.tmp 26) 52 ?op w.heap.size 79 it (.agg #[.int .i64 0, .string ⟨#[]⟩, .slice none 0 0, .bool false, .string ⟨#[]⟩, .bool false, .string ⟨#[]⟩]) 7 96 Tryd.underlying52 hit ht0 ht1 ht2 (by rfl) (by omega) (.slice va2 L.length vc2) L.length (flatLV L) ?ev1 (hr3.out.bod.own.alloc _) ⟨w3.heap.size, 0, none⟩ 1 1 (litC (⟨xk, xp, xa, (xlv, xlt), (xrv, xrt)⟩, .slice xav xa.length xac)) ?ev2 (by rfl) (own_cells_row rfl rfl) (by intro u hu; simp [litC] at hu; rcases hu with rfl | rfl | rfl | rfl | rfl | rfl | rfl <;> rfl) (by omega) h63.out h64.out (by have := hr3.out.mv.size; rw [World.size_alloc]; omega) (w3.heap.size + 1) (by rw [World.size_alloc]) ?rest
      case guard => rfl
      case op => rfl
      case ev1 => rfl
      case ev2 => rfl
      intro gg cp w4 hown4 hgrow hat hlt4
      have hgn := hr3.out.grown hgrow
      have y2 : w4.cell? ⟨g5, 2, none⟩ = some (.slice va2 L.length vc2) := by simp [World.cell?, hgn.1]
      have yz : w4.frozen? ⟨g5, 2, none⟩ = false := by simp [World.frozen?, hgn.1]
      have hr5 := Lib.hid (RS.push h.out hr3.out (x := ⟨xk, xp, xa, (xlv, xlt), (xrv, xrt)⟩) hrs.out hnew3.out hown3.out hgrow hown4)
      clear hown4 hgrow hat hlt4 hgn
      refine hK.out _ _ y2 ?_
      clear hK K
      refine wpAnyT_free (i := 6) (o := _) (by kernel_rfl) rfl (by kernel_rfl) (fun K hK => ?_)
      go_simp
      refine hK.out _ _ ?_
      clear hK K
      refine wpAnyT_free (i := 7) (o := _) (by kernel_rfl) rfl (by kernel_rfl) (fun K hK => ?_)
      go_simp
      refine hK.out _ _ ?_
      clear hK K
      refine wpAnyT_done (by kernel_rfl) ?_ _
      clear hHeld y2 yz e0 e1 e2 ez hkeep h63 h64 hm3 hown3 hr3 hli'
      change Code.wp _ _ _ _ _
      generalize w4.setCell ⟨g5, 2, none⟩ (.slice (some ⟨gg, 0, none⟩) (L.length + 1) cp) = w5 at hr5 ⊢
      have hpk := fun w h => pa_kind w b P tx ta tc jj R0 R1 R2 R3 R4 R5 h
      have hmap : Hid ((L ++ ([(⟨xk, xp, xa, (xlv, xlt), (xrv, xrt)⟩, .slice xav xa.length xac)] : List (PLit × Value))).map (fun y => y.1) = L.map (fun y => y.1) ++ ([⟨xk, xp, xa, (xlv, xlt), (xrv, xrt)⟩] : List PLit)) := Lib.hid (by simp)
      have hlen2 := hr5.out.st.len
      by_cases h10 : P.kind jj = 10
      · rw [h10] at hpk
        by_cases hn0 : n = 0
        · rw [if_neg (fun h => h.2 hn0)] at hR
          rcases take_cases P jj [11] (by decide) with ⟨t, ht, _, hc, hjlt⟩ | ⟨x, ht, hxs, hc⟩
          · rw [h10] at hc; exact absurd hc (by decide)
          · rw [ht] at hR
            dsimp only at hR
            have hP2 : Hid (psRule P i pr = .error x) := Lib.hid (by rw [hP.out, ← hR]; try rfl)
            have htk := fun w h wa hw => pa_take_err w b P tx ta tc jj R0 R1 R2 R3 R4 R5 h wa [11] 1 hw (by decide) hc
            rw [← hxs] at htk
            unfold thrown at htk
            have hL : L.length = 255 := by omega
            clear hR ht hc hxs
            go_wp2_with (go_at_call 72; refine (hpk _ hr5.out.st).mono ?_; rintro e w6 ⟨rfl, hd⟩; have hr60 := hr5.out.drawn hd hbl; obtain ⟨y0, y1, y2, yz⟩ := hr60.cells; have hr6 := Lib.hid hr60; clear hd hr60)
            refine ‹∀ (a : Act) (w : World), Code.wp _ _ _ a w → _› _ _ ?_
            go_wp2_with (go_at_call 55; refine (htk _ (hr6.out.st.below ((Below.refl _ _).al _)) _ (kinds_lit _ _ [11] _ rfl (by decide) rfl)).mono ?_; rintro e w7 ⟨rfl, hb7⟩; have hmv := Lib.hid (hr6.out.mv.trans ((Mvd.of ((Below.refl _ _).al _)).trans (Mvd.of hb7))); clear hb7)
            exact ⟨rfl, by rw [hP2.out]; exact ⟨rfl, hmv.out⟩⟩
        · have hjlt : jj < P.ts.length := by
            rcases Nat.lt_or_ge jj P.ts.length with h | h
            · exact h
            · rw [Ps.kind_end h] at h10; cases h10
          rw [if_pos ⟨h10, hn0⟩] at hR
          have hL : L.length < 255 := by omega
          replace hR := Lib.hid hR
          go_wp2_with (go_at_call 72; refine (hpk _ hr5.out.st).mono ?_; rintro e w6 ⟨rfl, hd⟩; have hr60 := hr5.out.drawn hd hbl; obtain ⟨y0, y1, y2, yz⟩ := hr60.cells; obtain ⟨c1, c2, c4, c6, c7, cf⟩ := hr60.st.cells; have hr6 := Lib.hid hr60; clear hd hr60)
          have hw6 := hr6.out.st.step hjlt
          rw [show ((jj + 1 : Nat) : Int) = (jj : Int) + 1 from by omega] at hw6
          generalize w6.setCell ⟨b, 7, none⟩ (.int .i64 ((jj : Int) + 1)) = w8 at hw6 ⊢
          go_step3
          refine ⟨rfl, n, by omega, _, _, _, _, _, _, _, _, _, _, _, _, _, _, _, _, _, _, _, _, _, _, _, _, _, _, _, _, _, _, _, _, _, _, _, _, _, _, _, _, _, _, _, _, _, _, _, _, _, _, _, _, jj + 1, L ++ [(⟨xk, xp, xa, (xlv, xlt), (xrv, xrt)⟩, .slice xav xa.length xac)], rfl, by omega, by rw [List.length_append]; simp; omega, by rw [hmap.out]; exact hR.out, hr6.out.move hw6.2 hbl hw6.1⟩
      · have hk10 : (P.kind jj == 10) = false := by rw [beq_eq_false_iff_ne]; exact h10
        rw [if_neg (fun h => h10 h.1)] at hR
        rcases take_cases P jj [11] (by decide) with ⟨t, ht, _, hc, hjlt⟩ | ⟨x, ht, hxs, hc⟩
        · rw [ht] at hR
          dsimp only at hR
          have htk := fun w h wa hw => pa_take_ok w b P tx ta tc jj R0 R1 R2 R3 R4 R5 h wa [11] 1 hw (by decide) hc hjlt
          have hP2 : Hid (psRule P i pr = .ok (⟨pr, l, L.map (·.1) ++ [⟨xk, xp, xa, (xlv, xlt), (xrv, xrt)⟩]⟩, jj + 1)) := Lib.hid (by rw [hP.out, ← hR]; try rfl)
          clear hR ht hc
          generalize P.kind jj = kj at htk hk10 hpk
          generalize mk (P.tok jj).text = tt at htk
          generalize ((P.tok jj).at_ : Int) = ta1 at htk
          generalize ((P.tok jj).end_ : Int) = te1 at htk
          go_wp2_with (go_at_call 72; refine (hpk _ hr5.out.st).mono ?_; rintro e w6 ⟨rfl, hd⟩; have hr60 := hr5.out.drawn hd hbl; obtain ⟨y0, y1, y2, yz⟩ := hr60.cells; have hr6 := Lib.hid hr60; clear hd hr60)
          refine ‹∀ (a : Act) (w : World), Code.wp _ _ _ a w → _› _ _ ?_
          go_wp2_with (first
            | (have hg := hrr.out
               clear hg
               refine wpList_store_rowA rfl 54 (.tmp 4) (.tmp 55) rfl w.heap.size #[.string pr, .slice va l.length vc, .slice (some ⟨gg, 0, none⟩) (L.length + 1) cp] rfl rfl 54 #[.string ⟨#[]⟩, .slice none 0 0, .slice none 0 0] hrr.out sizeRule rfl (by simp [Value.oneCell']) ?_)
            | (go_at_call 55
               refine (htk _ (hr6.out.st.below ((Below.refl _ _).al _)) _ (kinds_lit _ _ [11] _ rfl (by decide) rfl)).mono ?_
               rintro e w7 ⟨rfl, hs70, hm70⟩
               have hr70 := hr6.out.move ((Mvd.of ((Below.refl _ _).al _)).trans hm70) hbl hs70
               obtain ⟨q0, q1, q2, qz⟩ := hr70.cells
               have hr7 := Lib.hid hr70
               have hrr := Lib.hid hr70.res
               clear hs70 hm70 hr70))
          intro w8 hg8 hgr8 hsz8
          have hfin := Lib.hid (RS.done h.out hr7.out hgr8)
          clear hgr8 hsz8
          go_wp2_with fail
          try refine ‹∀ (a : Act) (w : World), Code.wp _ _ _ a w → _› _ _ ?_
          try go_wp2_with fail
          refine bodyPost_ret (v := .agg #[.string pr, .slice va l.length vc, .slice (some ⟨gg, 0, none⟩) (L.length + 1) cp]) (results_cell_row rfl _ _ w.heap.size 54 _ (0, 0) _ rfl hg8.out Tryd.underlying54 rfl sizeRule) rfl ?_
          rw [hP2.out]
          refine ⟨_, _, rfl, hfin.out.1, hfin.out.2.1, ?_⟩
          have h3 := hfin.out.2.2
          rw [hmap.out] at h3
          exact h3
        · rw [ht] at hR
          dsimp only at hR
          have hP2 : Hid (psRule P i pr = .error x) := Lib.hid (by rw [hP.out, ← hR]; try rfl)
          have htk := fun w h wa hw => pa_take_err w b P tx ta tc jj R0 R1 R2 R3 R4 R5 h wa [11] 1 hw (by decide) hc
          rw [← hxs] at htk
          unfold thrown at htk
          clear hR ht hc hxs
          generalize P.kind jj = kj at hk10 hpk
          go_wp2_with (go_at_call 72; refine (hpk _ hr5.out.st).mono ?_; rintro e w6 ⟨rfl, hd⟩; have hr60 := hr5.out.drawn hd hbl; obtain ⟨y0, y1, y2, yz⟩ := hr60.cells; have hr6 := Lib.hid hr60; clear hd hr60)
          refine ‹∀ (a : Act) (w : World), Code.wp _ _ _ a w → _› _ _ ?_
          go_wp2_with (go_at_call 55; refine (htk _ (hr6.out.st.below ((Below.refl _ _).al _)) _ (kinds_lit _ _ [11] _ rfl (by decide) rfl)).mono ?_; rintro e w7 ⟨rfl, hb7⟩; have hmv := Lib.hid (hr6.out.mv.trans ((Mvd.of ((Below.refl _ _).al _)).trans (Mvd.of hb7))); clear hb7)
          exact ⟨rfl, by rw [hP2.out]; exact ⟨rfl, hmv.out⟩⟩
end Go.Proofs.YtclioihichcpiaaDoor


/- Parse, plain: statements and programs over tokens; what tokens are. No program in sight. -/
namespace Go.Proofs.YtclioihichcpiaaDoor
open Go.RowKit Lx
/-- a statement, at its place -/
inductive Stmt where
  | inp (p : ByteArray) (n : Int) (f : ByteArray) (at_ : Nat)
  | outp (p : ByteArray) (n : Int) (at_ : Nat)
  | rule (r : PRule) (at_ : Nat)
namespace Lx
def psStmt (P : Ps) (i : Nat) : Except Int (Stmt × Nat) :=
  match P.take i [1, 5, 6] with
  | .error e => .error e
  | .ok (t, j) =>
    if t.kind = 5 then match psArity P j with
      | .error e => .error e
      | .ok ((p, n), k) => match P.take k [4] with
        | .error e => .error e
        | .ok (f, m) => match P.take m [11] with
          | .error e => .error e
          | .ok (_, o) => .ok (.inp p n (mk f.text) t.at_, o)
    else if t.kind = 6 then match psArity P j with
      | .error e => .error e
      | .ok ((p, n), k) => match P.take k [11] with
        | .error e => .error e
        | .ok (_, o) => .ok (.outp p n t.at_, o)
    else match psRule P j (mk t.text) with
      | .error e => .error e
      | .ok (r, k) => .ok (.rule r t.at_, k)
/-- the statements from the place i on; tl: the text's length -/
def psProgN (P : Ps) (tl : Nat) : Nat → Nat → List Stmt → Except Int (List Stmt)
  | 0, _, _ => .error 0
  | f + 1, i, l =>
    if i < P.ts.length then match psStmt P i with
      | .error e => .error e
      | .ok (s, j) => psProgN P tl f j (l ++ [s])
    else if P.far < tl ∨ P.op.kind ≠ 0 then .error (P.stop i [1, 5, 6]) else .ok l
def psProg (P : Ps) (tl : Nat) : Except Int (List Stmt) := psProgN P tl (P.ts.length + 1) 0 []
/-! ### a place moves on, and not behind the tokens -/
theorem take_ok {P : Ps} {i : Nat} {ks : List Int} {t : Tok} {j : Nat} (h0 : ks.contains 0 = false) (h : P.take i ks = .ok (t, j)) : j = i + 1 ∧ i < P.ts.length ∧ t = P.tok i ∧ ks.contains t.kind = true := by
  unfold Ps.take at h
  cases hc : ks.contains (P.kind i) with
  | false => rw [hc] at h; cases h
  | true =>
    rw [hc] at h
    injection h with h
    injection h with h1 h2
    refine ⟨h2.symm, ?_, h1.symm, by rw [← h1]; exact hc⟩
    rcases Nat.lt_or_ge i P.ts.length with h' | h'
    · exact h'
    · rw [Ps.kind_end h', h0] at hc; cases hc
theorem kind_lt {P : Ps} {i : Nat} (h : P.kind i ≠ 0) : i < P.ts.length := by
  rcases Nat.lt_or_ge i P.ts.length with h' | h'
  · exact h'
  · exact absurd (Ps.kind_end h') h
theorem psTerm_on {P : Ps} {i j : Nat} {x : Bool × ByteArray} (h : psTerm P i = .ok (x, j)) : j = i + 1 ∧ i < P.ts.length ∧ x = ((P.tok i).kind == 2, mk (P.tok i).text) ∧ [2, 1, 3, 4].contains (P.tok i).kind = true := by
  unfold psTerm at h
  cases ht : P.take i [2, 1, 3, 4] with
  | error e => rw [ht] at h; cases h
  | ok r =>
    obtain ⟨t, k⟩ := r
    rw [ht] at h
    injection h with h
    injection h with h1 h2
    obtain ⟨a, b, rfl, d⟩ := take_ok (by decide) ht
    exact ⟨h2 ▸ a, b, h1.symm, d⟩
theorem psArgsN_on {P : Ps} : ∀ (n i : Nat) (l l' : List (Bool × ByteArray)) (k : Nat), psArgsN P n i l = .ok (l', k) → i < k ∧ k ≤ P.ts.length
  | 0, _, _, _, _, h => by cases h
  | n + 1, i, l, l', k, h => by
    unfold psArgsN at h
    cases ht : psTerm P i with
    | error e => rw [ht] at h; cases h
    | ok r =>
      obtain ⟨t, j⟩ := r
      rw [ht] at h
      obtain ⟨rfl, h1, -, -⟩ := psTerm_on ht
      dsimp only at h
      by_cases hk : P.kind (i + 1) = 10 ∧ n ≠ 0
      · rw [if_pos hk] at h
        have := psArgsN_on n _ _ _ _ h
        omega
      · rw [if_neg hk] at h
        cases hc : P.take (i + 1) (if n = 0 then [9] else [9, 10]) with
        | error e => rw [hc] at h; cases h
        | ok r =>
          obtain ⟨u, m⟩ := r
          rw [hc] at h
          injection h with h
          injection h with _ h2
          obtain ⟨a, b, -⟩ := take_ok (by split <;> decide) hc
          omega
theorem psArgs_on {P : Ps} {i k : Nat} {l : List (Bool × ByteArray)} (h : psArgs P i = .ok (l, k)) : i ≤ k ∧ (i ≤ P.ts.length → k ≤ P.ts.length) := by
  unfold psArgs at h
  by_cases hk : P.kind i = 8
  · rw [if_pos hk] at h
    have := psArgsN_on _ _ _ _ _ h
    omega
  · rw [if_neg hk] at h
    injection h with h
    injection h with _ h2
    omega
theorem psAtom_on {P : Ps} {i k : Nat} {x : ByteArray × List (Bool × ByteArray)} (h : psAtom P i = .ok (x, k)) : i < k ∧ k ≤ P.ts.length := by
  unfold psAtom at h
  cases ht : P.take i [1] with
  | error e => rw [ht] at h; cases h
  | ok r =>
    obtain ⟨t, j⟩ := r
    rw [ht] at h
    dsimp only at h
    obtain ⟨rfl, h1, -⟩ := take_ok (by decide) ht
    cases ha : psArgs P (i + 1) with
    | error e => rw [ha] at h; cases h
    | ok r =>
      obtain ⟨l, m⟩ := r
      rw [ha] at h
      injection h with h
      injection h with _ h2
      have := psArgs_on ha
      omega
theorem psUnlike_on {P : Ps} {i k : Nat} {x : PLit} (h : psUnlike P i = .ok (x, k)) : i < k ∧ k ≤ P.ts.length := by
  unfold psUnlike at h
  cases ht : psTerm P i with
  | error e => rw [ht] at h; cases h
  | ok r =>
    obtain ⟨t, j⟩ := r
    rw [ht] at h
    dsimp only at h
    obtain ⟨rfl, h1, -⟩ := psTerm_on ht
    cases hc : P.take (i + 1) [14] with
    | error e => rw [hc] at h; cases h
    | ok r =>
      obtain ⟨c, m⟩ := r
      rw [hc] at h
      dsimp only at h
      obtain ⟨rfl, h2, -⟩ := take_ok (by decide) hc
      cases hu : psTerm P (i + 1 + 1) with
      | error e => rw [hu] at h; cases h
      | ok r =>
        obtain ⟨u, o⟩ := r
        rw [hu] at h
        injection h with h
        injection h with _ h3
        obtain ⟨rfl, h4, -⟩ := psTerm_on hu
        omega
theorem psLit_on {P : Ps} {i k : Nat} {x : PLit} (h : psLit P i = .ok (x, k)) : i < k ∧ k ≤ P.ts.length := by
  unfold psLit at h
  by_cases h7 : P.kind i = 7
  · rw [if_pos h7] at h
    cases ha : psAtom P (i + 1) with
    | error e => rw [ha] at h; cases h
    | ok r =>
      obtain ⟨⟨p, l⟩, m⟩ := r
      rw [ha] at h
      injection h with h
      injection h with _ h2
      have := psAtom_on ha
      omega
  rw [if_neg h7] at h
  by_cases h1 : P.kind i = 1
  · rw [if_pos h1] at h
    by_cases hu : unlikeNext P i = true
    · rw [if_pos hu] at h; exact psUnlike_on h
    · rw [if_neg hu] at h
      cases ha : psAtom P i with
      | error e => rw [ha] at h; cases h
      | ok r =>
        obtain ⟨⟨p, l⟩, m⟩ := r
        rw [ha] at h
        injection h with h
        injection h with _ h2
        have := psAtom_on ha
        omega
  rw [if_neg h1] at h
  by_cases h2 : P.kind i = 2 ∨ P.kind i = 3 ∨ P.kind i = 4
  · rw [if_pos h2] at h; exact psUnlike_on h
  · rw [if_neg h2] at h; cases h
theorem psBodyN_on {P : Ps} : ∀ (n i : Nat) (l l' : List PLit) (k : Nat), psBodyN P n i l = .ok (l', k) → i < k ∧ k ≤ P.ts.length
  | 0, _, _, _, _, h => by cases h
  | n + 1, i, l, l', k, h => by
    unfold psBodyN at h
    cases ht : psLit P i with
    | error e => rw [ht] at h; cases h
    | ok r =>
      obtain ⟨t, j⟩ := r
      rw [ht] at h
      have h1 := psLit_on ht
      dsimp only at h
      by_cases hk : P.kind j = 10 ∧ n ≠ 0
      · rw [if_pos hk] at h
        have := psBodyN_on n _ _ _ _ h
        omega
      · rw [if_neg hk] at h
        cases hc : P.take j [11] with
        | error e => rw [hc] at h; cases h
        | ok r =>
          obtain ⟨u, m⟩ := r
          rw [hc] at h
          injection h with h
          injection h with _ h2
          obtain ⟨a, b, -⟩ := take_ok (by decide) hc
          omega
theorem psRule_on {P : Ps} {i k : Nat} {pr : ByteArray} {x : PRule} (h : psRule P i pr = .ok (x, k)) : i < k ∧ k ≤ P.ts.length := by
  unfold psRule at h
  cases ha : psArgs P i with
  | error e => rw [ha] at h; cases h
  | ok r =>
    obtain ⟨l, j⟩ := r
    rw [ha] at h
    have h1 := psArgs_on ha
    dsimp only at h
    by_cases hk : P.kind j = 13
    · rw [if_pos hk] at h
      cases hb : psBodyN P 256 (j + 1) [] with
      | error e => rw [hb] at h; cases h
      | ok r =>
        obtain ⟨m, o⟩ := r
        rw [hb] at h
        injection h with h
        injection h with _ h2
        have := psBodyN_on _ _ _ _ _ hb
        omega
    · rw [if_neg hk] at h
      cases hc : P.take j [11, 13] with
      | error e => rw [hc] at h; cases h
      | ok r =>
        obtain ⟨u, m⟩ := r
        rw [hc] at h
        injection h with h
        injection h with _ h2
        obtain ⟨a, b, -⟩ := take_ok (by decide) hc
        omega
theorem psArity_on {P : Ps} {i k : Nat} {x : ByteArray × Int} (h : psArity P i = .ok (x, k)) : k = i + 3 ∧ k ≤ P.ts.length ∧ (P.tok i).kind = 1 ∧ x.1 = mk (P.tok i).text ∧ (P.tok (i + 2)).kind = 3 ∧ psDigits (P.tok (i + 2)).at_ (mk (P.tok (i + 2)).text) (mk (P.tok (i + 2)).text).size 0 0 = .ok x.2 := by
  unfold psArity at h
  cases ha : P.take i [1] with
  | error e => rw [ha] at h; cases h
  | ok r =>
    obtain ⟨t, j⟩ := r
    rw [ha] at h
    dsimp only at h
    obtain ⟨rfl, h1, rfl, hk1⟩ := take_ok (by decide) ha
    cases hb : P.take (i + 1) [12] with
    | error e => rw [hb] at h; cases h
    | ok r =>
      obtain ⟨u, m⟩ := r
      rw [hb] at h
      dsimp only at h
      obtain ⟨rfl, h2, -⟩ := take_ok (by decide) hb
      cases hc : P.take (i + 1 + 1) [3] with
      | error e => rw [hc] at h; cases h
      | ok r =>
        obtain ⟨v, o⟩ := r
        rw [hc] at h
        dsimp only at h
        obtain ⟨rfl, h3, rfl, hk3⟩ := take_ok (by decide) hc
        cases hd : psDigits (P.tok (i + 1 + 1)).at_ (mk (P.tok (i + 1 + 1)).text) (mk (P.tok (i + 1 + 1)).text).size 0 0 with
        | error e => rw [hd] at h; cases h
        | ok n =>
          rw [hd] at h
          injection h with h
          injection h with h4 h5
          refine ⟨by omega, by omega, by simpa using hk1, by rw [← h4], by simpa using hk3, by rw [← h4]⟩
theorem psStmt_on {P : Ps} {i k : Nat} {x : Stmt} (h : psStmt P i = .ok (x, k)) : i < k ∧ k ≤ P.ts.length := by
  unfold psStmt at h
  cases ha : P.take i [1, 5, 6] with
  | error e => rw [ha] at h; cases h
  | ok r =>
    obtain ⟨t, j⟩ := r
    rw [ha] at h
    dsimp only at h
    obtain ⟨rfl, h1, -, -⟩ := take_ok (by decide) ha
    by_cases h5 : t.kind = 5
    · rw [if_pos h5] at h
      cases hb : psArity P (i + 1) with
      | error e => rw [hb] at h; cases h
      | ok r =>
        obtain ⟨⟨p, n⟩, j⟩ := r
        rw [hb] at h
        dsimp only at h
        have := psArity_on hb
        cases hc : P.take j [4] with
        | error e => rw [hc] at h; cases h
        | ok r =>
          obtain ⟨f, m⟩ := r
          rw [hc] at h
          dsimp only at h
          obtain ⟨rfl, h2, -⟩ := take_ok (by decide) hc
          cases hd : P.take (j + 1) [11] with
          | error e => rw [hd] at h; cases h
          | ok r =>
            obtain ⟨d, o⟩ := r
            rw [hd] at h
            injection h with h
            injection h with _ h3
            obtain ⟨rfl, h4, -⟩ := take_ok (by decide) hd
            omega
    rw [if_neg h5] at h
    by_cases h6 : t.kind = 6
    · rw [if_pos h6] at h
      cases hb : psArity P (i + 1) with
      | error e => rw [hb] at h; cases h
      | ok r =>
        obtain ⟨⟨p, n⟩, j⟩ := r
        rw [hb] at h
        dsimp only at h
        have := psArity_on hb
        cases hd : P.take j [11] with
        | error e => rw [hd] at h; cases h
        | ok r =>
          obtain ⟨d, o⟩ := r
          rw [hd] at h
          injection h with h
          injection h with _ h3
          obtain ⟨rfl, h4, -⟩ := take_ok (by decide) hd
          omega
    rw [if_neg h6] at h
    cases hb : psRule P (i + 1) (mk t.text) with
    | error e => rw [hb] at h; cases h
    | ok r =>
      obtain ⟨y, m⟩ := r
      rw [hb] at h
      injection h with h
      injection h with _ h3
      have := psRule_on hb
      omega
/-- the number of steps is not in the way -/
theorem psProgN_fuel {P : Ps} {tl : Nat} : ∀ (f f' i : Nat) (l : List Stmt), P.ts.length + 1 ≤ f + i → P.ts.length + 1 ≤ f' + i → i ≤ P.ts.length → psProgN P tl f i l = psProgN P tl f' i l
  | 0, _, i, _, h, _, hi => by omega
  | _, 0, i, _, _, h, hi => by omega
  | f + 1, f' + 1, i, l, h, h', hi => by
    unfold psProgN
    by_cases hlt : i < P.ts.length
    · rw [if_pos hlt, if_pos hlt]
      cases hs : psStmt P i with
      | error e => rfl
      | ok r =>
        obtain ⟨s, j⟩ := r
        have := psStmt_on hs
        exact psProgN_fuel f f' j _ (by omega) (by omega) this.2
    · rw [if_neg hlt, if_neg hlt]
/-! ### what a token is -/
theorem toks_are (l : Bs) (a : Nat) (j : Bool) : ∀ t ∈ (tk l a j).toks, a ≤ t.at_ ∧ t.at_ < t.end_ ∧ t.end_ ≤ a + l.length ∧ nextT (l.drop (t.at_ - a)) t.at_ = (t, true) := by
  refine tk_ind (P := fun l a _ r => ∀ t ∈ r.toks, a ≤ t.at_ ∧ t.at_ < t.end_ ∧ t.end_ ≤ a + l.length ∧ nextT (l.drop (t.at_ - a)) t.at_ = (t, true)) ?_ ?_ ?_ ?_ l a j
  · intro l a j _ t ht; cases ht
  · intro l a t wh _ _ _ _ u hu; cases hu
  · intro l a j n l1 t _ _ _ _ _ u hu; cases hu
  · intro l a j n l1 t r hn hl1 h1 hlt hx hj hr hlo hhi ih u hu
    have hf := next_facts h1 hx
    have hat := hf.at_ (hf.whole rfl)
    rcases List.mem_cons.1 hu with rfl | hu
    · refine ⟨by omega, by omega, hhi, ?_⟩
      rw [hat, show a + n - a = n from by omega, hl1]
      exact hx
    · obtain ⟨i1, i2, i3, i4⟩ := ih u hu
      have hlen : (l1.drop (t.end_ - (a + n))).length = a + l.length - t.end_ := by rw [← hl1, List.length_drop, List.length_drop]; omega
      rw [hlen] at i3
      refine ⟨by omega, i2, by omega, ?_⟩
      rw [← hl1, List.drop_drop, List.drop_drop, show n + (t.end_ - (a + n) + (u.at_ - t.end_)) = u.at_ - a from by omega] at i4
      exact i4
theorem quo_full (l : Bs) : (quo l 1024).1 = [] := by
  cases l with
  | nil => rfl
  | cons c r =>
    by_cases h34 : bi c = 34
    · rw [quo_34 c r _ h34]
    · rw [quo_bad c r _ h34 (.inl rfl)]
theorem quo_len (l : Bs) (n : Nat) : n ≤ 1024 → (quo l n).1.length + n ≤ 1024 := by
  refine quo_ind (P := fun _ n x => n ≤ 1024 → x.1.length + n ≤ 1024) ?_ ?_ ?_ l n
  · intro c r n _ h; simpa using h
  · intro p r n b hq ih h
    have hlt : n ≠ 1024 := by
      rintro rfl
      have := quo_full (p ++ [])
      rw [hq []] at this
      cases this
    have := ih (by omega)
    show (b :: _).length + n ≤ _
    rw [List.length_cons]; omega
  · intro p r n _ _ _ h; simpa using h
/-- a whole token, by its kind -/
structure TokFacts (l : Bs) (t : Tok) : Prop where
  name : t.kind = 1 → nameB t.text = true ∧ l.take t.text.length = t.text
  var : t.kind = 2 → variableB t.text = true
  num : t.kind = 3 → numberB t.text = true
  str : t.kind = 4 → t.text.length ≤ 1024
  inp : t.kind = 5 → l.take 5 = sInput
  outp : t.kind = 6 → l.take 6 = sOutput
theorem kindI_cases (l : Bs) : (kindI l = 5 ∧ l = sInput) ∨ (kindI l = 6 ∧ l = sOutput) ∨ (kindI l = 7 ∧ l = sNot) ∨ (kindI l = 3 ∧ numberB l = true) ∨ (kindI l = 2 ∧ variableB l = true) ∨ (kindI l = 1 ∧ nameB l = true) ∨ kindI l = 0 := by
  unfold kindI
  by_cases e1 : l = sInput
  · rw [if_pos e1]; exact .inl ⟨rfl, e1⟩
  by_cases e2 : l = sOutput
  · rw [if_neg e1, if_pos e2]; exact .inr (.inl ⟨rfl, e2⟩)
  by_cases e3 : l = sNot
  · rw [if_neg e1, if_neg e2, if_pos e3]; exact .inr (.inr (.inl ⟨rfl, e3⟩))
  rw [if_neg e1, if_neg e2, if_neg e3]
  cases h3 : numberB l with
  | true => exact .inr (.inr (.inr (.inl ⟨rfl, rfl⟩)))
  | false =>
    cases h2 : variableB l with
    | true => exact .inr (.inr (.inr (.inr (.inl ⟨rfl, rfl⟩))))
    | false =>
      cases h1 : nameB l with
      | true => exact .inr (.inr (.inr (.inr (.inr (.inl ⟨rfl, rfl⟩)))))
      | false => exact .inr (.inr (.inr (.inr (.inr (.inr rfl)))))
theorem take_self (l : Bs) (n : Nat) : l.take (l.take n).length = l.take n := by
  rw [List.length_take]
  rcases Nat.le_total n l.length with h | h
  · rw [Nat.min_eq_left h]
  · rw [Nat.min_eq_right h, List.take_length, List.take_of_length_le h]
theorem reserved_cases {x : Bs} (h : reservedB x = true) : x = sInput ∨ x = sOutput ∨ x = sNot := by
  unfold reservedB at h
  simpa [or_assoc] using h
theorem num_free (x : Bs) (h : numberB x = true) : reservedB x = false := by
  rw [Bool.eq_false_iff]
  intro hr
  rcases reserved_cases hr with rfl | rfl | rfl <;> exact absurd h (by decide)
theorem var_free (x : Bs) (h : variableB x = true) : reservedB x = false := by
  rw [Bool.eq_false_iff]
  intro hr
  rcases reserved_cases hr with rfl | rfl | rfl <;> exact absurd h (by decide)
theorem name_free (x : Bs) (h : nameB x = true) : reservedB x = false := by
  unfold nameB at h
  simp at h
  exact h.2.2
theorem next_is {l : Bs} {a : Nat} {t : Tok} (hl : l ≠ []) (h : nextT l a = (t, true)) : TokFacts l t := by
  have hx := Next.of l a hl
  rw [h] at hx
  generalize hy : (t, true) = y at hx
  cases hx with
  | str c r h34 =>
    injection hy with h1 h2; subst h1
    refine ⟨fun h => absurd h (by show ¬ (4 : Int) = 1; decide), fun h => absurd h (by show ¬ (4 : Int) = 2; decide), fun h => absurd h (by show ¬ (4 : Int) = 3; decide), fun _ => ?_, fun h => absurd h (by show ¬ (4 : Int) = 5; decide), fun h => absurd h (by show ¬ (4 : Int) = 6; decide)⟩
    have := quo_len r 0 (by decide)
    show (ite _ _ _ : Bs).length ≤ _
    split
    · omega
    · exact Nat.zero_le _
  | sign1 c r k h34 hs hk => injection hy with h1 h2; subst h1; exact ⟨fun h => absurd h (by show ¬ k = 1; omega), fun h => absurd h (by show ¬ k = 2; omega), fun h => absurd h (by show ¬ k = 3; omega), fun h => absurd h (by show ¬ k = 4; omega), fun h => absurd h (by show ¬ k = 5; omega), fun h => absurd h (by show ¬ k = 6; omega)⟩
  | sign2 c x r k h34 hs hk => injection hy with h1 h2; subst h1; exact ⟨fun h => absurd h (by show ¬ k = 1; omega), fun h => absurd h (by show ¬ k = 2; omega), fun h => absurd h (by show ¬ k = 3; omega), fun h => absurd h (by show ¬ k = 4; omega), fun h => absurd h (by show ¬ k = 5; omega), fun h => absurd h (by show ¬ k = 6; omega)⟩
  | half c r k d h34 hs hk hd => injection hy with h1 h2; cases h2
  | no c r h34 hs hk => injection hy with h1 h2; cases h2
  | word c r h34 hsg hk =>
    injection hy with h1 h2; subst h1
    have hts := take_self (c :: r) (wordN (c :: r))
    generalize hw : (c :: r).take (wordN (c :: r)) = w at hk hts ⊢
    have hres : ∀ {p : Bs → Bool}, p w = true → (∀ x, p x = true → reservedB x = false) → (if reservedB w then [] else w) = w := fun h1 h2 => by rw [h2 _ h1]; rfl
    rcases kindI_cases w with ⟨e, hh⟩ | ⟨e, hh⟩ | ⟨e, hh⟩ | ⟨e, hh⟩ | ⟨e, hh⟩ | ⟨e, hh⟩ | e
    · refine ⟨fun h => ?_, fun h => ?_, fun h => ?_, fun h => ?_, fun _ => by subst hh; exact hts, fun h => ?_⟩ <;> (change kindI w = _ at h; rw [e] at h; cases h)
    · refine ⟨fun h => ?_, fun h => ?_, fun h => ?_, fun h => ?_, fun h => ?_, fun _ => by subst hh; exact hts⟩ <;> (change kindI w = _ at h; rw [e] at h; cases h)
    · refine ⟨fun h => ?_, fun h => ?_, fun h => ?_, fun h => ?_, fun h => ?_, fun h => ?_⟩ <;> (change kindI w = _ at h; rw [e] at h; cases h)
    · refine ⟨fun h => ?_, fun h => ?_, fun _ => ?_, fun h => ?_, fun h => ?_, fun h => ?_⟩
      all_goals try (change kindI w = _ at h; rw [e] at h; cases h; done)
      show numberB (if reservedB w then [] else w) = true
      rw [hres hh (fun x hx => num_free x hx)]; exact hh
    · refine ⟨fun h => ?_, fun _ => ?_, fun h => ?_, fun h => ?_, fun h => ?_, fun h => ?_⟩
      all_goals try (change kindI w = _ at h; rw [e] at h; cases h; done)
      show variableB (if reservedB w then [] else w) = true
      rw [hres hh (fun x hx => var_free x hx)]; exact hh
    · refine ⟨fun _ => ?_, fun h => ?_, fun h => ?_, fun h => ?_, fun h => ?_, fun h => ?_⟩
      all_goals try (change kindI w = _ at h; rw [e] at h; cases h; done)
      show nameB (if reservedB w then [] else w) = true ∧ (c :: r).take (if reservedB w then [] else w : Bs).length = (if reservedB w then [] else w)
      rw [hres hh (fun x hx => name_free x hx)]
      exact ⟨hh, hts⟩
    · exact absurd e hk
end Lx
end Go.Proofs.YtclioihichcpiaaDoor
