/- Parse, plain: statements and their places stand side by side. No program in sight. -/
import Derived.Test.YtmjincocmhadeaaPdD
namespace Go.Proofs.Ytmjincocmhadeaa
open Go.RowKit Lx
theorem forms_in (L : Bs) : ∀ (l : List Stmt), (∀ x ∈ l, okStmt L x) → (inAts l).length = (inpsOf l).length ∧ ∀ (i : Nat) (h : i < (inpsOf l).length), ∃ a, (inAts l)[i]? = some a ∧ okStmt L (.inp (inpsOf l)[i].1 (inpsOf l)[i].2.1 (inpsOf l)[i].2.2 a)
  | [], _ => ⟨rfl, fun i h => by cases h⟩
  | x :: r, h => by
    obtain ⟨h1, h2⟩ := forms_in L r fun y hy => h y (List.mem_cons_of_mem _ hy)
    have hx := h x (List.mem_cons_self)
    cases x with
    | inp p n f a =>
      refine ⟨by show (a :: inAts r).length = ((p, n, f) :: inpsOf r).length; rw [List.length_cons, List.length_cons, h1], fun i hi => ?_⟩
      cases i with
      | zero => exact ⟨a, rfl, hx⟩
      | succ i => exact h2 i (by have : i + 1 < ((p, n, f) :: inpsOf r).length := hi; rw [List.length_cons] at this; omega)
    | outp p n a => exact ⟨h1, h2⟩
    | rule q a => exact ⟨h1, h2⟩
theorem forms_out (L : Bs) : ∀ (l : List Stmt), (∀ x ∈ l, okStmt L x) → (outAts l).length = (outsOf l).length ∧ ∀ (i : Nat) (h : i < (outsOf l).length), ∃ a, (outAts l)[i]? = some a ∧ okStmt L (.outp (outsOf l)[i].1 (outsOf l)[i].2 a)
  | [], _ => ⟨rfl, fun i h => by cases h⟩
  | x :: r, h => by
    obtain ⟨h1, h2⟩ := forms_out L r fun y hy => h y (List.mem_cons_of_mem _ hy)
    have hx := h x (List.mem_cons_self)
    cases x with
    | inp p n f a => exact ⟨h1, h2⟩
    | outp p n a =>
      refine ⟨by show (a :: outAts r).length = ((p, n) :: outsOf r).length; rw [List.length_cons, List.length_cons, h1], fun i hi => ?_⟩
      cases i with
      | zero => exact ⟨a, rfl, hx⟩
      | succ i => exact h2 i (by have : i + 1 < ((p, n) :: outsOf r).length := hi; rw [List.length_cons] at this; omega)
    | rule q a => exact ⟨h1, h2⟩
theorem forms_rule (L : Bs) : ∀ (l : List Stmt), (∀ x ∈ l, okStmt L x) → (ruAts l).length = (rulesOf l).length ∧ ∀ (i : Nat) (h : i < (rulesOf l).length), ∃ a, (ruAts l)[i]? = some a ∧ okStmt L (.rule (rulesOf l)[i] a)
  | [], _ => ⟨rfl, fun i h => by cases h⟩
  | x :: r, h => by
    obtain ⟨h1, h2⟩ := forms_rule L r fun y hy => h y (List.mem_cons_of_mem _ hy)
    have hx := h x (List.mem_cons_self)
    cases x with
    | inp p n f a => exact ⟨h1, h2⟩
    | outp p n a => exact ⟨h1, h2⟩
    | rule q a =>
      refine ⟨by show (a :: ruAts r).length = (q :: rulesOf r).length; rw [List.length_cons, List.length_cons, h1], fun i hi => ?_⟩
      cases i with
      | zero => exact ⟨a, rfl, hx⟩
      | succ i => exact h2 i (by have : i + 1 < (q :: rulesOf r).length := hi; rw [List.length_cons] at this; omega)
theorem progN_len {P : Ps} {tl : Nat} : ∀ (f i : Nat) (l m : List Stmt), psProgN P tl f i l = .ok m → i ≤ P.ts.length → m.length + i ≤ l.length + P.ts.length
  | 0, _, _, _, h, _ => by cases h
  | f + 1, i, l, m, h, hi => by
    unfold psProgN at h
    by_cases hlt : i < P.ts.length
    · rw [if_pos hlt] at h
      cases hs : psStmt P i with
      | error e => rw [hs] at h; cases h
      | ok r =>
        obtain ⟨s, j⟩ := r
        rw [hs] at h
        have hon := psStmt_on hs
        have := progN_len f j _ _ h hon.2
        rw [List.length_append] at this
        simp at this
        omega
    · rw [if_neg hlt] at h
      by_cases hc : P.far < tl ∨ P.op.kind ≠ 0
      · rw [if_pos hc] at h; cases h
      · rw [if_neg hc] at h
        injection h with h
        subst h; omega
theorem text_len {s : ByteArray} {l : List Stmt} (h : psText s = .ok l) : l.length ≤ s.size := by
  have h1 := progN_len _ _ _ _ h (Nat.zero_le _)
  have h2 := (tk_far (bl s) 0 false).2.2.2
  rw [bl_length] at h2
  have h3 : (psOf s).ts.length ≤ s.size := by show (tokens (bl s)).toks.length ≤ _; rw [tokens_tk]; exact h2
  simp at h1
  omega
theorem RuleIn.below {w w' : World} {lo : Nat} {av bv : Value} {r : PRule} (h : RuleIn w lo av bv r) (hb : Below w.heap.size w w') : RuleIn w' lo av bv r := by
  obtain ⟨h1, L, h2, h3, h4⟩ := h
  exact ⟨own_below h1 hb, L, h2, ⟨own_below h3.own hb, fun y hy => own_below (h3.inner y hy) hb⟩, h4⟩
theorem Prg.beneath {w w' : World} {lo : Nat} {R0 R1 R2 R3 R4 R5 : Value} {A : List (ByteArray × Int × ByteArray)} {B : List (ByteArray × Int)} {C : List PRule} {a1 a2 a3 : List Nat} (h : Prg w lo R0 R1 R2 R3 R4 R5 A B C a1 a2 a3) (hb : Below w.heap.size w w') : Prg w' lo R0 R1 R2 R3 R4 R5 A B C a1 a2 a3 := by
  obtain ⟨L, hL, h2, h3⟩ := h.r2
  exact ⟨own_below h.r0 hb, own_below h.r1 hb, ⟨L, hL, own_below h2 hb, fun y hy => (h3 y hy).below hb⟩, own_below h.r3 hb, own_below h.r4 hb, own_below h.r5 hb, h.d34, h.d35, h.d45⟩
/-! ### the cells of rows -/
theorem row_at {α : Type} (f : α → List Value) (k : Nat) (hk : ∀ x, (f x).length = k) {w : World} {lo : Nat} {e : TypeId} {va : Option Addr} {vc : Nat} {l : List α} (h : w.ownsRow lo e k (.slice va l.length vc) l.length (l.flatMap f)) (j : Nat) (hj : j < l.length) :
    ∃ g, va = some ⟨g, 0, none⟩ ∧ ∀ o v, o < k → (f l[j])[o]? = some v → w.cell? ⟨g, j * k + o, none⟩ = some v := by
  obtain ⟨g, c, e1, -⟩ := own_shape h (by omega)
  injection e1 with e1 e2 e3
  subst e1 e3
  refine ⟨g, rfl, fun o v ho hv => own_at h (j * k + o) v ?_⟩
  rw [flat_get f k hk l j o ho, List.getElem?_eq_getElem hj]
  exact hv
theorem ats_at {w : World} {lo : Nat} {va : Option Addr} {vc : Nat} {l : List Nat} (h : w.ownsRow lo 3 1 (.slice va l.length vc) l.length (atL l)) (j a : Nat) (hj : l[j]? = some a) : ∃ g, va = some ⟨g, 0, none⟩ ∧ w.cell? ⟨g, j, none⟩ = some (.int .i64 (a : Int)) := by
  have hlt := (List.getElem?_eq_some_iff.1 hj).1
  obtain ⟨g, c, e1, -⟩ := own_shape h (by omega)
  injection e1 with e1 e2 e3
  subst e1 e3
  refine ⟨g, rfl, own_at h j _ ?_⟩
  unfold atL
  rw [List.getElem?_map, hj]; rfl
end Go.Proofs.Ytmjincocmhadeaa
