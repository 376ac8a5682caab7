/- Normal: a row into which a literal is put at its place. -/
import Derived.Test.YtoklbofobcloaaaDoorNpI
import Derived.Test.YtoklbofobcloaaaDoorNmH
namespace Go.Proofs.YtoklbofobcloaaaDoor
open Go.RowKit Go.Sort Go.Shelf
set_option linter.unusedVariables false
theorem insL_map {α β : Type} (g : α → β) (f : β → β → Int) (x : α) : ∀ l : List α, (insL (fun a b => f (g a) (g b)) x l).map g = insL f (g x) (l.map g)
  | [] => rfl
  | y :: l => by
    have ih := insL_map g f x l
    unfold insL
    rw [List.map_cons]
    simp only
    split
    · rw [List.map_cons, ih]
    · split <;> simp
theorem insL_take {α : Type} (f : α → α → Int) (x : α) : ∀ (l : List α) (p : Nat), (∀ j y, j < p → l[j]? = some y → f y x = -1) → insL f x l = l.take p ++ insL f x (l.drop p)
  | l, 0, _ => by simp
  | [], p + 1, _ => by simp
  | y :: l, p + 1, h => by
    have h0 : f y x = -1 := h 0 y (by omega) rfl
    have ih := insL_take f x l p fun j z hj hz => h (j + 1) z (by omega) (by simpa using hz)
    rw [show insL f x (y :: l) = y :: insL f x l by rw [insL, if_pos h0], ih]
    simp
theorem insL_same {α : Type} {f : α → α → Int} {x y : α} {l : List α} {p : Nat} (h : ∀ j y, j < p → l[j]? = some y → f y x = -1) (hy : l[p]? = some y) (h0 : f y x = 0) : insL f x l = l := by
  obtain ⟨hlt, e⟩ := List.getElem?_eq_some_iff.1 hy
  rw [insL_take f x l p h, List.drop_eq_getElem_cons hlt, e, insL, if_neg (by omega), if_pos h0, ← e, ← List.drop_eq_getElem_cons hlt, List.take_append_drop]
theorem insL_put {α : Type} {f : α → α → Int} {x : α} {l : List α} {p : Nat} (h : ∀ j y, j < p → l[j]? = some y → f y x = -1) (hy : ∀ y, l[p]? = some y → f y x ≠ -1 ∧ f y x ≠ 0) : insL f x l = l.take p ++ x :: l.drop p := by
  rw [insL_take f x l p h]
  by_cases hlt : p < l.length
  · have := hy _ (List.getElem?_eq_getElem hlt)
    rw [List.drop_eq_getElem_cons hlt, insL, if_neg this.1, if_neg this.2]
  · rw [List.drop_eq_nil_of_le (by omega)]; rfl
/-- a row of which the last ones have been moved on by one -/
def shiftL {α : Type} (l : List α) (x : α) (n : Nat) : List α := (l ++ [x]).take (n + 1) ++ l.drop n
theorem shiftL_all {α : Type} (l : List α) (x : α) : shiftL l x l.length = l ++ [x] := by
  unfold shiftL; rw [List.drop_length, List.append_nil, List.take_of_length_le (by simp)]
theorem shiftL_len {α : Type} (l : List α) (x : α) (n : Nat) (h : n ≤ l.length) : (shiftL l x n).length = l.length + 1 := by
  unfold shiftL; simp; omega
theorem shiftL_at {α : Type} (l : List α) (x : α) (n : Nat) (h : n < l.length) : (shiftL l x (n + 1))[n]? = l[n]? := by
  unfold shiftL
  rw [List.getElem?_append_left (by simp; omega), List.getElem?_take_of_lt (by omega), List.getElem?_append_left h]
theorem shiftL_set {α : Type} (l : List α) (x y : α) (n : Nat) (h : n ≤ l.length) : (shiftL l x n).set n y = l.take n ++ y :: l.drop n := by
  unfold shiftL
  have h1 : (l ++ [x]).take (n + 1) = l.take n ++ [(l ++ [x])[n]'(by simp; omega)] := by
    rw [← List.take_append_getElem (by simp; omega : n < (l ++ [x]).length), List.take_append_of_le_length h]
  have hl : (l.take n).length = n := by rw [List.length_take]; omega
  rw [h1, List.append_assoc, List.set_append_right _ _ (by omega), hl, Nat.sub_self]
  rfl
theorem shiftL_step {α : Type} {l : List α} (x : α) {y : α} {n : Nat} (h : l[n]? = some y) : (shiftL l x (n + 1)).set (n + 1) y = shiftL l x n := by
  obtain ⟨hlt, e⟩ := List.getElem?_eq_some_iff.1 h
  rw [shiftL_set l x y (n + 1) (by omega)]
  unfold shiftL
  rw [List.take_append_of_le_length (by omega : n + 1 ≤ l.length), List.drop_eq_getElem_cons hlt, e, ← List.take_append_getElem hlt, e, List.append_assoc]
abbrev Blk := Lit × Nat × Nat
def cmpY (y z : Blk) : Int := cmpL y.1 z.1
def setM (w : World) (g j : Nat) (y : Blk) : World :=
  ((((((w.setCell ⟨g, j, none⟩ (.int .i64 y.1.k)).setCell ⟨g, j + 1, none⟩ (.string y.1.p)).setCell ⟨g, j + 2, none⟩ (.slice (some ⟨y.2.1, 0, none⟩) y.1.a.length y.2.2)).setCell ⟨g, j + 3, none⟩ (.bool y.1.l.1)).setCell ⟨g, j + 4, none⟩ (.string y.1.l.2)).setCell ⟨g, j + 5, none⟩ (.bool y.1.r.1)).setCell ⟨g, j + 6, none⟩ (.string y.1.r.2)
theorem flatL_set : ∀ (L : List Blk) (k : Nat) (y : Blk), k < L.length → flatL (L.set k y) = (((((((flatL L).set (k * 7) (.int .i64 y.1.k)).set (k * 7 + 1) (.string y.1.p)).set (k * 7 + 2) (.slice (some ⟨y.2.1, 0, none⟩) y.1.a.length y.2.2)).set (k * 7 + 3) (.bool y.1.l.1)).set (k * 7 + 4) (.string y.1.l.2)).set (k * 7 + 5) (.bool y.1.r.1)).set (k * 7 + 6) (.string y.1.r.2)
  | [], _, _, h => by simp at h
  | z :: L, 0, y, _ => by simp [flatL, cellL, litV]
  | z :: L, k + 1, y, h => by
    have ih := flatL_set L k y (by simpa using h)
    have h1 : flatL (z :: L) = cellL z ++ flatL L := rfl
    have e : ∀ o, (k + 1) * 7 + o - 7 = k * 7 + o := fun o => by omega
    rw [List.set_cons_succ, h1]
    rw [List.set_append_right _ _ (by rw [cellL_len]; omega), List.set_append_right _ _ (by rw [cellL_len]; omega), List.set_append_right _ _ (by rw [cellL_len]; omega), List.set_append_right _ _ (by rw [cellL_len]; omega), List.set_append_right _ _ (by rw [cellL_len]; omega), List.set_append_right _ _ (by rw [cellL_len]; omega), List.set_append_right _ _ (by rw [cellL_len]; omega), cellL_len]
    rw [e, e, e, e, e, e, show (k + 1) * 7 - 7 = k * 7 from by omega, ← ih]
    rfl
section
variable {w w' : World} {M g n c : Nat} {Z : List Blk} {k : Nat} {y : Blk}
theorem row_set (h : w.ownsRow M 44 7 (.slice (some ⟨g, 0, none⟩) n c) n (flatL Z)) (hk : k < Z.length) (y : Blk) : (setM w g (k * 7) y).ownsRow M 44 7 (.slice (some ⟨g, 0, none⟩) n c) n (flatL (Z.set k y)) := by
  rw [flatL_set Z k y hk]
  exact own_putI (own_putI (own_putI (own_putI (own_putI (own_putI (own_putI h))))))
theorem grown_setM (w : World) (g j : Nat) (y : Blk) : w.grownBy (setM w g j y) (some g) :=
  (((((((grown_set _ _ _ _).trans (grown_set _ _ _ _)).trans (grown_set _ _ _ _)).trans (grown_set _ _ _ _)).trans (grown_set _ _ _ _)).trans (grown_set _ _ _ _)).trans (grown_set _ _ _ _))
theorem row_cells (h : w.ownsRow M 44 7 (.slice (some ⟨g, 0, none⟩) n c) n (flatL Z)) (hk : Z[k]? = some y) :
    w.cell? ⟨g, k * 7, none⟩ = some (.int .i64 y.1.k) ∧ w.cell? ⟨g, k * 7 + 1, none⟩ = some (.string y.1.p) ∧ w.cell? ⟨g, k * 7 + 2, none⟩ = some (.slice (some ⟨y.2.1, 0, none⟩) y.1.a.length y.2.2) ∧ w.cell? ⟨g, k * 7 + 3, none⟩ = some (.bool y.1.l.1) ∧ w.cell? ⟨g, k * 7 + 4, none⟩ = some (.string y.1.l.2) ∧ w.cell? ⟨g, k * 7 + 5, none⟩ = some (.bool y.1.r.1) ∧ w.cell? ⟨g, k * 7 + 6, none⟩ = some (.string y.1.r.2) := by
  have key : ∀ o u, o < 7 → (cellL y)[o]? = some u → w.cell? ⟨g, k * 7 + o, none⟩ = some u := fun o u ho hu => by
    have := h.cells (g := g) rfl (k * 7 + o) u (by
      have := pr_flat_get cellL 7 cellL_len Z k o ho
      rw [hk] at this
      exact this.trans hu)
    rw [addr_add, Nat.zero_add] at this
    exact this
  exact ⟨key 0 _ (by decide) rfl, key 1 _ (by decide) rfl, key 2 _ (by decide) rfl, key 3 _ (by decide) rfl, key 4 _ (by decide) rfl, key 5 _ (by decide) rfl, key 6 _ (by decide) rfl⟩
theorem lit_box {b : Nat} (h : w.heap[b]? = some (.cells (litV y.1 (some ⟨y.2.1, 0, none⟩) y.2.2) 44)) :
    w.cell? ⟨b, 0, none⟩ = some (.int .i64 y.1.k) ∧ w.cell? ⟨b, 1, none⟩ = some (.string y.1.p) ∧ w.cell? ⟨b, 2, none⟩ = some (.slice (some ⟨y.2.1, 0, none⟩) y.1.a.length y.2.2) ∧ w.cell? ⟨b, 3, none⟩ = some (.bool y.1.l.1) ∧ w.cell? ⟨b, 4, none⟩ = some (.string y.1.l.2) ∧ w.cell? ⟨b, 5, none⟩ = some (.bool y.1.r.1) ∧ w.cell? ⟨b, 6, none⟩ = some (.string y.1.r.2) := by
  simp [World.cell?, h, litV]
theorem lit_live {b : Nat} {cs : Array Value} {e : TypeId} (h : w.heap[b]? = some (.cells cs e)) (j : Nat) : w.frozen? ⟨b, j, none⟩ = false := by simp [World.frozen?, h]
end
/-- a literal with blocks that are there from world W2 on, at lo or beyond -/
def InB (W2 : World) (lo : Nat) (y : Blk) : Prop := TermsM W2 y.2.1 y.1.a y.2.2 ∧ lo ≤ y.2.1 ∧ (y.1.p.size ≤ 1048576 ∧ y.1.l.2.size ≤ 1048576 ∧ y.1.r.2.size ≤ 1048576)
def turnY (y : Blk) : Blk := (turnL y.1, y.2)
theorem InB.turn {W2 : World} {lo : Nat} {y : Blk} (h : InB W2 lo y) : InB W2 lo (turnY y) := by
  obtain ⟨h1, h2, h3, h4, h5⟩ := h
  unfold turnY turnL
  split
  · exact ⟨h1, h2, h3, h5, h4⟩
  · exact ⟨h1, h2, h3, h4, h5⟩
/-- the body that is put together: an owned row -/
structure OS (W2 : World) (lo : Nat) (wr : World) (v : Value) (Q : List Blk) : Prop where
  own : wr.ownsRow W2.heap.size 44 7 v Q.length (flatL Q)
  el : ∀ y ∈ Q, InB W2 lo y
  bel : Below W2.heap.size W2 wr
section
variable {W2 wr w' : World} {lo : Nat} {v : Value} {Q : List Blk}
theorem OS.below (h : OS W2 lo wr v Q) (hb : Below wr.heap.size wr w') : OS W2 lo w' v Q := ⟨own_below h.own hb, h.el, h.bel.trans (hb.mono h.bel.size)⟩
/-- a block that is none of the row's was written to -/
theorem OS.other {b : Nat} (h : OS W2 lo wr v Q) (hg : wr.grownBy w' (some b)) (hne : v.ownBlock ≠ some b) (hb : W2.heap.size ≤ b) : OS W2 lo w' v Q :=
  ⟨h.own.kept hg (by
    cases ho : v.ownBlock with
    | none => exact .inl rfl
    | some k => exact .inr (fun e => hne (ho.trans e))), h.el, h.bel.grown hg h.bel.size (fun k e => by injection e with e; omega)⟩
theorem OS.terms (h : OS W2 lo wr v Q) {y : Blk} (hy : InB W2 lo y) : Terms wr (some ⟨y.2.1, 0, none⟩) y.1.a := (hy.1.same (h.bel.block _ hy.1.lt)).terms
/-- such a row is a row of literals that stays -/
theorem OS.lits {a : Option Addr} {n c : Nat} (h : OS W2 lo wr (.slice a n c) Q) (hl : Q.length ≤ 1048576) (W : World) (hlo : lo ≤ W2.heap.size) (hs : Stay lo wr.heap.size wr W) : Lits W a (Q.map (·.1)) := by
  refine ⟨by rw [List.length_map]; exact hl, fun j x hj => ?_, fun x hx => ?_⟩
  · rw [List.getElem?_map] at hj
    cases hy : Q[j]? with
    | none => rw [hy] at hj; cases hj
    | some y =>
      rw [hy] at hj
      cases hj
      have hW : W.ownsRow W2.heap.size 44 7 (.slice a n c) Q.length (flatL Q) := own_range h.own (fun k h1 h2 => hs k (Nat.le_trans hlo h1) h2)
      have hlt := (List.getElem?_eq_some_iff.1 hy).1
      obtain ⟨g, cap, e, -⟩ := own_some hW (by omega)
      injection e with e1 e2 e3
      subst e1 e2 e3
      obtain ⟨c0, c1, c2, c3, c4, c5, c6⟩ := row_cells hW hy
      have hel := h.el y (List.mem_of_getElem? hy)
      have ht := ((hel.1.same (h.bel.block _ hel.1.lt)).same (hs _ hel.2.1 (hel.1.same (h.bel.block _ hel.1.lt)).lt)).terms
      refine ⟨_, some ⟨y.2.1, 0, none⟩, y.2.2, rfl, ?_, ?_, ?_, ?_, ?_, ?_, ?_, ht⟩
      all_goals rw [addr_add, Nat.zero_add]
      · exact c0
      · exact c1
      · exact c2
      · exact c3
      · exact c4
      · exact c5
      · exact c6
  · obtain ⟨y, hy, rfl⟩ := List.mem_map.1 hx
    exact (h.el y hy).2.2
end
end Go.Proofs.YtoklbofobcloaaaDoor
