/- Normal: a rule that stays while the blocks of a range stay; what may be written over. -/
import Derived.Test.YtoklbofobcloaaaDoorNmO
namespace Go.Proofs.YtoklbofobcloaaaDoor
open Go.RowKit Go.Sort Go.Shelf
set_option linter.unusedVariables false
/-- the blocks of lo .. hi are the same -/
def Stay (lo hi : Nat) (w W : World) : Prop := ∀ k, lo ≤ k → k < hi → W.heap[k]? = w.heap[k]?
theorem Stay.refl (lo hi : Nat) (w : World) : Stay lo hi w w := fun _ _ _ => rfl
theorem Stay.trans {lo hi : Nat} {w w1 w2 : World} (h : Stay lo hi w w1) (h2 : Stay lo hi w1 w2) : Stay lo hi w w2 := fun k a b => (h2 k a b).trans (h k a b)
theorem Stay.of {lo hi : Nat} {w W : World} (h : Below w.heap.size w W) (hh : hi ≤ w.heap.size) : Stay lo hi w W := fun k _ b => h.block k (Nat.lt_of_lt_of_le b hh)
theorem own_range {w W : World} {base size n : Nat} {e : TypeId} {v : Value} {xs : List Value} (h : w.ownsRow base e size v n xs) (hs : Stay base w.heap.size w W) : W.ownsRow base e size v n xs := by
  refine ⟨h.1, ?_⟩
  rcases h.2 with h0 | ⟨g, cap, cur, rfl, h1, h2, h3⟩
  · exact .inl h0
  · exact .inr ⟨g, cap, cur, rfl, h1, (hs g h1 (Array.getElem?_eq_some_iff.1 h2).1).trans h2, h3⟩
/-- a rule in memory that stays as long as the blocks of lo .. hi stay -/
def Rl (w : World) (lo hi : Nat) (va vb : Value) (r : Rul) : Prop := ∃ a c b d, va = .slice a r.a.length c ∧ vb = .slice b r.b.length d ∧ ∀ W, Stay lo hi w W → Terms W a r.a ∧ Lits W b r.b
theorem Rl.stay {w W : World} {lo hi : Nat} {va vb : Value} {r : Rul} (h : Rl w lo hi va vb r) (hs : Stay lo hi w W) : Rl W lo hi va vb r :=
  let ⟨a, c, b, d, h1, h2, h3⟩ := h; ⟨a, c, b, d, h1, h2, fun V hV => h3 V (hs.trans hV)⟩
theorem TRow.range {w W : World} {base : Nat} {v : Value} {l : List Tm} (h : TRow w base v l) (hs : Stay base w.heap.size w W) : TRow W base v l := ⟨own_range h.own hs, h.len, h.size⟩
theorem LRow.range {w W : World} {base : Nat} {v : Value} {L : List LV} (h : LRow w base v L) (hs : Stay base w.heap.size w W) : LRow W base v L := ⟨own_range h.own hs, h.len, fun y hy => (h.inner y hy).range hs, h.size⟩
theorem RRow.range {w W : World} {base : Nat} {va vb : Value} {r : Rul} (h : RRow w base va vb r) (hs : Stay base w.heap.size w W) : RRow W base va vb r := ⟨h.1.range hs, let ⟨L, h1, h2⟩ := h.2; ⟨L, h1.range hs, h2⟩⟩
theorem RRow.rl {w : World} {base : Nat} {va vb : Value} {r : Rul} (h : RRow w base va vb r) : Rl w base w.heap.size va vb r := by
  obtain ⟨a, c, b, d, rfl, rfl, -, -⟩ := h.form
  refine ⟨a, c, b, d, rfl, rfl, fun W hW => ?_⟩
  obtain ⟨a2, c2, b2, d2, e1, e2, h1, h2⟩ := (h.range hW).form
  injection e1 with e1
  injection e2 with e2
  subst e1 e2
  exact ⟨h1, h2⟩
theorem TermsM.lt {w : World} {g c : Nat} {l : List Tm} (h : TermsM w g l c) : g < w.heap.size := heap_lt_cell h.marked.1
/-- a copied rule stays so -/
theorem copied_rl {w : World} {lo g c B cB : Nat} {h : ByteArray} {l : List Tm} {L : List (Lit × Nat × Nat)} (hT : TermsM w g l c) (hL : LitsM w B L cB) (h1 : lo ≤ g) (h2 : lo ≤ B) (h3 : ∀ y ∈ L, lo ≤ y.2.1) {b : List Lit} (hb : L.map (·.1) = b) :
    Rl w lo w.heap.size (.slice (some ⟨g, 0, none⟩) l.length c) (.slice (some ⟨B, 0, none⟩) b.length cB) ⟨h, l, b⟩ := by
  refine ⟨_, _, _, _, rfl, rfl, fun W hW => ⟨(hT.same (hW g h1 hT.lt)).terms, ?_⟩⟩
  rw [← hb]
  exact (hL.same (hW B h2 hL.lt) (fun y hy => hW _ (h3 y hy) (hL.inner y hy).lt)).lits
/-- what lies outside of lo .. hi stays -/
structure Fr (lo hi : Nat) (w w' : World) : Prop where
  os : w'.os = w.os
  tape : w'.tape = w.tape
  output : w'.output = w.output
  size : w.heap.size ≤ w'.heap.size
  block : ∀ k, k < w.heap.size → (k < lo ∨ hi ≤ k) → w'.heap[k]? = w.heap[k]?
section
variable {lo hi : Nat} {w w1 w2 w' : World}
theorem Fr.refl (lo hi : Nat) (w : World) : Fr lo hi w w := ⟨rfl, rfl, rfl, Nat.le_refl _, fun _ _ _ => rfl⟩
theorem Fr.trans (h : Fr lo hi w w1) (h2 : Fr lo hi w1 w2) : Fr lo hi w w2 :=
  ⟨h2.os.trans h.os, h2.tape.trans h.tape, h2.output.trans h.output, Nat.le_trans h.size h2.size, fun k hk ho => (h2.block k (Nat.lt_of_lt_of_le hk h.size) ho).trans (h.block k hk ho)⟩
theorem Fr.of (h : Below w.heap.size w w') : Fr lo hi w w' := ⟨h.os, h.tape, h.output, h.size, fun k hk _ => h.block k hk⟩
theorem Fr.one {r : Option Nat} (h : Fr lo hi w w1) (hg : w1.grownBy w2 r) (hr : ∀ k, r = some k → (lo ≤ k ∧ k < hi) ∨ w.heap.size ≤ k) : Fr lo hi w w2 :=
  ⟨hg.os.trans h.os, hg.tape.trans h.tape, hg.output.trans h.output, Nat.le_trans h.size hg.size, fun k hk ho => (hg.block k (Nat.lt_of_lt_of_le hk h.size) (fun e => by
    rcases hr k e.symm with h1 | h1
    · rcases ho with h2 | h2 <;> omega
    · omega)).trans (h.block k hk ho)⟩
theorem Fr.bel {B : Nat} (h : Fr lo hi w w') (hB : B ≤ lo) (hs : B ≤ w.heap.size) : Below B w w' :=
  ⟨h.os, h.tape, h.output, h.size, fun k hk => h.block k (by omega) (.inl (by omega))⟩
theorem Fr.stay {lo2 hi2 : Nat} (h : Fr lo hi w w') (hd : hi2 ≤ lo ∨ hi ≤ lo2) (hs : hi2 ≤ w.heap.size) : Stay lo2 hi2 w w' := fun k h1 h2 => h.block k (by omega) (by omega)
end
/-- a row whose content does not matter; all in lo .. hi -/
def Any (w : World) (lo hi : Nat) (e : TypeId) (size : Nat) (v : Value) (n : Nat) : Prop := (∃ xs, w.ownsRow lo e size v n xs) ∧ ∀ k, v.ownBlock = some k → k < hi
theorem Any.stay {w W : World} {lo hi size n : Nat} {e : TypeId} {v : Value} (h : Any w lo hi e size v n) (hs : Stay lo hi w W) : Any W lo hi e size v n := by
  obtain ⟨⟨xs, h1, h2⟩, h3⟩ := h
  refine ⟨⟨xs, h1, ?_⟩, h3⟩
  rcases h2 with h0 | ⟨g, cap, cur, rfl, h4, h5, h6⟩
  · exact .inl h0
  · exact .inr ⟨g, cap, cur, rfl, h4, (hs g h4 (h3 g rfl)).trans h5, h6⟩
theorem Any.of {w : World} {lo size n : Nat} {e : TypeId} {v : Value} {xs : List Value} (h : w.ownsRow lo e size v n xs) : Any w lo w.heap.size e size v n :=
  ⟨⟨xs, h⟩, fun k hk => by
    rcases h.2 with ⟨rfl, -⟩ | ⟨g, cap, cur, rfl, -, h5, -⟩
    · cases hk
    · simp only [Value.ownBlock, Option.some.injEq] at hk
      subst hk
      exact (Array.getElem?_eq_some_iff.1 h5).1⟩
/-- a cell is written over: the row is still one -/
theorem Any.set {w : World} {lo hi size n : Nat} {e : TypeId} {v : Value} (h : Any w lo hi e size v n) (g j : Nat) (u : Value) : Any (w.setCell ⟨g, j, none⟩ u) lo hi e size v n := by
  obtain ⟨⟨xs, h1⟩, h3⟩ := h
  refine ⟨?_, h3⟩
  rcases h1.2 with h0 | ⟨g', cap, cur, rfl, h4, h5, h6⟩
  · exact ⟨xs, h1.1, .inl h0⟩
  · by_cases hg : g' = g
    · subst hg
      exact ⟨_, (h1.stored j u).1⟩
    · exact ⟨xs, h1.1, .inr ⟨g', cap, cur, rfl, h4, (heap_setCell_other _ _ _ _ hg).trans h5, h6⟩⟩
theorem Any.cell {w : World} {lo hi size n g c : Nat} {e : TypeId} (h : Any w lo hi e size (.slice (some ⟨g, 0, none⟩) n c) n) (j : Nat) (hj : j < n * size) : ∃ u, w.cell? ⟨g, j, none⟩ = some u := by
  obtain ⟨⟨xs, h1⟩, -⟩ := h
  rw [h1.cellAt j hj]
  exact ⟨_, List.getElem?_eq_getElem (by rw [h1.1]; exact hj)⟩
theorem Any.form {w : World} {lo hi size n : Nat} {e : TypeId} {v : Value} (h : Any w lo hi e size v n) : (v = .slice none 0 0 ∧ n = 0) ∨ ∃ g c, v = .slice (some ⟨g, 0, none⟩) n c ∧ lo ≤ g ∧ g < hi := by
  obtain ⟨⟨xs, -, h1⟩, h3⟩ := h
  rcases h1 with h0 | ⟨g, cap, cur, rfl, h4, -⟩
  · exact .inl h0
  · exact .inr ⟨g, cap, rfl, h4, h3 g rfl⟩
/-- a rule that may be written over: from literal k on its body's cells are as they were -/
structure Wr (w : World) (lo hi : Nat) (va : Value) (na : Nat) (vb : Value) (L : List LV) (k : Nat) : Prop where
  args : Any w lo hi 33 2 va na
  bod : Any w lo hi 44 7 vb L.length
  old : ∀ i (h : i < L.length), k ≤ i → ∃ g d, vb = .slice (some ⟨g, 0, none⟩) L.length d ∧ w.cell? ⟨g, i * 7 + 2, none⟩ = some L[i].2
  inner : ∀ y ∈ L, Any w lo hi 33 2 y.2 y.1.a.length
section
variable {w W : World} {lo hi na k : Nat} {va vb : Value} {L : List LV}
theorem Wr.stay (h : Wr w lo hi va na vb L k) (hs : Stay lo hi w W) : Wr W lo hi va na vb L k :=
  ⟨h.args.stay hs, h.bod.stay hs, fun i hi hk => by
    obtain ⟨g, d, e, h1⟩ := h.old i hi hk
    refine ⟨g, d, e, ?_⟩
    rcases h.bod.form with ⟨e2, h0⟩ | ⟨g2, c2, e2, h2, h3⟩
    · omega
    · rw [e] at e2
      injection e2 with e2
      injection e2 with e2
      injection e2 with e2
      subst e2
      rw [World.cell?_of_block (hs g h2 h3)]
      exact h1, fun y hy => (h.inner y hy).stay hs⟩
/-- a cell of a row of terms was written over -/
theorem Wr.inset (h : Wr w lo hi va na vb L k) {g j : Nat} {u : Value} {v : Value} {n : Nat} (hv : Any w lo hi 33 2 v n) (hg : v.ownBlock = some g) : Wr (w.setCell ⟨g, j, none⟩ u) lo hi va na vb L k :=
  ⟨h.args.set _ _ _, h.bod.set _ _ _, fun i hi hk => by
    obtain ⟨g2, d, e, h1⟩ := h.old i hi hk
    refine ⟨g2, d, e, ?_⟩
    have hne : g2 ≠ g := fun e2 => by
      subst e2
      obtain ⟨⟨xs, h2⟩, -⟩ := h.bod
      obtain ⟨⟨ys, h3⟩, -⟩ := hv
      rcases own_diff h2 h3 (by decide) with h4 | h4
      · rw [e] at h4; cases h4
      · exact h4 (by rw [hg, e]; rfl)
    rw [World.cell?_of_block (heap_setCell_other _ _ _ _ hne)]
    exact h1, fun y hy => (h.inner y hy).set _ _ _⟩
/-- a cell of the body's row ahead of k was written over -/
theorem Wr.set (h : Wr w lo hi va na vb L k) {g d j : Nat} {u : Value} (hv : vb = .slice (some ⟨g, 0, none⟩) L.length d) (hj : j < k * 7) : Wr (w.setCell ⟨g, j, none⟩ u) lo hi va na vb L k :=
  ⟨h.args.set _ _ _, h.bod.set _ _ _, fun i hi hk => by
    obtain ⟨g2, d2, e, h1⟩ := h.old i hi hk
    refine ⟨g2, d2, e, ?_⟩
    rw [World.cell?_setCell_other _ _ _ _ (fun e => by injection e with _ e; omega)]
    exact h1, fun y hy => (h.inner y hy).set _ _ _⟩
theorem Wr.next (h : Wr w lo hi va na vb L k) {k' : Nat} (hk : k ≤ k') : Wr w lo hi va na vb L k' := ⟨h.args, h.bod, fun i hi hki => h.old i hi (by omega), h.inner⟩
end
/-- what is owned may be written over -/
theorem RRow.wr {w : World} {base : Nat} {va vb : Value} {r : Rul} (h : RRow w base va vb r) : ∃ L : List LV, L.length = r.b.length ∧ (∀ y ∈ L, y.1.a.length ≤ 1048576) ∧ Wr w base w.heap.size va r.a.length vb L 0 := by
  obtain ⟨h1, L, h2, h3⟩ := h
  refine ⟨L, by rw [← h3, List.length_map], fun y hy => (h2.inner y hy).len, .of h1.own, .of h2.own, fun i hi _ => ?_, fun y hy => .of (h2.inner y hy).own⟩
  obtain ⟨g, cap, rfl, -⟩ := own_some h2.own (by omega)
  refine ⟨g, cap, rfl, ?_⟩
  rw [h2.own.cellAt (i * 7 + 2) (by omega), show flatV L = L.flatMap cellV from rfl, pr_flat_get cellV 7 cellV_len L i 2 (by omega), List.getElem?_eq_getElem hi]
  rfl
end Go.Proofs.YtoklbofobcloaaaDoor
