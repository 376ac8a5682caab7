/- Normal: a copied rule, of which terms are put. -/
import Derived.Test.YtoklbofobcloaaaDoorQaA
import Derived.Test.YtoklbofobcloaaaDoorNpF
import Derived.Test.YtoklbofobcloaaaDoorNmT
namespace Go.Proofs.YtoklbofobcloaaaDoor
open Go.RowKit Go.Sort Go.Shelf
set_option linter.unusedVariables false
/-- the first k are done -/
def partL {α : Type} (F : α → α) (l : List α) (k : Nat) : List α := (l.take k).map F ++ l.drop k
theorem partL_len {α : Type} (F : α → α) (l : List α) (k : Nat) (h : k ≤ l.length) : (partL F l k).length = l.length := by
  unfold partL; rw [List.length_append, List.length_map, List.length_take, List.length_drop]; omega
theorem partL_at {α : Type} {F : α → α} {l : List α} {k : Nat} {x : α} (h : l[k]? = some x) : (partL F l k)[k]? = some x := by
  have hlt := (List.getElem?_eq_some_iff.1 h).1
  unfold partL
  have hl : ((l.take k).map F).length = k := by rw [List.length_map, List.length_take]; omega
  rw [List.getElem?_append_right (by omega), hl, Nat.sub_self, List.getElem?_drop, Nat.add_zero]
  exact h
theorem partL_succ {α : Type} {F : α → α} {l : List α} {k : Nat} {x : α} (h : l[k]? = some x) : (partL F l k).set k (F x) = partL F l (k + 1) := by
  obtain ⟨hlt, hx⟩ := List.getElem?_eq_some_iff.1 h
  have hl : ((l.take k).map F).length = k := by rw [List.length_map, List.length_take]; omega
  unfold partL
  rw [List.set_append_right _ _ (by omega), hl, Nat.sub_self, List.drop_eq_getElem_cons hlt, hx, List.set_cons_zero, ← List.take_append_getElem hlt, List.map_append, hx]
  simp
theorem partL_zero {α : Type} (F : α → α) (l : List α) : partL F l 0 = l := by simp [partL]
theorem partL_all {α : Type} (F : α → α) (l : List α) : partL F l l.length = l.map F := by simp [partL]
theorem cells_set {w : World} {g k : Nat} {xs : List Value} (h : ∀ j u, xs[j]? = some u → w.cell? ⟨g, j, none⟩ = some u) (hk : k < xs.length) (v : Value) : ∀ j u, (xs.set k v)[j]? = some u → (w.setCell ⟨g, k, none⟩ v).cell? ⟨g, j, none⟩ = some u := by
  intro j u hj
  rw [List.getElem?_set] at hj
  by_cases hjk : k = j
  · subst hjk
    rw [if_pos rfl, if_pos hk] at hj
    injection hj with hj
    subst hj
    exact World.cell?_setCell_same _ _ _ (h k _ (List.getElem?_eq_getElem hk))
  · rw [if_neg hjk] at hj
    rw [World.cell?_setCell_other _ _ _ _ (fun e => hjk (by injection e))]
    exact h j u hj
theorem TermsM.at {w : World} {g c : Nat} {l : List Tm} (h : TermsM w g l c) {i : Nat} {x : Tm} (hi : l[i]? = some x) : w.cell? ⟨g, i * 2, none⟩ = some (.bool x.1) ∧ w.cell? ⟨g, i * 2 + 1, none⟩ = some (.string x.2) := by
  obtain ⟨p, e, h1, h2⟩ := h.terms.cells i x hi
  injection e with e
  subst e
  rw [addr_add, Nat.zero_add] at h1
  simp only [addr_add, Nat.zero_add] at h2
  exact ⟨h1, h2⟩
theorem TermsM.set {w : World} {g c : Nat} {l : List Tm} (h : TermsM w g l c) {i : Nat} (hi : i < l.length) (x : Tm) (hx : x.2.size ≤ 1048576) : TermsM ((w.setCell ⟨g, i * 2, none⟩ (.bool x.1)).setCell ⟨g, i * 2 + 1, none⟩ (.string x.2)) g (l.set i x) c := by
  have hl := flatT_len l
  refine ⟨by rw [List.length_set]; exact h.len, ?_, fun y hy => ?_, by rw [List.length_set]; exact h.cap, fun j => by rw [World.frozen?_setCell, World.frozen?_setCell]; exact h.live j⟩
  · have h1 := cells_set (cells_set h.cells (k := i * 2) (by rw [List.length_append]; omega) (.bool x.1)) (k := i * 2 + 1) (by rw [List.length_set, List.length_append]; omega) (.string x.2)
    rw [List.set_append_left _ _ (by omega), List.set_append_left _ _ (by rw [List.length_set]; omega), ← flatT_set l i x hi] at h1
    exact h1
  · rcases List.mem_or_eq_of_mem_set hy with hy | hy
    · exact h.size y hy
    · rw [hy]; exact hx
theorem flatL_left : ∀ (L : List (Lit × Nat × Nat)) (k : Nat) (y : Lit × Nat × Nat) (x : Tm), L[k]? = some y → flatL (L.set k (⟨y.1.k, y.1.p, y.1.a, x, y.1.r⟩, y.2)) = ((flatL L).set (k * 7 + 3) (.bool x.1)).set (k * 7 + 4) (.string x.2)
  | [], _, _, _, h => by simp at h
  | z :: L, 0, y, x, h => by
    have : z = y := by simpa using h
    subst this
    simp [flatL, cellL, litV]
  | z :: L, k + 1, y, x, h => by
    have ih := flatL_left L k y x (by simpa using h)
    have h1 : flatL (z :: L) = cellL z ++ flatL L := rfl
    rw [List.set_cons_succ, h1, List.set_append_right _ _ (by rw [cellL_len]; omega), List.set_append_right _ _ (by rw [cellL_len]; omega), cellL_len, show (k + 1) * 7 + 3 - 7 = k * 7 + 3 from by omega, show (k + 1) * 7 + 4 - 7 = k * 7 + 4 from by omega, ← ih]
    rfl
theorem flatL_right : ∀ (L : List (Lit × Nat × Nat)) (k : Nat) (y : Lit × Nat × Nat) (x : Tm), L[k]? = some y → flatL (L.set k (⟨y.1.k, y.1.p, y.1.a, y.1.l, x⟩, y.2)) = ((flatL L).set (k * 7 + 5) (.bool x.1)).set (k * 7 + 6) (.string x.2)
  | [], _, _, _, h => by simp at h
  | z :: L, 0, y, x, h => by
    have : z = y := by simpa using h
    subst this
    simp [flatL, cellL, litV]
  | z :: L, k + 1, y, x, h => by
    have ih := flatL_right L k y x (by simpa using h)
    have h1 : flatL (z :: L) = cellL z ++ flatL L := rfl
    rw [List.set_cons_succ, h1, List.set_append_right _ _ (by rw [cellL_len]; omega), List.set_append_right _ _ (by rw [cellL_len]; omega), cellL_len, show (k + 1) * 7 + 5 - 7 = k * 7 + 5 from by omega, show (k + 1) * 7 + 6 - 7 = k * 7 + 6 from by omega, ← ih]
    rfl
theorem flatL_args : ∀ (L : List (Lit × Nat × Nat)) (k : Nat) (y : Lit × Nat × Nat) (a : List Tm), L[k]? = some y → a.length = y.1.a.length → flatL (L.set k (⟨y.1.k, y.1.p, a, y.1.l, y.1.r⟩, y.2)) = flatL L
  | [], _, _, _, h, _ => by simp at h
  | z :: L, 0, y, a, h, ha => by
    have : z = y := by simpa using h
    subst this
    simp [flatL, cellL, litV, ha]
  | z :: L, k + 1, y, a, h, ha => by
    have ih := flatL_args L k y a (by simpa using h) ha
    rw [List.set_cons_succ, show flatL (z :: L) = cellL z ++ flatL L from rfl, ← ih]
    rfl
/-- a copied rule: the head's terms in block g, the body in block B; all blocks unlike -/
structure Cp (w : World) (g c B cB : Nat) (l : List Tm) (L : List (Lit × Nat × Nat)) : Prop where
  t : TermsM w g l c
  b : LitsM w B L cB
  up : ∀ y ∈ L, g < y.2.1
  rise : L.Pairwise (fun y z => y.2.1 < z.2.1)
theorem TermsM.zero {w : World} {g c : Nat} {l : List Tm} (h : TermsM w g l c) : ∃ b, w.cell? ⟨g, 0, none⟩ = some (.bool b) := by
  cases l with
  | nil => exact ⟨_, h.cells 0 _ rfl⟩
  | cons x l => exact ⟨_, h.cells 0 _ rfl⟩
theorem LitsM.zero {w : World} {B c : Nat} {L : List (Lit × Nat × Nat)} (h : LitsM w B L c) : ∃ n, w.cell? ⟨B, 0, none⟩ = some (.int .i64 n) := by
  cases L with
  | nil => exact ⟨_, h.cells 0 _ rfl⟩
  | cons x l => exact ⟨_, h.cells 0 _ rfl⟩
theorem TermsM.ne {w : World} {g c B cB : Nat} {l : List Tm} {L : List (Lit × Nat × Nat)} (h : TermsM w g l c) (h2 : LitsM w B L cB) : B ≠ g := by
  rintro rfl
  obtain ⟨b, h1⟩ := h.zero
  obtain ⟨n, h3⟩ := h2.zero
  rw [h1] at h3
  cases h3
section
variable {w : World} {g c B cB k i : Nat} {l : List Tm} {L : List (Lit × Nat × Nat)} {y : Lit × Nat × Nat}
theorem Cp.below {w' : World} (h : Cp w g c B cB l L) (hb : Below w.heap.size w w') : Cp w' g c B cB l L := ⟨h.t.below hb, h.b.below hb, h.up, h.rise⟩
theorem Cp.head (h : Cp w g c B cB l L) (hi : i < l.length) (x : Tm) (hx : x.2.size ≤ 1048576) : Cp ((w.setCell ⟨g, i * 2, none⟩ (.bool x.1)).setCell ⟨g, i * 2 + 1, none⟩ (.string x.2)) g c B cB (l.set i x) L :=
  ⟨h.t.set hi x hx, h.b.same ((heap_setCell_other _ _ _ _ (h.t.ne h.b)).trans (heap_setCell_other _ _ _ _ (h.t.ne h.b))) fun y hy => (heap_setCell_other _ _ _ _ (Nat.ne_of_gt (h.up y hy))).trans (heap_setCell_other _ _ _ _ (Nat.ne_of_gt (h.up y hy))), h.up, h.rise⟩
theorem pair_set (h : L.Pairwise (fun y z => y.2.1 < z.2.1)) (hk : L[k]? = some y) {x : Lit} : (L.set k (x, y.2)).Pairwise (fun y z => y.2.1 < z.2.1) := by
  have hm : (L.set k (x, y.2)).map (·.2) = L.map (·.2) := by
    rw [List.map_set]
    apply List.ext_getElem?
    intro j
    rw [List.getElem?_set]
    split
    · rename_i e
      subst e
      rw [List.getElem?_map, hk]
      have := (List.getElem?_eq_some_iff.1 hk).1
      simp [this]
    · rfl
  have h1 : (L.map (·.2)).Pairwise (fun y z => y.1 < z.1) := (List.pairwise_map (R := fun (a b : Nat × Nat) => a.1 < b.1)).2 h
  rw [← hm] at h1
  exact (List.pairwise_map (R := fun (a b : Nat × Nat) => a.1 < b.1)).1 h1
theorem up_set (h : ∀ y ∈ L, g < y.2.1) (hk : L[k]? = some y) {x : Lit} : ∀ z ∈ L.set k (x, y.2), g < z.2.1 := by
  intro z hz
  rcases List.mem_or_eq_of_mem_set hz with hz | hz
  · exact h z hz
  · rw [hz]; exact h y (List.mem_of_getElem? hk)
theorem Cp.arg (h : Cp w g c B cB l L) (hk : L[k]? = some y) (hi : i < y.1.a.length) (x : Tm) (hx : x.2.size ≤ 1048576) : Cp ((w.setCell ⟨y.2.1, i * 2, none⟩ (.bool x.1)).setCell ⟨y.2.1, i * 2 + 1, none⟩ (.string x.2)) g c B cB l (L.set k (⟨y.1.k, y.1.p, y.1.a.set i x, y.1.l, y.1.r⟩, y.2)) := by
  have hm := List.mem_of_getElem? hk
  obtain ⟨hlt, hy⟩ := List.getElem?_eq_some_iff.1 hk
  have hg := Nat.ne_of_lt (h.up y hm)
  have hB := (h.b.inner y hm).ne h.b
  refine ⟨h.t.same ((heap_setCell_other _ _ _ _ hg).trans (heap_setCell_other _ _ _ _ hg)), ⟨by rw [List.length_set]; exact h.b.len, ?_, fun z hz => ?_, fun z hz => ?_, by rw [List.length_set]; exact h.b.cap, fun j => by rw [World.frozen?_setCell, World.frozen?_setCell]; exact h.b.live j⟩, up_set h.up hk, pair_set h.rise hk⟩
  · rw [flatL_args L k y _ hk (by rw [List.length_set])]
    intro j u hj
    rw [World.cell?_setCell_other _ _ _ _ (fun e => hB (by injection e with e; exact e.symm)), World.cell?_setCell_other _ _ _ _ (fun e => hB (by injection e with e; exact e.symm))]
    exact h.b.cells j u hj
  · obtain ⟨j, hj, e⟩ := List.mem_iff_getElem.1 hz
    rw [List.length_set] at hj
    rw [List.getElem_set] at e
    split at e
    · subst e
      exact (h.b.inner y hm).set hi x hx
    · rename_i hne
      subst e
      have hd : L[j].2.1 ≠ y.2.1 := by
        rcases Nat.lt_trichotomy j k with hjk | hjk | hjk
        · have := List.pairwise_iff_getElem.1 h.rise j k hj hlt hjk
          rw [hy] at this
          omega
        · exact absurd hjk.symm hne
        · have := List.pairwise_iff_getElem.1 h.rise k j hlt hj hjk
          rw [hy] at this
          omega
      exact (h.b.inner _ (List.getElem_mem hj)).same ((heap_setCell_other _ _ _ _ hd).trans (heap_setCell_other _ _ _ _ hd))
  · rcases List.mem_or_eq_of_mem_set hz with hz | hz
    · exact h.b.size z hz
    · rw [hz]; exact h.b.size y hm
theorem Cp.left (h : Cp w g c B cB l L) (hk : L[k]? = some y) (x : Tm) (hx : x.2.size ≤ 1048576) : Cp ((w.setCell ⟨B, k * 7 + 3, none⟩ (.bool x.1)).setCell ⟨B, k * 7 + 4, none⟩ (.string x.2)) g c B cB l (L.set k (⟨y.1.k, y.1.p, y.1.a, x, y.1.r⟩, y.2)) := by
  have hm := List.mem_of_getElem? hk
  obtain ⟨hlt, hy⟩ := List.getElem?_eq_some_iff.1 hk
  have hl := flatL_len L
  have hgB := h.t.ne h.b
  refine ⟨h.t.same ((heap_setCell_other _ _ _ _ hgB.symm).trans (heap_setCell_other _ _ _ _ hgB.symm)), ⟨by rw [List.length_set]; exact h.b.len, ?_, fun z hz => ?_, fun z hz => ?_, by rw [List.length_set]; exact h.b.cap, fun j => by rw [World.frozen?_setCell, World.frozen?_setCell]; exact h.b.live j⟩, up_set h.up hk, pair_set h.rise hk⟩
  · have h1 := cells_set (cells_set h.b.cells (k := k * 7 + 3) (by rw [List.length_append]; omega) (.bool x.1)) (k := k * 7 + 4) (by rw [List.length_set, List.length_append]; omega) (.string x.2)
    rw [List.set_append_left _ _ (by omega), List.set_append_left _ _ (by rw [List.length_set]; omega), ← flatL_left L k y x hk] at h1
    exact h1
  · have key : ∀ z ∈ L, TermsM ((w.setCell ⟨B, k * 7 + 3, none⟩ (.bool x.1)).setCell ⟨B, k * 7 + 4, none⟩ (.string x.2)) z.2.1 z.1.a z.2.2 := fun z hz =>
      (h.b.inner z hz).same ((heap_setCell_other _ _ _ _ ((h.b.inner z hz).ne h.b).symm).trans (heap_setCell_other _ _ _ _ ((h.b.inner z hz).ne h.b).symm))
    rcases List.mem_or_eq_of_mem_set hz with hz | hz
    · exact key z hz
    · rw [hz]; exact key y hm
  · rcases List.mem_or_eq_of_mem_set hz with hz | hz
    · exact h.b.size z hz
    · rw [hz]; exact ⟨(h.b.size y hm).1, hx, (h.b.size y hm).2.2⟩
theorem Cp.right (h : Cp w g c B cB l L) (hk : L[k]? = some y) (x : Tm) (hx : x.2.size ≤ 1048576) : Cp ((w.setCell ⟨B, k * 7 + 5, none⟩ (.bool x.1)).setCell ⟨B, k * 7 + 6, none⟩ (.string x.2)) g c B cB l (L.set k (⟨y.1.k, y.1.p, y.1.a, y.1.l, x⟩, y.2)) := by
  have hm := List.mem_of_getElem? hk
  obtain ⟨hlt, hy⟩ := List.getElem?_eq_some_iff.1 hk
  have hl := flatL_len L
  have hgB := h.t.ne h.b
  refine ⟨h.t.same ((heap_setCell_other _ _ _ _ hgB.symm).trans (heap_setCell_other _ _ _ _ hgB.symm)), ⟨by rw [List.length_set]; exact h.b.len, ?_, fun z hz => ?_, fun z hz => ?_, by rw [List.length_set]; exact h.b.cap, fun j => by rw [World.frozen?_setCell, World.frozen?_setCell]; exact h.b.live j⟩, up_set h.up hk, pair_set h.rise hk⟩
  · have h1 := cells_set (cells_set h.b.cells (k := k * 7 + 5) (by rw [List.length_append]; omega) (.bool x.1)) (k := k * 7 + 6) (by rw [List.length_set, List.length_append]; omega) (.string x.2)
    rw [List.set_append_left _ _ (by omega), List.set_append_left _ _ (by rw [List.length_set]; omega), ← flatL_right L k y x hk] at h1
    exact h1
  · have key : ∀ z ∈ L, TermsM ((w.setCell ⟨B, k * 7 + 5, none⟩ (.bool x.1)).setCell ⟨B, k * 7 + 6, none⟩ (.string x.2)) z.2.1 z.1.a z.2.2 := fun z hz =>
      (h.b.inner z hz).same ((heap_setCell_other _ _ _ _ ((h.b.inner z hz).ne h.b).symm).trans (heap_setCell_other _ _ _ _ ((h.b.inner z hz).ne h.b).symm))
    rcases List.mem_or_eq_of_mem_set hz with hz | hz
    · exact key z hz
    · rw [hz]; exact key y hm
  · rcases List.mem_or_eq_of_mem_set hz with hz | hz
    · exact h.b.size z hz
    · rw [hz]; exact ⟨(h.b.size y hm).1, (h.b.size y hm).2.1, hx⟩
/-- literal k of a copied rule, cell by cell -/
theorem Cp.lit (h : Cp w g c B cB l L) (hk : L[k]? = some y) : w.cell? ⟨B, k * 7 + 2, none⟩ = some (.slice (some ⟨y.2.1, 0, none⟩) y.1.a.length y.2.2) ∧ (w.cell? ⟨B, k * 7 + 3, none⟩ = some (.bool y.1.l.1) ∧ w.cell? ⟨B, k * 7 + 4, none⟩ = some (.string y.1.l.2)) ∧ (w.cell? ⟨B, k * 7 + 5, none⟩ = some (.bool y.1.r.1) ∧ w.cell? ⟨B, k * 7 + 6, none⟩ = some (.string y.1.r.2)) :=
  ⟨h.b.cell k 2 (by decide) hk rfl, ⟨h.b.cell k 3 (by decide) hk rfl, h.b.cell k 4 (by decide) hk rfl⟩, ⟨h.b.cell k 5 (by decide) hk rfl, h.b.cell k 6 (by decide) hk rfl⟩⟩
/-- an argument of it -/
theorem Cp.argAt (h : Cp w g c B cB l L) (hk : L[k]? = some y) {x : Tm} (hi : y.1.a[i]? = some x) : w.cell? ⟨y.2.1, i * 2, none⟩ = some (.bool x.1) ∧ w.cell? ⟨y.2.1, i * 2 + 1, none⟩ = some (.string x.2) := (h.b.inner y (List.mem_of_getElem? hk)).at hi
end
end Go.Proofs.YtoklbofobcloaaaDoor
