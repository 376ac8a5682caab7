/- Normal: Body: literals turned in their row. -/
import Derived.Test.YtoklbofobcloaaaDoorNmT
namespace Go.Proofs.YtoklbofobcloaaaDoor
open Go.RowKit Go.Sort Go.Shelf
attribute [local go_sem ↓] Go.wp_at_zero Go.wp_at_succ
theorem flatV_get (L : List LV) (k o : Nat) (ho : o < 7) : (flatV L)[k * 7 + o]? = (L[k]?).bind fun y => (cellV y)[o]? := pr_flat_get cellV 7 cellV_len L k o ho
theorem flatV_set {L : List LV} {k : Nat} {y z : LV} (h : L[k]? = some y) (hk : z.1.k = y.1.k) (hp : z.1.p = y.1.p) (hv : z.2 = y.2) :
    flatV (L.set k z) = ((((flatV L).set (k * 7 + 3) (.bool z.1.l.1)).set (k * 7 + 4) (.string z.1.l.2)).set (k * 7 + 5) (.bool z.1.r.1)).set (k * 7 + 6) (.string z.1.r.2) := by
  have hlt := (List.getElem?_eq_some_iff.1 h).1
  apply List.ext_getElem?
  intro j
  have hj : j = j / 7 * 7 + j % 7 := by omega
  have hm : j % 7 < 7 := Nat.mod_lt _ (by omega)
  generalize j / 7 = q at hj
  generalize j % 7 = o at hj hm
  subst hj
  rw [flatV_get _ _ _ hm, List.getElem?_set]
  by_cases hq : k = q
  · subst hq
    rw [if_pos rfl, if_pos hlt]
    have h0 := flatV_get L k o hm
    rw [h] at h0
    have e7 : k * 7 + 6 < (flatV L).length := by rw [flatV_len]; omega
    match o, hm with
    | 0, _ => simp only [List.getElem?_set_ne (show k * 7 + 6 ≠ k * 7 + 0 by omega), List.getElem?_set_ne (show k * 7 + 5 ≠ k * 7 + 0 by omega), List.getElem?_set_ne (show k * 7 + 4 ≠ k * 7 + 0 by omega), List.getElem?_set_ne (show k * 7 + 3 ≠ k * 7 + 0 by omega), h0]; simp [cellV, hk]
    | 1, _ => simp only [List.getElem?_set_ne (show k * 7 + 6 ≠ k * 7 + 1 by omega), List.getElem?_set_ne (show k * 7 + 5 ≠ k * 7 + 1 by omega), List.getElem?_set_ne (show k * 7 + 4 ≠ k * 7 + 1 by omega), List.getElem?_set_ne (show k * 7 + 3 ≠ k * 7 + 1 by omega), h0]; simp [cellV, hp]
    | 2, _ => simp only [List.getElem?_set_ne (show k * 7 + 6 ≠ k * 7 + 2 by omega), List.getElem?_set_ne (show k * 7 + 5 ≠ k * 7 + 2 by omega), List.getElem?_set_ne (show k * 7 + 4 ≠ k * 7 + 2 by omega), List.getElem?_set_ne (show k * 7 + 3 ≠ k * 7 + 2 by omega), h0]; simp [cellV, hv]
    | 3, _ => simp only [List.getElem?_set_ne (show k * 7 + 6 ≠ k * 7 + 3 by omega), List.getElem?_set_ne (show k * 7 + 5 ≠ k * 7 + 3 by omega), List.getElem?_set_ne (show k * 7 + 4 ≠ k * 7 + 3 by omega)]; rw [List.getElem?_set_self (by omega)]; rfl
    | 4, _ => simp only [List.getElem?_set_ne (show k * 7 + 6 ≠ k * 7 + 4 by omega), List.getElem?_set_ne (show k * 7 + 5 ≠ k * 7 + 4 by omega)]; rw [List.getElem?_set_self (by rw [List.length_set]; omega)]; rfl
    | 5, _ => simp only [List.getElem?_set_ne (show k * 7 + 6 ≠ k * 7 + 5 by omega)]; rw [List.getElem?_set_self (by rw [List.length_set, List.length_set]; omega)]; rfl
    | 6, _ => rw [List.getElem?_set_self (by rw [List.length_set, List.length_set, List.length_set]; omega)]; rfl
  · rw [if_neg hq, ← flatV_get L q o hm]
    have hne : ∀ i, i < 7 → k * 7 + i ≠ q * 7 + o := fun i hi => by omega
    rw [List.getElem?_set_ne (hne 6 (by omega)), List.getElem?_set_ne (hne 5 (by omega)), List.getElem?_set_ne (hne 4 (by omega)), List.getElem?_set_ne (hne 3 (by omega))]
/-- one literal's sides are exchanged in its row -/
theorem LRow.swap {w : World} {base g n c k : Nat} {L : List LV} {x : Lit} {v : Value} (h : LRow w base (.slice (some ⟨g, 0, none⟩) n c) L) (hx : L[k]? = some (x, v)) :
    LRow ((((w.setCell ⟨g, k * 7 + 2 + 1, none⟩ (.bool x.r.1)).setCell ⟨g, k * 7 + 2 + 1 + 1, none⟩ (.string x.r.2)).setCell ⟨g, k * 7 + 5, none⟩ (.bool x.l.1)).setCell ⟨g, k * 7 + 5 + 1, none⟩ (.string x.l.2)) base (.slice (some ⟨g, 0, none⟩) n c) (L.set k (⟨x.k, x.p, x.a, x.r, x.l⟩, v)) ∧
      w.grownBy ((((w.setCell ⟨g, k * 7 + 2 + 1, none⟩ (.bool x.r.1)).setCell ⟨g, k * 7 + 2 + 1 + 1, none⟩ (.string x.r.2)).setCell ⟨g, k * 7 + 5, none⟩ (.bool x.l.1)).setCell ⟨g, k * 7 + 5 + 1, none⟩ (.string x.l.2)) (some g) := by
  have hg := (((grown_set w g (k * 7 + 2 + 1) (.bool x.r.1)).trans (grown_set _ g (k * 7 + 2 + 1 + 1) (.string x.r.2))).trans (grown_set _ g (k * 7 + 5) (.bool x.l.1))).trans (grown_set _ g (k * 7 + 5 + 1) (.string x.l.2))
  have hmem := List.mem_of_getElem? hx
  refine ⟨⟨?_, by rw [List.length_set]; exact h.len, fun y hy => ?_, fun y hy => ?_⟩, hg⟩
  · rw [List.length_set, flatV_set (z := (⟨x.k, x.p, x.a, x.r, x.l⟩, v)) hx rfl rfl rfl]
    have hn : n = L.length := by
      rcases h.own.2 with ⟨e, _⟩ | ⟨_, _, _, e, _⟩
      · cases e
      · injection e
    subst hn
    exact own_putI (own_putI (own_putI (own_putI h.own)))
  · have ht : TRow w base y.2 y.1.a := by
      rcases List.mem_or_eq_of_mem_set hy with hy | rfl
      · exact h.inner y hy
      · exact h.inner (x, v) hmem
    exact ht.kept hg (own_diff ht.own h.own (by decide))
  · rcases List.mem_or_eq_of_mem_set hy with hy | rfl
    · exact h.size y hy
    · have := h.size (x, v) hmem
      exact ⟨this.1, this.2.2, this.2.1⟩
theorem LRow.cells {w : World} {base g n c k : Nat} {L : List LV} {x : Lit} {v : Value} (h : LRow w base (.slice (some ⟨g, 0, none⟩) n c) L) (hx : L[k]? = some (x, v)) :
    w.cell? ⟨g, k * 7, none⟩ = some (.int .i64 x.k) ∧ w.cell? ⟨g, k * 7 + 1, none⟩ = some (.string x.p) ∧ w.cell? ⟨g, k * 7 + 2, none⟩ = some v ∧ w.cell? ⟨g, k * 7 + 3, none⟩ = some (.bool x.l.1) ∧ w.cell? ⟨g, k * 7 + 4, none⟩ = some (.string x.l.2) ∧ w.cell? ⟨g, k * 7 + 5, none⟩ = some (.bool x.r.1) ∧ w.cell? ⟨g, k * 7 + 6, none⟩ = some (.string x.r.2) := by
  have hc : ∀ o u, (cellV (x, v))[o]? = some u → w.cell? ⟨g, k * 7 + o, none⟩ = some u := fun o u hu => by
    have ho : o < 7 := (List.getElem?_eq_some_iff.1 hu).1
    have h2 := flatV_get L k o ho
    rw [hx] at h2
    have := h.own.cells (g := g) rfl _ _ (h2.trans hu)
    rw [addr_add, Nat.zero_add] at this
    exact this
  exact ⟨hc 0 _ rfl, hc 1 _ rfl, hc 2 _ rfl, hc 3 _ rfl, hc 4 _ rfl, hc 5 _ rfl, hc 6 _ rfl⟩
theorem turnL_k (x : Lit) : turnL x = if x.k = 3 ∧ cmpT x.r x.l = -1 then ⟨x.k, x.p, x.a, x.r, x.l⟩ else x := rfl
set_option maxHeartbeats 1000000 in
theorem nm_Body1 (x : Tm) (W : World) : Calls Tryd.prog 41 #[.agg #[.bool x.1, .string x.2]] W fun e w' => e = .returned (.agg #[.bool x.1, .string x.2]) ∧ Below W.heap.size W w' := by
  obtain ⟨xv, xs⟩ := x
  go_enter Tryd.func41, Tryd.ntmps41
  go_wp2
  refine bodyPost_ret (results_cell_row rfl _ _ (W.heap.size + 1) 33 _ (0, 0) _ rfl (two_cells (Below.refl _ _)).2.2 Tryd.underlying33 rfl sizeTm) rfl ?_
  exact ⟨rfl, (two_cells (Below.refl _ _)).1⟩
end Go.Proofs.YtoklbofobcloaaaDoor
