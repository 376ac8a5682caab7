/- Normal: neighbours that are alike taken together: walked. -/
import Derived.Test.YtoklbofobcloaaaDoorNmW
import Derived.Laws.CopyRow
namespace Go.Proofs.YtoklbofobcloaaaDoor
open Go.RowKit Go.Sort Go.Shelf
attribute [local go_sem ↓] Go.wp_at_zero Go.wp_at_succ
/-- an owned row cleared from an element on -/
theorem run_clearK {P : Program} {w : World} {base g n c m size : Nat} {t e : TypeId} {z : Value} {xs : List Value} (h : w.ownsRow base e size (.slice (some ⟨g, 0, none⟩) n c) n xs) (ht : P.underlying t = some (.slice e)) (hv : ∀ w, (zeroValue e).run P w = .ok z w) (hz : z.cells.size = size) (h1 : ∀ v ∈ z.cells, v.oneCell' = true) (hs : 0 < size) (hm : m < n) :
    ∃ W, (∀ ty, (Builtin.clear_ #[t] ty #[.slice (some ⟨g, m * size, none⟩) (n - m) (c - m)]).run P w = .ok (.tuple #[]) W) ∧ W.ownsRow base e size (.slice (some ⟨g, 0, none⟩) m c) m (xs.take (m * size)) ∧ w.grownBy W (some g) := by
  rcases h.2 with ⟨e0, _⟩ | ⟨g', cap, cur, e0, hb, hg, hn, hmx, hcz, hx⟩
  · cases e0
  · injection e0 with e1 _ e3
    injection e1 with e1
    injection e1 with e1
    subst e1 e3
    have hzl : (Builtin.zeroCells z.cells (n - m)).toList.length = (n - m) * size := by simp [Builtin.zeroCells, hz]
    have hle : m * size + (n - m) * size = n * size := by rw [← Nat.add_mul]; congr 1; omega
    have hnc : n * size ≤ c * size := Nat.mul_le_mul_right _ hn
    have hst := run_storeCells_at (P := P) g (m * size) e (Builtin.zeroCells z.cells (n - m)).toList 0 cur w hg (by rw [hzl]; omega) (fun v hv => by
      simp only [Builtin.zeroCells, Array.mem_toList_iff, Array.mem_map, Array.mem_range] at hv
      obtain ⟨i, hi, rfl⟩ := hv
      have hlt : i % z.cells.size < z.cells.size := Nat.mod_lt _ (by omega)
      have : z.cells[i % z.cells.size]! = z.cells[i % z.cells.size] := by simp [hlt]
      rw [this]
      exact h1 _ (Array.getElem_mem hlt))
    rw [Nat.add_zero] at hst
    have hnn : ∀ cs, (w.setRow g cs).heap[g]? = some (.cells cs e (0, 0)) := fun cs => by simp [World.setRow, Array.getElem?_modify, hg]
    refine ⟨w.setRow g (cur.toList.take (m * size) ++ (Builtin.zeroCells z.cells (n - m)).toList ++ cur.toList.drop (m * size + (Builtin.zeroCells z.cells (n - m)).toList.length)).toArray, ?_, ⟨?_, .inr ⟨g, c, _, rfl, hb, hnn _, by omega, hmx, ?_, ?_⟩⟩, ⟨rfl, rfl, rfl, by simp, fun j _ hj => ?_⟩⟩
    · intro ty
      obtain ⟨q, hq⟩ : ∃ q, n - m = q + 1 := ⟨n - m - 1, by omega⟩
      rw [hq] at hst ⊢
      simp [Builtin.clear_, run_underlying ht, hv, hst]
    · rw [List.length_take, h.1]
      have : m * size ≤ n * size := Nat.mul_le_mul_right _ (by omega)
      omega
    · simp [hzl]; omega
    · rw [← hx]
      simp only [List.append_assoc]
      rw [List.take_append_of_le_length (by simp; omega), List.take_take, List.take_take]
      congr 1
      omega
    · simp [World.setRow, Array.getElem?_modify, show g ≠ j from fun e => hj (by rw [e])]
theorem flatV_put {L : List LV} {k : Nat} {y z : LV} (h : L[k]? = some y) :
    flatV (L.set k z) = (((((((flatV L).set (k * 7) (.int .i64 z.1.k)).set (k * 7 + 1) (.string z.1.p)).set (k * 7 + 2) z.2).set (k * 7 + 3) (.bool z.1.l.1)).set (k * 7 + 4) (.string z.1.l.2)).set (k * 7 + 5) (.bool z.1.r.1)).set (k * 7 + 6) (.string z.1.r.2) := by
  have hlt := (List.getElem?_eq_some_iff.1 h).1
  have hL : k * 7 + 6 < (flatV L).length := by rw [flatV_len]; omega
  apply List.ext_getElem?
  intro j
  have hj : j = j / 7 * 7 + j % 7 := by omega
  have hm : j % 7 < 7 := Nat.mod_lt _ (by omega)
  generalize j / 7 = q at hj
  generalize j % 7 = o at hj hm
  subst hj
  rw [flatV_get _ _ _ hm, List.getElem?_set]
  simp only [List.getElem?_set, List.length_set]
  by_cases hq : k = q
  · subst hq
    rw [if_pos rfl, if_pos hlt]
    match o, hm with
    | 0, _ => rw [if_neg (by omega), if_neg (by omega), if_neg (by omega), if_neg (by omega), if_neg (by omega), if_neg (by omega), if_pos (by omega), if_pos (by omega)]; rfl
    | 1, _ => rw [if_neg (by omega), if_neg (by omega), if_neg (by omega), if_neg (by omega), if_neg (by omega), if_pos rfl, if_pos (by omega)]; rfl
    | 2, _ => rw [if_neg (by omega), if_neg (by omega), if_neg (by omega), if_neg (by omega), if_pos rfl, if_pos (by omega)]; rfl
    | 3, _ => rw [if_neg (by omega), if_neg (by omega), if_neg (by omega), if_pos rfl, if_pos (by omega)]; rfl
    | 4, _ => rw [if_neg (by omega), if_neg (by omega), if_pos rfl, if_pos (by omega)]; rfl
    | 5, _ => rw [if_neg (by omega), if_pos rfl, if_pos (by omega)]; rfl
    | 6, _ => rw [if_pos rfl, if_pos (by omega)]; rfl
  · rw [if_neg hq, ← flatV_get L q o hm, if_neg (by omega), if_neg (by omega), if_neg (by omega), if_neg (by omega), if_neg (by omega), if_neg (by omega), if_neg (by omega)]
def litSet (w : World) (g o : Nat) (x : Lit) (v : Value) : World := ((((((w.setCell ⟨g, o, none⟩ (.int .i64 x.k)).setCell ⟨g, o + 1, none⟩ (.string x.p)).setCell ⟨g, o + 2, none⟩ v).setCell ⟨g, o + 3, none⟩ (.bool x.l.1)).setCell ⟨g, o + 4, none⟩ (.string x.l.2)).setCell ⟨g, o + 5, none⟩ (.bool x.r.1)).setCell ⟨g, o + 6, none⟩ (.string x.r.2)
/-- a literal of the row is stored at another place of it -/
theorem LRow.put {w : World} {base g n c k : Nat} {L : List LV} {y z : LV} (h : LRow w base (.slice (some ⟨g, 0, none⟩) n c) L) (hk : L[k]? = some y) (hz : z ∈ L) :
    LRow (litSet w g (k * 7) z.1 z.2) base (.slice (some ⟨g, 0, none⟩) n c) (L.set k z) ∧ w.grownBy (litSet w g (k * 7) z.1 z.2) (some g) := by
  have hg : w.grownBy (litSet w g (k * 7) z.1 z.2) (some g) := by
    unfold litSet
    exact ((((((grown_set _ _ _ _).trans (grown_set _ _ _ _)).trans (grown_set _ _ _ _)).trans (grown_set _ _ _ _)).trans (grown_set _ _ _ _)).trans (grown_set _ _ _ _)).trans (grown_set _ _ _ _)
  refine ⟨⟨?_, by rw [List.length_set]; exact h.len, fun x hx => ?_, fun x hx => ?_⟩, hg⟩
  · rw [List.length_set, flatV_put hk]
    have hn : n = L.length := by
      rcases h.own.2 with ⟨e, _⟩ | ⟨_, _, _, e, _⟩
      · cases e
      · injection e
    subst hn
    unfold litSet
    exact own_putI (own_putI (own_putI (own_putI (own_putI (own_putI (own_putI h.own))))))
  · have hx' : x ∈ L := by
      rcases List.mem_or_eq_of_mem_set hx with hx | rfl
      · exact hx
      · exact hz
    have ht := h.inner x hx'
    exact ht.kept hg (own_diff ht.own h.own (by decide))
  · rcases List.mem_or_eq_of_mem_set hx with hx | rfl
    · exact h.size x hx
    · exact h.size _ hz
end Go.Proofs.YtoklbofobcloaaaDoor
