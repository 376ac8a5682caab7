/- Index, plain: what unlink leaves. -/
import Derived.Test.YtjeeljolhcoeoaaSxX
namespace Go.Proofs.Ytjeeljolhcoeoaa.Str
open Go.RowKit

section
variable {w : World} {T P hb sb : Nat} {way : Int} {sz : Nat} {es : List Ent} {pl : Nat → Option Nat}
theorem Tab.nd (h : Tab w T P hb sb way sz es pl) : ∀ i j (hi : i < es.length) (hj : j < es.length), es[i].b = es[j].b → i = j := by
  intro i j hi hj he
  refine h.hN i j hi hj ?_
  rw [List.getElem?_eq_getElem hi, List.getElem?_eq_getElem hj]
  simp only [Option.map_some]; rw [he]

theorem prev_at {i : Nat} (h0 : 0 < i) (hi : i - 1 < es.length) : prevB es i = some es[i - 1].b := by
  unfold prevB; rw [if_neg (by omega), List.getElem?_eq_getElem hi]; rfl
theorem next_at {i : Nat} (hi : i + 1 < es.length) : nextB es i = some es[i + 1].b := by
  unfold nextB; rw [List.getElem?_eq_getElem hi]; rfl
theorem next_end {i : Nat} (hi : es.length ≤ i + 1) : nextB es i = none := by
  unfold nextB; rw [List.getElem?_eq_none hi]; rfl
theorem prev_zero : prevB es 0 = none := rfl

theorem sg_lt {ie k : Nat} (h : k < ie) : sg ie k = k := if_pos h
theorem sg_ge {ie k : Nat} (h : ie ≤ k) : sg ie k = k + 1 := if_neg (by omega)

/-- what an entry's neighbours are in the list without ie -/
theorem entCs_erase {ie k : Nat} (hie : ie < es.length) (hk : k < (es.eraseIdx ie).length) (x : Ent) :
    entCs (es.eraseIdx ie) k x = (if k + 1 = ie then (entCs es (sg ie k) x).setIfInBounds 4 (.pointer (ptr (nextB es ie))) else if k = ie then (entCs es (sg ie k) x).setIfInBounds 3 (.pointer (ptr (prevB es ie))) else entCs es (sg ie k) x) := by
  have hl := erase_len hie
  have gl : ∀ j, j < (es.eraseIdx ie).length → (es.eraseIdx ie)[j]? = es[sg ie j]? := by
    intro j hj
    obtain ⟨hs2, he2⟩ := erase_at hie hj
    rw [List.getElem?_eq_getElem hj, List.getElem?_eq_getElem hs2, he2]
  have hprev : k ≠ ie → prevB (es.eraseIdx ie) k = prevB es (sg ie k) := by
    intro hne
    unfold prevB
    by_cases h0 : k = 0
    · subst h0
      rw [if_pos rfl, sg_lt (by omega), if_pos rfl]
    · rw [if_neg h0, gl _ (by omega)]
      rcases Nat.lt_or_ge k ie with h1 | h1
      · rw [sg_lt h1, sg_lt (by omega), if_neg h0]
      · rw [sg_ge h1, sg_ge (show ie ≤ k - 1 by omega), if_neg (by omega), show k - 1 + 1 = k + 1 - 1 from by omega]
  have hprev2 : k = ie → prevB (es.eraseIdx ie) k = prevB es ie := by
    intro e; subst e
    unfold prevB
    by_cases h0 : k = 0
    · subst h0; rfl
    · rw [if_neg h0, if_neg h0, gl _ (by omega), sg_lt (by omega)]
  have hnext : k + 1 ≠ ie → nextB (es.eraseIdx ie) k = nextB es (sg ie k) := by
    intro hne
    unfold nextB
    by_cases h1 : k + 1 < (es.eraseIdx ie).length
    · rw [gl _ h1]
      rcases Nat.lt_or_ge (k + 1) ie with h2 | h2
      · rw [sg_lt h2, sg_lt (by omega)]
      · rw [sg_ge h2]
        rcases Nat.lt_or_ge k ie with h3 | h3
        · omega
        · rw [sg_ge h3]
    · rw [List.getElem?_eq_none (by omega), List.getElem?_eq_none (by
        rcases Nat.lt_or_ge k ie with h3 | h3
        · rw [sg_lt h3]; omega
        · rw [sg_ge h3]; omega)]
  have hnext2 : k + 1 = ie → nextB (es.eraseIdx ie) k = nextB es ie := by
    intro e; subst e
    unfold nextB
    by_cases h1 : k + 1 < (es.eraseIdx (k + 1)).length
    · rw [gl _ h1, sg_ge (Nat.le_refl _)]
    · rw [List.getElem?_eq_none (by omega), List.getElem?_eq_none (by omega)]
  by_cases h1 : k + 1 = ie
  · rw [if_pos h1]
    unfold entCs
    rw [hprev (by omega), hnext2 h1]
    rfl
  · rw [if_neg h1]
    by_cases h2 : k = ie
    · rw [if_pos h2]
      unfold entCs
      rw [hprev2 h2, hnext h1]
      rfl
    · rw [if_neg h2]
      unfold entCs
      rw [hprev h2, hnext h1]

/-- the cells of the entries behind unlink -/
theorem ul_ents (h : Tab w T P hb sb way sz es pl) {ie k : Nat} (hie : ie < es.length) (hk : k < (es.eraseIdx ie).length) :
    (ulB T (prevB es ie) (nextB es ie) (ulF T (prevB es ie) (nextB es ie) w)).heap[(es.eraseIdx ie)[k].b]? = some (.cells (entCs (es.eraseIdx ie) k (es.eraseIdx ie)[k]) 97) := by
  have hl := erase_len hie
  rw [entCs_erase hie hk]
  obtain ⟨hs, he⟩ := erase_at hie hk
  generalize hx : (es.eraseIdx ie)[k] = x at he ⊢
  clear hx
  subst he
  have hne : sg ie k ≠ ie := by unfold sg; split <;> omega
  have h0 := h.hE (sg ie k) hs
  have hT := h.neTE (sg ie k) hs
  -- ahead
  have hF : (ulF T (prevB es ie) (nextB es ie) w).heap[es[sg ie k].b]? = some (.cells (if k + 1 = ie then (entCs es (sg ie k) es[sg ie k]).setIfInBounds 4 (.pointer (ptr (nextB es ie))) else entCs es (sg ie k) es[sg ie k]) 97) := by
    by_cases hz : ie = 0
    · have e1 : prevB es ie = none := by rw [hz]; rfl
      rw [e1]
      unfold ulF
      simp only []
      rw [set_ne _ hT, if_neg (by omega)]; exact h0
    · rw [prev_at (i := ie) (by omega) (by omega)]
      unfold ulF
      simp only []
      by_cases h1 : k + 1 = ie
      · have e2 : sg ie k = ie - 1 := by rw [sg_lt (by omega)]; omega
        rw [if_pos h1]
        have e3 : es[sg ie k].b = (es[ie - 1]'(by omega)).b := by simp only [e2]
        rw [← e3]
        exact set_same _ h0
      · rw [if_neg h1, set_ne _ (by
          intro e
          have := h.nd _ _ hs (by omega) e
          unfold sg at this
          split at this <;> omega)]
        exact h0
  by_cases hz : ie + 1 < es.length
  · rw [next_at hz] at hF ⊢
    unfold ulB
    simp only []
    by_cases h1 : k + 1 = ie
    · rw [if_pos h1] at hF ⊢
      rw [set_ne _ (by
        intro e
        have := h.nd _ _ hs hz e
        rw [sg_lt (by omega)] at this; omega)]
      exact hF
    · rw [if_neg h1] at hF ⊢
      by_cases h2 : k = ie
      · rw [if_pos h2]
        have e2 : sg ie k = ie + 1 := by rw [sg_ge (by omega)]; omega
        have e3 : es[sg ie k].b = es[ie + 1].b := by simp only [e2]
        rw [show (⟨es[ie + 1].b, 3, none⟩ : Addr) = ⟨es[sg ie k].b, 3, none⟩ from by rw [e3]]
        exact set_same _ hF
      · rw [if_neg h2, set_ne _ (by
          intro e
          have := h.nd _ _ hs hz e
          unfold sg at this
          split at this <;> omega)]
        exact hF
  · rw [next_end (by omega)] at hF ⊢
    unfold ulB
    simp only []
    have h2 : k ≠ ie := by omega
    rw [set_ne _ hT]
    by_cases h1 : k + 1 = ie
    · rw [if_pos h1] at hF ⊢; exact hF
    · rw [if_neg h1] at hF ⊢; rw [if_neg h2]; exact hF

theorem head_erase {ie : Nat} (hie : ie < es.length) : (es.eraseIdx ie).head?.map Ent.b = if ie = 0 then nextB es 0 else es.head?.map Ent.b := by
  cases es with
  | nil => simp at hie
  | cons x r =>
    cases ie with
    | zero => rw [if_pos rfl]; unfold nextB; simp [List.eraseIdx, List.head?_eq_getElem?]
    | succ n => rw [if_neg (by omega)]; simp [List.eraseIdx]
theorem last_erase {ie : Nat} (hie : ie < es.length) : (es.eraseIdx ie).getLast?.map Ent.b = if ie + 1 = es.length then prevB es ie else es.getLast?.map Ent.b := by
  have hl := erase_len hie
  rw [List.getLast?_eq_getElem?, List.getLast?_eq_getElem?, hl]
  by_cases h1 : ie + 1 = es.length
  · rw [if_pos h1]
    unfold prevB
    by_cases h0 : ie = 0
    · rw [if_pos h0, List.getElem?_eq_none (by omega)]; rfl
    · rw [if_neg h0]
      obtain ⟨hs, he⟩ := erase_at hie (show es.length - 1 - 1 < (es.eraseIdx ie).length by omega)
      rw [List.getElem?_eq_getElem (show es.length - 1 - 1 < (es.eraseIdx ie).length by omega), he, List.getElem?_eq_getElem (show ie - 1 < es.length by omega)]
      have : sg ie (es.length - 1 - 1) = ie - 1 := by rw [sg_lt (by omega)]; omega
      simp only [this, Option.map_some]
  · rw [if_neg h1]
    obtain ⟨hs, he⟩ := erase_at hie (show es.length - 1 - 1 < (es.eraseIdx ie).length by omega)
    rw [List.getElem?_eq_getElem (show es.length - 1 - 1 < (es.eraseIdx ie).length by omega), he, List.getElem?_eq_getElem (show es.length - 1 < es.length by omega)]
    have : sg ie (es.length - 1 - 1) = es.length - 1 := by rw [sg_ge (by omega)]; omega
    simp only [this, Option.map_some]
/-- the table's cells behind unlink and the count -/
theorem ul_tab (h : Tab w T P hb sb way sz es pl) {ie : Nat} (hie : ie < es.length) :
    ((ulB T (prevB es ie) (nextB es ie) (ulF T (prevB es ie) (nextB es ie) w)).setCell ⟨T, 5, none⟩ (.int .i64 ((es.length : Int) - 1))).heap[T]? = some (.cells (tabCs P hb sb sz (es.eraseIdx ie)) 91) := by
  have hl := erase_len hie
  have hF : (ulF T (prevB es ie) (nextB es ie) w).heap[T]? = some (.cells (if ie = 0 then (tabCs P hb sb sz es).setIfInBounds 3 (.pointer (ptr (nextB es ie))) else tabCs P hb sb sz es) 91) := by
    by_cases hz : ie = 0
    · rw [if_pos hz, show prevB es ie = none from by rw [hz]; rfl]
      exact set_same _ h.hT
    · rw [if_neg hz, prev_at (i := ie) (by omega) (by omega)]
      exact (set_ne _ (Ne.symm (h.neTE (ie - 1) (by omega)))).trans h.hT
  have hB : (ulB T (prevB es ie) (nextB es ie) (ulF T (prevB es ie) (nextB es ie) w)).heap[T]? = some (.cells (if ie + 1 = es.length then (if ie = 0 then (tabCs P hb sb sz es).setIfInBounds 3 (.pointer (ptr (nextB es ie))) else tabCs P hb sb sz es).setIfInBounds 4 (.pointer (ptr (prevB es ie))) else (if ie = 0 then (tabCs P hb sb sz es).setIfInBounds 3 (.pointer (ptr (nextB es ie))) else tabCs P hb sb sz es)) 91) := by
    by_cases hz : ie + 1 = es.length
    · rw [if_pos hz]
      have e : nextB es ie = none := next_end (by omega)
      have hF2 := hF
      rw [e] at hF2 ⊢
      exact set_same _ hF2
    · rw [if_neg hz]
      have e := next_at (es := es) (i := ie) (by omega)
      have hF2 := hF
      rw [e] at hF2 ⊢
      exact (set_ne _ (Ne.symm (h.neTE (ie + 1) (by omega)))).trans hF2
  have h5 := set_same (i := 5) (.int .i64 ((es.length : Int) - 1)) hB
  rw [h5]
  congr 2
  unfold tabCs
  rw [head_erase hie, last_erase hie, hl, show ((es.length - 1 : Nat) : Int) = (es.length : Int) - 1 from by omega]
  by_cases h0 : ie = 0
  · subst h0
    by_cases h1 : 0 + 1 = es.length
    · simp [h1.symm]
    · simp only [if_neg h1]; simp
  · by_cases h1 : ie + 1 = es.length
    · simp [h0, h1]
    · simp [h0, h1]
end
end Go.Proofs.Ytjeeljolhcoeoaa.Str
