/- Index: Put of a key that is not there, where there is room. -/
import Derived.Test.YtjeeljolhcoeoaaIxE
import Derived.Test.YtjeeljolhcoeoaaFam
namespace Go.Proofs.Ytjeeljolhcoeoaa
open Go.RowKit
attribute [local go_sem] eql_fn_h eql_nn_h eql_fn_s eql_nn_s eql_fn_i eql_nn_i

def updP (pl : Nat → Option Nat) (j : Nat) (v : Option Nat) : Nat → Option Nat := fun k => if k = j then v else pl k
/-- the blocks of a table -/
def tabB (T P : Nat) (es : List Ent) (b : Nat) : Prop := b = T ∨ b = P ∨ ∃ e ∈ es, e.b = b
theorem set_same {w : World} {g i : Nat} {cs : Array Value} {t : TypeId} (v : Value) (h : w.heap[g]? = some (.cells cs t)) : (w.setCell ⟨g, i, none⟩ v).heap[g]? = some (.cells (cs.setIfInBounds i v) t) := heap_setCell_same w g i cs t v h
theorem set_ne {w : World} {g i b : Nat} (v : Value) (h : b ≠ g) : (w.setCell ⟨g, i, none⟩ v).heap[b]? = w.heap[b]? := heap_setCell_other _ _ _ _ h
theorem plCs_set (sz : Nat) (pl : Nat → Option Nat) (j b : Nat) : (plCs sz pl).setIfInBounds j (.pointer (some ⟨b, 0, none⟩)) = plCs sz (updP pl j (some b)) := by
  apply Array.ext'
  rw [Array.toList_setIfInBounds]
  show (List.map _ _).set j _ = List.map _ _
  apply List.ext_getElem
  · simp
  · intro i h1 h2
    rw [List.getElem_set, List.getElem_map, List.getElem_map, List.getElem_range]
    unfold updP
    by_cases e : j = i
    · rw [if_pos e, if_pos e.symm]; rfl
    · rw [if_neg e, if_neg (Ne.symm e)]

theorem plCs_setO (sz : Nat) (pl : Nat → Option Nat) (j : Nat) (v : Option Nat) : (plCs sz pl).setIfInBounds j (.pointer (ptr v)) = plCs sz (updP pl j v) := by
  apply Array.ext'
  rw [Array.toList_setIfInBounds]
  show (List.map _ _).set j _ = List.map _ _
  apply List.ext_getElem
  · simp
  · intro i h1 h2
    rw [List.getElem_set, List.getElem_map, List.getElem_map, List.getElem_range]
    unfold updP
    by_cases e : j = i
    · rw [if_pos e, if_pos e.symm]
    · rw [if_neg e, if_neg (Ne.symm e)]

section
variable {w : World} {T P hb sb : Nat} {way : Int} {sz : Nat} {es : List Ent} {pl : Nat → Option Nat}
theorem Tab.neTP (h : Tab w T P hb sb way sz es pl) : T ≠ P := by
  intro e; have h1 := h.hT; rw [e, h.hP] at h1; simp at h1
theorem Tab.neTE (h : Tab w T P hb sb way sz es pl) (i : Nat) (hi : i < es.length) : es[i].b ≠ T := by
  intro e; have h1 := h.hE i hi; rw [e, h.hT] at h1; simp at h1
theorem Tab.nePE (h : Tab w T P hb sb way sz es pl) (i : Nat) (hi : i < es.length) : es[i].b ≠ P := by
  intro e; have h1 := h.hE i hi; rw [e, h.hP] at h1; simp at h1
theorem Tab.neHT (h : Tab w T P hb sb way sz es pl) : hb ≠ T ∧ hb ≠ P ∧ sb ≠ T ∧ sb ≠ P := by
  refine ⟨?_, ?_, ?_, ?_⟩
  · intro e; have h1 : w.heap[hb]? = _ := h.hH; rw [e, h.hT] at h1; simp at h1
  · intro e; have h1 : w.heap[hb]? = _ := h.hH; rw [e, h.hP] at h1; simp at h1
  · intro e; have h1 : w.heap[sb]? = _ := h.hS; rw [e, h.hT] at h1; simp at h1
  · intro e; have h1 : w.heap[sb]? = _ := h.hS; rw [e, h.hP] at h1; simp at h1
theorem Tab.neHE (h : Tab w T P hb sb way sz es pl) (i : Nat) (hi : i < es.length) : hb ≠ es[i].b ∧ sb ≠ es[i].b := by
  refine ⟨?_, ?_⟩
  · intro e; have h1 : w.heap[hb]? = _ := h.hH; rw [e, h.hE i hi] at h1; simp at h1
  · intro e; have h1 : w.heap[sb]? = _ := h.hS; rw [e, h.hE i hi] at h1; simp at h1
theorem Tab.ltE (h : Tab w T P hb sb way sz es pl) (i : Nat) (hi : i < es.length) : es[i].b < w.heap.size := (Array.getElem?_eq_some_iff.1 (h.hE i hi)).1
theorem Tab.ltT (h : Tab w T P hb sb way sz es pl) : T < w.heap.size := (Array.getElem?_eq_some_iff.1 h.hT).1
theorem Tab.ltP (h : Tab w T P hb sb way sz es pl) : P < w.heap.size := (Array.getElem?_eq_some_iff.1 h.hP).1

/-- the cell of an old entry once there is one more behind it -/
theorem entCs_more (es : List Ent) (x : Ent) (i : Nat) (e : Ent) (hl : i + 1 < es.length) : entCs (es ++ [x]) i e = entCs es i e := by
  unfold entCs prevB nextB
  rw [List.getElem?_append_left hl]
  by_cases h0 : i = 0
  · simp [h0]
  · rw [List.getElem?_append_left (by omega)]
theorem entCs_last (es : List Ent) (x : Ent) (i : Nat) (e : Ent) (hl : i + 1 = es.length) : entCs (es ++ [x]) i e = (entCs es i e).setIfInBounds 4 (.pointer (some ⟨x.b, 0, none⟩)) := by
  unfold entCs prevB nextB
  rw [show (es ++ [x])[i + 1]? = some x from by rw [List.getElem?_append_right (by omega)]; simp [hl]]
  by_cases h0 : i = 0
  · simp [h0, ptr]
  · rw [List.getElem?_append_left (by omega)]; simp [ptr, h0]
theorem entCs_new (es : List Ent) (x : Ent) : entCs (es ++ [x]) es.length x = #[.int .i64 x.key, .int .i64 x.val, .int .u64 x.hash, .pointer (ptr (es.getLast?.map Ent.b)), .pointer none] := by
  unfold entCs prevB nextB
  rw [show (es ++ [x])[es.length + 1]? = none from by simp]
  by_cases h0 : es.length = 0
  · have : es = [] := List.eq_nil_of_length_eq_zero h0
    subst this; simp [ptr]
  · rw [if_neg h0, List.getElem?_append_left (by omega), List.getLast?_eq_getElem?]; rfl

/-- the table with one entry more -/
theorem Tab.push (h : Tab w T P hb sb way sz es pl) {w' : World} {x : Ent} {at_ : Nat} (hxh : x.hash = hashF way x.key) (hx : ∀ i (hi : i < es.length), es[i].b ≠ x.b)
    (hT : w'.heap[T]? = some (.cells (tabCs P hb sb sz (es ++ [x])) 87)) (hP : w'.heap[P]? = some (.cells (plCs sz (updP pl at_ (some x.b))) 85))
    (hB : w'.heap[x.b]? = some (.cells (entCs (es ++ [x]) es.length x) 104)) (hE : ∀ i (hi : i < es.length), w'.heap[es[i].b]? = some (.cells (entCs (es ++ [x]) i es[i]) 104))
    (hH : Boxed w' hb 3 (.int .i64 way)) (hS : Boxed w' sb 3 (.int .i64 way)) : Tab w' T P hb sb way sz (es ++ [x]) (updP pl at_ (some x.b)) := by
  refine ⟨hT, hP, hH, hS, fun i hi => ?_, fun j hj b hb2 => ?_, h.hsz, fun i j hi hj he => ?_, fun e he => ?_⟩
  · rw [List.length_append] at hi
    rcases Nat.lt_or_ge i es.length with h1 | h1
    · rw [List.getElem_append_left h1]; exact hE i h1
    · have : i = es.length := by simp at hi; omega
      subst this
      rw [List.getElem_append_right (Nat.le_refl _)]; simpa using hB
  · unfold updP at hb2
    split at hb2
    · injection hb2 with hb2
      exact ⟨es.length, by simp, by rw [List.getElem_append_right (Nat.le_refl _)]; simpa using hb2⟩
    · obtain ⟨i, hi, e⟩ := h.hpl j hj b hb2
      exact ⟨i, by rw [List.length_append]; omega, by rw [List.getElem_append_left hi]; exact e⟩
  · rw [List.length_append] at hi hj
    have hl : ∀ k, k < es.length → ((es ++ [x])[k]?).map Ent.b = (es[k]?).map Ent.b := fun k hk => by rw [List.getElem?_append_left hk]
    have hr : ((es ++ [x])[es.length]?).map Ent.b = some x.b := by simp
    have hg : ∀ k (hk : k < es.length), (es[k]?).map Ent.b = some es[k].b := fun k hk => by simp [hk]
    simp at hi hj
    rcases Nat.lt_or_ge i es.length with h1 | h1 <;> rcases Nat.lt_or_ge j es.length with h2 | h2
    · rw [hl i h1, hl j h2] at he; exact h.hN i j h1 h2 he
    · have e2 : j = es.length := by omega
      subst e2
      rw [hl i h1, hr, hg i h1] at he
      injection he with he
      exact absurd he (hx i h1)
    · have e2 : i = es.length := by omega
      subst e2
      rw [hl j h2, hr, hg j h2] at he
      injection he with he
      exact absurd he.symm (hx j h2)
    · omega
  · rw [List.mem_append, List.mem_singleton] at he
    rcases he with he | rfl
    · exact h.hh e he
    · exact hxh

theorem tabCs_more (P hb sb sz : Nat) (es : List Ent) (x : Ent) (hes : es ≠ []) : ((tabCs P hb sb sz es).setIfInBounds 4 (.pointer (some ⟨x.b, 0, none⟩))).setIfInBounds 5 (.int .i64 ((es.length : Int) + 1)) = tabCs P hb sb sz (es ++ [x]) := by
  have h1 : (es ++ [x]).head? = es.head? := by cases es with | nil => exact absurd rfl hes | cons y r => rfl
  have h2 : (es ++ [x]).getLast? = some x := by simp
  unfold tabCs
  rw [h1, h2, List.length_append]
  simp [ptr]
/-- the world behind Put into an empty table -/
theorem push_nil (h : Tab w T P hb sb way sz [] pl) {nb r1 : Nat} {key value H : Int} (hH : H = hashF way key) (hnb : w.heap[nb]? = some (.cells #[.int .i64 key, .int .i64 value, .int .u64 H, .pointer none, .pointer none] 104)) (hT : T < nb) (hP : P < nb) :
    Tab ((((w.setCell ⟨T, 3, none⟩ (.pointer (some ⟨nb, 0, none⟩))).setCell ⟨T, 4, none⟩ (.pointer (some ⟨nb, 0, none⟩))).setCell ⟨P, r1, none⟩ (.pointer (some ⟨nb, 0, none⟩))).setCell ⟨T, 5, none⟩ (.int .i64 1)) T P hb sb way sz ([] ++ [⟨nb, key, value, H⟩]) (updP pl r1 (some nb)) := by
  have hTP := h.neTP
  obtain ⟨n1, n2, n3, n4⟩ := h.neHT
  refine h.push (x := ⟨nb, key, value, H⟩) hH (fun i hi => absurd hi (by simp)) ?_ ?_ ?_ (fun i hi => absurd hi (by simp)) ?_ ?_
  · exact set_same _ ((set_ne _ hTP).trans (set_same _ (set_same _ h.hT)))
  · rw [set_ne _ hTP.symm, ← plCs_set]
    refine set_same _ ?_
    rw [set_ne _ hTP.symm, set_ne _ hTP.symm]; exact h.hP
  · have q1 : nb ≠ T := by omega
    have q2 : nb ≠ P := by omega
    exact (set_ne _ q1).trans ((set_ne _ q2).trans ((set_ne _ q1).trans ((set_ne _ q1).trans hnb)))
  · show _ = _
    rw [set_ne _ n1, set_ne _ n2, set_ne _ n1, set_ne _ n1]; exact h.hH
  · show _ = _
    rw [set_ne _ n3, set_ne _ n4, set_ne _ n3, set_ne _ n3]; exact h.hS
/-- .. into one that has entries -/
theorem push_more (h : Tab w T P hb sb way sz es pl) {nb r1 n : Nat} {key value H : Int} (hH : H = hashF way key) (hn : es.length = n + 1) (hnb : w.heap[nb]? = some (.cells #[.int .i64 key, .int .i64 value, .int .u64 H, .pointer (ptr (es.getLast?.map Ent.b)), .pointer none] 104)) (hT : T < nb) (hP : P < nb) (hE : ∀ i (hi : i < es.length), es[i].b < nb)
    {L : Nat} (hL : (es[n]'(by omega)).b = L) :
    Tab ((((w.setCell ⟨L, 4, none⟩ (.pointer (some ⟨nb, 0, none⟩))).setCell ⟨T, 4, none⟩ (.pointer (some ⟨nb, 0, none⟩))).setCell ⟨P, r1, none⟩ (.pointer (some ⟨nb, 0, none⟩))).setCell ⟨T, 5, none⟩ (.int .i64 ((es.length : Int) + 1))) T P hb sb way sz (es ++ [⟨nb, key, value, H⟩]) (updP pl r1 (some nb)) := by
  have hTP := h.neTP
  obtain ⟨n1, n2, n3, n4⟩ := h.neHT
  have hes : es ≠ [] := by intro e; rw [e] at hn; simp at hn
  have hLT : L ≠ T := by rw [← hL]; exact h.neTE n (by omega)
  have hLP : L ≠ P := by rw [← hL]; exact h.nePE n (by omega)
  have hLn : L < nb := by rw [← hL]; exact hE n (by omega)
  refine h.push (x := ⟨nb, key, value, H⟩) hH (fun i hi => by have := hE i hi; show es[i].b ≠ nb; omega) ?_ ?_ ?_ (fun i hi => ?_) ?_ ?_
  · rw [← tabCs_more P hb sb sz es ⟨nb, key, value, H⟩ hes]
    exact set_same _ ((set_ne _ hTP).trans (set_same _ ((set_ne _ (Ne.symm hLT)).trans h.hT)))
  · rw [set_ne _ hTP.symm, ← plCs_set]
    refine set_same _ ?_
    rw [set_ne _ hTP.symm, set_ne _ (Ne.symm hLP)]; exact h.hP
  · rw [entCs_new]
    have q1 : nb ≠ T := by omega
    have q2 : nb ≠ P := by omega
    have q3 : nb ≠ L := by omega
    exact (set_ne _ q1).trans ((set_ne _ q2).trans ((set_ne _ q1).trans ((set_ne _ q3).trans hnb)))
  · rw [set_ne _ (h.neTE i hi), set_ne _ (h.nePE i hi), set_ne _ (h.neTE i hi)]
    by_cases e : i = n
    · subst e
      rw [entCs_last es _ i _ (by omega), hL]
      exact set_same _ (by rw [← hL]; exact h.hE i hi)
    · rw [entCs_more es _ i _ (by omega), set_ne _ (by
        intro he
        refine e (h.hN i n hi (by omega) ?_)
        rw [List.getElem?_eq_getElem hi, List.getElem?_eq_getElem (by omega : n < es.length)]
        simp only [Option.map_some]; rw [he, hL])]
      exact h.hE i hi
  · show _ = _
    have n5 : hb ≠ L := by rw [← hL]; exact (h.neHE n (by omega)).1
    rw [set_ne _ n1, set_ne _ n2, set_ne _ n1, set_ne _ n5]; exact h.hH
  · show _ = _
    have n5 : sb ≠ L := by rw [← hL]; exact (h.neHE n (by omega)).2
    rw [set_ne _ n3, set_ne _ n4, set_ne _ n3, set_ne _ n5]; exact h.hS
end
end Go.Proofs.Ytjeeljolhcoeoaa
