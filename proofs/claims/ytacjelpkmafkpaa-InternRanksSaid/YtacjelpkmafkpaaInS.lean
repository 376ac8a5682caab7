/- Intern: the law InternRanks. -/
import Derived.Test.YtacjelpkmafkpaaInR
namespace Go.Proofs.Ytacjelpkmafkpaa
open Go.RowKit It Go.Sort
set_option maxHeartbeats 8000000
set_option maxRecDepth 100000
theorem nodup_len : ∀ {U l : List ByteArray}, U.Nodup → (∀ x ∈ U, x ∈ l) → U.length ≤ l.length
  | [], _, _, _ => Nat.zero_le _
  | x :: U, l, h, hs => by
    have hx := hs x List.mem_cons_self
    have h2 := nodup_len (U := U) (l := l.erase x) (List.nodup_cons.1 h).2 (fun y hy => (List.mem_erase_of_ne (fun e : y = x => (List.nodup_cons.1 h).1 (by rw [← e]; exact hy))).2 (hs y (List.mem_cons_of_mem _ hy)))
    rw [List.length_erase_of_mem hx] at h2
    have := List.length_pos_of_mem hx
    simp only [List.length_cons]
    omega
/-- what the second table holds when the texts from place i on have come in -/
structure Half (l U : List ByteArray) (i : Nat) : Prop where
  sub : ∀ x ∈ U, x ∈ l
  got : ∀ j, i ≤ j → j < l.length → l.getD j ⟨#[]⟩ ∈ U
theorem Half.start (l : List ByteArray) : Half l [] l.length := ⟨fun x h => by (cases h), fun j h1 h2 => by omega⟩
theorem getD_mem {l : List ByteArray} {j : Nat} (h : j < l.length) : l.getD j ⟨#[]⟩ ∈ l := by
  rw [List.getD_eq_getElem?_getD, List.getElem?_eq_getElem h]; exact List.getElem_mem _
theorem Half.step {l U : List ByteArray} {i : Nat} (h : Half l U (i + 1)) (hi : i < l.length) : Half l (putAll U [l.getD i ⟨#[]⟩, l.getD (l.length - 1 - i) ⟨#[]⟩]) i := by
  refine ⟨fun x hx => ?_, fun j h1 h2 => ?_⟩
  · rcases (mem_putAll _ _ _).1 hx with hx | hx
    · exact h.sub x hx
    · rcases List.mem_cons.1 hx with rfl | hx
      · exact getD_mem hi
      · rcases List.mem_cons.1 hx with rfl | hx
        · exact getD_mem (by omega)
        · cases hx
  · rcases Nat.lt_or_ge i j with h3 | h3
    · exact (mem_putAll _ _ _).2 (.inl (h.got j h3 h2))
    · obtain rfl : j = i := by omega
      exact (mem_putAll _ _ _).2 (.inr List.mem_cons_self)
theorem Half.all {l U : List ByteArray} (h : Half l U 0) (x : ByteArray) : x ∈ putAll [] l ↔ x ∈ U := by
  rw [mem_putAll]
  refine ⟨fun hx => ?_, fun hx => .inr (h.sub x hx)⟩
  obtain ⟨j, hj, rfl⟩ := List.getElem_of_mem (hx.resolve_left (fun h => by cases h))
  have := h.got j (Nat.zero_le _) hj
  rwa [List.getD_eq_getElem?_getD, List.getElem?_eq_getElem hj] at this
theorem two_tx (w : World) (s t : ByteArray) (h1 : s.size ≤ 140737488355328) (h2 : t.size ≤ 140737488355328) : TxA (w.alloc (.cells #[.string s, .string t] 9)) (some ⟨w.heap.size, 0, none⟩) [s, t] := by
  refine ⟨by simp, fun i hi => ⟨w.heap.size, 0, rfl, ?_⟩, fun i => ?_⟩
  · rw [Nat.zero_add, cell_of_row _ _ _ _ _ (0, 0) (heap_alloc_new w _)]
    match i, hi with
    | 0, _ => rfl
    | 1, _ => rfl
    | i + 2, hi => exact absurd hi (by simp)
  · match i with
    | 0 => exact h1
    | 1 => exact h2
    | i + 2 => exact Nat.zero_le _
/-- the walk's facts at place i of both orders -/
theorem same_at {L U : List ByteArray} {a b : List Int} (h : Risen L a) (g : Risen U b) (hL : L.Nodup) (hU : U.Nodup) (hm : ∀ x, x ∈ L ↔ x ∈ U) : a.length = b.length ∧ ∀ i, i < a.length → okN L (a.getD i 0) ∧ okN U (b.getD i 0) ∧ txtOf L (a.getD i 0) = txtOf U (b.getD i 0) ∧
    (∀ j, j < i → (txtOf L (a.getD j 0)).data.toList < (txtOf L (a.getD i 0)).data.toList) := by
  have e := h.same g hL hU hm
  have el : a.length = b.length := by have := congrArg List.length e; simpa using this
  have hok : ∀ {M : List ByteArray} {c : List Int} (_ : Risen M c) (i : Nat) (_ : i < c.length), okN M (c.getD i 0) ∧ (txtOf M (c.getD i 0)).data.toList = (c.map (tx M)).getD i [] := by
    intro M c hc i hi
    obtain ⟨n, hn, en⟩ := hc.mem (List.getElem_mem hi)
    have e1 : c.getD i 0 = (n : Int) := by rw [List.getD_eq_getElem?_getD, List.getElem?_eq_getElem hi]; exact en
    have ho : okN M (n : Int) := ⟨Int.natCast_nonneg _, by omega⟩
    rw [e1]
    refine ⟨ho, ?_⟩
    unfold txtOf
    rw [if_pos ho, List.getD_eq_getElem?_getD (l := c.map (tx M)), List.getElem?_map, List.getElem?_eq_getElem hi, en]
    rfl
  refine ⟨el, fun i hi => ?_⟩
  have h1 := hok h i hi
  have h2 := hok g i (by omega)
  refine ⟨h1.1, h2.1, ba_inj (by rw [h1.2, h2.2, e]), fun j hj => ?_⟩
  rw [(hok h j (by omega)).2, h1.2]
  have hs := List.pairwise_iff_getElem.1 (h.strict hL) j i (by simp; omega) (by simpa using hi) hj
  rw [List.getD_eq_getElem?_getD, List.getD_eq_getElem?_getD, List.getElem?_eq_getElem (by simp; omega), List.getElem?_eq_getElem (by simpa using hi)]
  exact hs
end Go.Proofs.Ytacjelpkmafkpaa
