/- Owned rows of k cells an element, sorted. -/
import Derived.Test.YtoklbofobcloaaaDoorBase
import Derived.Shelf.SlSortCmp.WholeK
namespace Go.Proofs.YtoklbofobcloaaaDoor
open Go.RowKit Go.Sort Go.Shelf
set_option linter.unusedSectionVars false
section
variable {α : Type} [Inhabited α] {enc : α → List Value} {k : Nat}
theorem flatK_get (hk : ∀ x, (enc x).length = k) (k0 : 0 < k) : ∀ (L : List α) (i o : Nat), o < k → (L.flatMap enc)[i * k + o]? = (L[i]?).bind fun x => (enc x)[o]?
  | [], i, o, h => by simp
  | x :: r, 0, o, h => by
    rw [List.flatMap_cons, Nat.zero_mul, Nat.zero_add, List.getElem?_append_left (by rw [hk]; exact h)]
    rfl
  | x :: r, i + 1, o, h => by
    rw [List.flatMap_cons, List.getElem?_append_right (by rw [hk, Nat.succ_mul]; omega), hk, show (i + 1) * k + o - k = i * k + o from by rw [Nat.succ_mul]; omega, flatK_get hk k0 r i o h]
    rfl
theorem flatK_len (hk : ∀ x, (enc x).length = k) (L : List α) : (L.flatMap enc).length = L.length * k := by
  induction L with
  | nil => simp
  | cons x r ih => rw [List.flatMap_cons, List.length_append, hk, ih, List.length_cons, Nat.succ_mul]; omega
theorem flatK_list (hk : ∀ x, (enc x).length = k) (k0 : 0 < k) (d : Array α) : (flatK enc k d).toList = d.toList.flatMap enc := by
  apply List.ext_getElem?
  intro j
  by_cases hj : j < d.size * k
  · have hm : j % k < k := Nat.mod_lt _ k0
    have hq : j / k < d.size := (Nat.div_lt_iff_lt_mul k0).2 hj
    have h1 : (flatK enc k d).toList[j]? = some ((enc d[j / k]!)[j % k]!) := by
      rw [Array.getElem?_toList, Array.getElem?_eq_getElem (by rw [size_flatK]; exact hj)]
      simp [flatK]
    have h2 := flatK_get hk k0 d.toList (j / k) (j % k) hm
    rw [show j / k * k + j % k = j from by rw [Nat.mul_comm]; exact Nat.div_add_mod j k] at h2
    rw [h1, h2, Array.getElem?_toList, Array.getElem?_eq_getElem hq]
    have h3 : d[j / k]! = d[j / k] := by simp [hq]
    rw [h3]
    have h4 : j % k < (enc d[j / k]).length := by rw [hk]; exact hm
    show some ((enc d[j / k])[j % k]!) = (enc d[j / k])[j % k]?
    rw [List.getElem?_eq_getElem h4]
    simp [h4]
  · rw [List.getElem?_eq_none (by simp [flatK]; omega), List.getElem?_eq_none (by rw [flatK_len hk]; simp; omega)]
theorem holdsK_of_own {W : World} {base g n c : Nat} {e : TypeId} {L : List α} (hk : ∀ x, (enc x).length = k) (k0 : 0 < k) (h : W.ownsRow base e k (.slice (some ⟨g, 0, none⟩) n c) n (L.flatMap enc)) : g < W.heap.size ∧ HoldsK enc k W g 0 L.toArray := by
  rcases h.2 with ⟨e0, _⟩ | ⟨g', cap, cur, e0, hb, hg, hn, hm, hs, ht⟩
  · cases e0
  · injection e0 with e1 _ e3
    injection e1 with e1
    injection e1 with e1
    subst e1
    refine ⟨(Array.getElem?_eq_some_iff.1 hg).1, fun j hj => ?_⟩
    rw [size_flatK] at hj
    have hl : L.length * k = n * k := by rw [← flatK_len hk, h.1]
    have hj2 : j < n * k := by
      have : L.toArray.size = L.length := by simp
      rw [this] at hj
      omega
    have h1 := congrArg (fun l => l[j]?) (flatK_list hk k0 L.toArray)
    simp only [Array.getElem?_toList] at h1
    have h2 : (flatK enc k L.toArray)[j]? = some ((flatK enc k L.toArray)[j]!) := by
      rw [Array.getElem?_eq_getElem (by rw [size_flatK]; exact hj)]
      rw [getElem!_pos _ _ (by rw [size_flatK]; exact hj)]
    have h3 : cur[j]? = some ((flatK enc k L.toArray)[j]!) := by
      rw [← h2, h1, ← ht, List.getElem?_take, if_pos hj2, Array.getElem?_toList]
    refine ⟨?_, ?_⟩
    · rw [Nat.zero_add]
      simp only [World.cell?, hg]
      rw [h3]; rfl
    · simp [World.frozen?, hg]
theorem swK_grown (enc : α → List Value) (k : Nat) (W : World) (g m : Nat) (dk : Array α) (os : Array Obj) : W.grownBy (sortWorldK enc k W g 0 m dk os) (some g) := by
  refine ⟨rfl, rfl, rfl, ?_, fun j hj hn => ?_⟩
  · unfold sortWorldK; rw [size_grow, size_putRowK]; exact Nat.le_add_right _ _
  · unfold sortWorldK
    rw [heap_grow_old _ _ (by rw [size_putRowK]; exact hj)]
    simp [putRowK, putRow, mapBlock, Sort.ahead, Array.getElem?_modify, show g ≠ j from fun e => hn (by rw [e])]
theorem swK_own {W : World} {base g n c : Nat} {e : TypeId} {xs : List Value} (hk : ∀ x, (enc x).length = k) (k0 : 0 < k) (h : W.ownsRow base e k (.slice (some ⟨g, 0, none⟩) n c) n xs) (m : Nat) (dk : Array α) (hd : dk.size = n) (os : Array Obj) :
    (sortWorldK enc k W g 0 m dk os).ownsRow base e k (.slice (some ⟨g, 0, none⟩) n c) n (dk.toList.flatMap enc) := by
  have hlen : (dk.toList.flatMap enc).length = n * k := by rw [flatK_len hk]; simp [hd]
  rcases h.2 with ⟨e0, _⟩ | ⟨g', cap, cur, e0, hb, hg, hn, hm, hs, ht⟩
  · cases e0
  · injection e0 with e1 _ e3
    injection e1 with e1
    injection e1 with e1
    subst e1; subst e3
    refine ⟨hlen, .inr ⟨g, c, putCells id 0 (flatK enc k dk) cur, rfl, hb, ?_, hn, hm, by simpa [putCells] using hs, ?_⟩⟩
    · unfold sortWorldK
      rw [heap_grow_old _ _ (by rw [size_putRowK]; exact (Array.getElem?_eq_some_iff.1 hg).1)]
      simp [putRowK, putRow, mapBlock, Sort.ahead, Array.getElem?_modify, hg, onCells]
    · rw [← flatK_list hk k0]
      apply List.ext_getElem?
      intro j
      have hnk : n * k ≤ cur.size := by rw [hs]; exact Nat.mul_le_mul_right _ hn
      rw [List.getElem?_take, Array.getElem?_toList, Array.getElem?_toList]
      by_cases hj : j < n * k
      · rw [if_pos hj, Array.getElem?_eq_getElem (by simp [putCells]; omega), Array.getElem?_eq_getElem (by rw [size_flatK, hd]; exact hj)]
        simp [putCells, size_flatK, hd, hj]
      · rw [if_neg hj, Array.getElem?_eq_none (by rw [size_flatK, hd]; omega)]
theorem perm_of_in {d d' : Array α} (h : PermIn 0 d.size d d') : d'.toList.Perm d.toList := by
  obtain ⟨h1, -, h3⟩ := h
  have e1 : d'.extract 0 d.size = d' := by rw [← h1]; simp
  have e2 : d.extract 0 d.size = d := by simp
  rwa [e1, e2] at h3
theorem pairwise_of_in {lt : α → α → Bool} {d' : Array α} {n : Nat} (hn : d'.size = n) (h : SortedIn lt 0 n d') : d'.toList.Pairwise fun a b => lt b a = false := by
  rw [List.pairwise_iff_getElem]
  intro i j hi hj hij
  have hi2 : i < d'.size := by simpa using hi
  have hj2 : j < d'.size := by simpa using hj
  have := h i j (Nat.zero_le _) hij (by omega)
  have e1 : d'[i]! = d'[i] := by simp [hi2]
  have e2 : d'[j]! = d'[j] := by simp [hj2]
  rw [e1, e2] at this
  simpa using this
end
end Go.Proofs.YtoklbofobcloaaaDoor
