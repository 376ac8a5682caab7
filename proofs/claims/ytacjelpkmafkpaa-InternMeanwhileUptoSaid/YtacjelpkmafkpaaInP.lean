/- Intern: numbers by rising texts, plain. -/
import Derived.Sort.LotA
namespace Go.Proofs.Ytacjelpkmafkpaa
open Go.Sort
/-- number i's text, as bytes -/
def tx (L : List ByteArray) (i : Int) : List UInt8 := (L.getD i.toNat ⟨#[]⟩).data.toList
/-- all numbers, by rising texts -/
structure Risen (L : List ByteArray) (a : List Int) : Prop where
  perm : a.Perm ((List.range L.length).map fun n : Nat => (n : Int))
  up : a.Pairwise fun x y => ltStr (tx L y) (tx L x) = false
theorem Risen.len {L : List ByteArray} {a : List Int} (h : Risen L a) : a.length = L.length := by
  rw [h.perm.length_eq]; simp
theorem Risen.mem {L : List ByteArray} {a : List Int} (h : Risen L a) {x : Int} (hx : x ∈ a) : ∃ n : Nat, n < L.length ∧ x = (n : Int) := by
  have := h.perm.mem_iff.1 hx
  obtain ⟨n, hn, rfl⟩ := List.mem_map.1 this
  exact ⟨n, List.mem_range.1 hn, rfl⟩
theorem tx_at {L : List ByteArray} {n : Nat} (h : n < L.length) : tx L (n : Int) = L[n].data.toList := by
  unfold tx
  rw [Int.toNat_natCast, List.getD_eq_getElem?_getD, List.getElem?_eq_getElem h]; rfl
theorem ba_inj {s t : ByteArray} (h : s.data.toList = t.data.toList) : s = t := by
  obtain ⟨s⟩ := s
  obtain ⟨t⟩ := t
  rw [show s = t from Array.ext' h]
theorem map_tx (L : List ByteArray) : ((List.range L.length).map fun n : Nat => (n : Int)).map (tx L) = L.map fun s => s.data.toList := by
  apply List.ext_getElem
  · simp
  · intro i h1 h2
    simp at h1
    simp [tx_at h1]
theorem Risen.texts {L : List ByteArray} {a : List Int} (h : Risen L a) : (a.map (tx L)).Perm (L.map fun s => s.data.toList) := by
  rw [← map_tx]; exact h.perm.map _
theorem Risen.sorted {L : List ByteArray} {a : List Int} (h : Risen L a) : (a.map (tx L)).Pairwise fun x y => ltStr y x = false := List.pairwise_map.2 h.up
theorem sorted_one {x y : List (List UInt8)} (hp : x.Perm y) (hx : x.Pairwise fun x y => ltStr y x = false) (hy : y.Pairwise fun x y => ltStr y x = false) : x = y := by
  refine List.Perm.eq_of_pairwise (le := fun x y => ltStr y x = false) ?_ hx hy hp
  intro a b _ _ h1 h2
  simp only [ltStr, decide_eq_false_iff_not, List.not_lt] at h1 h2
  exact List.le_antisymm h1 h2
/-- tables of the same texts: by rising ranks the same texts -/
theorem Risen.same {L M : List ByteArray} {a b : List Int} (h : Risen L a) (g : Risen M b) (hL : L.Nodup) (hM : M.Nodup) (hm : ∀ x, x ∈ L ↔ x ∈ M) : a.map (tx L) = b.map (tx M) := by
  have hp : L.Perm M := (List.perm_ext_iff_of_nodup hL hM).2 hm
  exact sorted_one (h.texts.trans ((hp.map _).trans g.texts.symm)) h.sorted g.sorted
theorem nodup_map {L : List ByteArray} (h : L.Nodup) : (L.map fun s => s.data.toList).Nodup := by
  rw [List.nodup_iff_pairwise_ne] at *
  rw [List.pairwise_map]
  exact h.imp fun hne e => hne (ba_inj e)
/-- strictly so -/
theorem Risen.strict {L : List ByteArray} {a : List Int} (h : Risen L a) (hL : L.Nodup) : (a.map (tx L)).Pairwise fun x y => x < y := by
  have hn : (a.map (tx L)).Nodup := h.texts.nodup_iff.2 (nodup_map hL)
  rw [List.nodup_iff_pairwise_ne] at hn
  refine (h.sorted.and hn).imp fun ⟨h1, h2⟩ => ?_
  simp only [ltStr, decide_eq_false_iff_not, List.not_lt] at h1
  rcases List.le_iff_lt_or_eq.1 h1 with h | h
  · exact h
  · exact absurd h h2
theorem Risen.one {L : List ByteArray} {a b : List Int} (h : Risen L a) (g : Risen L b) (hL : L.Nodup) : a = b := by
  have he := h.same g hL hL (fun _ => Iff.rfl)
  have hl : a.length = b.length := by rw [h.len, g.len]
  refine List.ext_getElem hl fun i h1 h2 => ?_
  obtain ⟨n, hn, e1⟩ := h.mem (List.getElem_mem h1)
  obtain ⟨m, hm, e2⟩ := g.mem (List.getElem_mem h2)
  have e3 : tx L a[i] = tx L b[i] := by
    have h3 : (a.map (tx L))[i]? = (b.map (tx L))[i]? := by rw [he]
    rw [List.getElem?_map, List.getElem?_map, List.getElem?_eq_getElem h1, List.getElem?_eq_getElem h2] at h3
    exact Option.some.inj h3
  rw [e1, e2, tx_at hn, tx_at hm] at e3
  have e4 := ba_inj e3
  have := (List.getElem_inj hL).1 e4
  rw [e1, e2, this]
theorem Risen.nodup {L : List ByteArray} {a : List Int} (h : Risen L a) : a.Nodup := by
  rw [h.perm.nodup_iff, List.nodup_iff_pairwise_ne, List.pairwise_map]
  exact (List.nodup_iff_pairwise_ne.1 List.nodup_range).imp fun hne e => hne (Int.ofNat.inj e)
/-- the ranks: of each number its place -/
structure Ranked (L : List ByteArray) (a R : List Int) : Prop where
  len : R.length = L.length
  at_ : ∀ i n : Nat, a[i]? = some (n : Int) → R[n]? = some (i : Int)
end Go.Proofs.Ytacjelpkmafkpaa
