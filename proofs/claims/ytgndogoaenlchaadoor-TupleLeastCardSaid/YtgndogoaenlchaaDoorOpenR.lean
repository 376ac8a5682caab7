/- From a reading of a slice of slices of numbers to what the walk asks. -/
import Derived.Test.YtgndogoaenlchaaDoorBase
import Derived.Test.YtgndogoaenlchaaDoorOpen
import Derived.Test.YtgndogoaenlchaaDoorLeast
import Derived.Deep.Slices
namespace Go.Proofs.YtgndogoaenlchaaDoor
open Go.ChangeShapes Go.WideShapes Go.ChangeAt Go.RowKit Go.Deep

theorem weightsAll_mem {H : Type} {P : Program} {e : TypeId} {d : DataW H} {n : Nat} : ∀ {l : List (DataW H)}, d ∈ l → n ∈ d.weights P e → n ∈ DataW.weightsAll P e l
  | [], h, _ => by cases h
  | x :: r, h, hn => by
    rw [DataW.weightsAll, List.mem_append]
    rcases List.mem_cons.1 h with h | h
    · subst h; exact .inl hn
    · exact .inr (weightsAll_mem h hn)

theorem rows_in {H : Type} {enc : TypeId × Value → H} {P : Program} {W : World} {base : Nat} {spare : Nat → Bool} {held : Bool} {fuel : Nat} {t e q : TypeId} {a : Option Addr} {len cap : Nat} {d : DataW H} {p : List MemPlace}
    (ht : P.underlying t = some (.slice e)) (he : P.underlying e = some (.slice q)) (hq : P.underlying q = some (.int .i64)) (ce : P.cellsOf e = 1) (cq : P.cellsOf q = 1) (be : P.bytesOf e = 24) (bq : P.bytesOf q = 8)
    (h : DataW.trod enc P W base spare held fuel t (Value.slice a len cap).cells.toList = some (d, p)) (hR : ∀ n ∈ d.weights P t, n ≤ reachBytes) :
    ∃ rs : List IRow, rs.length = len ∧ rs.length ≤ 5864062014804 ∧ (∀ i, i < rs.length → (rth rs i).zs.length ≤ 17592186043904) ∧ IRows W a cap rs := by
  rcases open_slice1 ht ce h with ⟨hcs, _⟩ | ⟨x, l, c, m, n, V, D, Pl, hcs, _, hl, hm, hmm, hx, hcell⟩
  · simp [Value.cells] at hcs
    obtain ⟨rfl, rfl, rfl⟩ := hcs
    exact ⟨[], rfl, by simp, fun i hi => by simp at hi, by simp, by simp, fun i hi => by simp at hi, fun i hi => by simp at hi, fun i hi => by simp at hi⟩
  · simp [Value.cells] at hcs
    obtain ⟨rfl, rfl, rfl⟩ := hcs
    have hlm : len ≤ m := by rw [hmm]; split <;> omega
    have hd : d = .slice ((List.range len).map D) ((List.range (m - len)).map fun j => D (len + j)) := congrArg Prod.fst hx
    have hw : d.weights P t = (((List.range len).map D).length + ((List.range (m - len)).map fun j => D (len + j)).length) * P.bytesOf e :: (DataW.weightsAll P e ((List.range len).map D) ++ DataW.weightsAll P e ((List.range (m - len)).map fun j => D (len + j))) := by
      rw [hd]; simp [DataW.weights, ht]
    rw [hw, be] at hR
    have h24 := hR _ (List.mem_cons_self ..)
    simp only [List.length_map, List.length_range, reachBytes] at h24
    have hin : ∀ i, i < len → ∀ n ∈ (D i).weights P e, n ≤ reachBytes := fun i hi n hn =>
      hR n (List.mem_cons_of_mem _ (List.mem_append_left _ (weightsAll_mem (List.mem_map.2 ⟨i, List.mem_range.2 hi, rfl⟩) hn)))
    obtain ⟨f, hf⟩ := choose_lt (α := IRow) (n := len) (p := fun i r => V i = r.v ∧ r.zs.length ≤ 17592186043904 ∧ Ints .i64 W r.a r.zs ∧ (r.a = none → r.zs = [] ∧ r.cap = 0)) (fun i hi => by
      have ht2 := (hcell i (by omega)).2
      have hsh : ∃ a' l' c', V i = .slice a' l' c' := by
        rcases open_slice1 he cq ht2 with ⟨h1, _⟩ | ⟨a', l', c', _, _, _, _, _, h1, _⟩
        · exact ⟨none, 0, 0, by simpa using h1⟩
        · exact ⟨some a', l', c', by simpa using h1⟩
      obtain ⟨a', l', c', hV⟩ := hsh
      rw [hV] at ht2
      obtain ⟨xs, h1, h2, h3, h4⟩ := ints_in (a := a') (len := l') (cap := c') (k := .i64) he hq cq bq (h := ht2) (fun el sp hds => hin i hi _ (by rw [hds]; simp [DataW.weights, he]))
      subst h1
      exact ⟨⟨a', c', xs⟩, hV, h2, h3, h4⟩)
    have hrt : ∀ i, i < len → rth ((List.range len).map f) i = f i := fun i hi => by simp [rth, hi]
    refine ⟨(List.range len).map f, by simp, by simp; omega, fun i hi => ?_, ⟨by simp; omega, by simpa using hl, fun i hi => ?_, fun i hi => ?_, fun i hi => ?_⟩⟩
    · simp only [List.length_map, List.length_range] at hi
      rw [hrt i hi]; exact (hf i hi).2.1
    · simp only [List.length_map, List.length_range] at hi
      have hc := (hcell i (by omega)).1
      rw [(hf i hi).1] at hc
      have hs : x.spot = none := by
        have hc0 := (hcell 0 (by omega)).1
        rw [(hf 0 (by omega)).1] at hc0
        cases hsp : x.spot with
        | none => rfl
        | some s =>
          simp only [Addr.add, if_true, World.cell?, hsp, IRow.v] at hc0
          split at hc0 <;> simp at hc0
      refine ⟨x.block, x.off, by cases x; simp_all, ?_⟩
      rw [hrt i hi, ← hc]
      congr 1
      unfold Addr.add; split <;> (cases x; simp_all)
    · simp only [List.length_map, List.length_range] at hi
      rw [hrt i hi]; exact (hf i hi).2.2.1
    · simp only [List.length_map, List.length_range] at hi
      rw [hrt i hi]; exact (hf i hi).2.2.2

end Go.Proofs.YtgndogoaenlchaaDoor
