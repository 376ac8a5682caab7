/- Slices of texts and of bools as they are read: their cells, and how long they are by their bulk. -/
import Derived.Test.YtjeeljolhcoeoaaUxI
import Derived.Test.YtjeeljolhcoeoaaOpenU
import Derived.Deep.Slices
import Derived.Deep.Fields
namespace Go.Proofs.Ytjeeljolhcoeoaa.Str
open Go.ChangeShapes Go.WideShapes Go.ChangeAt Go.RowKit Go.Deep

theorem bulk_pos {H : Type} (d : DataW H) : 1 ≤ Rows.uptoBulk d := by
  cases d with
  | lit l => cases l <;> simp [Rows.uptoBulk]
  | _ => simp [Rows.uptoBulk]
theorem bulk_len {H : Type} : ∀ ds : List (DataW H), ds.length ≤ Rows.uptoBulkAll ds
  | [] => Nat.zero_le _
  | d :: ds => by
    have := bulk_len ds
    have := bulk_pos d
    show ds.length + 1 ≤ Rows.uptoBulk d + Rows.uptoBulkAll ds
    omega
theorem elems_in {H : Type} {enc : TypeId × Value → H} {P : Program} {W : World} {base : Nat} {spare : Nat → Bool} {held : Bool} {fuel : Nat} {t e : TypeId} {a : Option Addr} {len cap : Nat} {d : DataW H} {p : List MemPlace} {α : Type} (f : α → Value)
    (ht : P.underlying t = some (.slice e)) (hC : P.cellsOf e = 1) (hel : ∀ n cs x, DataW.trod enc P W base spare held n e cs = some x → ∃ v, cs = [f v])
    (h : DataW.trod enc P W base spare held fuel t (Value.slice a len cap).cells.toList = some (d, p)) :
    ∃ vs : List α, vs.length = len ∧ (∀ i (h : i < vs.length), ∃ b off, a = some ⟨b, off, none⟩ ∧ W.cell? ⟨b, off + i, none⟩ = some (f vs[i])) ∧ len ≤ Rows.uptoBulk d := by
  rcases open_slice ht h with ⟨hcs, _⟩ | ⟨x, l, c, m, n, D, Pl, hcs, _, hl, hm, hz, hx, hi⟩
  · simp [Value.cells] at hcs
    obtain ⟨rfl, rfl, rfl⟩ := hcs
    exact ⟨[], rfl, fun i hi => absurd hi (by simp), Nat.zero_le _⟩
  · simp [Value.cells] at hcs
    obtain ⟨rfl, rfl, rfl⟩ := hcs
    have hlm : len ≤ m := by rw [hz]; split <;> omega
    have hcell : ∀ i, i < m → ∃ z, W.cell? (x.add i) = some (f z) := fun i hi' => by
      obtain ⟨cs', hcc, htr⟩ := hi i hi'
      rw [hC, Nat.mul_one] at hcc
      obtain ⟨_, hcl, hat⟩ := World.cells?_some hcc
      obtain ⟨z, rfl⟩ := hel _ _ _ htr
      refine ⟨z, ?_⟩
      have := hat 0 (by omega)
      have e0 : (x.add i).add 0 = x.add i := by simp [Addr.add]
      rw [e0] at this
      exact this
    have hd : d = .slice ((List.range len).map D) ((List.range (m - len)).map fun j => D (len + j)) := congrArg Prod.fst hx
    have hbulk : len ≤ Rows.uptoBulk d := by
      rw [hd]
      show len ≤ Rows.uptoBulkAll _ + Rows.uptoBulkAll _ + 1
      have := bulk_len ((List.range len).map D)
      simp at this
      omega
    by_cases h0 : len = 0
    · subst h0
      exact ⟨[], rfl, fun i hi => absurd hi (by simp), hbulk⟩
    have hs : x.spot = none := by
      obtain ⟨z, hz0⟩ := hcell 0 (by omega)
      cases hsp : x.spot with
      | none => rfl
      | some s =>
        simp only [Addr.add, if_true, World.cell?, hsp] at hz0
        split at hz0 <;> simp at hz0
    obtain ⟨b, off, sp⟩ := x
    simp only at hs
    subst hs
    have hex : ∀ i : Fin len, ∃ s : α, W.cell? ⟨b, off + i.1, none⟩ = some (f s) := fun i => by
      have hi' := i.2
      obtain ⟨z0, k0⟩ := hcell i.1 (by omega)
      rw [addr_add] at k0
      exact ⟨z0, k0⟩
    obtain ⟨g, hg⟩ := Classical.axiomOfChoice hex
    refine ⟨List.ofFn g, by simp, fun i hi' => ⟨b, off, rfl, ?_⟩, hbulk⟩
    have hil : i < len := by simpa using hi'
    have := hg ⟨i, hil⟩
    simpa using this
theorem strs_in {H : Type} {enc : TypeId × Value → H} {P : Program} {W : World} {base : Nat} {spare : Nat → Bool} {held : Bool} {fuel : Nat} {t e : TypeId} {a : Option Addr} {len cap : Nat} {d : DataW H} {p : List MemPlace}
    (ht : P.underlying t = some (.slice e)) (he : P.underlying e = some .string) (hC : P.cellsOf e = 1) (h : DataW.trod enc P W base spare held fuel t (Value.slice a len cap).cells.toList = some (d, p)) :
    ∃ ks : List ByteArray, ks.length = len ∧ StrsA W a ks ∧ len ≤ Rows.uptoBulk d := by
  obtain ⟨vs, h1, h2, h3⟩ := elems_in Value.string ht hC (fun n cs x hx => by
    obtain ⟨s, hs, _⟩ := DataW.trod_string he hx
    exact ⟨s, hs⟩) h
  exact ⟨vs, h1, ⟨h2⟩, h3⟩
theorem bools_in {H : Type} {enc : TypeId × Value → H} {P : Program} {W : World} {base : Nat} {spare : Nat → Bool} {held : Bool} {fuel : Nat} {t e : TypeId} {a : Option Addr} {len cap : Nat} {d : DataW H} {p : List MemPlace}
    (ht : P.underlying t = some (.slice e)) (he : P.underlying e = some .bool) (hC : P.cellsOf e = 1) (h : DataW.trod enc P W base spare held fuel t (Value.slice a len cap).cells.toList = some (d, p)) :
    ∃ ks : List Bool, ks.length = len ∧ BoolsA W a ks ∧ len ≤ Rows.uptoBulk d := by
  obtain ⟨vs, h1, h2, h3⟩ := elems_in Value.bool ht hC (fun n cs x hx => by
    obtain ⟨s, hs, _⟩ := DataW.trod_bool he hx
    exact ⟨s, hs⟩) h
  exact ⟨vs, h1, ⟨h2⟩, h3⟩
end Go.Proofs.Ytjeeljolhcoeoaa.Str
