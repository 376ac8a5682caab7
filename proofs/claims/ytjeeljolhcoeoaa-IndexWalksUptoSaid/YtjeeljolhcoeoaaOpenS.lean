/- A slice of steps as it is read: its cells, and how long it is by its bulk. -/
import Derived.Test.YtjeeljolhcoeoaaMxS
import Derived.Test.YtjeeljolhcoeoaaOpenU
import Derived.Deep.Slices
import Derived.Deep.Fields
namespace Go.Proofs.Ytjeeljolhcoeoaa
open Go.ChangeShapes Go.WideShapes Go.ChangeAt Go.RowKit Go.Deep

theorem bulk_pos {H : Type} (d : DataW H) : 1 ≤ Rows.uptoBulk d := by
  cases d with
  | lit l => cases l <;> simp [Rows.uptoBulk]
  | _ => simp [Rows.uptoBulk]
theorem bulk_len {H : Type} : ∀ ds : List (DataW H), ds.length ≤ Rows.uptoBulkAll ds
  | [] => Nat.zero_le _
  | d :: ds => by
    have := bulk_len ds
    have := bulk_pos d
    show ds.length + 1 ≤ Rows.uptoBulk d + Rows.uptoBulkAll ds
    omega
theorem addr_add2 (b off i j : Nat) : ((⟨b, off, none⟩ : Addr).add i).add j = ⟨b, off + i + j, none⟩ := by rw [addr_add, addr_add]
theorem steps_in {H : Type} {enc : TypeId × Value → H} {P : Program} {W : World} {base : Nat} {spare : Nat → Bool} {held : Bool} {fuel : Nat} {t e : TypeId} {fs : Array Field} {a : Option Addr} {len cap : Nat} {d : DataW H} {p : List MemPlace}
    (ht : P.underlying t = some (.slice e)) (he : P.underlying e = some (.struct fs)) (h5 : fs.size = 5) (hone : oneCellFields P fs = true) (hC : P.cellsOf e = 5) (hk : ∀ (j : Nat) (f : Field), fs[j]? = some f → P.underlying f.type = some (.int .i64))
    (h : DataW.trod enc P W base spare held fuel t (Value.slice a len cap).cells.toList = some (d, p)) :
    ∃ ss : List StepD, ss.length = len ∧ Steps W a ss ∧ len ≤ Rows.uptoBulk d := by
  rcases open_slice ht h with ⟨hcs, _⟩ | ⟨x, l, c, m, n, D, Pl, hcs, _, hl, hm, hz, hx, hi⟩
  · simp [Value.cells] at hcs
    obtain ⟨rfl, rfl, rfl⟩ := hcs
    exact ⟨[], rfl, ⟨fun i hi => absurd hi (by simp)⟩, Nat.zero_le _⟩
  · simp [Value.cells] at hcs
    obtain ⟨rfl, rfl, rfl⟩ := hcs
    have hlm : len ≤ m := by rw [hz]; split <;> omega
    have hcell : ∀ i, i < m → ∀ j, j < 5 → ∃ z, W.cell? ((x.add (i * 5)).add j) = some (.int .i64 z) := fun i hi' j hj => by
      obtain ⟨cs', hcc, htr⟩ := hi i hi'
      rw [hC] at hcc
      obtain ⟨_, hcl, hat⟩ := World.cells?_some hcc
      obtain ⟨xs, n', _, _, _, hxl, hf⟩ := DataW.trod_struct he htr
      have hfj : fs[j]? = some (fs[j]'(by omega)) := Array.getElem?_eq_getElem (by omega)
      obtain ⟨ho, hc1⟩ := hone_of hone j _ hfj
      have h1 := hf j _ hfj
      rw [ho, hc1, List.getElem?_eq_getElem (by omega)] at h1
      obtain ⟨z, hz1, _, _⟩ := DataW.trod_int (hk j _ hfj) h1
      rw [List.drop_eq_getElem_cons (by omega)] at hz1
      have hz2 : cs'[j]'(by omega) = .int .i64 z := (List.cons.inj (show cs'[j]'(by omega) :: List.take 0 _ = [Value.int .i64 z] from hz1)).1
      refine ⟨z, ?_⟩
      rw [hat j hj, List.getElem?_eq_getElem (by omega), hz2]
    have hd : d = .slice ((List.range len).map D) ((List.range (m - len)).map fun j => D (len + j)) := congrArg Prod.fst hx
    have hbulk : len ≤ Rows.uptoBulk d := by
      rw [hd]
      show len ≤ Rows.uptoBulkAll _ + Rows.uptoBulkAll _ + 1
      have := bulk_len ((List.range len).map D)
      simp at this
      omega
    by_cases h0 : len = 0
    · subst h0
      exact ⟨[], rfl, ⟨fun i hi => absurd hi (by simp)⟩, hbulk⟩
    have hs : x.spot = none := by
      obtain ⟨z, hz0⟩ := hcell 0 (by omega) 0 (by decide)
      cases hsp : x.spot with
      | none => rfl
      | some s =>
        simp only [Nat.zero_mul, Addr.add, if_true, World.cell?, hsp] at hz0
        split at hz0 <;> simp at hz0
    obtain ⟨b, off, sp⟩ := x
    simp only at hs
    subst hs
    have hex : ∀ i : Fin len, ∃ s : StepD, W.cell? ⟨b, off + i.1 * 5, none⟩ = some (.int .i64 s.K) ∧ W.cell? ⟨b, off + i.1 * 5 + 1, none⟩ = some (.int .i64 s.On) ∧ W.cell? ⟨b, off + i.1 * 5 + 2, none⟩ = some (.int .i64 s.key) ∧
        W.cell? ⟨b, off + i.1 * 5 + 3, none⟩ = some (.int .i64 s.value) ∧ W.cell? ⟨b, off + i.1 * 5 + 4, none⟩ = some (.int .i64 s.leave) := fun i => by
      have hi' := i.2
      obtain ⟨z0, k0⟩ := hcell i.1 (by omega) 0 (by decide)
      obtain ⟨z1, k1⟩ := hcell i.1 (by omega) 1 (by decide)
      obtain ⟨z2, k2⟩ := hcell i.1 (by omega) 2 (by decide)
      obtain ⟨z3, k3⟩ := hcell i.1 (by omega) 3 (by decide)
      obtain ⟨z4, k4⟩ := hcell i.1 (by omega) 4 (by decide)
      rw [addr_add2] at k0 k1 k2 k3 k4
      exact ⟨⟨z0, z1, z2, z3, z4⟩, k0, k1, k2, k3, k4⟩
    obtain ⟨f, hf⟩ := Classical.axiomOfChoice hex
    refine ⟨List.ofFn f, by simp, ⟨fun i hi' => ⟨b, off, rfl, ?_⟩⟩, hbulk⟩
    have hil : i < len := by simpa using hi'
    have := hf ⟨i, hil⟩
    simpa using this
end Go.Proofs.Ytjeeljolhcoeoaa
