/- How long a slice of integers is, by the bulk of its reading. -/
import Derived.Test.YtacjelpkmafkpaaRows
import Derived.Test.YtacjelpkmafkpaaOpen
namespace Go.Proofs.Ytacjelpkmafkpaa
open Go.ChangeShapes Go.WideShapes Go.ChangeAt Go.RowKit

theorem bulk_lits {H : Type} (k : IntKind) : ∀ zs : List Int, Rows.uptoBulkAll (H := H) (lits k zs) = zs.length
  | [] => rfl
  | z :: zs => by
    have := bulk_lits (H := H) k zs
    show Rows.uptoBulk _ + Rows.uptoBulkAll (lits k zs) = _
    rw [this]
    show 1 + zs.length = zs.length + 1
    omega
theorem ints_bulk {H : Type} {enc : TypeId × Value → H} {P : Program} {W : World} {base : Nat} {spare : Nat → Bool} {held : Bool} {fuel : Nat} {t e : TypeId} {k : IntKind} {a : Option Addr} {len cap : Nat} {d : DataW H} {p : List MemPlace}
    (ht : P.underlying t = some (.slice e)) (he : P.underlying e = some (.int k)) (hc : P.cellsOf e = 1) (h : DataW.trod enc P W base spare held fuel t (Value.slice a len cap).cells.toList = some (d, p)) : len ≤ Rows.uptoBulk d := by
  rcases open_ints ht he hc h with ⟨hcs, _⟩ | ⟨x, l, c, zs, hcs, _, hl, hm, hz, hx, hcell, hwz⟩
  · simp [Value.cells] at hcs
    omega
  · simp [Value.cells] at hcs
    obtain ⟨rfl, rfl, rfl⟩ := hcs
    have hlz : len ≤ zs.length := by rw [hz]; split <;> omega
    rw [show d = .slice (lits k (zs.take len)) (lits k (zs.drop len)) from congrArg Prod.fst hx]
    show len ≤ Rows.uptoBulkAll _ + Rows.uptoBulkAll _ + 1
    rw [bulk_lits, bulk_lits, List.length_take, List.length_drop]
    omega
end Go.Proofs.Ytacjelpkmafkpaa
