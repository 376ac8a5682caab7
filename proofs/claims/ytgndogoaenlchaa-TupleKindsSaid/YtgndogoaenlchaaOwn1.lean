/- a row of the call's own as a slice -/
import Derived.Test.YtgndogoaenlchaaBase
namespace Go.Proofs.Ytgndogoaenlchaa
open Go.RowKit

theorem own_slice1 {w : World} {base : Nat} {e : TypeId} {size : Nat} {v : Value} {n : Nat} {xs : List Value} (h : w.ownsRow base e size v n xs) :
    ∃ a c, v = .slice a n c ∧ (a = none → n = 0 ∧ c = 0) := by
  rcases h.2 with ⟨rfl, rfl⟩ | ⟨g, cap, cur, rfl, _⟩
  · exact ⟨none, 0, rfl, fun _ => ⟨rfl, rfl⟩⟩
  · exact ⟨_, cap, rfl, fun h => by cases h⟩

end Go.Proofs.Ytgndogoaenlchaa
