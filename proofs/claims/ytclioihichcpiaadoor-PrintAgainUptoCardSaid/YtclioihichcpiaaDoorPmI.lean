/- Parse: Begins, and the law's small words. -/
import Derived.Test.YtclioihichcpiaaDoorPmH
set_option maxHeartbeats 8000000
set_option maxRecDepth 100000
namespace Go.Proofs.YtclioihichcpiaaDoor
open Go.RowKit Lx
end Go.Proofs.YtclioihichcpiaaDoor
/- Parse: works. -/
namespace Go.Proofs.YtclioihichcpiaaDoor
open Go.RowKit Lx
theorem own_at {w : World} {lo : Nat} {e : TypeId} {size g n c : Nat} {xs : List Value} (h : w.ownsRow lo e size (.slice (some ⟨g,0,none⟩) n c) n xs) (i : Nat) (u : Value) (hu : xs[i]? = some u) : w.cell? ⟨g,i,none⟩ = some u := by
 have := h.cells (g := g) rfl i u hu;rw [addr_add,Nat.zero_add] at this;exact this
end Go.Proofs.YtclioihichcpiaaDoor
