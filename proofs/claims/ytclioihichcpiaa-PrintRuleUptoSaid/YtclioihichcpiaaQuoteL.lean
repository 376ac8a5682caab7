/- Quote: lex's. -/
import Derived.Test.YtclioihichcpiaaProg
import Derived.Test.YtclioihichcpiaaBase
import Derived.Test.YtclioihichcpiaaBytes
import Derived.Test.YtclioihichcpiaaLexSpec
import Derived.Test.YtclioihichcpiaaLexA
import Derived.Test.YtclioihichcpiaaLexB
import Derived.Test.YtclioihichcpiaaLexE
import Derived.Test.YtclioihichcpiaaLexF
import Derived.Test.YtclioihichcpiaaLexX
import Derived.Deep.AppendLies
import Derived.Deep.RegionLaw
import Derived.Lib.AppendStr
import Derived.Lib.ConvBytes
import Derived.Test.YtclioihichcpiaaQuote
import Derived.Laws.BitsAllLaws
namespace Go.Proofs.Ytclioihichcpiaa
open Go.RowKit Lx

theorem u8_and15 (s : ByteArray) (k : Nat) : bits .and .u8 (bat s k) 15 = bat s k % 16 := by
  have h := (bat_range s k).2
  unfold bat at h ⊢
  have := u8_and_nat (((bl s).getD k 0).toNat) 15 (by omega) (by decide)
  rw [show ((15 : Int)) = ((15 : Nat) : Int) from rfl, this, show (15 : Nat) = 2 ^ 4 - 1 from rfl, Nat.and_two_pow_sub_one_eq_mod]; rfl
theorem below_bytes (w : World) (e : TypeId) (s : ByteArray) : Below w.heap.size w (Lib.bytesWorld w e s) :=
  ⟨rfl, rfl, rfl, by rw [Lib.bytesWorld_size]; omega, fun k hk => Lib.bytesWorld_at_old w e s k hk⟩
theorem own_not_marked {w : World} {base : Nat} {e t : TypeId} {size : Nat} {v : Value} {n B m : Nat} {xs : List Value} {bc : Array Value} (h : w.ownsRow base e size v n xs) (hB : w.heap[B]? = some (.cells bc t (m, m + 1))) : v.ownBlock ≠ some B := by
  rcases h.2 with ⟨rfl, _⟩ | ⟨g, cap, cur, rfl, _, hh, _⟩
  · intro h; cases h
  · intro h
    injection h with h
    have h : g = B := h
    subst h
    rw [hB] at hh
    injection hh with hh
    injection hh with _ _ hh
    injection hh with _ hh
    omega
theorem kept_marked {w w4 : World} {base : Nat} {e t : TypeId} {size : Nat} {v : Value} {n B m : Nat} {xs : List Value} {bc : Array Value} (h : w.ownsRow base e size v n xs) (hB : w.heap[B]? = some (.cells bc t (m, m + 1))) (hg : w.grownBy w4 v.ownBlock) :
    w4.heap[B]? = some (.cells bc t (m, m + 1)) := by
  rw [hg.block B (Array.getElem?_eq_some_iff.1 hB).1 (fun h2 => own_not_marked h hB h2.symm)]; exact hB
theorem kept_marked_d {w w4 : World} {ob : Obj} {base : Nat} {e t : TypeId} {size : Nat} {v : Value} {n B m : Nat} {xs : List Value} {bc : Array Value} (h : w.ownsRow base e size v n xs) (hB : w.heap[B]? = some (.cells bc t (m, m + 1))) (hg : (w.alloc ob).drew.grownBy w4 v.ownBlock) :
    w4.heap[B]? = some (.cells bc t (m, m + 1)) := by
  have hlt := (Array.getElem?_eq_some_iff.1 hB).1
  rw [hg.block B (le_al_drew ob hlt) (fun h2 => own_not_marked h hB h2.symm)]
  show (w.alloc ob).heap[B]? = _
  rw [heap_alloc_old w _ hlt]; exact hB
theorem kept_marked_al {w w4 : World} {ob : Obj} {base : Nat} {e t : TypeId} {size : Nat} {v : Value} {n B m : Nat} {xs : List Value} {bc : Array Value} (h : w.ownsRow base e size v n xs) (hB : w.heap[B]? = some (.cells bc t (m, m + 1))) (hg : (w.alloc ob).grownBy w4 v.ownBlock) :
    w4.heap[B]? = some (.cells bc t (m, m + 1)) := by
  have hlt := (Array.getElem?_eq_some_iff.1 hB).1
  rw [hg.block B (by rw [World.size_alloc]; omega) (fun h2 => own_not_marked h hB h2.symm), heap_alloc_old w _ hlt]; exact hB

end Go.Proofs.Ytclioihichcpiaa
