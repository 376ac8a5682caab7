/- Print: a copied program is kept. -/
import Derived.Test.YtclioihichcpiaaDoorJoS
import Derived.Test.YtclioihichcpiaaDoorPrX
import Derived.Test.YtclioihichcpiaaDoorJoL
set_option maxHeartbeats 8000000
set_option maxRecDepth 100000
namespace Go.Proofs.YtclioihichcpiaaDoor
open Go.RowKit Go.Shelf Lx
theorem Inps.ri {w : World} {a : Option Addr} {l : List InpD} (h : Inps w a l) : RI w a l := ⟨by have := h.len;omega,h.cells⟩
theorem Outs.ro {w : World} {a : Option Addr} {l : List OutD} (h : Outs w a l) : RO w a l := ⟨by have := h.len;omega,h.cells⟩
theorem Ruls.rr {w : World} {a : Option Addr} {l : List Rul} (h : Ruls w a l) : RR w a (l.map toR) := by
 refine ⟨by rw [List.length_map];have := h.len;omega,fun j x hx => ?_⟩;rw [List.getElem?_map] at hx
 cases hy : l[j]? with
 | none => rw [hy] at hx;cases hx
 | some y =>
  rw [hy] at hx;injection hx with hx;subst hx;obtain ⟨p,ad,cap,bd,bcap,hp,h0,h1,h2,h3,h4⟩ := h.cells j y hy;refine ⟨p,ad,cap,bd,bcap,hp,h0,h1,?_,h3.rt,h4.rl⟩;show _ = some (Value.slice bd (y.b.map toP).length bcap);rw [List.length_map];exact h2
end Go.Proofs.YtclioihichcpiaaDoor
