/- The kit: alike terms, literals, rules and programs are found alike. (gen_kta.py) -/
import Derived.Test.YtclioihichcpiaaDoorPmD
import Derived.Deep.QuietTactic
import Derived.BigQuiet
import Derived.Deep.RegionHeld3
set_option maxHeartbeats 8000000
set_option maxRecDepth 100000
namespace Go.Proofs.YtclioihichcpiaaDoor
open Go.RowKit Lx
/-- a row in memory, read alone -/
structure RT (w : World) (a : Option Addr) (l : List (Bool × ByteArray)) : Prop where
  len : l.length ≤ 9223372036854775807
  cells : ∀ j x,l[j]? = some x → ∃ p,a = some p ∧ w.cell? (p.add (j * 2)) = some (.bool (x.1)) ∧ w.cell? ⟨(p.add (j * 2)).block,(p.add (j * 2)).off + 1,none⟩ = some (.string (x.2))
theorem RT.below {w w' : World} {a : Option Addr} {l : List (Bool × ByteArray)} (h : RT w a l) (hb : Below w.heap.size w w') : RT w' a l :=
  ⟨h.len,fun j x hj => by
    obtain ⟨p,hp,h0,h1⟩ := h.cells j x hj;exact ⟨p,hp,cell_below hb rfl h0,cell_below hb rfl h1⟩⟩
theorem RT.new {w : World} {a : Option Addr} {l : List (Bool × ByteArray)} (h : RT w a l) (ob : Obj) : RT (w.alloc ob) a l := h.below ((Below.refl _ _).al _)
theorem RT.nil (w : World) (a : Option Addr) : RT w a [] := ⟨Nat.zero_le _,fun j x hj => by cases hj⟩
/-- a row in memory, read alone -/
structure RL (w : World) (a : Option Addr) (l : List (PLit)) : Prop where
  len : l.length ≤ 9223372036854775807
  cells : ∀ j x,l[j]? = some x → ∃ p ad cap,a = some p ∧ w.cell? (p.add (j * 7)) = some (.int .i64 (x.k)) ∧ w.cell? ⟨(p.add (j * 7)).block,(p.add (j * 7)).off + 1,none⟩ = some (.string (x.p)) ∧ w.cell? ⟨(p.add (j * 7)).block,(p.add (j * 7)).off + 2,none⟩ = some (.slice ad x.a.length cap) ∧ w.cell? ⟨(p.add (j * 7)).block,(p.add (j * 7)).off + 3,none⟩ = some (.bool (x.l.1)) ∧ w.cell? ⟨(p.add (j * 7)).block,(p.add (j * 7)).off + 4,none⟩ = some (.string (x.l.2)) ∧ w.cell? ⟨(p.add (j * 7)).block,(p.add (j * 7)).off + 5,none⟩ = some (.bool (x.r.1)) ∧ w.cell? ⟨(p.add (j * 7)).block,(p.add (j * 7)).off + 6,none⟩ = some (.string (x.r.2)) ∧ RT w ad x.a
theorem RL.below {w w' : World} {a : Option Addr} {l : List (PLit)} (h : RL w a l) (hb : Below w.heap.size w w') : RL w' a l :=
  ⟨h.len,fun j x hj => by
    obtain ⟨p,ad,cap,hp,h0,h1,h2,h3,h4,h5,h6,t0⟩ := h.cells j x hj;exact ⟨p,ad,cap,hp,cell_below hb rfl h0,cell_below hb rfl h1,cell_below hb rfl h2,cell_below hb rfl h3,cell_below hb rfl h4,cell_below hb rfl h5,cell_below hb rfl h6,t0.below hb⟩⟩
theorem RL.new {w : World} {a : Option Addr} {l : List (PLit)} (h : RL w a l) (ob : Obj) : RL (w.alloc ob) a l := h.below ((Below.refl _ _).al _)
theorem RL.nil (w : World) (a : Option Addr) : RL w a [] := ⟨Nat.zero_le _,fun j x hj => by cases hj⟩
/-- a row in memory, read alone -/
structure RR (w : World) (a : Option Addr) (l : List (PRule)) : Prop where
  len : l.length ≤ 9223372036854775807
  cells : ∀ j x,l[j]? = some x → ∃ p ad cap bd bcap,a = some p ∧ w.cell? (p.add (j * 3)) = some (.string (x.p)) ∧ w.cell? ⟨(p.add (j * 3)).block,(p.add (j * 3)).off + 1,none⟩ = some (.slice ad x.a.length cap) ∧ w.cell? ⟨(p.add (j * 3)).block,(p.add (j * 3)).off + 2,none⟩ = some (.slice bd x.b.length bcap) ∧ RT w ad x.a ∧ RL w bd x.b
theorem RR.below {w w' : World} {a : Option Addr} {l : List (PRule)} (h : RR w a l) (hb : Below w.heap.size w w') : RR w' a l :=
  ⟨h.len,fun j x hj => by
    obtain ⟨p,ad,cap,bd,bcap,hp,h0,h1,h2,t0,t1⟩ := h.cells j x hj;exact ⟨p,ad,cap,bd,bcap,hp,cell_below hb rfl h0,cell_below hb rfl h1,cell_below hb rfl h2,t0.below hb,t1.below hb⟩⟩
theorem RR.new {w : World} {a : Option Addr} {l : List (PRule)} (h : RR w a l) (ob : Obj) : RR (w.alloc ob) a l := h.below ((Below.refl _ _).al _)
theorem RR.nil (w : World) (a : Option Addr) : RR w a [] := ⟨Nat.zero_le _,fun j x hj => by cases hj⟩
/-- a row in memory, read alone -/
structure RI (w : World) (a : Option Addr) (l : List (ByteArray × Int × ByteArray)) : Prop where
  len : l.length ≤ 9223372036854775807
  cells : ∀ j x,l[j]? = some x → ∃ p,a = some p ∧ w.cell? (p.add (j * 3)) = some (.string (x.1)) ∧ w.cell? ⟨(p.add (j * 3)).block,(p.add (j * 3)).off + 1,none⟩ = some (.int .i64 (x.2.1)) ∧ w.cell? ⟨(p.add (j * 3)).block,(p.add (j * 3)).off + 2,none⟩ = some (.string (x.2.2))
theorem RI.below {w w' : World} {a : Option Addr} {l : List (ByteArray × Int × ByteArray)} (h : RI w a l) (hb : Below w.heap.size w w') : RI w' a l :=
  ⟨h.len,fun j x hj => by
    obtain ⟨p,hp,h0,h1,h2⟩ := h.cells j x hj;exact ⟨p,hp,cell_below hb rfl h0,cell_below hb rfl h1,cell_below hb rfl h2⟩⟩
theorem RI.new {w : World} {a : Option Addr} {l : List (ByteArray × Int × ByteArray)} (h : RI w a l) (ob : Obj) : RI (w.alloc ob) a l := h.below ((Below.refl _ _).al _)
theorem RI.nil (w : World) (a : Option Addr) : RI w a [] := ⟨Nat.zero_le _,fun j x hj => by cases hj⟩
/-- a row in memory, read alone -/
structure RO (w : World) (a : Option Addr) (l : List (ByteArray × Int)) : Prop where
  len : l.length ≤ 9223372036854775807
  cells : ∀ j x,l[j]? = some x → ∃ p,a = some p ∧ w.cell? (p.add (j * 2)) = some (.string (x.1)) ∧ w.cell? ⟨(p.add (j * 2)).block,(p.add (j * 2)).off + 1,none⟩ = some (.int .i64 (x.2))
theorem RO.below {w w' : World} {a : Option Addr} {l : List (ByteArray × Int)} (h : RO w a l) (hb : Below w.heap.size w w') : RO w' a l :=
  ⟨h.len,fun j x hj => by
    obtain ⟨p,hp,h0,h1⟩ := h.cells j x hj;exact ⟨p,hp,cell_below hb rfl h0,cell_below hb rfl h1⟩⟩
theorem RO.new {w : World} {a : Option Addr} {l : List (ByteArray × Int)} (h : RO w a l) (ob : Obj) : RO (w.alloc ob) a l := h.below ((Below.refl _ _).al _)
theorem RO.nil (w : World) (a : Option Addr) : RO w a [] := ⟨Nat.zero_le _,fun j x hj => by cases hj⟩
end Go.Proofs.YtclioihichcpiaaDoor
