/- Normal: Put walked. -/
import Derived.Test.YtoklbofobcloaaaDoorNmM
import Derived.Test.YtoklbofobcloaaaDoorFam
namespace Go.Proofs.YtoklbofobcloaaaDoor
open Go.RowKit Go.Sort
attribute [local go_sem ↓] Go.wp_at_zero Go.wp_at_succ
theorem four_new {w w1 : World} {o1 o2 o3 o4 : Obj} (hb : Below ((((w.alloc o1).alloc o2).alloc o3).alloc o4).heap.size ((((w.alloc o1).alloc o2).alloc o3).alloc o4) w1) : w1.heap[w.heap.size]? = some o1 ∧ w1.heap[w.heap.size + 1]? = some o2 ∧ w1.heap[w.heap.size + 2]? = some o3 ∧ w1.heap[w.heap.size + 3]? = some o4 ∧ Below w.heap.size w w1 ∧ w.heap.size + 4 ≤ w1.heap.size := by
  have hs : ((((w.alloc o1).alloc o2).alloc o3).alloc o4).heap.size = w.heap.size + 4 := by rw [World.size_alloc, World.size_alloc, World.size_alloc, World.size_alloc]
  have h3 : Below (((w.alloc o1).alloc o2).alloc o3).heap.size (((w.alloc o1).alloc o2).alloc o3) w1 := ((Below.refl _ _).al _).trans (hb.mono (by rw [World.size_alloc (((w.alloc o1).alloc o2).alloc o3)]; omega))
  obtain ⟨a1, a2, a3, a4, a5⟩ := three_new h3
  refine ⟨a1, a2, a3, (hb.block _ (by omega)).trans ?_, a4, by have := hb.size; omega⟩
  have := heap_alloc_new (((w.alloc o1).alloc o2).alloc o3) o4
  rwa [World.size_alloc, World.size_alloc, World.size_alloc] at this
theorem take_snoc {α : Type} {l : List α} {k : Nat} {x : α} (h : l[k]? = some x) : l.take (k + 1) = l.take k ++ [x] := by
  obtain ⟨h1, h2⟩ := List.getElem?_eq_some_iff.1 h
  rw [List.take_succ_eq_append_getElem h1, h2]
/-- what stands while Put fills its map: the map's block is m, its box b -/
structure PutMap (W0 : World) (m b : Nat) (names : List ByteArray) (terms : List Tm) (n k : Nat) (w : World) : Prop where
  kept : KeptR (fun j => j = m) W0 w
  map_ : MapIs w Tryd.prog 9 tKey m n (putM (names.take k) terms)
  box : w.cell? ⟨b, 0, none⟩ = some (.map (some m))
  le : n ≤ k
theorem KeptR.of_grown {B : Nat → Prop} {w w1 w2 : World} (h : KeptR B w w1) {r : Nat} (hg : w1.grownBy w2 (some r)) (hr : B r) : KeptR B w w2 := h.grown hg (fun b e => by injection e with e; subst e; exact .inl hr)
theorem KeptR.thenBelow {B : Nat → Prop} {w w1 w2 : World} (h : KeptR B w w1) (hb : Below w1.heap.size w1 w2) : KeptR B w w2 :=
  ⟨hb.os.trans h.os, hb.tape.trans h.tape, hb.output.trans h.output, Nat.le_trans h.size hb.size, fun b hlt hn => (hb.block b (Nat.lt_of_lt_of_le hlt h.size)).trans (h.block b hlt hn)⟩
section
variable {W0 w w2 : World} {m b : Nat} {names : List ByteArray} {terms : List Tm} {n k : Nat}
theorem PutMap.below (h : PutMap W0 m b names terms n k w) (hb : Below w.heap.size w w2) : PutMap W0 m b names terms n k w2 := ⟨h.kept.thenBelow hb, h.map_.below hb, cell_below hb rfl h.box, h.le⟩
theorem PutMap.old (h : PutMap W0 m b names terms n k w) {x : ByteArray} (hx : names[k]? = some x) (hin : x ∈ names.take k) : PutMap W0 m b names terms n (k + 1) w :=
  ⟨h.kept, h.map_.congr fun s => by rw [take_snoc hx, putM_old terms hin], h.box, by have := h.le; omega⟩
theorem PutMap.new (h : PutMap W0 m b names terms n k w) {x : ByteArray} (hx : names[k]? = some x) (hin : x ∉ names.take k) (hbm : b ≠ m) (hg : w.grownBy w2 (some m)) (hm : MapIs w2 Tryd.prog 9 tKey m (n + 1) (upd (putM (names.take k) terms) x (some (tmV ((terms[k]?).getD (true, x)))))) : PutMap W0 m b names terms (n + 1) (k + 1) w2 :=
  ⟨h.kept.of_grown hg rfl, hm.congr fun s => by
    have hk : (names.take k).length = k := by rw [List.length_take]; have := (List.getElem?_eq_some_iff.1 hx).1; omega
    rw [take_snoc hx, putM_new terms hin, hk], (World.cell?_of_block (hg.block b (cell_lt h.box) (fun e => by injection e with e; exact hbm e))).trans h.box, by have := h.le; omega⟩
end
end Go.Proofs.YtoklbofobcloaaaDoor
