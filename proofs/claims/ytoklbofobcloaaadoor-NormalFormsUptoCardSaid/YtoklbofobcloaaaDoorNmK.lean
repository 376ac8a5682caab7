/- Normal: put walked. -/
import Derived.Test.YtoklbofobcloaaaDoorNmJ
namespace Go.Proofs.YtoklbofobcloaaaDoor
open Go.RowKit Go.Sort
/-- what stands while put gathers: the box of what is told at G, its rows -/
structure PutS (w0 : World) (G : Nat) (h : ByteArray) (va : Value) (a : List Tm) (w : World) (v : Value) (L : List LV) : Prop where
  box : w.heap[G]? = some (.cells #[.string h, va, v] 27)
  args : TRow w w0.heap.size va a
  row : LRow w w0.heap.size v L
  ge : w0.heap.size ≤ G
  lt : G < w.heap.size
  bel : Below w0.heap.size w0 w
theorem PutS.below {w0 w w' : World} {G : Nat} {h : ByteArray} {va v : Value} {a : List Tm} {L : List LV} (s : PutS w0 G h va a w v L) (hb : Below w.heap.size w w') : PutS w0 G h va a w' v L :=
  ⟨(hb.block G s.lt).trans s.box, s.args.below hb, s.row.below hb, s.ge, Nat.lt_of_lt_of_le s.lt hb.size, s.bel.trans (hb.mono s.bel.size)⟩
set_option maxHeartbeats 4000000 in
set_option maxRecDepth 100000 in
theorem PutS.step {w0 w w2 w3 : World} {G : Nat} {h : ByteArray} {va v v3 : Value} {a : List Tm} {L : List LV} {ob : Obj} {y : LV} (s : PutS w0 G h va a w v L) (hb : Below w.heap.size w w2) (ht : TRow w2 w0.heap.size y.2 y.1.a) (hs : y.1.p.size ≤ 1048576 ∧ y.1.l.2.size ≤ 1048576 ∧ y.1.r.2.size ≤ 1048576) (hl : L.length + 1 ≤ 1048576)
    (hgr : (w2.alloc ob).grownBy w3 v.ownBlock) (hown : w3.ownsRow w0.heap.size 44 7 v3 (L.length + 1) (flatV L ++ cellV y)) : w3.heap[G]? = some (.cells #[.string h, va, v] 27) ∧ PutS w0 G h va a (w3.setCell ⟨G, 2, none⟩ v3) v3 (L ++ [y]) := by
  have s2 := s.below hb
  have hvne : ∀ {g : Nat}, v.ownBlock = some g → g ≠ G := fun {g} e e2 => by
    subst e2
    rcases s2.row.own.2 with ⟨rfl, _⟩ | ⟨g2, cap, cur, rfl, _, hg, _⟩
    · cases e
    · simp only [Value.ownBlock, Option.some.injEq] at e
      subst e
      rw [s2.box] at hg
      injection hg with hg
      injection hg with _ hg
      exact absurd hg (by decide)
  have hbox : w3.heap[G]? = some (.cells #[.string h, va, v] 27) := by
    rw [hgr.block G (by rw [World.size_alloc]; exact Nat.lt_succ_of_lt s2.lt) (fun e => hvne e.symm rfl), heap_alloc_old _ _ s2.lt]
    exact s2.box
  have hrow := s.row.step hb (ob := ob) ht hs hl hgr hown
  have hargs : TRow w3 w0.heap.size va a := (⟨s2.args.own.alloc ob, s2.args.len, s2.args.size⟩ : TRow (w2.alloc ob) w0.heap.size va a).kept hgr (own_diff s2.args.own s2.row.own (by decide))
  have hg := grown_set w3 G 2 v3
  have h3 : Below w0.heap.size w0 w3 := (s2.bel.al ob).grown hgr (by rw [World.size_alloc]; have := s2.bel.size; omega) (own_ge s.row.own)
  have hlt : G < w3.heap.size := (Array.getElem?_eq_some_iff.1 hbox).1
  refine ⟨hbox, box_set hbox v3, hargs.keep hbox (fun cs fz e => by injection e with _ e; exact absurd e (by decide)) hg, hrow.keep hbox (fun cs fz e => by injection e with _ e; exact absurd e (by decide)) (fun cs fz e => by injection e with _ e; exact absurd e (by decide)) hg, s.ge, by simpa using hlt, h3.setCell s.ge v3⟩
theorem everyL_mem {x : Lit} {r : Rul} (h : x ∈ r.b) {t : Tm} (ht : t ∈ everyL x) : t ∈ everyR r := by
  unfold everyR
  exact List.mem_append_right _ (List.mem_flatMap.2 ⟨x, h, ht⟩)
end Go.Proofs.YtoklbofobcloaaaDoor
