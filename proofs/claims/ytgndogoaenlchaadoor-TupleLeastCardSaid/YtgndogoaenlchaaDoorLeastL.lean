/- TupleLeast: rows lent one by one into a row of rows. -/
import Derived.Test.YtgndogoaenlchaaDoorProg
import Derived.Test.YtgndogoaenlchaaDoorBase
import Derived.Test.YtgndogoaenlchaaDoorKit
import Derived.Test.YtgndogoaenlchaaDoorLend
import Derived.Test.YtgndogoaenlchaaDoorLeast
import Derived.Test.YtgndogoaenlchaaDoorFam
import Derived.Test.YtgndogoaenlchaaDoorLawKeys
import Derived.Test.YtgndogoaenlchaaDoorLeastR
namespace Go.Proofs.YtgndogoaenlchaaDoor
open Go.RowKit


/-- the numbers of a row that no append has touched -/
theorem Ints.keptR {k : IntKind} {w w' : World} {B : Nat → Prop} {g : Nat} {zs : List Int} (h : Ints k w (some ⟨g, 0, none⟩) zs) (hk : KeptR B w w') (hg : ¬ B g) : Ints k w' (some ⟨g, 0, none⟩) zs :=
  ⟨h.len, fun i hi => by
    obtain ⟨b, off, e, hc⟩ := h.cells i hi
    refine ⟨b, off, e, hk.cell hc ?_⟩
    injection e with e
    injection e with e1 _ _
    subst e1; exact hg, h.wf⟩

def LdRow (wr : World) (base : Nat) (o : Value) (r s : IRow) : Prop :=
  ∃ g, s.a = some ⟨g, 0, none⟩ ∧ s.zs = r.zs ∧ r.zs.length + 9 ≤ s.cap ∧ Ints .i64 wr (some ⟨g, 0, none⟩) (r.zs ++ marks 9) ∧ base ≤ g ∧ g < wr.heap.size ∧ o.ownBlock ≠ some g
def LdG (w : World) (rs : List IRow) (wr : World) (o : Value) (i : Nat) (gs : List IRow) : Prop :=
  gs.length = i ∧ (∀ k, k < i → LdRow wr w.heap.size o (rth rs k) (rth gs k)) ∧ wr.ownsRow w.heap.size 23 1 o i (gs.map IRow.v) ∧ Below w.heap.size w wr
theorem rth_snoc (l : List IRow) (x : IRow) (k : Nat) (h : k < l.length) : rth (l ++ [x]) k = rth l k := by simp [rth, List.getElem?_append, h]
theorem rth_last (l : List IRow) (x : IRow) : rth (l ++ [x]) l.length = x := by simp [rth]

/-- one more row behind: an append in its place or to a new block -/
theorem two_kept {w w2 : World} {o : Value} {g : Nat} (h : (o.ownBlock = some g ∧ w.grownBy w2 (some g)) ∨ (g = w.heap.size ∧ w.grownBy w2 none)) : KeptR (fun b => o.ownBlock = some b) w w2 := by
  rcases h with ⟨h1, h2⟩ | ⟨_, h2⟩
  · exact (KeptR.refl _ w).grown h2 (fun b hb => by injection hb with hb; subst hb; exact .inl h1)
  · exact (KeptR.refl _ w).grown h2 (fun b hb => by cases hb)
theorem LdRow.on {w w2 : World} {base : Nat} {o : Value} {g n c : Nat} {r s : IRow} (h : LdRow w base o r s) (hg : (o.ownBlock = some g ∧ w.grownBy w2 (some g)) ∨ (g = w.heap.size ∧ w.grownBy w2 none)) : LdRow w2 base (.slice (some ⟨g, 0, none⟩) n c) r s := by
  obtain ⟨g1, h1, h2, h3, h4, h5, h6, h7⟩ := h
  have hk := two_kept hg
  refine ⟨g1, h1, h2, h3, h4.keptR hk h7, h5, by have := hk.size; omega, ?_⟩
  intro h
  injection h with h
  have h : g = g1 := h
  subst h
  rcases hg with ⟨h8, _⟩ | ⟨h8, _⟩
  · exact h7 h8
  · omega
theorem LdRow.below {w w2 : World} {base : Nat} {o : Value} {r s : IRow} (h : LdRow w base o r s) (hb : Below w.heap.size w w2) : LdRow w2 base o r s := by
  obtain ⟨g1, h1, h2, h3, h4, h5, h6, h7⟩ := h
  exact ⟨g1, h1, h2, h3, h4.below hb, h5, by have := hb.size; omega, h7⟩

theorem LdG.next {w wr w1 w2 : World} {rs gs : List IRow} {o : Value} {i g c gl cl : Nat} {ob : Obj} (h : LdG w rs wr o i gs) (hb : Below wr.heap.size wr w1) (hx : Ints .i64 w1 (some ⟨gl, 0, none⟩) ((rth rs i).zs ++ marks 9)) (hg1 : wr.heap.size ≤ gl) (hg2 : gl < w1.heap.size) (hc : (rth rs i).zs.length + 9 ≤ cl)
    (hown : w2.ownsRow w.heap.size 23 1 (.slice (some ⟨g, 0, none⟩) (i + 1) c) (i + 1) (gs.map IRow.v ++ [.slice (some ⟨gl, 0, none⟩) (rth rs i).zs.length cl]))
    (hg : (o.ownBlock = some g ∧ (w1.alloc ob).grownBy w2 (some g)) ∨ (g = w1.heap.size + 1 ∧ (w1.alloc ob).grownBy w2 none)) : LdG w rs w2 (.slice (some ⟨g, 0, none⟩) (i + 1) c) (i + 1) (gs ++ [⟨some ⟨gl, 0, none⟩, cl, (rth rs i).zs⟩]) := by
  obtain ⟨hl, hr, ho, hbw⟩ := h
  have hob := own_lt ho
  rw [← World.size_alloc w1 ob] at hg
  have hb1 : Below w1.heap.size w1 (w1.alloc ob) := (Below.refl _ _).alloc (Nat.le_refl _) ob
  have hnew : LdRow (w1.alloc ob) w.heap.size o (rth rs i) ⟨some ⟨gl, 0, none⟩, cl, (rth rs i).zs⟩ := by
    refine ⟨gl, rfl, rfl, hc, hx.below hb1, by have := hbw.size; omega, by rw [World.size_alloc]; omega, ?_⟩
    intro h
    have := (hob gl h).2
    omega
  refine ⟨by simp [hl], ?_, ?_, ?_⟩
  · intro k hk
    by_cases he : k = i
    · subst he
      have e := rth_last gs ⟨some ⟨gl, 0, none⟩, cl, (rth rs k).zs⟩
      rw [hl] at e
      rw [e]
      exact hnew.on hg
    · rw [rth_snoc _ _ _ (by omega)]
      exact (((hr k (by omega)).below hb).below hb1).on hg
  · rw [List.map_append]; exact hown
  · have hk := two_kept hg
    refine hk.below ((hbw.trans (hb.mono hbw.size)).al ob) (fun b hb => (hob b hb).1)

/-- the row of rows, lent, with one row more behind -/
structure LdFin (w : World) (rs gs : List IRow) (gx cx gb : Nat) (W2 : World) : Prop where
  len : gs.length = rs.length
  row : ∀ k, k < rs.length → LdRow W2 w.heap.size (.slice (some ⟨gx, 0, none⟩) (rs.length + 1) cx) (rth rs k) (rth gs k)
  own : W2.ownsRow w.heap.size 23 1 (.slice (some ⟨gx, 0, none⟩) (rs.length + 1) cx) (rs.length + 1) (gs.map IRow.v ++ [.slice (some ⟨gb, 0, none⟩) 1 1])
  cb : W2.cell? ⟨gb, 0, none⟩ = some (.int .i64 (-9))
  bel : Below w.heap.size w W2
theorem LdFin.mk2 {w wr w1 w2 : World} {rs gs : List IRow} {o : Value} {g c gb s : Nat} (hs : w1.heap.size = s) (h : LdG w rs wr o rs.length gs) (hb : Below wr.heap.size wr w1) (hgb : wr.heap.size ≤ gb) (hcb : w1.cell? ⟨gb, 0, none⟩ = some (.int .i64 (-9)))
    (hown : w2.ownsRow w.heap.size 23 1 (.slice (some ⟨g, 0, none⟩) (rs.length + 1) c) (rs.length + 1) (gs.map IRow.v ++ [.slice (some ⟨gb, 0, none⟩) 1 1]))
    (hg : (o.ownBlock = some g ∧ w1.grownBy w2 (some g)) ∨ (g = s ∧ w1.grownBy w2 none)) : LdFin w rs gs g c gb w2 := by
  subst hs
  obtain ⟨hl, hr, ho, hbw⟩ := h
  have hob := own_lt ho
  have hk := two_kept hg
  refine ⟨hl, fun k hk => ((hr k hk).below hb).on hg, hown, hk.cell hcb ?_, hk.below (hbw.trans (hb.mono hbw.size)) (fun b hb => (hob b hb).1)⟩
  intro h
  have := (hob gb h).2
  omega
theorem LdFin.rows {w W2 : World} {rs gs : List IRow} {gx cx gb : Nat} (h : LdFin w rs gs gx cx gb W2) (hrl : rs.length ≤ 5864062014804) : IRows W2 (some ⟨gx, 0, none⟩) cx gs ∧ cx ≤ maxLen ∧ rs.length + 1 ≤ cx := by
  obtain ⟨g', c', e, _, _, h3, h4⟩ := own_shape h.own (by omega)
  injection e with _ _ e
  subst e
  refine ⟨⟨by rw [h.len]; omega, by rw [h.len]; omega, fun i hi => ⟨gx, 0, rfl, ?_⟩, fun i hi => ?_, fun i hi hn => ?_⟩, h4, h3⟩
  · rw [Nat.zero_add, h.own.cellAt i (by rw [← h.len]; omega), List.getElem?_append_left (by simpa using hi), List.getElem?_map, List.getElem?_eq_getElem hi, rth_eq gs i hi]; rfl
  · obtain ⟨g, h1, h2, _, h4, _⟩ := h.row i (by rw [← h.len]; exact hi)
    rw [h1, h2]; exact h4.front
  · obtain ⟨g, h1, _⟩ := h.row i (by rw [← h.len]; exact hi)
    rw [h1] at hn; cases hn
theorem LdFin.zs {w W2 : World} {rs gs : List IRow} {gx cx gb : Nat} (h : LdFin w rs gs gx cx gb W2) : gs.map IRow.zs = rs.map IRow.zs := by
  refine List.ext_getElem (by simp [h.len]) fun i h1 h2 => ?_
  simp at h1 h2
  obtain ⟨g, _, h3, _⟩ := h.row i h2
  rw [rth_eq gs i h1, rth_eq rs i h2] at h3
  simpa using h3
theorem LdFin.last {w W2 : World} {rs gs : List IRow} {gx cx gb : Nat} (h : LdFin w rs gs gx cx gb W2) : W2.cell? ⟨gx, rs.length, none⟩ = some (.slice (some ⟨gb, 0, none⟩) 1 1) := by
  rw [h.own.cellAt rs.length (by omega), List.getElem?_append_right (by simp [h.len])]
  simp [h.len]

end Go.Proofs.YtgndogoaenlchaaDoor
