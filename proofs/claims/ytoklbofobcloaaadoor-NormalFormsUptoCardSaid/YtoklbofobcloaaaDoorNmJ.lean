/- Normal: put: a rule with each term as a function has it. -/
import Derived.Test.YtoklbofobcloaaaDoorNmI
import Derived.Test.YtoklbofobcloaaaDoorNmP
namespace Go.Proofs.YtoklbofobcloaaaDoor
open Go.RowKit Go.Sort
/-- a literal, and the value of its row of terms -/
abbrev LV := Lit × Value
def cellV (y : LV) : List Value := [.int .i64 y.1.k, .string y.1.p, y.2, .bool y.1.l.1, .string y.1.l.2, .bool y.1.r.1, .string y.1.r.2]
def flatV (L : List LV) : List Value := L.flatMap cellV
theorem cellV_len (y : LV) : (cellV y).length = 7 := rfl
theorem flatV_len (L : List LV) : (flatV L).length = L.length * 7 := flat_len cellV 7 cellV_len L
theorem flatV_snoc (L : List LV) (y : LV) : flatV (L ++ [y]) = flatV L ++ cellV y := by simp [flatV]
/-- an owned row of literals, each with an owned row of terms -/
structure LRow (w : World) (base : Nat) (v : Value) (L : List LV) : Prop where
  own : w.ownsRow base 44 7 v L.length (flatV L)
  len : L.length ≤ 1048576
  inner : ∀ y ∈ L, TRow w base y.2 y.1.a
  size : ∀ y ∈ L, y.1.p.size ≤ 1048576 ∧ y.1.l.2.size ≤ 1048576 ∧ y.1.r.2.size ≤ 1048576
theorem LRow.nil (w : World) (base : Nat) : LRow w base (.slice none 0 0) [] := ⟨World.ownsRow_nil _ _ _ _, Nat.zero_le _, (fun y hy => by cases hy), fun y hy => by cases hy⟩
theorem LRow.below {w w' : World} {base : Nat} {v : Value} {L : List LV} (h : LRow w base v L) (hb : Below w.heap.size w w') : LRow w' base v L := ⟨own_below h.own hb, h.len, fun y hy => (h.inner y hy).below hb, h.size⟩
theorem own_diff {w : World} {b1 b2 s1 s2 : Nat} {e1 e2 : TypeId} {v1 v2 : Value} {n1 n2 : Nat} {x1 x2 : List Value} (h1 : w.ownsRow b1 e1 s1 v1 n1 x1) (h2 : w.ownsRow b2 e2 s2 v2 n2 x2) (he : e1 ≠ e2) : v1.ownBlock = none ∨ v1.ownBlock ≠ v2.ownBlock := by
  rcases h1.2 with ⟨rfl, _⟩ | ⟨g, cap, cur, rfl, _, hg, _⟩
  · exact .inl rfl
  · rcases h2.2 with ⟨rfl, _⟩ | ⟨g2, cap2, cur2, rfl, _, hg2, _⟩
    · exact .inr (by simp [Value.ownBlock])
    · refine .inr fun e => ?_
      simp only [Value.ownBlock, Option.some.injEq] at e
      subst e
      rw [hg] at hg2
      injection hg2 with hg2
      injection hg2 with _ hg2
      exact he hg2
theorem TRow.kept {w w' : World} {base : Nat} {v : Value} {l : List Tm} {row : Option Nat} (h : TRow w base v l) (hg : w.grownBy w' row) (hne : v.ownBlock = none ∨ v.ownBlock ≠ row) : TRow w' base v l := ⟨h.own.kept hg hne, h.len, h.size⟩
theorem TRow.mono {w : World} {base base' : Nat} {v : Value} {l : List Tm} (h : TRow w base v l) (hb : base' ≤ base) : TRow w base' v l := ⟨h.own.mono hb, h.len, h.size⟩
theorem LRow.mono {w : World} {base base' : Nat} {v : Value} {L : List LV} (h : LRow w base v L) (hb : base' ≤ base) : LRow w base' v L := ⟨h.own.mono hb, h.len, fun y hy => (h.inner y hy).mono hb, h.size⟩
theorem LRow.lits {w : World} {base : Nat} {a : Option Addr} {n c : Nat} {L : List LV} (h : LRow w base (.slice a n c) L) : Lits w a (L.map (·.1)) := by
  refine ⟨by rw [List.length_map]; exact h.len, fun j x hj => ?_, fun x hx => ?_⟩
  · rw [List.getElem?_map] at hj
    cases hy : L[j]? with
    | none => rw [hy] at hj; cases hj
    | some y =>
      rw [hy] at hj
      injection hj with hj
      subst hj
      obtain ⟨ad, c2, h2, ht, -⟩ := (h.inner y (List.mem_of_getElem? hy)).form
      rcases h.own.2 with ⟨e, h0⟩ | ⟨g, cap, cur, e, hb, hg, hc, hm, hcz, hx⟩
      · have : L = [] := List.eq_nil_of_length_eq_zero h0
        subst this
        cases hy
      · injection e with e _ _
        have hcell : ∀ o, o < 7 → w.cell? ⟨g, j * 7 + o, none⟩ = (cellV y)[o]? := fun o ho => by
          have hlt := (List.getElem?_eq_some_iff.1 hy).1
          have h3 := pr_flat_get cellV 7 (fun _ => rfl) L j o ho
          rw [hy] at h3
          have h4 : (flatV L)[j * 7 + o]? = (cellV y)[o]? := h3
          have h5 : o < (cellV y).length := ho
          obtain ⟨u, hu⟩ : ∃ u, (cellV y)[o]? = some u := ⟨_, List.getElem?_eq_getElem h5⟩
          rw [hu] at h4 ⊢
          have := h.own.cells (g := g) (by rw [e]; rfl) _ _ h4
          rw [addr_add, Nat.zero_add] at this
          exact this
        refine ⟨⟨g, 0, none⟩, ad, c2, e, ?_, ?_, ?_, ?_, ?_, ?_, ?_, ht⟩
        · rw [addr_add, Nat.zero_add]; exact hcell 0 (by omega)
        · rw [addr_add, Nat.zero_add]; exact hcell 1 (by omega)
        · rw [addr_add, Nat.zero_add]; refine (hcell 2 (by omega)).trans ?_; rw [← h2]; rfl
        · rw [addr_add, Nat.zero_add]; exact hcell 3 (by omega)
        · rw [addr_add, Nat.zero_add]; exact hcell 4 (by omega)
        · rw [addr_add, Nat.zero_add]; exact hcell 5 (by omega)
        · rw [addr_add, Nat.zero_add]; exact hcell 6 (by omega)
  · obtain ⟨y, hy, rfl⟩ := List.mem_map.1 hx
    exact h.size y hy
/-- one literal more -/
theorem LRow.step {w w2 w3 : World} {base : Nat} {v v3 : Value} {L : List LV} (h : LRow w base v L) (hb : Below w.heap.size w w2) {ob : Obj} {y : LV} (ht : TRow w2 base y.2 y.1.a) (hs : y.1.p.size ≤ 1048576 ∧ y.1.l.2.size ≤ 1048576 ∧ y.1.r.2.size ≤ 1048576) (hl : L.length + 1 ≤ 1048576)
    (hgr : (w2.alloc ob).grownBy w3 v.ownBlock) (hown : w3.ownsRow base 44 7 v3 (L.length + 1) (flatV L ++ cellV y)) : LRow w3 base v3 (L ++ [y]) := by
  have hv2 : w2.ownsRow base 44 7 v L.length (flatV L) := own_below h.own hb
  refine ⟨by rw [List.length_append, flatV_snoc]; exact hown, by rw [List.length_append]; exact hl, fun z hz => ?_, fun z hz => ?_⟩
  · rcases List.mem_append.1 hz with hz | hz
    · have h1 := (h.inner z hz).below hb
      exact (⟨h1.own.alloc ob, h1.len, h1.size⟩ : TRow (w2.alloc ob) base z.2 z.1.a).kept hgr (own_diff h1.own hv2 (by decide))
    · simp at hz; subst hz
      exact (⟨ht.own.alloc ob, ht.len, ht.size⟩ : TRow (w2.alloc ob) base z.2 z.1.a).kept hgr (own_diff ht.own hv2 (by decide))
  · rcases List.mem_append.1 hz with hz | hz
    · exact h.size z hz
    · simp at hz; subst hz; exact hs
/-- an owned rule -/
def RRow (w : World) (base : Nat) (va vb : Value) (r : Rul) : Prop := TRow w base va r.a ∧ ∃ L, LRow w base vb L ∧ L.map (·.1) = r.b
theorem RRow.below {w w' : World} {base : Nat} {va vb : Value} {r : Rul} (h : RRow w base va vb r) (hb : Below w.heap.size w w') : RRow w' base va vb r := ⟨h.1.below hb, let ⟨L, h1, h2⟩ := h.2; ⟨L, h1.below hb, h2⟩⟩
theorem RRow.mono {w : World} {base base' : Nat} {va vb : Value} {r : Rul} (h : RRow w base va vb r) (hb : base' ≤ base) : RRow w base' va vb r := ⟨h.1.mono hb, let ⟨L, h1, h2⟩ := h.2; ⟨L, h1.mono hb, h2⟩⟩
theorem RRow.form {w : World} {base : Nat} {va vb : Value} {r : Rul} (h : RRow w base va vb r) : ∃ a c b d, va = .slice a r.a.length c ∧ vb = .slice b r.b.length d ∧ Terms w a r.a ∧ Lits w b r.b := by
  obtain ⟨h1, L, h2, h3⟩ := h
  obtain ⟨a, c, rfl, ht, -⟩ := h1.form
  obtain ⟨b, d, rfl, -⟩ := own_slice h2.own
  exact ⟨a, c, b, d, rfl, by rw [← h3, List.length_map], ht, by rw [← h3]; exact h2.lits⟩
theorem cellV_one (y : LV) (h : y.2.oneCell' = true) : ∀ u ∈ cellV y, u.oneCell' = true := by
  intro u hu
  simp [cellV] at hu
  rcases hu with rfl | rfl | rfl | rfl | rfl | rfl | rfl <;> first | rfl | exact h
theorem map_take_snoc {α β : Type} {f : α → β} {l : List α} {k : Nat} {x : α} (h : l[k]? = some x) : (l.map f).take (k + 1) = (l.map f).take k ++ [f x] := by
  have hlt := (List.getElem?_eq_some_iff.1 h)
  have h2 : k < (l.map f).length := by rw [List.length_map]; exact hlt.1
  rw [List.take_succ_eq_append_getElem h2, List.getElem_map, hlt.2]
/-- the box of a rule that grows -/
theorem box_set {w : World} {G : Nat} {h a b : Value} (hb : w.heap[G]? = some (.cells #[h, a, b] 27)) (v : Value) : (w.setCell ⟨G, 2, none⟩ v).heap[G]? = some (.cells #[h, a, v] 27) := Go.heap_setCell_same _ _ _ _ _ _ hb
theorem box_cells {w : World} {G : Nat} {h a b : Value} (hb : w.heap[G]? = some (.cells #[h, a, b] 27)) : w.cell? ⟨G, 0, none⟩ = some h ∧ w.cell? ⟨G, 1, none⟩ = some a ∧ w.cell? ⟨G, 2, none⟩ = some b := ⟨by simp [World.cell?, hb], by simp [World.cell?, hb], by simp [World.cell?, hb]⟩
theorem LRow.keep {w w' : World} {base : Nat} {v : Value} {L : List LV} (h : LRow w base v L) {G : Nat} {o : Obj} (hG : w.heap[G]? = some o) (hT : ∀ cs fz, o ≠ .cells cs 44 fz) (hT2 : ∀ cs fz, o ≠ .cells cs 33 fz) (hg : w.grownBy w' (some G)) : LRow w' base v L := by
  have key : ∀ {e : TypeId} {s n : Nat} {v : Value} {xs : List Value}, w.ownsRow base e s v n xs → (∀ cs fz, o ≠ .cells cs e fz) → v.ownBlock = none ∨ v.ownBlock ≠ some G := fun {e s n v xs} h he => by
    rcases h.2 with ⟨rfl, _⟩ | ⟨g, cap, cur, rfl, _, hg2, _⟩
    · exact .inl rfl
    · refine .inr fun e2 => ?_
      simp only [Value.ownBlock, Option.some.injEq] at e2
      subst e2
      rw [hG] at hg2
      injection hg2 with hg2
      exact he _ _ hg2
  exact ⟨h.own.kept hg (key h.own hT), h.len, fun y hy => (h.inner y hy).kept hg (key (h.inner y hy).own hT2), h.size⟩
theorem TRow.keep {w w' : World} {base : Nat} {v : Value} {l : List Tm} (h : TRow w base v l) {G : Nat} {o : Obj} (hG : w.heap[G]? = some o) (hT2 : ∀ cs fz, o ≠ .cells cs 33 fz) (hg : w.grownBy w' (some G)) : TRow w' base v l := by
  refine h.kept hg ?_
  rcases h.own.2 with ⟨rfl, _⟩ | ⟨g, cap, cur, rfl, _, hg2, _⟩
  · exact .inl rfl
  · refine .inr fun e2 => ?_
    simp only [Value.ownBlock, Option.some.injEq] at e2
    subst e2
    rw [hG] at hg2
    injection hg2 with hg2
    exact hT2 _ _ hg2
theorem grown_set (w : World) (G j : Nat) (v : Value) : w.grownBy (w.setCell ⟨G, j, none⟩ v) (some G) := ⟨rfl, rfl, rfl, by simp, fun b _ hb => heap_setCell_other _ _ _ _ (fun e => hb (by rw [e]))⟩
end Go.Proofs.YtoklbofobcloaaaDoor
