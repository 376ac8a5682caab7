/- Index: a table whose blocks are of some kind; what its change keeps. -/
import Derived.Test.YtjeeljolhcoeoaaJxF
namespace Go.Proofs.Ytjeeljolhcoeoaa
open Go.RowKit Go.Shelf

/-- a table in order, all of whose blocks are of a kind -/
structure TU (R : Nat → Prop) (w : World) (T P hb sb : Nat) (way : Int) (sz : Nat) (es : List Ent) (pl : Nat → Option Nat) : Prop where
  ts : TS w T P hb sb way sz es pl
  rT : R T
  rP : R P
  rE : ∀ e, e ∈ es → R e.b

section
variable {w w' : World} {T P P' hb sb : Nat} {way : Int} {sz sz' : Nat} {es es' : List Ent} {pl pl' : Nat → Option Nat} {R : Nat → Prop}
theorem TU.below (h : TU R w T P hb sb way sz es pl) (hb2 : Below w.heap.size w w') : TU R w' T P hb sb way sz es pl := ⟨h.ts.below hb2, h.rT, h.rP, h.rE⟩
theorem TU.kind {R2 : Nat → Prop} (h : TU R w T P hb sb way sz es pl) (hm : ∀ b, b < w.heap.size → R b → R2 b) : TU R2 w T P hb sb way sz es pl :=
  ⟨h.ts, hm _ (Array.getElem?_eq_some_iff.1 h.ts.tab.hT).1 h.rT, hm _ (Array.getElem?_eq_some_iff.1 h.ts.tab.hP).1 h.rP, fun e he => by
    obtain ⟨i, hi, rfl⟩ := List.getElem_of_mem he
    exact hm _ (h.ts.tab.ltE i hi) (h.rE _ he)⟩
theorem TU.tabB (h : TU R w T P hb sb way sz es pl) : ∀ b, tabB T P es b → R b := by
  rintro b (rfl | rfl | ⟨e, he, rfl⟩)
  · exact h.rT
  · exact h.rP
  · exact h.rE e he
/-- what is no block of its own may change -/
theorem TS.kept (h : TS w T P hb sb way sz es pl) (hk : KeptR R w w') (hT : ¬ R T) (hP : ¬ R P) (hh : ¬ R hb) (hs : ¬ R sb) (hE : ∀ e, e ∈ es → ¬ R e.b) : TS w' T P hb sb way sz es pl := by
  refine ⟨⟨?_, ?_, ?_, ?_, fun i hi => ?_, h.tab.hpl, h.tab.hsz, h.tab.hN, h.tab.hh⟩, h.can, h.na, h.room, h.pow⟩
  · exact (hk.block _ (Array.getElem?_eq_some_iff.1 h.tab.hT).1 hT).trans h.tab.hT
  · exact (hk.block _ (Array.getElem?_eq_some_iff.1 h.tab.hP).1 hP).trans h.tab.hP
  · exact (hk.block _ h.tab.hH.lt hh).trans h.tab.hH
  · exact (hk.block _ h.tab.hS.lt hs).trans h.tab.hS
  · exact (hk.block _ (h.tab.ltE i hi) (hE _ (List.getElem_mem hi))).trans (h.tab.hE i hi)
theorem kpa_tab (h : Tab w T P hb sb way sz es pl) (hk : KeptR (tabB T P es) w w') : KpA w w' := by
  refine ⟨hk.size, fun k c fr hc e => ?_⟩
  refine (hk.block k (Array.getElem?_eq_some_iff.1 e).1 ?_).trans e
  rintro (rfl | rfl | ⟨x, hx, rfl⟩)
  · rw [h.hT] at e; injection e with e; injection e with _ e _; exact absurd e (by decide)
  · rw [h.hP] at e; injection e with e; injection e with _ e _; exact absurd e (by decide)
  · obtain ⟨i, hi, rfl⟩ := List.getElem_of_mem hx
    rw [h.hE i hi] at e; injection e with e; injection e with e _ _
    subst e
    simp [entCs] at hc
theorem kpl_tab (h : Tab w T P hb sb way sz es pl) (h' : Tab w' T P' hb sb way sz' es' pl') (hk : KeptR (tabB T P es) w w') (hP : P' = P ∨ w.heap.size ≤ P') (hkey : ∀ i (hi : i < es.length), w'.cell? ⟨es[i].b, 0, none⟩ = some (.int .i64 es[i].key)) (es0 : List Ent) : KpL T es0 w w' := by
  refine ⟨hk.size, fun k c fr hn e => ?_, fun i hi e => ?_⟩
  · have hlt := (Array.getElem?_eq_some_iff.1 e).1
    have hkP : k ≠ P := fun he => hn _ _ _ h.t2 he.symm
    refine ⟨fun ad n c he => ?_, (hk.block k hlt ?_).trans e⟩
    · rw [h'.t2] at he; injection he with he; injection he with he _ _; injection he with he; subst he
      show P' ≠ k
      rcases hP with rfl | hP <;> omega
    · rintro (rfl | rfl | ⟨x, hx, rfl⟩)
      · rw [h.hT] at e; injection e with e; injection e with _ e _; exact absurd e (by decide)
      · exact hkP rfl
      · obtain ⟨i, hi, rfl⟩ := List.getElem_of_mem hx
        rw [h.hE i hi] at e; injection e with e; injection e with _ e _; exact absurd e (by decide)
  · by_cases ht : tabB T P es es0[i].b
    · rcases ht with ht | ht | ⟨x, hx, hxb⟩
      · rw [ht, h.t0] at e; cases e
      · rw [ht, h.place 0 (by have := h.hsz; omega)] at e; cases e
      · obtain ⟨j, hj, rfl⟩ := List.getElem_of_mem hx
        rw [← hxb] at e ⊢
        rw [h.e0 j hj] at e
        injection e with e; injection e with _ e
        rw [hkey j hj, e]
    · exact hk.cell e ht

theorem ko_tab (h : Tab w T P hb sb way sz es pl) (hk : KeptR (Go.Proofs.Ytjeeljolhcoeoaa.tabB T P es) w w') : KeepsOthers w w' := ⟨hk.size, fun j o e ho => by
  refine (hk.block j (Array.getElem?_eq_some_iff.1 e).1 ?_).trans e
  rintro (rfl | rfl | ⟨x, hx, rfl⟩)
  · rw [h.hT] at e; injection e with e; subst e; simp [Obj.isCells] at ho
  · rw [h.hP] at e; injection e with e; subst e; simp [Obj.isCells] at ho
  · obtain ⟨i, hi, rfl⟩ := List.getElem_of_mem hx
    rw [h.hE i hi] at e; injection e with e; subst e; simp [Obj.isCells] at ho⟩

theorem tu_put (h : TU R w T P hb sb way sz es pl) (hR : ∀ b, w.heap.size ≤ b → R b) (key value : Int) (hbig : es.length ≤ 13194139533312) :
    Calls Try.prog 20 #[.pointer (some ⟨T, 0, none⟩), .int .i64 key, .int .i64 value] w fun e w' =>
      (∃ i, ∃ hi : i < es.length, sameF way es[i].key key = true ∧ e = .returned (.tuple #[.int .i64 es[i].val, .bool true, .int .i64 0]) ∧ TU R w' T P hb sb way sz (es.set i { es[i] with val := value }) pl ∧ KeptR R w w' ∧ KpA w w' ∧ (∀ es0, KpL T es0 w w') ∧ KeepsOthers w w') ∨
      ((∀ i (hi : i < es.length), sameF way es[i].key key = false) ∧ e = .returned (.tuple #[.int .i64 0, .bool false, .int .i64 0]) ∧ ∃ b P' pl', w.heap.size ≤ b ∧
        TU R w' T P' hb sb way (if 4 * (es.length + 1) ≤ 3 * sz then sz else 2 * sz) (es ++ [⟨b, key, value, hashF way key⟩]) pl' ∧ KeptR R w w' ∧ KpA w w' ∧ (∀ es0, KpL T es0 w w') ∧ KeepsOthers w w') := by
  refine (ts_put h.ts key value hbig).mono ?_
  rintro e w' (⟨i, hi, hm, rfl, h1, h2⟩ | ⟨hno, rfl, b, P', pl', hb2, hP, h1, h2⟩)
  · refine .inl ⟨i, hi, hm, rfl, ⟨h1, h.rT, h.rP, fun x hx => ?_⟩, kr_mono h2 h.tabB, kpa_tab h.ts.tab h2, kpl_tab h.ts.tab h1.tab h2 (.inl rfl) fun j hj => ?_, ko_tab h.ts.tab h2⟩
    · obtain ⟨j, hj, rfl⟩ := List.getElem_of_mem hx
      rw [List.getElem_set]
      by_cases e : i = j
      · rw [if_pos e]; exact h.rE es[i] (List.getElem_mem hi)
      · rw [if_neg e]; exact h.rE _ (List.getElem_mem _)
    · have hj' : j < (es.set i { es[i] with val := value }).length := by rw [List.length_set]; exact hj
      have := h1.tab.e0 j hj'
      rw [List.getElem_set] at this
      by_cases e : i = j
      · subst e; rw [if_pos rfl] at this; exact this
      · rw [if_neg e] at this; exact this
  · refine .inr ⟨hno, rfl, b, P', pl', hb2, ⟨h1, h.rT, ?_, fun x hx => ?_⟩, kr_mono h2 h.tabB, kpa_tab h.ts.tab h2, kpl_tab h.ts.tab h1.tab h2 hP fun j hj => ?_, ko_tab h.ts.tab h2⟩
    · rcases hP with rfl | hP
      · exact h.rP
      · exact hR _ hP
    · rcases List.mem_append.1 hx with hx | hx
      · exact h.rE x hx
      · simp at hx; subst hx; exact hR _ hb2
    · have := h1.tab.e0 j (by rw [List.length_append]; omega)
      rw [List.getElem_append_left hj] at this
      exact this

theorem tu_take (h : TU R w T P hb sb way sz es pl) (key : Int) (hbig : es.length ≤ 35184372088832) :
    Calls Try.prog 21 #[.pointer (some ⟨T, 0, none⟩), .int .i64 key] w fun e w' =>
      (∃ i, ∃ hi : i < es.length, sameF way es[i].key key = true ∧ e = .returned (.tuple #[.int .i64 es[i].val, .bool true]) ∧ ∃ pl', TU R w' T P hb sb way sz (es.eraseIdx i) pl' ∧ KeptR R w w' ∧ KpA w w' ∧ (∀ es0, KpL T es0 w w') ∧ KeepsOthers w w') ∨
      ((∀ i (hi : i < es.length), sameF way es[i].key key = false) ∧ e = .returned (.tuple #[.int .i64 0, .bool false]) ∧ Drawn w w') := by
  refine (ts_take h.ts key hbig).mono ?_
  rintro e w' (⟨i, hi, hm, rfl, pl', h1, h2⟩ | ⟨hno, rfl, hd⟩)
  · have hmem : ∀ x, x ∈ es.eraseIdx i → x ∈ es := fun x hx => List.mem_of_mem_eraseIdx hx
    have h3 : KeptR (tabB T P es) w w' := kr_mono h2 (by
      rintro b (rfl | rfl | ⟨x, hx, rfl⟩)
      · exact .inl rfl
      · exact .inr (.inl rfl)
      · exact .inr (.inr ⟨x, hmem x hx, rfl⟩))
    refine .inl ⟨i, hi, hm, rfl, pl', ⟨h1, h.rT, h.rP, fun x hx => h.rE x (hmem x hx)⟩, kr_mono h3 h.tabB, kpa_tab h.ts.tab h3, kpl_tab h.ts.tab h1.tab h3 (.inl rfl) fun j hj => ?_, ko_tab h.ts.tab h3⟩
    by_cases hji : j = i
    · subst hji
      refine h2.cell (h.ts.tab.e0 j hj) ?_
      rintro (ht | ht | ⟨x, hx, hxb⟩)
      · have hb := h.ts.tab.e0 j hj
        rw [show es[j].b = T from ht, h.ts.tab.t0] at hb; cases hb
      · have hb := h.ts.tab.e0 j hj
        rw [show es[j].b = P from ht, h.ts.tab.place 0 (by have := h.ts.tab.hsz; omega)] at hb; cases hb
      · obtain ⟨k, hk, rfl, hkj⟩ : ∃ k, ∃ hk : k < es.length, es[k] = x ∧ k ≠ j := by
          obtain ⟨k, hk, hne, e⟩ := List.mem_eraseIdx_iff_getElem.1 hx
          exact ⟨k, hk, e, hne⟩
        exact hkj (h.ts.tab.nd k j hk hj hxb)
    · have hx : es[j] ∈ es.eraseIdx i := List.mem_eraseIdx_iff_getElem.2 ⟨j, hj, hji, rfl⟩
      obtain ⟨k, hk, e⟩ := List.getElem_of_mem hx
      have := h1.tab.e0 k hk
      rw [e] at this
      exact this
  · exact .inr ⟨hno, rfl, hd⟩
end

/-! ### one table again beside another: the sizes and the places -/
theorem pow_le {a b : Nat} (h : 8 * 2 ^ a < 2 * (8 * 2 ^ b)) : 8 * 2 ^ a ≤ 8 * 2 ^ b := by
  have h1 : a < b + 1 := by
    refine Nat.lt_of_not_le fun h2 => ?_
    have := Nat.pow_le_pow_right (show 0 < 2 by decide) h2
    rw [Nat.pow_succ] at this
    omega
  have := Nat.pow_le_pow_right (show 0 < 2 by decide) (show a ≤ b by omega)
  omega
theorem layL_same {sz : Nat} {es es2 : List Ent} {pl pl2 : Nat → Option Nat} (hs : 0 < sz) (h : Can sz es pl) (h2 : Can sz es2 pl2) (hn : ∀ i j (hi : i < es.length) (hj : j < es.length), es[i].b = es[j].b → i = j) (hn2 : ∀ i j (hi : i < es2.length) (hj : j < es2.length), es2[i].b = es2[j].b → i = j) (hl : es.length = es2.length) (hh : ∀ i (hi : i < es.length), es[i].hash = (es2[i]'(by omega)).hash) (hk : ∀ i (hi : i < es.length), es[i].key = (es2[i]'(by omega)).key) : layL es pl sz = layL es2 pl2 sz := by
  unfold layL
  have hu := Can.unique hs h h2 hl hh
  have : ∀ j, j ∈ List.range sz → (pl j).map (fun b => ((j : Int), keyOf es b)) = (pl2 j).map (fun b => ((j : Int), keyOf es2 b)) := by
    intro j hj
    rw [List.mem_range] at hj
    cases hp : pl j with
    | none =>
      cases hp2 : pl2 j with
      | none => rfl
      | some b =>
        obtain ⟨i, hi, rfl⟩ := h2.only j hj b hp2
        have := (hu i (by omega) j hj).2 hp2
        rw [hp] at this; cases this
    | some b =>
      obtain ⟨i, hi, rfl⟩ := h.only j hj b hp
      rw [(hu i hi j hj).1 hp]
      simp only [Option.map_some]
      rw [keyOf_at hn i hi, keyOf_at hn2 i (by omega), hk i hi]
  clear hu
  generalize List.range sz = l at this
  induction l with
  | nil => rfl
  | cons x l ih =>
    rw [List.filterMap_cons, List.filterMap_cons, this x (List.mem_cons_self ..), ih fun j hj => this j (List.mem_cons_of_mem _ hj)]
end Go.Proofs.Ytjeeljolhcoeoaa
