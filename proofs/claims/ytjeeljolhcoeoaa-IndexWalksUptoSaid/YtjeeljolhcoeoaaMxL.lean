/- Index: a table and the document's one beside it, and what a step keeps. -/
import Derived.Test.YtjeeljolhcoeoaaMxK
import Derived.Test.YtjeeljolhcoeoaaJxG
namespace Go.Proofs.Ytjeeljolhcoeoaa
open Go.RowKit Go.Shelf

theorem own_keptR {w w' : World} {B : Nat → Prop} {base : Nat} {e : TypeId} {size : Nat} {v : Value} {n : Nat} {xs : List Value} (h : w.ownsRow base e size v n xs) (hk : KeptR B w w') (hn : ∀ b, v.ownBlock = some b → ¬ B b) : w'.ownsRow base e size v n xs := by
  obtain ⟨h1, h2⟩ := h
  refine ⟨h1, ?_⟩
  rcases h2 with h2 | ⟨g, cap, cur, hv, hg1, hh, r⟩
  · exact .inl h2
  · exact .inr ⟨g, cap, cur, hv, hg1, (hk.block g (Array.getElem?_eq_some_iff.1 hh).1 (hn g (by rw [hv]; rfl))).trans hh, r⟩

/-- a block of that type -/
def isTy (w : World) (b : Nat) (t : TypeId) : Prop := ∃ c fr, w.heap[b]? = some (.cells c t fr)
theorem isTy.lt {w : World} {b : Nat} {t : TypeId} (h : isTy w b t) : b < w.heap.size := by
  obtain ⟨c, fr, h⟩ := h
  exact (Array.getElem?_eq_some_iff.1 h).1
theorem isTy.ne {w : World} {b c : Nat} {t u : TypeId} (h : isTy w b t) (g : isTy w c u) (htu : t ≠ u) : b ≠ c := by
  rintro rfl
  obtain ⟨c1, f1, h1⟩ := h
  obtain ⟨c2, f2, h2⟩ := g
  rw [h1] at h2
  injection h2 with h2
  injection h2 with _ h2 _
  exact htu h2
theorem isTy.at {w w' : World} {b : Nat} {t : TypeId} (h : isTy w b t) (e : w'.heap[b]? = w.heap[b]?) : isTy w' b t := by
  obtain ⟨c, fr, h⟩ := h
  exact ⟨c, fr, e.trans h⟩
theorem isTy.below {w w' : World} {b : Nat} {t : TypeId} (h : isTy w b t) (hb : Below w.heap.size w w') : isTy w' b t := h.at (hb.block _ h.lt)
theorem isTy.kept {w w' : World} {b : Nat} {t : TypeId} {R : Nat → Prop} (h : isTy w b t) (hk : KeptR R w w') (hn : ¬ R b) : isTy w' b t := h.at (hk.block _ h.lt hn)
theorem bx_ty {w : World} {b : Nat} {t : TypeId} {v : Value} (h : Boxed w b t v) : isTy w b t := ⟨_, _, h⟩

section
variable {w w' : World} {T P hb sb : Nat} {way : Int} {sz : Nat} {es : List Ent} {pl : Nat → Option Nat} {base Rt : Nat} {v : Value} {ps : List (Int × Int)}
theorem tab_ty (h : Tab w T P hb sb way sz es pl) {b : Nat} (hb2 : tabB T P es b) : isTy w b 87 ∨ isTy w b 85 ∨ isTy w b 104 := by
  rcases hb2 with rfl | rfl | ⟨x, hx, rfl⟩
  · exact .inl ⟨_, _, h.hT⟩
  · exact .inr (.inl ⟨_, _, h.hP⟩)
  · obtain ⟨i, hi, rfl⟩ := List.getElem_of_mem hx
    exact .inr (.inr ⟨_, _, h.hE i hi⟩)
theorem rf_ty (h : RF w base Rt way sz v ps) {b : Nat} (hb2 : rfB Rt v b) : isTy w b 79 ∨ isTy w b 111 := by
  rcases hb2 with rfl | e
  · exact .inl ⟨_, _, h.hR⟩
  · rcases h.row.2 with ⟨hv, _⟩ | ⟨g, cap, cur, hv, _, hh, _⟩
    · rw [hv] at e; cases e
    · rw [hv] at e
      injection e with e; subst e
      exact .inr ⟨_, _, hh⟩
theorem tab_rf {sz2 : Nat} (h : Tab w T P hb sb way sz es pl) (g : RF w base Rt way sz2 v ps) {b : Nat} (h1 : tabB T P es b) : ¬ rfB Rt v b := by
  intro h2
  rcases tab_ty h h1 with h1 | h1 | h1 <;> rcases rf_ty g h2 with h2 | h2 <;> exact h1.ne h2 (by decide) rfl
theorem box_rf {B : Nat} {u : Value} {t : TypeId} (g : RF w base Rt way sz v ps) (h1 : Boxed w B t u) (h2 : t ≠ 79) (h3 : t ≠ 111) : ¬ rfB Rt v B := by
  intro e
  rcases rf_ty g e with e | e
  · exact (bx_ty h1).ne e h2 rfl
  · exact (bx_ty h1).ne e h3 rfl
theorem RF.kept {R : Nat → Prop} (h : RF w base Rt way sz v ps) (hk : KeptR R w w') (hn : ∀ b, rfB Rt v b → ¬ R b) : RF w' base Rt way sz v ps :=
  ⟨(hk.block _ (Array.getElem?_eq_some_iff.1 h.hR).1 (hn _ (.inl rfl))).trans h.hR, own_keptR h.row hk fun b e => hn b (.inr e)⟩
theorem TS.rf (h : TS w T P hb sb way sz es pl) {sz2 : Nat} (g : RF w base Rt way sz2 v ps) (hk : KeptR (rfB Rt v) w w') : TS w' T P hb sb way sz es pl :=
  h.kept hk (tab_rf h.tab g (.inl rfl)) (tab_rf h.tab g (.inr (.inl rfl))) (box_rf g h.tab.hH (by decide) (by decide)) (box_rf g h.tab.hS (by decide) (by decide)) fun e he => tab_rf h.tab g (.inr (.inr ⟨e, he, rfl⟩))
/-- what the document's table does is no matter to the walks -/
theorem kpa_rf (g : RF w base Rt way sz v ps) (hk : KeptR (rfB Rt v) w w') : KpA w w' :=
  ⟨hk.size, fun k c fr _ e => (hk.block k (Array.getElem?_eq_some_iff.1 e).1 fun hr => by
    rcases rf_ty g hr with h | h
    · exact (show isTy w k 104 from ⟨_, _, e⟩).ne h (by decide) rfl
    · exact (show isTy w k 104 from ⟨_, _, e⟩).ne h (by decide) rfl).trans e⟩
theorem ko_rf (g : RF w base Rt way sz v ps) (hk : KeptR (rfB Rt v) w w') : KeepsOthers w w' := ⟨hk.size, fun j o e ho => by
  refine (hk.block j (Array.getElem?_eq_some_iff.1 e).1 fun hr => ?_).trans e
  rcases rf_ty g hr with ⟨c, fr, h⟩ | ⟨c, fr, h⟩
  · rw [h] at e; injection e with e; subst e; simp [Obj.isCells] at ho
  · rw [h] at e; injection e with e; subst e; simp [Obj.isCells] at ho⟩
theorem kpl_rf {sz2 : Nat} (h : Tab w T P hb sb way sz2 es pl) (g : RF w base Rt way sz v ps) (hk : KeptR (rfB Rt v) w w') (es0 : List Ent) (h0 : ∀ e, e ∈ es0 → isTy w e.b 104) : KpL T es0 w w' := by
  refine ⟨hk.size, fun k c fr hn e => ⟨fun ad n c he => ?_, (hk.block k (Array.getElem?_eq_some_iff.1 e).1 fun hr => ?_).trans e⟩, fun i hi e => hk.cell e fun hr => ?_⟩
  · have e1 : w'.cell? ⟨T, 2, none⟩ = w.cell? ⟨T, 2, none⟩ := by
      rw [h.t2]; exact hk.cell h.t2 (tab_rf h g (.inl rfl))
    rw [e1] at he
    exact hn ad n c he
  · rcases rf_ty g hr with h | h
    · exact (show isTy w k 85 from ⟨_, _, e⟩).ne h (by decide) rfl
    · exact (show isTy w k 85 from ⟨_, _, e⟩).ne h (by decide) rfl
  · have h1 := h0 _ (List.getElem_mem hi)
    rcases rf_ty g hr with h | h
    · exact h1.ne h (by decide) rfl
    · exact h1.ne h (by decide) rfl
end

section
variable {R : Nat → Prop} {w w' : World} {T P hb sb : Nat} {way : Int} {sz sz' : Nat} {es es' : List Ent} {pl pl' : Nat → Option Nat} {P' : Nat}
theorem ise_tab (h : Tab w T P hb sb way sz es pl) (h' : Tab w' T P' hb sb way sz' es' pl') (hk : KeptR (tabB T P es') w w') (hP : P' = P ∨ w.heap.size ≤ P') (b : Nat) (hb2 : isTy w b 104) : isTy w' b 104 := by
  by_cases he : ∃ e ∈ es', e.b = b
  · obtain ⟨e, he, rfl⟩ := he
    obtain ⟨i, hi, rfl⟩ := List.getElem_of_mem he
    exact ⟨_, _, h'.hE i hi⟩
  · refine hb2.kept hk ?_
    rintro (rfl | rfl | e)
    · exact hb2.ne ⟨_, _, h.hT⟩ (by decide) rfl
    · exact hb2.ne ⟨_, _, h.hP⟩ (by decide) rfl
    · exact he e
theorem ise_tab2 (h : Tab w T P hb sb way sz es pl) (h' : Tab w' T P' hb sb way sz' es' pl') (hk : KeptR R w w') (hR : ∀ b, b < w.heap.size → R b → tabB T P es b) (hm : ∀ e, e ∈ es → ∃ e' ∈ es', e'.b = e.b) (b : Nat) (hb2 : isTy w b 104) : isTy w' b 104 := by
  by_cases he : ∃ e ∈ es, e.b = b
  · obtain ⟨e, he, rfl⟩ := he
    obtain ⟨e', he', h2⟩ := hm e he
    obtain ⟨i, hi, rfl⟩ := List.getElem_of_mem he'
    rw [← h2]
    exact ⟨_, _, h'.hE i hi⟩
  · refine hb2.kept hk fun hr => ?_
    rcases hR b hb2.lt hr with rfl | rfl | e
    · exact hb2.ne ⟨_, _, h.hT⟩ (by decide) rfl
    · exact hb2.ne ⟨_, _, h.hP⟩ (by decide) rfl
    · exact he e
theorem tu_take2 (h : TU R w T P hb sb way sz es pl) (key : Int) (hbig : es.length ≤ 35184372088832) :
    Calls Try.prog 21 #[.pointer (some ⟨T, 0, none⟩), .int .i64 key] w fun e w' =>
      (∃ i, ∃ hi : i < es.length, sameF way es[i].key key = true ∧ e = .returned (.tuple #[.int .i64 es[i].val, .bool true]) ∧ ∃ pl', TU R w' T P hb sb way sz (es.eraseIdx i) pl' ∧ KeptR R w w' ∧ KpA w w' ∧ (∀ es0, KpL T es0 w w') ∧ KeepsOthers w w' ∧ ∀ b, isTy w b 104 → isTy w' b 104) ∨
      ((∀ i (hi : i < es.length), sameF way es[i].key key = false) ∧ e = .returned (.tuple #[.int .i64 0, .bool false]) ∧ Drawn w w') := by
  refine (ts_take h.ts key hbig).mono ?_
  rintro e w' (⟨i, hi, hm, rfl, pl', h1, h2⟩ | ⟨hno, rfl, hd⟩)
  · have hmem : ∀ x, x ∈ es.eraseIdx i → x ∈ es := fun x hx => List.mem_of_mem_eraseIdx hx
    have h3 : KeptR (tabB T P es) w w' := kr_mono h2 (by
      rintro b (rfl | rfl | ⟨x, hx, rfl⟩)
      · exact .inl rfl
      · exact .inr (.inl rfl)
      · exact .inr (.inr ⟨x, hmem x hx, rfl⟩))
    refine .inl ⟨i, hi, hm, rfl, pl', ⟨h1, h.rT, h.rP, fun x hx => h.rE x (hmem x hx)⟩, kr_mono h3 h.tabB, kpa_tab h.ts.tab h3, kpl_tab h.ts.tab h1.tab h3 (.inl rfl) fun j hj => ?_, ko_tab h.ts.tab h3, fun b hb => ise_tab h.ts.tab h1.tab h2 (.inl rfl) b hb⟩
    by_cases hji : j = i
    · subst hji
      refine h2.cell (h.ts.tab.e0 j hj) ?_
      rintro (ht | ht | ⟨x, hx, hxb⟩)
      · have hb := h.ts.tab.e0 j hj
        rw [show es[j].b = T from ht, h.ts.tab.t0] at hb; cases hb
      · have hb := h.ts.tab.e0 j hj
        rw [show es[j].b = P from ht, h.ts.tab.place 0 (by have := h.ts.tab.hsz; omega)] at hb; cases hb
      · obtain ⟨k, hk, rfl, hkj⟩ : ∃ k, ∃ hk : k < es.length, es[k] = x ∧ k ≠ j := by
          obtain ⟨k, hk, hne, e⟩ := List.mem_eraseIdx_iff_getElem.1 hx
          exact ⟨k, hk, e, hne⟩
        exact hkj (h.ts.tab.nd k j hk hj hxb)
    · have hx : es[j] ∈ es.eraseIdx i := List.mem_eraseIdx_iff_getElem.2 ⟨j, hj, hji, rfl⟩
      obtain ⟨k, hk, e⟩ := List.getElem_of_mem hx
      have := h1.tab.e0 k hk
      rw [e] at this
      exact this
  · exact .inr ⟨hno, rfl, hd⟩
end

structure JTab where
  T : Nat
  P : Nat
  hb : Nat
  sb : Nat
  sz : Nat
  es : List Ent
  pl : Nat → Option Nat
  Rt : Nat
  v : Value
/-- a table, and the document's one with the same pairs -/
structure JT (w : World) (way : Int) (n : Nat) (x : JTab) : Prop where
  ts : TS w x.T x.P x.hb x.sb way x.sz x.es x.pl
  rf : RF w 0 x.Rt way x.sz x.v (allL x.es)
  ln : x.es.length ≤ n
  sz : 3 * x.sz ≤ 8 * (n + 3)
def JB (x : JTab) (b : Nat) : Prop := tabB x.T x.P x.es b ∨ rfB x.Rt x.v b
theorem JT.below {w w' : World} {way : Int} {n : Nat} {x : JTab} (h : JT w way n x) (hb : Below w.heap.size w w') : JT w' way n x := ⟨h.ts.below hb, h.rf.below hb, h.ln, h.sz⟩
theorem JT.more {w : World} {way : Int} {n m : Nat} {x : JTab} (h : JT w way n x) (hm : n ≤ m) : JT w way m x := ⟨h.ts, h.rf, Nat.le_trans h.ln hm, Nat.le_trans h.sz (by omega)⟩
theorem JT.ty {w : World} {way : Int} {n : Nat} {x : JTab} (h : JT w way n x) {b : Nat} (hb : JB x b) : isTy w b 87 ∨ isTy w b 85 ∨ isTy w b 104 ∨ isTy w b 79 ∨ isTy w b 111 := by
  rcases hb with hb | hb
  · rcases tab_ty h.ts.tab hb with h | h | h
    · exact .inl h
    · exact .inr (.inl h)
    · exact .inr (.inr (.inl h))
  · rcases rf_ty h.rf hb with h | h
    · exact .inr (.inr (.inr (.inl h)))
    · exact .inr (.inr (.inr (.inr h)))
theorem JT.lt {w : World} {way : Int} {n : Nat} {x : JTab} (h : JT w way n x) {b : Nat} (hb : JB x b) : b < w.heap.size := by
  rcases h.ty hb with h | h | h | h | h <;> exact h.lt
theorem JT.box {w : World} {way : Int} {n : Nat} {x : JTab} (h : JT w way n x) {b : Nat} {t : TypeId} (ht : isTy w b t) (h1 : t ≠ 87) (h2 : t ≠ 85) (h3 : t ≠ 104) (h4 : t ≠ 79) (h5 : t ≠ 111) : ¬ JB x b := by
  intro hb
  rcases h.ty hb with h | h | h | h | h
  · exact ht.ne h h1 rfl
  · exact ht.ne h h2 rfl
  · exact ht.ne h h3 rfl
  · exact ht.ne h h4 rfl
  · exact ht.ne h h5 rfl
theorem JT.kept {w w' : World} {way : Int} {n : Nat} {x : JTab} {R : Nat → Prop} (h : JT w way n x) (hk : KeptR R w w') (hn : ∀ b, JB x b → ¬ R b) (hh : ¬ R x.hb) (hs : ¬ R x.sb) : JT w' way n x :=
  ⟨h.ts.kept hk (hn _ (.inl (.inl rfl))) (hn _ (.inl (.inr (.inl rfl)))) hh hs (fun e he => hn _ (.inl (.inr (.inr ⟨e, he, rfl⟩)))), h.rf.kept hk fun b hb => hn b (.inr hb), h.ln, h.sz⟩
theorem JT.w8 {w : World} {way : Int} {n : Nat} {x : JTab} (h : JT w way n x) (hn : n ≤ 2200000) : 8 ≤ x.sz ∧ x.sz ≤ 16777216 ∧ x.es.length < x.sz ∧ x.es.length ≤ 8388608 := by
  have h1 := h.ts.tab.hsz
  have h2 := h.sz
  have h3 := h.ts.lt
  have h4 := h.ln
  omega

/-- what a step leaves -/
structure JPost (w w' : World) (way : Int) (n : Nat) (x y : JTab) : Prop where
  jt : JT w' way (n + 1) y
  hT : y.T = x.T
  hR : y.Rt = x.Rt
  hh : y.hb = x.hb
  hs : y.sb = x.sb
  new : ∀ b, JB y b → JB x b ∨ w.heap.size ≤ b
  kept : KeptR (JB x) w w'
  kpa : KpA w w'
  kpl : ∀ es0, (∀ e, e ∈ es0 → isTy w e.b 104) → KpL x.T es0 w w'
  ise : ∀ b, isTy w b 104 → isTy w' b 104
  ko : KeepsOthers w w'
theorem jp_below {w w' : World} {way : Int} {n : Nat} {x : JTab} (h : JT w way n x) (hb : Below w.heap.size w w') : JPost w w' way n x x :=
  ⟨(h.below hb).more (Nat.le_succ n), rfl, rfl, rfl, rfl, fun _ h => .inl h, below_kept hb, KpA.below hb, fun _ _ => KpL.below (Array.getElem?_eq_some_iff.1 h.ts.tab.hT).1 hb, fun _ h => h.below hb,
    ⟨hb.size, fun j _ e _ => (hb.block j (Array.getElem?_eq_some_iff.1 e).1).trans e⟩⟩
theorem ko_trans {A B C : World} (h : KeepsOthers A B) (g : KeepsOthers B C) : KeepsOthers A C := h.trans g
theorem jp_front {w w0 w' : World} {way : Int} {n : Nat} {x y : JTab} (h : JT w way n x) (hb : Below w.heap.size w w0) (g : JPost w0 w' way n x y) : JPost w w' way n x y :=
  ⟨g.jt, g.hT, g.hR, g.hh, g.hs, fun b e => (g.new b e).imp id fun h => Nat.le_trans hb.size h, kr_trans (below_kept hb) (kr_mono g.kept fun _ e => e), (KpA.below hb).trans g.kpa,
    fun es0 h0 => (KpL.below (Array.getElem?_eq_some_iff.1 h.ts.tab.hT).1 hb).trans (g.kpl es0 fun e he => (h0 e he).below hb), fun b e => g.ise b (e.below hb),
    ko_trans ⟨hb.size, fun j _ e _ => (hb.block j (Array.getElem?_eq_some_iff.1 e).1).trans e⟩ g.ko⟩
/-- the table changes, then the document's one -/
theorem jp_join {w w1 w2 : World} {way : Int} {n : Nat} {x : JTab} {P' sz' : Nat} {es' : List Ent} {pl' : Nat → Option Nat} {v' : Value} (h : JT w way n x)
    (h1 : TU (fun b => tabB x.T x.P x.es b ∨ w.heap.size ≤ b) w1 x.T P' x.hb x.sb way sz' es' pl') (k1 : KeptR (fun b => tabB x.T x.P x.es b ∨ w.heap.size ≤ b) w w1) (a1 : KpA w w1) (l1 : ∀ es0, KpL x.T es0 w w1) (o1 : KeepsOthers w w1) (hisE : ∀ b, isTy w b 104 → isTy w1 b 104)
    (h2 : RF w2 0 x.Rt way sz' v' (allL es')) (k2 : KeptR (rfB x.Rt x.v) w1 w2) (hv : ∀ b, v'.ownBlock = some b → x.v.ownBlock = some b ∨ w1.heap.size ≤ b) (ln : es'.length ≤ n + 1) (hsz : 3 * sz' ≤ 8 * (n + 1 + 3)) :
    JPost w w2 way n x ⟨x.T, P', x.hb, x.sb, sz', es', pl', x.Rt, v'⟩ := by
  have hrf1 : RF w1 0 x.Rt way x.sz x.v (allL x.es) := h.rf.kept k1 fun b hb => by
    rintro (e | e)
    · exact tab_rf h.ts.tab h.rf e hb
    · have := h.lt (.inr hb); omega
  have hts : TS w2 x.T P' x.hb x.sb way sz' es' pl' := h1.ts.rf hrf1 k2
  refine ⟨⟨hts, h2, ln, hsz⟩, rfl, rfl, rfl, rfl, fun b hb => ?_, ?_, a1.trans (kpa_rf hrf1 k2), fun es0 h0 => (l1 es0).trans (kpl_rf h1.ts.tab hrf1 k2 es0 fun e he => hisE _ (h0 e he)), fun b hb => (hisE b hb).kept k2 ?_, ko_trans o1 (ko_rf hrf1 k2)⟩
  · rcases hb with hb | hb | hb
    · rcases h1.tabB b hb with e | e
      · exact .inl (.inl e)
      · exact .inr e
    · exact .inl (.inr (.inl hb))
    · rcases hv b hb with e | e
      · exact .inl (.inr (.inr e))
      · exact .inr (Nat.le_trans k1.size e)
  · refine ⟨k2.os.trans k1.os, k2.tape.trans k1.tape, k2.output.trans k1.output, Nat.le_trans k1.size k2.size, fun b hb hn => ?_⟩
    refine (k2.block b (Nat.lt_of_lt_of_le hb k1.size) fun e => hn (.inr e)).trans (k1.block b hb ?_)
    rintro (e | e)
    · exact hn (.inl e)
    · omega
  · intro hr
    rcases rf_ty hrf1 hr with e | e
    · exact (hisE b hb).ne e (by decide) rfl
    · exact (hisE b hb).ne e (by decide) rfl
end Go.Proofs.Ytjeeljolhcoeoaa
