/- IndexOnce: what lies where, and the plain part. -/
import Derived.Test.YtjeeljolhcoeoaaJxG
import Derived.RangeFuncBox
namespace Go.Proofs.Ytjeeljolhcoeoaa
open Go.RowKit Go.Shelf

theorem Ints.keptR {k : IntKind} {w w' : World} {B : Nat → Prop} {a : Option Addr} {zs : List Int} (h : Ints k w a zs) (hk : KeptR B w w') (hg : ∀ ad, a = some ad → zs ≠ [] → ¬ B ad.block) : Ints k w' a zs :=
  ⟨h.len, fun i hi => by
    obtain ⟨b, off, e, hc⟩ := h.cells i hi
    subst e
    exact ⟨b, off, rfl, hk.cell hc (hg ⟨b, off, none⟩ rfl (by intro e; subst e; simp at hi))⟩, h.wf⟩
theorem Ints.lo {k : IntKind} {w : World} {a : Option Addr} {zs : List Int} (h : Ints k w a zs) : ∀ ad, a = some ad → zs ≠ [] → ad.block < w.heap.size := fun ad e hne => by
  obtain ⟨b, off, e2, hc⟩ := h.cells 0 (List.length_pos_iff.2 hne)
  rw [e] at e2; injection e2 with e2; subst e2
  exact cell_lt hc
theorem bx_kept {W W' : World} {B : Nat} {R : Nat → Prop} {t : TypeId} {v : Value} (h : Boxed W B t v) (hk : KeptR R W W') (hn : ¬ R B) : Boxed W' B t v := (hk.block B h.lt hn).trans h
theorem keptR_belowK {R : Nat → Prop} {w0 w w' : World} {B : Nat} (h : Below B w0 w) (hk : KeptR R w w') (hB : ∀ b, R b → B ≤ b) (hs : B ≤ w.heap.size) : Below B w0 w' :=
  ⟨hk.os.trans h.os, hk.tape.trans h.tape, hk.output.trans h.output, Nat.le_trans h.size hk.size, fun b hb => (hk.block b (by omega) (fun hr => by have := hB b hr; omega)).trans (h.block b hb)⟩

def RT (s0 b0 c1 b : Nat) : Prop := (s0 + 3 ≤ b ∧ b < b0) ∨ c1 + 1 ≤ b
def RU0 (b0 c1 b : Nat) : Prop := b0 + 2 ≤ b ∧ b < c1
def RU (b0 c1 d0 b : Nat) : Prop := (b0 + 2 ≤ b ∧ b < c1) ∨ d0 ≤ b

/-- while keys are put and taken -/
structure OA (w0 w : World) (s0 b0 c1 T P Tu Pu : Nat) (way : Int) (sz : Nat) (es : List Ent) (pl : Nat → Option Nat) (a1 a2 : Option Addr) (xs1 xs2 : List Int) : Prop where
  tt : TU (RT s0 b0 c1) w T P (s0 + 1) (s0 + 2) way sz es pl
  tu : TU (RU0 b0 c1) w Tu Pu b0 (b0 + 1) way 8 [] (fun _ => none)
  bR : Boxed w s0 4 (.bool false)
  bU : Boxed w c1 43 (.pointer (some ⟨Tu, 0, none⟩))
  i1 : Ints .i64 w a1 xs1
  i2 : Ints .i64 w a2 xs2
  lo1 : ∀ ad, a1 = some ad → xs1 ≠ [] → ad.block < s0
  lo2 : ∀ ad, a2 = some ad → xs2 ≠ [] → ad.block < s0
  bel : Below s0 w0 w
  hs : s0 ≤ w.heap.size
  ord : s0 + 3 ≤ b0 ∧ b0 + 2 ≤ c1
section
variable {w0 w w' : World} {s0 b0 c1 T P P' Tu Pu : Nat} {way : Int} {sz sz' : Nat} {es es' : List Ent} {pl pl' : Nat → Option Nat} {a1 a2 : Option Addr} {xs1 xs2 : List Int}
theorem OA.below (h : OA w0 w s0 b0 c1 T P Tu Pu way sz es pl a1 a2 xs1 xs2) (hb : Below w.heap.size w w') : OA w0 w' s0 b0 c1 T P Tu Pu way sz es pl a1 a2 xs1 xs2 :=
  ⟨h.tt.below hb, h.tu.below hb, bx_below h.bR hb, bx_below h.bU hb, h.i1.below hb, h.i2.below hb, h.lo1, h.lo2, h.bel.trans (hb.mono h.hs), Nat.le_trans h.hs hb.size, h.ord⟩
theorem OA.kept (h : OA w0 w s0 b0 c1 T P Tu Pu way sz es pl a1 a2 xs1 xs2) (hk : KeptR (RT s0 b0 c1) w w') (ht : TU (RT s0 b0 c1) w' T P' (s0 + 1) (s0 + 2) way sz' es' pl') : OA w0 w' s0 b0 c1 T P' Tu Pu way sz' es' pl' a1 a2 xs1 xs2 := by
  obtain ⟨o1, o2⟩ := h.ord
  have hn : ∀ b, RU0 b0 c1 b → ¬ RT s0 b0 c1 b := fun b h1 h2 => by unfold RU0 at h1; unfold RT at h2; omega
  refine ⟨ht, ⟨h.tu.ts.kept hk (hn _ h.tu.rT) (hn _ h.tu.rP) ?_ ?_ (fun e he => by cases he), h.tu.rT, h.tu.rP, h.tu.rE⟩, bx_kept h.bR hk ?_, bx_kept h.bU hk ?_, h.i1.keptR hk ?_, h.i2.keptR hk ?_, h.lo1, h.lo2, keptR_belowK h.bel hk ?_ h.hs, Nat.le_trans h.hs hk.size, h.ord⟩
  · unfold RT; omega
  · unfold RT; omega
  · unfold RT; omega
  · unfold RT; omega
  · intro ad e hne; have := h.lo1 ad e hne; unfold RT; omega
  · intro ad e hne; have := h.lo2 ad e hne; unfold RT; omega
  · intro b hb; unfold RT at hb; omega

/-- while the other table is made -/
structure OB (w0 w : World) (s0 b0 c1 d0 T P Tu : Nat) (way : Int) (sz : Nat) (es : List Ent) (pl : Nat → Option Nat) : Prop where
  tt : TU (RT s0 b0 c1) w T P (s0 + 1) (s0 + 2) way sz es pl
  bR : Boxed w s0 4 (.bool false)
  bU : Boxed w c1 43 (.pointer (some ⟨Tu, 0, none⟩))
  bel : Below s0 w0 w
  hs : s0 ≤ w.heap.size
  lo : T < d0 ∧ P < d0 ∧ ∀ e, e ∈ es → e.b < d0
  hd : d0 ≤ w.heap.size
  ord : s0 + 3 ≤ b0 ∧ b0 + 2 ≤ c1 ∧ c1 + 1 ≤ d0
theorem OA.ob (h : OA w0 w s0 b0 c1 T P Tu Pu way sz es pl a1 a2 xs1 xs2) : OB w0 w s0 b0 c1 w.heap.size T P Tu way sz es pl :=
  ⟨h.tt, h.bR, h.bU, h.bel, h.hs, ⟨(Array.getElem?_eq_some_iff.1 h.tt.ts.tab.hT).1, (Array.getElem?_eq_some_iff.1 h.tt.ts.tab.hP).1, fun e he => by
    obtain ⟨i, hi, rfl⟩ := List.getElem_of_mem he
    exact h.tt.ts.tab.ltE i hi⟩, Nat.le_refl _, h.ord.1, h.ord.2, h.bU.lt⟩
theorem OB.below {d0 : Nat} (h : OB w0 w s0 b0 c1 d0 T P Tu way sz es pl) (hb : Below w.heap.size w w') : OB w0 w' s0 b0 c1 d0 T P Tu way sz es pl :=
  ⟨h.tt.below hb, bx_below h.bR hb, bx_below h.bU hb, h.bel.trans (hb.mono h.hs), Nat.le_trans h.hs hb.size, h.lo, Nat.le_trans h.hd hb.size, h.ord⟩
theorem OB.kept {d0 : Nat} (h : OB w0 w s0 b0 c1 d0 T P Tu way sz es pl) (hk : KeptR (RU b0 c1 d0) w w') : OB w0 w' s0 b0 c1 d0 T P Tu way sz es pl := by
  obtain ⟨o1, o2, o3⟩ := h.ord
  obtain ⟨l1, l2, l3⟩ := h.lo
  have hn : ∀ b, RT s0 b0 c1 b → b < d0 → ¬ RU b0 c1 d0 b := fun b h1 h2 h3 => by unfold RT at h1; unfold RU at h3; omega
  refine ⟨⟨h.tt.ts.kept hk (hn _ h.tt.rT l1) (hn _ h.tt.rP l2) ?_ ?_ (fun e he => hn _ (h.tt.rE e he) (l3 e he)), h.tt.rT, h.tt.rP, h.tt.rE⟩, bx_kept h.bR hk ?_, bx_kept h.bU hk ?_, keptR_belowK h.bel hk ?_ h.hs, Nat.le_trans h.hs hk.size, h.lo, Nat.le_trans h.hd hk.size, h.ord⟩
  · unfold RU; omega
  · unfold RU; omega
  · unfold RU; omega
  · unfold RU; omega
  · intro b hb; unfold RU at hb; omega
/-- a box that is no block of the tables is written -/
theorem tu_set {R : Nat → Prop} {hb sb : Nat} (h : TU R w T P hb sb way sz es pl) (b : Nat) (u : Value) (hR : ¬ R b) (h1 : hb ≠ b) (h2 : sb ≠ b) : TU R (w.setCell ⟨b, 0, none⟩ u) T P hb sb way sz es pl :=
  ⟨h.ts.kept (R := fun x => x = b) ((KeptR.refl _ w).set (.inl rfl)) (fun e => hR (e ▸ h.rT)) (fun e => hR (e ▸ h.rP)) h1 h2 (fun e he hb2 => hR (hb2 ▸ h.rE e he)), h.rT, h.rP, h.rE⟩
theorem OB.set {d0 : Nat} (h : OB w0 w s0 b0 c1 d0 T P Tu way sz es pl) (b : Nat) (u : Value) (hb : d0 ≤ b) : OB w0 (w.setCell ⟨b, 0, none⟩ u) s0 b0 c1 d0 T P Tu way sz es pl :=
  h.kept ((KeptR.refl _ w).set (.inl (.inr hb)))
end

theorem tu_put1 {w : World} {T P hb sb : Nat} {way : Int} {sz : Nat} {es : List Ent} {pl : Nat → Option Nat} {R : Nat → Prop} (h : TU R w T P hb sb way sz es pl) (hR : ∀ b, w.heap.size ≤ b → R b) (key value : Int) (hbig : es.length ≤ 13194139533312) :
    Calls Try.prog 20 #[.pointer (some ⟨T, 0, none⟩), .int .i64 key, .int .i64 value] w fun e w' =>
      (∃ x1 x2 x3, e = .returned (.tuple #[.int .i64 x1, .bool x2, .int .i64 x3])) ∧ ∃ P' sz' es' pl', TU R w' T P' hb sb way sz' es' pl' ∧ KeptR R w w' ∧ es'.length ≤ es.length + 1 := by
  refine (tu_put h hR key value hbig).mono ?_
  rintro e w' (⟨i, hi, hm, rfl, h1, h2, _, _, _⟩ | ⟨hno, rfl, b, P', pl', hb2, h1, h2, _, _, _⟩)
  · exact ⟨⟨_, _, _, rfl⟩, _, _, _, _, h1, h2, by rw [List.length_set]; omega⟩
  · exact ⟨⟨_, _, _, rfl⟩, _, _, _, _, h1, h2, by rw [List.length_append]; simp⟩
theorem tu_take1 {w : World} {T P hb sb : Nat} {way : Int} {sz : Nat} {es : List Ent} {pl : Nat → Option Nat} {R : Nat → Prop} (h : TU R w T P hb sb way sz es pl) (key : Int) (hbig : es.length ≤ 35184372088832) :
    Calls Try.prog 21 #[.pointer (some ⟨T, 0, none⟩), .int .i64 key] w fun e w' =>
      (∃ x1 x2, e = .returned (.tuple #[.int .i64 x1, .bool x2])) ∧ ∃ es' pl', TU R w' T P hb sb way sz es' pl' ∧ KeptR R w w' ∧ es'.length ≤ es.length := by
  refine (tu_take h key hbig).mono ?_
  rintro e w' (⟨i, hi, hm, rfl, pl', h1, h2, _, _, _⟩ | ⟨hno, rfl, hd⟩)
  · exact ⟨⟨_, _, rfl⟩, _, _, h1, h2, by rw [erase_len hi]; omega⟩
  · refine ⟨⟨_, _, rfl⟩, _, _, h.below (hd.below _), ?_, Nat.le_refl _⟩
    obtain ⟨n, rfl⟩ := hd
    exact (KeptR.refl _ w).drewN n

/-! ### a block that is no cells turns -/
theorem cells_own {A B : World} {row : Option Nat} {k : Nat} {c : Array Value} {t : TypeId} {fr : Nat × Nat} (h : A.heap[k]? = some (.cells c t fr)) (hg : A.grownBy B row) (hr : ∀ r, row = some r → ∃ o : Obj, A.heap[r]? = some o ∧ o.isCells = false) : B.heap[k]? = some (.cells c t fr) := by
  refine (hg.block k (Array.getElem?_eq_some_iff.1 h).1 fun e => ?_).trans h
  obtain ⟨o, ho, hc⟩ := hr k e.symm
  rw [h] at ho; injection ho with ho; subst ho; simp [Obj.isCells] at hc
theorem TU.own {R : Nat → Prop} {A B : World} {row : Option Nat} {T P hb sb : Nat} {way : Int} {sz : Nat} {es : List Ent} {pl : Nat → Option Nat} (h : TU R A T P hb sb way sz es pl) (hg : A.grownBy B row) (hr : ∀ r, row = some r → ∃ o : Obj, A.heap[r]? = some o ∧ o.isCells = false) : TU R B T P hb sb way sz es pl :=
  ⟨⟨⟨cells_own h.ts.tab.hT hg hr, cells_own h.ts.tab.hP hg hr, cells_own h.ts.tab.hH hg hr, cells_own h.ts.tab.hS hg hr, fun i hi => cells_own (h.ts.tab.hE i hi) hg hr, h.ts.tab.hpl, h.ts.tab.hsz, h.ts.tab.hN, h.ts.tab.hh⟩, h.ts.can, h.ts.na, h.ts.room, h.ts.pow⟩, h.rT, h.rP, h.rE⟩
theorem OB.own {w0 A B : World} {row : Option Nat} {n s0 b0 c1 d0 T P Tu : Nat} {way : Int} {sz : Nat} {es : List Ent} {pl : Nat → Option Nat} (h : OB w0 A s0 b0 c1 d0 T P Tu way sz es pl) (hn : s0 ≤ n) (hg : A.grownBy B row) (hr : ∀ r, row = some r → n ≤ r ∧ ∃ o : Obj, A.heap[r]? = some o ∧ o.isCells = false) : OB w0 B s0 b0 c1 d0 T P Tu way sz es pl := by
  have hr2 := fun r e => (hr r e).2
  exact ⟨h.tt.own hg hr2, bx_own h.bR hg hr2, bx_own h.bU hg hr2, h.bel.grown hg h.hs (fun k e => Nat.le_trans hn (hr k e).1), Nat.le_trans h.hs hg.size, h.lo, Nat.le_trans h.hd hg.size, h.ord⟩

theorem layL_len (es : List Ent) (pl : Nat → Option Nat) (n : Nat) : (layL es pl n).length ≤ n := by
  unfold layL
  refine Nat.le_trans (List.length_filterMap_le _ _) ?_
  simp
theorem infoInt : (Try.prog.info? 3).map (fun i => (i.zero, i.size, i.bytes)) = some (some (.int .i64 0), 1, 8) := by kernel_rfl
/-! ### what a body that collects, or counts, keeps -/
theorem kpl_of {R : Nat → Prop} {X X' : World} {B1 T : Nat} {es : List Ent} (hT : T < B1) (hE : ∀ e, e ∈ es → e.b < B1) (hb : Below B1 X X') (hk : KeptR R X X') (hR : ∀ b, R b → ∃ c t fr, X.heap[b]? = some (.cells c t fr) ∧ t ≠ 85) : KpL T es X X' := by
  refine ⟨hk.size, fun k c fr hn e => ⟨fun ad n c he => hn ad n c ?_, (hk.block k (Array.getElem?_eq_some_iff.1 e).1 fun hr => ?_).trans e⟩, fun i hi e => ?_⟩
  · rwa [hb.cell (p := ⟨T, 2, none⟩) hT] at he
  · obtain ⟨c2, t2, fr2, e2, ht⟩ := hR k hr
    rw [e] at e2; injection e2 with e2; injection e2 with _ e2 _
    exact ht e2.symm
  · exact (hb.cell (p := ⟨es[i].b, 0, none⟩) (hE _ (List.getElem_mem hi))).trans e
/-- two rows that grow, each in a box -/
def Two (B1 : Nat) (W : World) (pre : List (Int × Int)) : Prop := ∃ v1 v2, Boxed W B1 28 v1 ∧ Boxed W (B1 + 1) 28 v2 ∧ W.ownsRow B1 3 1 v1 pre.length (pre.map fun x => .int .i64 x.1) ∧ W.ownsRow B1 3 1 v2 pre.length (pre.map fun x => .int .i64 x.2) ∧ ∀ b, v1.ownBlock = some b → v2.ownBlock ≠ some b
theorem own_cells {A B : World} {row : Option Nat} {base : Nat} {e : TypeId} {size : Nat} {v : Value} {n : Nat} {xs : List Value} (h : A.ownsRow base e size v n xs) (hg : A.grownBy B row) (hr : ∀ r, row = some r → ∃ o : Obj, A.heap[r]? = some o ∧ o.isCells = false) : B.ownsRow base e size v n xs := by
  obtain ⟨h1, h2⟩ := h
  refine ⟨h1, ?_⟩
  rcases h2 with h2 | ⟨g, cap, cur, hv, hg1, hh, r⟩
  · exact .inl h2
  · exact .inr ⟨g, cap, cur, hv, hg1, cells_own hh hg hr, r⟩
theorem Two.own {A B : World} {row : Option Nat} {B1 : Nat} {pre : List (Int × Int)} (h : Two B1 A pre) (hg : A.grownBy B row) (hr : ∀ r, row = some r → ∃ o : Obj, A.heap[r]? = some o ∧ o.isCells = false) : Two B1 B pre := by
  obtain ⟨v1, v2, h1, h2, h3, h4, h5⟩ := h
  exact ⟨v1, v2, bx_own h1 hg hr, bx_own h2 hg hr, own_cells h3 hg hr, own_cells h4 hg hr, h5⟩
theorem Two.below {A B : World} {B1 : Nat} {pre : List (Int × Int)} (h : Two B1 A pre) (hb : Below A.heap.size A B) : Two B1 B pre := by
  obtain ⟨v1, v2, h1, h2, h3, h4, h5⟩ := h
  exact ⟨v1, v2, bx_below h1 hb, bx_below h2 hb, own_below h3 hb, own_below h4 hb, h5⟩
/-- one row grows beside another -/
theorem row_more {X w1 : World} {B1 Ba Bb n m : Nat} {tmp : Obj} {v v' v2 : Value} {xs xs2 ys : List Value} (hB : B1 ≤ X.heap.size) (hBa : B1 ≤ Ba) (hab : Ba ≠ Bb)
    (h1 : Boxed X Ba 28 v) (h2 : Boxed X Bb 28 v2) (o1 : X.ownsRow B1 3 1 v n xs) (o2 : X.ownsRow B1 3 1 v2 m xs2) (hne : ∀ b, v.ownBlock = some b → v2.ownBlock ≠ some b)
    (hown : w1.ownsRow B1 3 1 v' (n + 1) ys) (hgrow : (X.alloc tmp).grownBy w1 v.ownBlock) (hat : v'.ownBlock = v.ownBlock ∨ v'.ownBlock = some (X.heap.size + 1)) :
    Boxed w1 Ba 28 v ∧ Boxed (w1.setCell ⟨Ba, 0, none⟩ v') Ba 28 v' ∧ (w1.setCell ⟨Ba, 0, none⟩ v').ownsRow B1 3 1 v' (n + 1) ys ∧ Boxed (w1.setCell ⟨Ba, 0, none⟩ v') Bb 28 v2 ∧ (w1.setCell ⟨Ba, 0, none⟩ v').ownsRow B1 3 1 v2 m xs2 ∧
      (∀ b, v'.ownBlock = some b → v2.ownBlock ≠ some b) ∧ KeepsOthers X (w1.setCell ⟨Ba, 0, none⟩ v') ∧ Below B1 X (w1.setCell ⟨Ba, 0, none⟩ v') ∧ (∀ T es, T < B1 → (∀ e, e ∈ es → e.b < B1) → KpL T es X (w1.setCell ⟨Ba, 0, none⟩ v')) := by
  obtain ⟨q1, q2, q3, q4, q5⟩ := Boxed.appended (tmp := tmp) h1 (by decide) o1 hB hBa hown hgrow
  have hk : KeptR (fun b => b = Ba ∨ v.ownBlock = some b) X (w1.setCell ⟨Ba, 0, none⟩ v') := (((KeptR.refl _ X).al tmp).grown hgrow (fun b e => .inl (.inr e))).set (.inl (.inl rfl))
  refine ⟨q1, q2, q3, ?_, ?_, fun b hb => ?_, q4, q5, fun T es hT hE => kpl_of hT hE q5 hk ?_⟩
  · refine bx_kept h2 hk ?_
    rintro (e | e)
    · exact hab e.symm
    · exact (h2.not_row (by decide) o1) e.symm
  · refine own_setOther (own_grownOther (o2.alloc tmp) hgrow fun b hb e => hne b e hb) ?_
    intro e
    exact (h1.not_row (by decide) o2) e.symm
  · rcases hat with e | e
    · exact hne b (e ▸ hb)
    · rw [e] at hb; injection hb with hb; subst hb
      intro e2
      have := (own_lt o2 _ e2).2
      omega
  · rintro b (rfl | e)
    · exact ⟨_, _, _, h1, by decide⟩
    · rcases o1.2 with ⟨hv, _⟩ | ⟨g, cap, cur, hv, hg1, hh, _⟩
      · rw [hv] at e; cases e
      · rw [hv] at e
        injection e with e; subst e
        exact ⟨_, _, _, hh, by decide⟩

/-- how the other table stands when so many are put -/
structure OU (way : Int) (es0 es : List Ent) (sz : Nat) (pre : List (Int × Int)) : Prop where
  len : es.length ≤ pre.length
  pairs : pre <+: allL es0 → es.map (fun e => (e.key, e.val)) = pre
  fits : sz = 8 ∨ 3 * sz < 8 * es.length
theorem OU.nil (way : Int) (es0 : List Ent) : OU way es0 [] 8 [] := ⟨Nat.le_refl _, fun _ => rfl, .inl rfl⟩
theorem OU.there {way : Int} {es0 es : List Ent} {sz : Nat} {pre : List (Int × Int)} {x : Int × Int} (h : OU way es0 es sz pre) (hna : ∀ i j (hi : i < es0.length) (hj : j < es0.length), sameF way es0[i].key es0[j].key = true → i = j) (i : Nat) (hi : i < es.length) (hm : sameF way es[i].key x.1 = true) : OU way es0 (es.set i { es[i] with val := x.2 }) sz (pre ++ [x]) := by
  refine ⟨by rw [List.length_set, List.length_append]; have := h.len; omega, fun hp => ?_, by rw [List.length_set]; exact h.fits⟩
  exfalso
  have hp0 := h.pairs ((List.prefix_append _ _).trans hp)
  have hlen : es.length = pre.length := by rw [← hp0]; simp
  have hall : (allL es0).length = es0.length := by simp [allL]
  have hple : pre.length + 1 ≤ es0.length := by have := hp.length_le; rw [hall] at this; simpa using this
  have e1 : (allL es0)[pre.length]? = some x := by
    obtain ⟨t, ht⟩ := hp
    rw [← ht, List.append_assoc, List.getElem?_append_right (Nat.le_refl _)]; simp
  have e2 : (allL es0)[i]? = some (es[i].key, es[i].val) := by
    obtain ⟨t, ht⟩ := hp
    rw [← ht, List.append_assoc, List.getElem?_append_left (by omega), ← hp0]; simp [hi]
  have f1 : (es0[pre.length]'(by omega)).key = x.1 := by
    simp [allL] at e1
    obtain ⟨a, ha, rfl⟩ := e1
    rw [List.getElem?_eq_getElem (by omega)] at ha
    injection ha with ha; rw [ha]
  have f2 : (es0[i]'(by omega)).key = es[i].key := by
    simp [allL] at e2
    obtain ⟨a, ha, h2, _⟩ := e2
    rw [List.getElem?_eq_getElem (by omega)] at ha
    injection ha with ha; rw [ha, h2]
  have := hna i pre.length (by omega) (by omega) (by rw [f1, f2]; exact hm)
  omega
theorem OU.more {way : Int} {es0 es : List Ent} {sz : Nat} {pre : List (Int × Int)} {x : Int × Int} (h : OU way es0 es sz pre) (b : Nat) (hh : Int) : OU way es0 (es ++ [⟨b, x.1, x.2, hh⟩]) (if 4 * (es.length + 1) ≤ 3 * sz then sz else 2 * sz) (pre ++ [x]) := by
  refine ⟨by rw [List.length_append, List.length_append]; have := h.len; simp; omega, fun hp => by rw [List.map_append, h.pairs ((List.prefix_append _ _).trans hp)]; rfl, ?_⟩
  rw [List.length_append]
  have := h.fits
  simp only [List.length_cons, List.length_nil]
  by_cases hr : 4 * (es.length + 1) ≤ 3 * sz
  · rw [if_pos hr]; omega
  · rw [if_neg hr]; omega
/-- the two tables at the end -/
theorem once_end {w w2 : World} {T P hb sb T2 P2 hb2 sb2 : Nat} {way : Int} {sz sz2 : Nat} {es es2 : List Ent} {pl pl2 : Nat → Option Nat} (h : TS w T P hb sb way sz es pl) (h2 : TS w2 T2 P2 hb2 sb2 way sz2 es2 pl2) (hu : OU way es es2 sz2 (allL es)) :
    es2.length = es.length ∧ sz2 ≤ sz ∧ (sz2 = sz → layL es2 pl2 sz = layL es pl sz) := by
  have hp := hu.pairs (List.prefix_refl _)
  have hl : es2.length = es.length := by have := congrArg List.length hp; simpa [allL] using this
  obtain ⟨n, hn⟩ := h.pow
  obtain ⟨m, hm⟩ := h2.pow
  have hget : ∀ i (hi : i < es2.length), es2[i].key = (es[i]'(by omega)).key := fun i hi => by
    have := congrArg (fun l => (l[i]?).map Prod.fst) hp
    simp [allL, hi, show i < es.length from by omega] at this
    exact this
  refine ⟨hl, ?_, fun hz => ?_⟩
  · rcases hu.fits with h8 | h8
    · rw [h8]; exact h.tab.hsz.1
    · have := h.room
      rw [hn, hm]
      refine pow_le ?_
      rw [← hn, ← hm]; omega
  · subst hz
    refine layL_same (by have := h.tab.hsz; omega) h2.can h.can h2.tab.nd h.tab.nd hl (fun i hi => ?_) hget
    rw [h2.tab.hh _ (List.getElem_mem hi), h.tab.hh _ (List.getElem_mem _), hget i hi]
end Go.Proofs.Ytjeeljolhcoeoaa
