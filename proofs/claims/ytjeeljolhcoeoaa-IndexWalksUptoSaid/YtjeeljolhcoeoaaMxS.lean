/- Index: how a play begins and ends, plain. -/
import Derived.Test.YtjeeljolhcoeoaaMxR
namespace Go.Proofs.Ytjeeljolhcoeoaa
open Go.RowKit Go.Shelf

def nilV : Value := .pointer none
/-- a block that is a world of two tables -/
def isW (W : World) (B : Nat) : Prop := ∃ c, W.heap[B]? = some (.cells c 68)
theorem isW.ty {W : World} {B : Nat} (h : isW W B) : isTy W B 68 := let ⟨c, h⟩ := h; ⟨c, _, h⟩
theorem isW.setB {W : World} {B i : Nat} {u : Value} (h : isW W B) : isW (W.setCell ⟨B, i, none⟩ u) B := let ⟨_, h⟩ := h; ⟨_, set_same u h⟩
theorem isW.below {W W' : World} {B : Nat} (h : isW W B) (hb : Below W.heap.size W W') : isW W' B := let ⟨_, h⟩ := h; ⟨_, (hb.block _ (Array.getElem?_eq_some_iff.1 h).1).trans h⟩
section
variable {lo n B : Nat} {W W' : World} {way : Int} {L : List JTab} {x : JTab}
theorem JT.setB (h : JT W way n x) (hB : isTy W B 68) (i : Nat) (u : Value) : JT (W.setCell ⟨B, i, none⟩ u) way n x := by
  refine h.kept (R := fun b => b = B) ((KeptR.refl _ W).set (.inl rfl)) (fun b hb e => ?_) (fun e => ?_) (fun e => ?_)
  · subst e; exact h.box hB (by decide) (by decide) (by decide) (by decide) (by decide) hb
  · exact (bx_ty h.ts.tab.hH).ne hB (by decide) e
  · exact (bx_ty h.ts.tab.hS).ne hB (by decide) e
theorem AJ.setB (h : AJ lo W way n L) (hB : isTy W B 68) (i : Nat) (u : Value) : AJ lo (W.setCell ⟨B, i, none⟩ u) way n L := ⟨fun x hx => (h.jt x hx).setB hB i u, h.dis, h.ge⟩
theorem TS.setB {T P hb sb sz : Nat} {es : List Ent} {pl : Nat → Option Nat} (h : TS W T P hb sb way sz es pl) (hB : isTy W B 68) (i : Nat) (u : Value) : TS (W.setCell ⟨B, i, none⟩ u) T P hb sb way sz es pl := by
  have hn : ∀ b, tabB T P es b → ¬ b = B := fun b hb e => by
    rcases tab_ty h.tab hb with h1 | h1 | h1 <;> exact h1.ne hB (by decide) e
  exact h.kept (R := fun b => b = B) ((KeptR.refl _ W).set (.inl rfl)) (hn _ (.inl rfl)) (hn _ (.inr (.inl rfl))) ((bx_ty h.tab.hH).ne hB (by decide)) ((bx_ty h.tab.hS).ne hB (by decide)) fun e he => hn _ (.inr (.inr ⟨e, he, rfl⟩))
theorem RF.setB {base Rt sz : Nat} {v : Value} {ps : List (Int × Int)} (h : RF W base Rt way sz v ps) (hB : isTy W B 68) (i : Nat) (u : Value) : RF (W.setCell ⟨B, i, none⟩ u) base Rt way sz v ps :=
  h.kept (R := fun b => b = B) ((KeptR.refl _ W).set (.inl rfl)) fun b hb e => by
    rcases rf_ty h hb with h1 | h1 <;> exact h1.ne hB (by decide) e
theorem AJ.new {W3 W4 : World} {T P hb sb base Rt i j : Nat} {u v : Value} (hA : AJ lo W way 0 L) (hB : isW W B) (hlo : lo ≤ W.heap.size) (g1 : Below W.heap.size W W3) (ht : Tab W3 T P hb sb way 8 [] (fun _ => none)) (hT : W.heap.size ≤ T) (hP : W.heap.size ≤ P)
    (g2 : Below (W3.setCell ⟨B, i, none⟩ u).heap.size (W3.setCell ⟨B, i, none⟩ u) W4) (hr : RF W4 base Rt way 8 (.slice none 0 0) []) (hR : W.heap.size ≤ Rt) :
    ∃ z, z.T = T ∧ z.Rt = Rt ∧ AJ lo (W4.setCell ⟨B, j, none⟩ v) way 0 (L ++ [z]) := by
  have hB3 := hB.below g1
  have hB4 := (hB3.setB (i := i) (u := u)).below g2
  have hts : TS W3 T P hb sb way 8 [] (fun _ => none) := ⟨ht, Can.nil 8, fun i _ hi => by simp at hi, by simp, 0, rfl⟩
  have hts4 := ((hts.setB hB3.ty i u).below g2).setB hB4.ty j v
  have hr4 := (hr.setB hB4.ty j v).low (Nat.zero_le _)
  have hA4 := (((hA.below g1).setB hB3.ty i u).below g2).setB hB4.ty j v
  have hnew : ∀ b, JB ⟨T, P, hb, sb, 8, [], fun _ => none, Rt, .slice none 0 0⟩ b → W.heap.size ≤ b := by
    rintro b ((rfl | rfl | ⟨e, he, _⟩) | (rfl | e))
    · exact hT
    · exact hP
    · cases he
    · exact hR
    · cases e
  refine ⟨⟨T, P, hb, sb, 8, [], fun _ => none, Rt, .slice none 0 0⟩, rfl, rfl, hA4.app ⟨hts4, hr4, Nat.le_refl _, by show 3 * 8 ≤ 8 * (0 + 3); decide⟩ (fun z hz b hb1 hb2 => ?_) fun b hb => Nat.le_trans hlo (hnew b hb)⟩
  have := (hA.jt z hz).lt hb1
  have := hnew b hb2
  omega
end
/-- the world of two tables while it is filled -/
structure I0 (w0 W : World) (B : Nat) (a0 a1 b0 b1 : Value) : Prop where
  hB : W.heap[B]? = some (.cells #[a0, a1, b0, b1, .slice none 0 0, .slice none 0 0] 68)
  ge : w0.heap.size ≤ B
  bel : Below w0.heap.size w0 W
theorem I0.ty {w0 W : World} {B : Nat} {a0 a1 b0 b1 : Value} (h : I0 w0 W B a0 a1 b0 b1) : isW W B := ⟨_, h.hB⟩
theorem I0.below {w0 W W' : World} {B : Nat} {a0 a1 b0 b1 : Value} (h : I0 w0 W B a0 a1 b0 b1) (hb : Below W.heap.size W W') : I0 w0 W' B a0 a1 b0 b1 := ⟨(hb.block _ (Array.getElem?_eq_some_iff.1 h.hB).1).trans h.hB, h.ge, h.bel.trans (hb.mono h.bel.size)⟩
theorem I0.set {w0 W : World} {B : Nat} {a0 a1 b0 b1 : Value} (h : I0 w0 W B a0 a1 b0 b1) (i : Nat) (u a0' a1' b0' b1' : Value) (he : (#[a0, a1, b0, b1, .slice none 0 0, .slice none 0 0] : Array Value).setIfInBounds i u = #[a0', a1', b0', b1', .slice none 0 0, .slice none 0 0]) : I0 w0 (W.setCell ⟨B, i, none⟩ u) B a0' a1' b0' b1' :=
  ⟨(set_same u h.hB).trans (by rw [he]), h.ge, h.bel.setCell (p := ⟨B, i, none⟩) h.ge _⟩
/-- so many tables are made -/
def LP (w0 W : World) (B : Nat) (way : Int) (k : Nat) : Prop :=
  (k = 0 ∧ I0 w0 W B nilV nilV nilV nilV) ∨
  (k = 1 ∧ ∃ x0, I0 w0 W B (ptrV x0.T) nilV (ptrV x0.Rt) nilV ∧ AJ w0.heap.size W way 0 [x0]) ∨
  (k = 2 ∧ ∃ x0 x1, PS w0 W B way 0 x0 x1 [] (.slice none 0 0) (.slice none 0 0))
theorem LP.fin {w0 W : World} {B : Nat} {way : Int} {x0 x1 : JTab} (h : I0 w0 W B (ptrV x0.T) (ptrV x1.T) (ptrV x0.Rt) (ptrV x1.Rt)) (hA : AJ w0.heap.size W way 0 [x0, x1]) : PS w0 W B way 0 x0 x1 [] (.slice none 0 0) (.slice none 0 0) :=
  ⟨hA, ⟨h.hB, World.ownsRow_nil _ _ _ _, World.ownsRow_nil _ _ _ _⟩, (fun b hb => by
    rcases hb with rfl | e | e
    · exact h.ge
    · cases e
    · cases e), h.bel⟩
section
variable {w wr wn w4 : World} {B T P hb sb base Rt : Nat} {way : Int}
theorem lp_0 (hL : LP w wr B way 0) (g1 : Below wr.heap.size wr wn) (ht : Tab wn T P hb sb way 8 [] (fun _ => none)) (hT : wr.heap.size ≤ T) (hP : wr.heap.size ≤ P)
    (g2 : Below (wn.setCell ⟨B, 0, none⟩ (.pointer (some ⟨T, 0, none⟩))).heap.size (wn.setCell ⟨B, 0, none⟩ (.pointer (some ⟨T, 0, none⟩))) w4) (hr : RF w4 base Rt way 8 (.slice none 0 0) []) (hR : wr.heap.size ≤ Rt) :
    LP w (w4.setCell ⟨B, 2, none⟩ (.pointer (some ⟨Rt, 0, none⟩))) B way 1 := by
  rcases hL with ⟨_, h⟩ | ⟨e, _⟩ | ⟨e, _⟩
  · have hA : AJ w.heap.size wr way 0 [] := ⟨fun x hx => (by cases hx), List.Pairwise.nil, fun x hx => (by cases hx)⟩
    obtain ⟨z, h1, h2, h3⟩ := hA.new (i := 0) (j := 2) (v := .pointer (some ⟨Rt, 0, none⟩)) h.ty h.bel.size g1 ht hT hP g2 hr hR
    refine .inr (.inl ⟨rfl, z, ?_, h3⟩)
    rw [h1, h2]
    exact (((h.below g1).set 0 _ (ptrV T) nilV nilV nilV rfl).below g2).set 2 _ (ptrV T) nilV (ptrV Rt) nilV rfl
  · exact absurd e (by decide)
  · exact absurd e (by decide)
theorem lp_1 (hL : LP w wr B way 1) (g1 : Below wr.heap.size wr wn) (ht : Tab wn T P hb sb way 8 [] (fun _ => none)) (hT : wr.heap.size ≤ T) (hP : wr.heap.size ≤ P)
    (g2 : Below (wn.setCell ⟨B, 1, none⟩ (.pointer (some ⟨T, 0, none⟩))).heap.size (wn.setCell ⟨B, 1, none⟩ (.pointer (some ⟨T, 0, none⟩))) w4) (hr : RF w4 base Rt way 8 (.slice none 0 0) []) (hR : wr.heap.size ≤ Rt) :
    LP w (w4.setCell ⟨B, 3, none⟩ (.pointer (some ⟨Rt, 0, none⟩))) B way 2 := by
  rcases hL with ⟨e, _⟩ | ⟨_, x0, h, hA⟩ | ⟨e, _⟩
  · exact absurd e (by decide)
  · obtain ⟨z, h1, h2, h3⟩ := hA.new (i := 1) (j := 3) (v := .pointer (some ⟨Rt, 0, none⟩)) h.ty h.bel.size g1 ht hT hP g2 hr hR
    refine .inr (.inr ⟨rfl, x0, z, LP.fin ?_ h3⟩)
    rw [h1, h2]
    exact (((h.below g1).set 1 _ (ptrV x0.T) (ptrV T) (ptrV x0.Rt) nilV rfl).below g2).set 3 _ (ptrV x0.T) (ptrV T) (ptrV x0.Rt) (ptrV Rt) rfl
  · exact absurd e (by decide)
/-- the block of the world of two tables, whatever it holds -/
theorem LP.cells (hL : LP w wr B way 0 ∨ LP w wr B way 1) : ∃ a0 a1 b0 b1, I0 w wr B a0 a1 b0 b1 := by
  rcases hL with (⟨_, h⟩ | ⟨e, _⟩ | ⟨e, _⟩) | (⟨e, _⟩ | ⟨_, x0, h, hA⟩ | ⟨e, _⟩)
  · exact ⟨_, _, _, _, h⟩
  · exact absurd e (by decide)
  · exact absurd e (by decide)
  · exact absurd e (by decide)
  · exact ⟨_, _, _, _, h⟩
  · exact absurd e (by decide)
theorem rf_NewB (way : Int) (w : World) : Calls Try.prog 29 #[.int .i64 way] w fun e w' => ∃ Rt, e = .returned (.pointer (some ⟨Rt, 0, none⟩)) ∧ w.heap.size ≤ Rt ∧ RF w' w.heap.size Rt way 8 (.slice none 0 0) [] ∧ Below w.heap.size w w' :=
  (rf_New way w).mono fun _ _ h => ⟨_, h.1, Nat.le_refl _, h.2.1, h.2.2⟩
end
/-- a script's step -/
structure StepD where
  K : Int
  On : Int
  key : Int
  value : Int
  leave : Int
def StepD.v (s : StepD) : Value := .agg #[.int .i64 s.K, .int .i64 s.On, .int .i64 s.key, .int .i64 s.value, .int .i64 s.leave]
/-- a slice of steps at a -/
structure Steps (w : World) (a : Option Addr) (ss : List StepD) : Prop where
  cells : ∀ i (h : i < ss.length), ∃ b off, a = some ⟨b, off, none⟩ ∧ w.cell? ⟨b, off + i * 5, none⟩ = some (.int .i64 ss[i].K) ∧ w.cell? ⟨b, off + i * 5 + 1, none⟩ = some (.int .i64 ss[i].On) ∧ w.cell? ⟨b, off + i * 5 + 2, none⟩ = some (.int .i64 ss[i].key) ∧
    w.cell? ⟨b, off + i * 5 + 3, none⟩ = some (.int .i64 ss[i].value) ∧ w.cell? ⟨b, off + i * 5 + 4, none⟩ = some (.int .i64 ss[i].leave)
theorem Steps.below {w w' : World} {a : Option Addr} {ss : List StepD} (h : Steps w a ss) (hb : Below w.heap.size w w') : Steps w' a ss := ⟨fun i hi => by
  obtain ⟨b, off, ha, h0, h1, h2, h3, h4⟩ := h.cells i hi
  exact ⟨b, off, ha, cell_below hb rfl h0, cell_below hb rfl h1, cell_below hb rfl h2, cell_below hb rfl h3, cell_below hb rfl h4⟩⟩
/-- the whole of a play at its end: lists of their own of what is put aside -/
structure PF (w0 W : World) (B : Nat) (way : Int) (n : Nat) (L : List JTab) (T0 T1 R0 R1 : Nat) (old ref : Value) (os rs : List Nat) : Prop where
  aj : AJ w0.heap.size W way n L
  wb : WB W B T0 T1 R0 R1 old ref os rs
  ge : ∀ b, WBB B old ref b → w0.heap.size ≤ b
  bel : Below w0.heap.size w0 W
section
variable {w0 W W' w1 : World} {B n T0 T1 R0 R1 T : Nat} {way : Int} {L : List JTab} {old ref v' : Value} {os rs : List Nat} {tmp : Obj}
theorem PF.below (h : PF w0 W B way n L T0 T1 R0 R1 old ref os rs) (hb : Below W.heap.size W W') : PF w0 W' B way n L T0 T1 R0 R1 old ref os rs := ⟨h.aj.below hb, h.wb.below hb, h.ge, h.bel.trans (hb.mono h.bel.size)⟩
theorem PF.more1 (h : PF w0 W B way n L T0 T1 R0 R1 old ref os rs) (hown : w1.ownsRow 0 43 1 v' (os.length + 1) (os.map ptrV ++ [ptrV T])) (hgrow : (W.alloc tmp).grownBy w1 old.ownBlock) (hat : v'.ownBlock = old.ownBlock ∨ v'.ownBlock = some (W.alloc tmp).heap.size) :
    w1.heap[B]? = some (.cells (wcs T0 T1 R0 R1 old ref) 68) ∧ PF w0 (w1.setCell ⟨B, 4, none⟩ v') B way n L T0 T1 R0 R1 v' ref (os ++ [T]) rs := by
  obtain ⟨h1, h2, h3, h4⟩ := h.wb.more1 hown hgrow hat
  have hs := h.bel.size
  refine ⟨h1, ⟨fun x hx => (h.aj.jt x hx).keptW h.wb h3, h.aj.dis, h.aj.ge⟩, h2, fun b hb => ?_, keptR_belowK h.bel h3 h.ge h.bel.size⟩
  rcases hb with e | e | e
  · exact h.ge b (.inl e)
  · rcases h4 b e with e | e
    · exact h.ge b (.inr (.inl e))
    · omega
  · exact h.ge b (.inr (.inr e))
theorem PF.more2 (h : PF w0 W B way n L T0 T1 R0 R1 old ref os rs) (hown : w1.ownsRow 0 63 1 v' (rs.length + 1) (rs.map ptrV ++ [ptrV T])) (hgrow : (W.alloc tmp).grownBy w1 ref.ownBlock) (hat : v'.ownBlock = ref.ownBlock ∨ v'.ownBlock = some (W.alloc tmp).heap.size) :
    w1.heap[B]? = some (.cells (wcs T0 T1 R0 R1 old ref) 68) ∧ PF w0 (w1.setCell ⟨B, 5, none⟩ v') B way n L T0 T1 R0 R1 old v' os (rs ++ [T]) := by
  obtain ⟨h1, h2, h3, h4⟩ := h.wb.more2 hown hgrow hat
  have hs := h.bel.size
  refine ⟨h1, ⟨fun x hx => (h.aj.jt x hx).keptW h.wb h3, h.aj.dis, h.aj.ge⟩, h2, fun b hb => ?_, keptR_belowK h.bel h3 h.ge h.bel.size⟩
  rcases hb with e | e | e
  · exact h.ge b (.inl e)
  · exact h.ge b (.inr (.inl e))
  · rcases h4 b e with e | e
    · exact h.ge b (.inr (.inr e))
    · omega
end
/-- so many of the two tables are put aside -/
def PK (w0 W : World) (B : Nat) (way : Int) (n : Nat) (x0 x1 : JTab) (xs : List JTab) (k : Nat) : Prop :=
  ∃ old ref, PF w0 W B way n (x0 :: x1 :: xs) x0.T x1.T x0.Rt x1.Rt old ref (xs.map JTab.T ++ [x0.T, x1.T].take k) (xs.map JTab.Rt ++ [x0.Rt, x1.Rt].take k)
end Go.Proofs.Ytjeeljolhcoeoaa
