/- Index: what stands while a walk's body plays with the table. -/
import Derived.Test.YtjeeljolhcoeoaaMxS
import Derived.StillTail
import Derived.StillTactics
namespace Go.Proofs.Ytjeeljolhcoeoaa
open Go.RowKit Go.Shelf

/-! ### a region whose last operations change the world, in a round -/
theorem wpAny_still_tail {P : Program} {Q : Exit → Act → World → Prop} {a : Act} {w : World} {l : List Oper} (n : Nat) (hB : Region.lexTailB .any l.toArray n = true)
    (h : wpStill P l.toArray w (fun a' => wpList P l.toArray Q (l.drop n) a' w) (l.take n) a) : wpAny P .any l.toArray Q l.toArray.size (Array.replicate l.toArray.size false) a w := by
  simp only [Region.lexTailB, Bool.and_eq_true, decide_eq_true_eq] at hB
  obtain ⟨⟨⟨⟨hsel, hn⟩, hs⟩, hc⟩, hlex⟩ := hB
  have hn' : n < l.length := by simpa using hn
  have htl : (l.take n).length = n := by simp; omega
  have hdl : (l.drop n).length = l.toArray.size - n := by simp
  have inv0 : HeadInv .any l.toArray n (Array.replicate l.toArray.size false) :=
    ⟨by simp, fun j oj _ hl => (by rw [getD_replicate_false] at hl; cases hl), fun t _ ht => getD_in (by simpa using ht) (getD_replicate_false _ _)⟩
  have H := wpAnyL_lex (md := .any) (g := l.toArray.size - n) hsel hs hc hn (l.take n) 0 _ a (fun j hj => by
    have hj' : j < n := by rw [htl] at hj; exact hj
    simp [hj']) (by simpa using htl) inv0 (by rw [htl]; exact hlex) h
  have := wpAny_of_head (Q' := Q) (g := l.toArray.size - n) (fun listed a' hL => by
    have := wpAny_of_seq (md := .any) (Q' := Q) (l.drop n) n listed a' w (fun j => by simp [List.getElem?_drop]) (by rw [hdl]; exact hL.1) hL.2
    rwa [hdl] at this) _ _ _ H
  rw [htl, show n + (l.toArray.size - n) = l.toArray.size by omega] at this
  exact this
theorem region_still_round {P : Program} {l0 m id : Nat} {Q : Exit → Act → World → Prop} {a : Act} {w : World} {l : List Oper} (n : Nat) (hm : P.follows .mixedOrders = true) (hd : noDefer l = true) (hB : Region.lexTailB .any l.toArray n = true)
    (h : wpStill P l.toArray w.drew (fun a' => wpList P l.toArray (NP Q) (l.drop n) a' w.drew) (l.take n) a) : (Code.region id l.toArray true).wpIn (Fence.wide.inRound l0) m P Q a w :=
  region_round hm hd (wpAny_still_tail n hB h)

/-- what stays the same in IndexWalks -/
structure WalkC where
  w0 : World
  way : Int
  a : Option Addr
  cap : Nat
  ss : List StepD
  BA : Nat
  BL : Nat
  Bw : Nat
  b13 : Nat
  b14 : Nat
  T : Nat
  Rt : Nat
def isDef (W : World) (D : Nat) : Prop := W.heap[D]? = some (.deferred (some []))
theorem isDef.no {W : World} {D : Nat} {t : TypeId} (h : isDef W D) (g : isTy W D t) : False := by
  obtain ⟨c, fr, g⟩ := g
  rw [show W.heap[D]? = _ from h] at g
  cases g
structure IW (c : WalkC) (W : World) (x : JTab) (m N : Nat) : Prop where
  b5 : Boxed W c.w0.heap.size 60 (.slice c.a c.ss.length c.cap)
  b6 : Boxed W (c.w0.heap.size + 1) 4 (.bool false)
  bA : Boxed W c.BA 43 (.pointer (some ⟨c.T, 0, none⟩))
  bL : Boxed W c.BL 43 (.pointer (some ⟨c.T, 0, none⟩))
  hB : W.heap[c.Bw]? = some (.cells (wcs c.T c.T c.Rt c.Rt (.slice none 0 0) (.slice none 0 0)) 68)
  b13 : Boxed W c.b13 61 (.pointer (some ⟨c.Bw, 0, none⟩))
  b14 : Boxed W c.b14 3 (.int .i64 m)
  jt : JT W c.way N x
  xT : x.T = c.T
  xR : x.Rt = c.Rt
  ge : ∀ b, JB x b → c.w0.heap.size ≤ b
  g14 : c.w0.heap.size ≤ c.b14
  lh : x.hb < c.b14
  ls : x.sb < c.b14
  bel : Below c.w0.heap.size c.w0 W
/-- a list that is told of, and how far -/
structure RW (c : WalkC) (W : World) (b16 b17 : Nat) (v1 v2 : Value) (L : List (Int × Int)) (i : Nat) : Prop where
  h16 : W.heap[b16]? = some (.cells #[v1, v2] 75)
  h17 : Boxed W b17 3 (.int .i64 i)
  o1 : W.ownsRow 0 3 1 v1 L.length (L.map fun x => .int .i64 x.1)
  o2 : W.ownsRow 0 3 1 v2 L.length (L.map fun x => .int .i64 x.2)
  n1 : ∀ g, v1.ownBlock = some g → g ≠ c.b14 ∧ g ≠ b17
  n2 : ∀ g, v2.ownBlock = some g → g ≠ c.b14 ∧ g ≠ b17
  lt : c.b14 < b17
structure WS (c : WalkC) (W : World) (x : JTab) (m N b16 b17 : Nat) (v1 v2 : Value) (L : List (Int × Int)) (i : Nat) (es0 : List Ent) (M : List Nat) : Prop where
  iw : IW c W x m N
  rw : RW c W b16 b17 v1 v2 L i
  e0 : ∀ e, e ∈ es0 → isTy W e.b 104
  md : ∀ D, D ∈ M → isDef W D
section
variable {c : WalkC} {W W' : World} {x y : JTab} {m m' N b16 b17 : Nat} {v1 v2 : Value} {L : List (Int × Int)} {i i' : Nat} {es0 : List Ent} {M : List Nat} {R : Nat → Prop}
theorem IW.kept (h : IW c W x m N) (hk : KeptR R W W') (hn : ∀ b t, isTy W b t → t ≠ 3 → ¬ R b) (hi : ∀ b, b < c.b14 → isTy W b 3 → ¬ R b) (h14 : Boxed W' c.b14 3 (.int .i64 m')) (hR : ∀ b, R b → c.w0.heap.size ≤ b) : IW c W' x m' N :=
  ⟨bx_kept h.b5 hk (hn _ _ (bx_ty h.b5) (by decide)), bx_kept h.b6 hk (hn _ _ (bx_ty h.b6) (by decide)), bx_kept h.bA hk (hn _ _ (bx_ty h.bA) (by decide)), bx_kept h.bL hk (hn _ _ (bx_ty h.bL) (by decide)),
    (hk.block _ (Array.getElem?_eq_some_iff.1 h.hB).1 (hn _ _ ⟨_, _, h.hB⟩ (by decide))).trans h.hB, bx_kept h.b13 hk (hn _ _ (bx_ty h.b13) (by decide)), h14,
    h.jt.kept hk (fun b hb => by rcases h.jt.ty hb with e | e | e | e | e <;> exact hn _ _ e (by decide)) (hi _ h.lh (bx_ty h.jt.ts.tab.hH)) (hi _ h.ls (bx_ty h.jt.ts.tab.hS)), h.xT, h.xR, h.ge, h.g14, h.lh, h.ls, keptR_belowK h.bel hk hR h.bel.size⟩
theorem IW.step (h : IW c W x m N) (hp : JPost W W' c.way N x y) : IW c W' y m (N + 1) := by
  have bx : ∀ {b : Nat} {t : TypeId} {v : Value}, Boxed W b t v → t ≠ 87 → t ≠ 85 → t ≠ 104 → t ≠ 79 → t ≠ 111 → Boxed W' b t v := fun hb h1 h2 h3 h4 h5 => bx_kept hb hp.kept (h.jt.box (bx_ty hb) h1 h2 h3 h4 h5)
  refine ⟨bx h.b5 (by decide) (by decide) (by decide) (by decide) (by decide), bx h.b6 (by decide) (by decide) (by decide) (by decide) (by decide), bx h.bA (by decide) (by decide) (by decide) (by decide) (by decide), bx h.bL (by decide) (by decide) (by decide) (by decide) (by decide),
    ?_, bx h.b13 (by decide) (by decide) (by decide) (by decide) (by decide), bx h.b14 (by decide) (by decide) (by decide) (by decide) (by decide), hp.jt, hp.hT.trans h.xT, hp.hR.trans h.xR, fun b hb => ?_, h.g14, by rw [hp.hh]; exact h.lh, by rw [hp.hs]; exact h.ls, keptR_belowK h.bel hp.kept h.ge h.bel.size⟩
  · exact (hp.kept.block _ (Array.getElem?_eq_some_iff.1 h.hB).1 (h.jt.box ⟨_, _, h.hB⟩ (by decide) (by decide) (by decide) (by decide) (by decide))).trans h.hB
  · rcases hp.new b hb with e | e
    · exact h.ge b e
    · exact Nat.le_trans h.bel.size e
theorem IW.more {N' : Nat} (h : IW c W x m N) (hN : N ≤ N') : IW c W x m N' := ⟨h.b5, h.b6, h.bA, h.bL, h.hB, h.b13, h.b14, h.jt.more hN, h.xT, h.xR, h.ge, h.g14, h.lh, h.ls, h.bel⟩
theorem RW.kept (h : RW c W b16 b17 v1 v2 L i) (hk : KeptR R W W') (hn : ∀ b t, isTy W b t → t ≠ 3 → ¬ R b) (hr : ∀ g, v1.ownBlock = some g ∨ v2.ownBlock = some g → ¬ R g) (h17 : Boxed W' b17 3 (.int .i64 i')) : RW c W' b16 b17 v1 v2 L i' :=
  ⟨(hk.block _ (Array.getElem?_eq_some_iff.1 h.h16).1 (hn _ _ ⟨_, _, h.h16⟩ (by decide))).trans h.h16, h17, own_keptR h.o1 hk fun g e => hr g (.inl e), own_keptR h.o2 hk fun g e => hr g (.inr e), h.n1, h.n2, h.lt⟩
theorem WS.more {N' : Nat} (h : WS c W x m N b16 b17 v1 v2 L i es0 M) (hN : N ≤ N') : WS c W x m N' b16 b17 v1 v2 L i es0 M := ⟨h.iw.more hN, h.rw, h.e0, h.md⟩
theorem WS.kept (h : WS c W x m N b16 b17 v1 v2 L i es0 M) (hk : KeptR R W W') (hn : ∀ b t, isTy W b t → t ≠ 3 → ¬ R b) (hi : ∀ b, b < c.b14 → isTy W b 3 → ¬ R b) (h14 : Boxed W' c.b14 3 (.int .i64 m')) (hR : ∀ b, R b → c.w0.heap.size ≤ b)
    (hr : ∀ g, v1.ownBlock = some g ∨ v2.ownBlock = some g → ¬ R g) (h17 : Boxed W' b17 3 (.int .i64 i')) (hd : ∀ D, D ∈ M → isDef W D → ¬ R D) : WS c W' x m' N b16 b17 v1 v2 L i' es0 M :=
  ⟨h.iw.kept hk hn hi h14 hR, h.rw.kept hk hn hr h17, fun e he => (h.e0 e he).kept hk (hn _ _ (h.e0 e he) (by decide)), fun D hD => (hk.block _ (Array.getElem?_eq_some_iff.1 (h.md D hD)).1 (hd D hD (h.md D hD))).trans (h.md D hD)⟩
theorem WS.below (h : WS c W x m N b16 b17 v1 v2 L i es0 M) (hb : Below W.heap.size W W') : WS c W' x m N b16 b17 v1 v2 L i es0 M :=
  h.kept (R := fun _ => False) (below_kept hb) (fun _ _ _ _ => id) (fun _ _ _ => id) (bx_below h.iw.b14 hb) (fun _ h => h.elim) (fun _ _ => id) (bx_below h.rw.h17 hb) (fun _ _ _ => id)
theorem WS.own {B : Nat} {row : Option Nat} (h : WS c W x m N b16 b17 v1 v2 L i es0 M) (hM : ∀ D, D ∈ M → D < B) (hB : c.w0.heap.size ≤ B) (hg : W.grownBy W' row) (hr : ∀ r, row = some r → B ≤ r ∧ ∃ o : Obj, W.heap[r]? = some o ∧ o.isCells = false) : WS c W' x m N b16 b17 v1 v2 L i es0 M := by
  have hno : ∀ b t, isTy W b t → ¬ row = some b := fun b t ht e => by
    obtain ⟨_, o, h1, h2⟩ := hr b e
    obtain ⟨cs, fr, h3⟩ := ht
    rw [h3] at h1; injection h1 with h1; subst h1; simp [Obj.isCells] at h2
  exact h.kept (R := fun b => row = some b) ((KeptR.refl _ W).grown hg fun b e => .inl e) (fun b t ht _ => hno b t ht) (fun b _ ht => hno b _ ht) (bx_own h.iw.b14 hg fun r e => (hr r e).2) (fun b e => Nat.le_trans hB (hr b e).1)
    (fun g e => by rcases e with e | e
                   · exact hno g _ (own_ty h.rw.o1 e)
                   · exact hno g _ (own_ty h.rw.o2 e)) (bx_own h.rw.h17 hg fun r e => (hr r e).2) (fun D hD _ e => by have := hM D hD; have := (hr D e).1; omega)
theorem WS.setN (h : WS c W x m N b16 b17 v1 v2 L i es0 M) (j : Nat) : WS c (W.setCell ⟨b17, 0, none⟩ (.int .i64 j)) x m N b16 b17 v1 v2 L j es0 M :=
  h.kept (R := fun b => b = b17) ((KeptR.refl _ W).set (.inl rfl)) (fun b t ht hne e => ht.ne (bx_ty h.rw.h17) hne e) (fun b hb _ e => by have := h.rw.lt; omega) (h.iw.b14.other (by have := h.rw.lt; omega) _) (fun b e => by have := h.rw.lt; have := h.iw.g14; omega)
    (fun g e => by rcases e with e | e
                   · exact (h.rw.n1 g e).2
                   · exact (h.rw.n2 g e).2) (h.rw.h17.set _) (fun D _ hd e => hd.no (e ▸ bx_ty h.rw.h17))
theorem WS.setAt (h : WS c W x m N b16 b17 v1 v2 L i es0 M) (j : Nat) : WS c (W.setCell ⟨c.b14, 0, none⟩ (.int .i64 j)) x j N b16 b17 v1 v2 L i es0 M :=
  h.kept (R := fun b => b = c.b14) ((KeptR.refl _ W).set (.inl rfl)) (fun b t ht hne e => ht.ne (bx_ty h.iw.b14) hne e) (fun b hb _ e => by omega) (h.iw.b14.set _) (fun b e => by have := h.iw.g14; omega)
    (fun g e => by rcases e with e | e
                   · exact (h.rw.n1 g e).1
                   · exact (h.rw.n2 g e).1) (h.rw.h17.other (by have := h.rw.lt; omega) _) (fun D _ hd e => hd.no (e ▸ bx_ty h.iw.b14))
theorem WS.step (h : WS c W x m N b16 b17 v1 v2 L i es0 M) (hp : JPost W W' c.way N x y) : WS c W' y m (N + 1) b16 b17 v1 v2 L i es0 M := by
  have hint : ∀ {b : Nat}, isTy W b 3 → ¬ JB x b := fun ht => h.iw.jt.box ht (by decide) (by decide) (by decide) (by decide) (by decide)
  refine ⟨h.iw.step hp, ⟨?_, bx_kept h.rw.h17 hp.kept (hint (bx_ty h.rw.h17)), own_keptR h.rw.o1 hp.kept fun g e => hint (own_ty h.rw.o1 e), own_keptR h.rw.o2 hp.kept fun g e => hint (own_ty h.rw.o2 e), h.rw.n1, h.rw.n2, h.rw.lt⟩, fun e he => hp.ise _ (h.e0 e he), fun D hD => ?_⟩
  · exact (hp.kept.block _ (Array.getElem?_eq_some_iff.1 h.rw.h16).1 (h.iw.jt.box ⟨_, _, h.rw.h16⟩ (by decide) (by decide) (by decide) (by decide) (by decide))).trans h.rw.h16
  · refine (hp.kept.block _ (Array.getElem?_eq_some_iff.1 (h.md D hD)).1 fun hb => ?_).trans (h.md D hD)
    rcases h.iw.jt.ty hb with e | e | e | e | e <;> exact (h.md D hD).no e
/-! ### what the walks ask -/
theorem kpa_setI {b : Nat} {u v : Value} (hb : Boxed W b 3 v) : KpA W (W.setCell ⟨b, 0, none⟩ u) := ⟨by rw [World.size_setCell]; exact Nat.le_refl _, fun k cs fr _ e => by
  rw [heap_setCell_other _ _ _ _ ((show isTy W k 104 from ⟨_, _, e⟩).ne (bx_ty hb) (by decide))]
  exact e⟩
theorem kpl_setI {b : Nat} {u v : Value} (h : WS c W x m N b16 b17 v1 v2 L i es0 M) (hb : Boxed W b 3 v) : KpL c.T es0 W (W.setCell ⟨b, 0, none⟩ u) := by
  have hT : isTy W c.T 87 := ⟨_, _, h.iw.xT ▸ h.iw.jt.ts.tab.hT⟩
  refine ⟨by rw [World.size_setCell]; exact Nat.le_refl _, fun k cs fr hk e => ⟨fun ad n cc he => hk ad n cc ?_, ?_⟩, fun j hj e => ?_⟩
  · rw [← he]
    exact (World.cell?_setCell_other W ⟨b, 0, none⟩ ⟨c.T, 2, none⟩ u (by have := hT.ne (bx_ty hb) (by decide); intro e; simp only [Addr.mk.injEq] at e; omega)).symm
  · rw [heap_setCell_other _ _ _ _ ((show isTy W k 85 from ⟨_, _, e⟩).ne (bx_ty hb) (by decide))]
    exact e
  · refine (World.cell?_setCell_other W ⟨b, 0, none⟩ ⟨es0[j].b, 0, none⟩ u (by have := (h.e0 _ (List.getElem_mem hj)).ne (bx_ty hb) (by decide); intro e; simp only [Addr.mk.injEq] at e; omega)).trans e
theorem kpl_bel (h : WS c W x m N b16 b17 v1 v2 L i es0 M) (hb : Below W.heap.size W W') : KpL c.T es0 W W' := KpL.below (isTy.lt (t := 87) ⟨_, _, h.iw.xT ▸ h.iw.jt.ts.tab.hT⟩) hb
theorem kpl_step (h : WS c W x m N b16 b17 v1 v2 L i es0 M) (hp : JPost W W' c.way N x y) : KpL c.T es0 W W' := h.iw.xT ▸ hp.kpl es0 h.e0
end
end Go.Proofs.Ytjeeljolhcoeoaa
