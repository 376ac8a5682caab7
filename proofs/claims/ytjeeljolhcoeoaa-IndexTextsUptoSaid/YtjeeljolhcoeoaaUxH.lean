/- Index: a table of texts beside two plain lists. -/
import Derived.Test.YtjeeljolhcoeoaaUxD
import Derived.Test.YtjeeljolhcoeoaaUxF
import Derived.Test.YtjeeljolhcoeoaaSxB
import Derived.Maps.AppendAt
import Derived.Deep.AppendLies
import Derived.Laws.OwnMore
namespace Go.Proofs.Ytjeeljolhcoeoaa.Str
open Go.RowKit Go.Shelf

/-- append of a row that may be empty, at a step of a region that draws -/
theorem step_append_any {P : Program} {w : World} {ops : Array Oper} {o : Oper} {a : Act} {K : Act → World → Prop} {Q : Exit → Act → World → Prop} {E : Prop} (hgd : o.guard = none) (s x : Operand) (t : TypeId)
    (ho : o.op = .call { callee := .builtin .append, args := #[s, x], argTypes := #[t, t] })
    (base : Nat) (e : TypeId) (i : TypeInfo) (z : Value) (size bytes : Nat) (ht : P.underlying t = some (.slice e)) (hi : P.info? e = some i) (hz : i.zero = some z)
    (hsize : i.size = size) (hby : i.bytes = bytes) (hzs : z.cells.size = size) (hsz : 0 < size)
    (v : Value) (n : Nat) (xs : List Value) (hs : a.eval s = v) (hown : w.ownsRow base e size v n xs)
    (ad : Addr) (m c : Nat) (news : List Value) (hx : a.eval x = .slice (some ad) m c) (hl : news.length = m * size) (hnews : ∀ j u, news[j]? = some u → w.cell? (ad.add j) = some u) (h1 : ∀ u ∈ news, u.oneCell' = true)
    (h63 : n + m ≤ maxLen) (hbytes : (n + m) * bytes ≤ 140737488355328) (hbase : base ≤ w.heap.size)
    (h : ∀ v' w', w'.ownsRow base e size v' (n + m) (xs ++ news) → w.grownBy w' v.ownBlock → (v'.ownBlock = v.ownBlock ∨ v'.ownBlock = some w.heap.size) → K (a.put o.dst v') w') :
    if Region.wanted o (yielded ops a.tmps) = true then Oper.wp P o a w K Q else E := by
  have hw : Region.wanted o (yielded ops a.tmps) = true := by simp [Region.wanted, hgd]
  rw [if_pos hw]
  obtain ⟨v', w', hr, h2, h3, _, h5⟩ := run_append_own_at (P := P) w base t o.type e i z size bytes ht hi hz hsize hby hzs hsz v n xs hown ad m c news hl hnews h1 h63 hbytes hbase
  unfold Oper.wp execOp
  simp only [ho, resolve, invoke, builtin, Sem.run_bind, Sem.run_pure, Result.andThen_ok, List.map_toArray, List.map_cons, List.map_nil, hs, hx, hr]
  exact h v' w' h2 h3 h5

def SlV.v (x : SlV) : Value := .slice x.a x.n x.c
section
variable {w w' : World} {T P hb sb : Nat} {way : Int} {sz : Nat} {es : List Ent} {pl : Nat → Option Nat} {R : Nat → Prop}
theorem tab_ty (h : Tab w T P hb sb way sz es pl) {b : Nat} (hb2 : tabB T P es b) : isTy w b 91 ∨ isTy w b 89 ∨ isTy w b 97 := by
  rcases hb2 with rfl | rfl | ⟨x, hx, rfl⟩
  · exact .inl ⟨_, _, h.hT⟩
  · exact .inr (.inl ⟨_, _, h.hP⟩)
  · obtain ⟨i, hi, rfl⟩ := List.getElem_of_mem hx
    exact .inr (.inr ⟨_, _, h.hE i hi⟩)
theorem TS.kept (h : TS w T P hb sb way sz es pl) (hk : KeptR R w w') (hR : ∀ b, tabB T P es b → ¬ R b) : TS w' T P hb sb way sz es pl := by
  refine ⟨⟨?_, ?_, trivial, trivial, fun i hi => ?_, h.tab.hpl, h.tab.hsz, h.tab.hN, h.tab.hh⟩, h.can, h.na, h.room, h.pow⟩
  · exact (hk.block _ (Array.getElem?_eq_some_iff.1 h.tab.hT).1 (hR _ (.inl rfl))).trans h.tab.hT
  · exact (hk.block _ (Array.getElem?_eq_some_iff.1 h.tab.hP).1 (hR _ (.inr (.inl rfl)))).trans h.tab.hP
  · exact (hk.block _ (h.tab.ltE i hi) (hR _ (.inr (.inr ⟨_, List.getElem_mem hi, rfl⟩)))).trans (h.tab.hE i hi)
end
/-- the two plain lists, in boxes of their own -/
structure IR (w0 W : World) (b4 bN bL : Nat) (vn vl : Value) (ns : List ByteArray) (vs : List SlV) : Prop where
  x4 : Boxed W b4 4 (.bool false)
  xN : Boxed W bN 22 vn
  xL : Boxed W bL 31 vl
  oN : W.ownsRow w0.heap.size 9 1 vn ns.length (ns.map Value.string)
  oL : W.ownsRow w0.heap.size 28 1 vl vs.length (vs.map SlV.v)
  gN : w0.heap.size ≤ bN
  gL : w0.heap.size ≤ bL
  bel : Below w0.heap.size w0 W
section
variable {w0 W W' w1 : World} {b4 bN bL T P sz : Nat} {vn vl v' : Value} {ns : List ByteArray} {vs : List SlV} {es : List Ent} {pl : Nat → Option Nat} {R : Nat → Prop} {k : ByteArray} {x : SlV} {tmp : Obj}
theorem IR.kept (h : IR w0 W b4 bN bL vn vl ns vs) (hk : KeptR R W W') (hR : ∀ b t, isTy W b t → R b → t = 91 ∨ t = 89 ∨ t = 97) (hge : ∀ b, R b → w0.heap.size ≤ b) : IR w0 W' b4 bN bL vn vl ns vs := by
  have hn : ∀ {b : Nat} {t : TypeId}, isTy W b t → t ≠ 91 → t ≠ 89 → t ≠ 97 → ¬ R b := fun ht h1 h2 h3 hb => by
    rcases hR _ _ ht hb with e | e | e
    · exact h1 e
    · exact h2 e
    · exact h3 e
  exact ⟨bx_kept h.x4 hk (hn (bx_ty h.x4) (by decide) (by decide) (by decide)), bx_kept h.xN hk (hn (bx_ty h.xN) (by decide) (by decide) (by decide)), bx_kept h.xL hk (hn (bx_ty h.xL) (by decide) (by decide) (by decide)),
    own_keptR h.oN hk fun g e => hn (own_ty h.oN e) (by decide) (by decide) (by decide), own_keptR h.oL hk fun g e => hn (own_ty h.oL e) (by decide) (by decide) (by decide), h.gN, h.gL, keptR_belowK h.bel hk hge h.bel.size⟩
theorem IR.below (h : IR w0 W b4 bN bL vn vl ns vs) (hb : Below W.heap.size W W') : IR w0 W' b4 bN bL vn vl ns vs := h.kept (R := fun _ => False) (below_kept hb) (fun _ _ _ e => e.elim) (fun _ e => e.elim)
theorem ty_eq {b : Nat} {t u : TypeId} (h : isTy W b t) (g : isTy W b u) : t = u := by
  by_cases e : t = u
  · exact e
  · exact absurd rfl (h.ne g e)
/-- the table's own blocks are none of the lists' -/
theorem IR.tab (h : IR w0 W b4 bN bL vn vl ns vs) (ht : Tab W T P 0 0 0 sz es pl) (hk : KeptR (tabB T P es) W W') (hge : ∀ b, tabB T P es b → w0.heap.size ≤ b) : IR w0 W' b4 bN bL vn vl ns vs :=
  h.kept hk (fun b t hb hr => by
    rcases tab_ty ht hr with e | e | e
    · exact .inl (ty_eq hb e)
    · exact .inr (.inl (ty_eq hb e))
    · exact .inr (.inr (ty_eq hb e))) hge
/-- what one of the lists owns is none of the table's -/
theorem TS.other (ht : TS W T P 0 0 0 sz es pl) (hk : KeptR R W W') (hR : ∀ b, R b → ∃ t, isTy W b t ∧ t ≠ 91 ∧ t ≠ 89 ∧ t ≠ 97) : TS W' T P 0 0 0 sz es pl :=
  ht.kept hk fun b hb hr => by
    obtain ⟨t, h1, h2, h3, h4⟩ := hR b hr
    rcases tab_ty ht.tab hb with e | e | e
    · exact h2 (ty_eq h1 e)
    · exact h3 (ty_eq h1 e)
    · exact h4 (ty_eq h1 e)
theorem nN (h : IR w0 W b4 bN bL vn vl ns vs) : vn.ownBlock ≠ some bN := fun e => (own_ty h.oN e).ne (bx_ty h.xN) (by decide) rfl
/-- another list of names -/
theorem IR.newN {ns2 : List ByteArray} (h : IR w0 W b4 bN bL vn vl ns vs) (hb : Below W.heap.size W w1) (hown : w1.ownsRow w0.heap.size 9 1 v' ns2.length (ns2.map Value.string)) :
    Boxed w1 bN 22 vn ∧ IR w0 (w1.setCell ⟨bN, 0, none⟩ v') b4 bN bL v' vl ns2 vs ∧ KeptR (fun b => b = bN) W (w1.setCell ⟨bN, 0, none⟩ v') := by
  have h1 := h.below hb
  refine ⟨h1.xN, ⟨h1.x4.other ((bx_ty h1.x4).ne (bx_ty h1.xN) (by decide)) _, h1.xN.set _, h1.xL.other ((bx_ty h1.xL).ne (bx_ty h1.xN) (by decide)) _, own_setOther hown fun e => (own_ty hown e).ne (bx_ty h1.xN) (by decide) rfl,
    own_setOther h1.oL fun e => (own_ty h1.oL e).ne (bx_ty h1.xN) (by decide) rfl, h.gN, h.gL, h1.bel.setCell (p := ⟨bN, 0, none⟩) h.gN _⟩, ?_⟩
  exact (kr_trans (below_kept hb) (KeptR.refl _ w1)).set (.inl rfl)
theorem IR.newL {vs2 : List SlV} (h : IR w0 W b4 bN bL vn vl ns vs) (hb : Below W.heap.size W w1) (hown : w1.ownsRow w0.heap.size 28 1 v' vs2.length (vs2.map SlV.v)) :
    Boxed w1 bL 31 vl ∧ IR w0 (w1.setCell ⟨bL, 0, none⟩ v') b4 bN bL vn v' ns vs2 ∧ KeptR (fun b => b = bL) W (w1.setCell ⟨bL, 0, none⟩ v') := by
  have h1 := h.below hb
  refine ⟨h1.xL, ⟨h1.x4.other ((bx_ty h1.x4).ne (bx_ty h1.xL) (by decide)) _, h1.xN.other ((bx_ty h1.xN).ne (bx_ty h1.xL) (by decide)) _, h1.xL.set _, own_setOther h1.oN fun e => (own_ty h1.oN e).ne (bx_ty h1.xL) (by decide) rfl,
    own_setOther hown fun e => (own_ty hown e).ne (bx_ty h1.xL) (by decide) rfl, h.gN, h.gL, h1.bel.setCell (p := ⟨bL, 0, none⟩) h.gL _⟩, ?_⟩
  exact (kr_trans (below_kept hb) (KeptR.refl _ w1)).set (.inl rfl)
/-- one name more -/
theorem IR.moreN (h : IR w0 W b4 bN bL vn vl ns vs) (hown : w1.ownsRow w0.heap.size 9 1 v' (ns.length + 1) (ns.map Value.string ++ [.string k])) (hgrow : (W.alloc tmp).grownBy w1 vn.ownBlock) :
    Boxed w1 bN 22 vn ∧ IR w0 (w1.setCell ⟨bN, 0, none⟩ v') b4 bN bL v' vl (ns ++ [k]) vs ∧ KeptR (fun b => b = bN ∨ vn.ownBlock = some b) W (w1.setCell ⟨bN, 0, none⟩ v') := by
  have hk : KeptR (fun b => vn.ownBlock = some b) W w1 := ((KeptR.refl _ W).al tmp).grown hgrow (fun b e => .inl e)
  have hne : ∀ {b : Nat} {t : TypeId}, isTy W b t → t ≠ 9 → ¬ vn.ownBlock = some b := fun ht hne e => (own_ty h.oN e).ne ht (Ne.symm hne) rfl
  have hbN : Boxed w1 bN 22 vn := bx_kept h.xN hk (hne (bx_ty h.xN) (by decide))
  have hb4 : Boxed w1 b4 4 (.bool false) := bx_kept h.x4 hk (hne (bx_ty h.x4) (by decide))
  have hbL : Boxed w1 bL 31 vl := bx_kept h.xL hk (hne (bx_ty h.xL) (by decide))
  have hoL := own_keptR h.oL hk fun g e => hne (own_ty h.oL e) (by decide)
  have hbel := keptR_belowK h.bel hk (fun b e => (h.oN.lt b e).1) h.bel.size
  refine ⟨hbN, ⟨hb4.other ((bx_ty hb4).ne (bx_ty hbN) (by decide)) _, hbN.set _, hbL.other ((bx_ty hbL).ne (bx_ty hbN) (by decide)) _, ?_, own_setOther hoL fun e => (own_ty hoL e).ne (bx_ty hbN) (by decide) rfl, h.gN, h.gL, hbel.setCell (p := ⟨bN, 0, none⟩) h.gN _⟩, (kr_mono hk fun b e => .inr e).set (.inl (.inl rfl))⟩
  rw [List.length_append, List.map_append]
  exact own_setOther hown fun e => (own_ty hown e).ne (bx_ty hbN) (by decide) rfl
theorem IR.moreL (h : IR w0 W b4 bN bL vn vl ns vs) (hown : w1.ownsRow w0.heap.size 28 1 v' (vs.length + 1) (vs.map SlV.v ++ [x.v])) (hgrow : (W.alloc tmp).grownBy w1 vl.ownBlock) :
    Boxed w1 bL 31 vl ∧ IR w0 (w1.setCell ⟨bL, 0, none⟩ v') b4 bN bL vn v' ns (vs ++ [x]) ∧ KeptR (fun b => b = bL ∨ vl.ownBlock = some b) W (w1.setCell ⟨bL, 0, none⟩ v') := by
  have hk : KeptR (fun b => vl.ownBlock = some b) W w1 := ((KeptR.refl _ W).al tmp).grown hgrow (fun b e => .inl e)
  have hne : ∀ {b : Nat} {t : TypeId}, isTy W b t → t ≠ 28 → ¬ vl.ownBlock = some b := fun ht hne e => (own_ty h.oL e).ne ht (Ne.symm hne) rfl
  have hbN : Boxed w1 bN 22 vn := bx_kept h.xN hk (hne (bx_ty h.xN) (by decide))
  have hb4 : Boxed w1 b4 4 (.bool false) := bx_kept h.x4 hk (hne (bx_ty h.x4) (by decide))
  have hbL : Boxed w1 bL 31 vl := bx_kept h.xL hk (hne (bx_ty h.xL) (by decide))
  have hoN := own_keptR h.oN hk fun g e => hne (own_ty h.oN e) (by decide)
  have hbel := keptR_belowK h.bel hk (fun b e => (h.oL.lt b e).1) h.bel.size
  refine ⟨hbL, ⟨hb4.other ((bx_ty hb4).ne (bx_ty hbL) (by decide)) _, hbN.other ((bx_ty hbN).ne (bx_ty hbL) (by decide)) _, hbL.set _, own_setOther hoN fun e => (own_ty hoN e).ne (bx_ty hbL) (by decide) rfl, ?_, h.gN, h.gL, hbel.setCell (p := ⟨bL, 0, none⟩) h.gL _⟩, (kr_mono hk fun b e => .inr e).set (.inl (.inl rfl))⟩
  rw [List.length_append, List.map_append]
  exact own_setOther hown fun e => (own_ty hown e).ne (bx_ty hbL) (by decide) rfl
/-- another list at one place -/
theorem IR.setL {g cap j : Nat} (h : IR w0 W b4 bN bL vn (.slice (some ⟨g, 0, none⟩) vs.length cap) ns vs) :
    IR w0 (W.setCell ⟨g, j, none⟩ x.v) b4 bN bL vn (.slice (some ⟨g, 0, none⟩) vs.length cap) ns (vs.set j x) ∧ KeptR (fun b => b = g) W (W.setCell ⟨g, j, none⟩ x.v) := by
  have hg : isTy W g 28 := own_ty h.oL rfl
  have hne : ∀ {b : Nat} {t : TypeId}, isTy W b t → t ≠ 28 → b ≠ g := fun ht hn => ht.ne hg hn
  refine ⟨⟨(heap_setCell_other _ _ _ _ (hne (bx_ty h.x4) (by decide))).trans h.x4, (heap_setCell_other _ _ _ _ (hne (bx_ty h.xN) (by decide))).trans h.xN, (heap_setCell_other _ _ _ _ (hne (bx_ty h.xL) (by decide))).trans h.xL, own_setOther h.oN fun e => hne (own_ty h.oN e) (by decide) rfl, ?_, h.gN, h.gL, h.bel.setCell (p := ⟨g, j, none⟩) (h.oL.lt g rfl).1 _⟩, (KeptR.refl _ W).set (.inl rfl)⟩
  have := h.oL.stored j x.v
  rw [List.length_set, List.map_set]
  exact this.1
end
end Go.Proofs.Ytjeeljolhcoeoaa.Str
