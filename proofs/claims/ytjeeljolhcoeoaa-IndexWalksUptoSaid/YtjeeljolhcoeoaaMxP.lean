/- Index: the world of two tables, and the step that puts a table aside. -/
import Derived.Test.YtjeeljolhcoeoaaMxO
import Derived.Deep.AppendLies
import Derived.Maps.AppendAt
namespace Go.Proofs.Ytjeeljolhcoeoaa
open Go.RowKit Go.Shelf

def ptrV (b : Nat) : Value := .pointer (some ⟨b, 0, none⟩)
/-- the world of two tables, those put aside, and the document's beside them -/
structure WB (W : World) (B T0 T1 R0 R1 : Nat) (old ref : Value) (os rs : List Nat) : Prop where
  hB : W.heap[B]? = some (.cells (wcs T0 T1 R0 R1 old ref) 68)
  o1 : W.ownsRow 0 43 1 old os.length (os.map ptrV)
  o2 : W.ownsRow 0 63 1 ref rs.length (rs.map ptrV)
def WBB (B : Nat) (old ref : Value) (b : Nat) : Prop := b = B ∨ old.ownBlock = some b ∨ ref.ownBlock = some b
theorem own_ty {W : World} {base : Nat} {e : TypeId} {size : Nat} {v : Value} {n : Nat} {xs : List Value} (h : W.ownsRow base e size v n xs) {b : Nat} (hb : v.ownBlock = some b) : isTy W b e := by
  rcases h.2 with ⟨hv, _⟩ | ⟨g, cap, cur, hv, _, hh, _⟩
  · rw [hv] at hb; cases hb
  · rw [hv] at hb
    injection hb with hb; subst hb
    exact ⟨_, _, hh⟩
section
variable {W W' w1 : World} {B T0 T1 R0 R1 : Nat} {old ref v' : Value} {os rs : List Nat} {tmp : Obj} {T : Nat}
theorem WB.ty (h : WB W B T0 T1 R0 R1 old ref os rs) {b : Nat} (hb : WBB B old ref b) : isTy W b 68 ∨ isTy W b 43 ∨ isTy W b 63 := by
  rcases hb with rfl | e | e
  · exact .inl ⟨_, _, h.hB⟩
  · exact .inr (.inl (own_ty h.o1 e))
  · exact .inr (.inr (own_ty h.o2 e))
theorem WB.lt (h : WB W B T0 T1 R0 R1 old ref os rs) : B < W.heap.size := (Array.getElem?_eq_some_iff.1 h.hB).1
theorem WB.kept {R : Nat → Prop} (h : WB W B T0 T1 R0 R1 old ref os rs) (hk : KeptR R W W') (hn : ∀ b, WBB B old ref b → ¬ R b) : WB W' B T0 T1 R0 R1 old ref os rs :=
  ⟨(hk.block _ h.lt (hn _ (.inl rfl))).trans h.hB, own_keptR h.o1 hk fun b e => hn b (.inr (.inl e)), own_keptR h.o2 hk fun b e => hn b (.inr (.inr e))⟩
theorem WB.below (h : WB W B T0 T1 R0 R1 old ref os rs) (hb : Below W.heap.size W W') : WB W' B T0 T1 R0 R1 old ref os rs := h.kept (R := fun _ => False) (below_kept hb) fun _ _ => id
theorem WB.more1 (h : WB W B T0 T1 R0 R1 old ref os rs) (hown : w1.ownsRow 0 43 1 v' (os.length + 1) (os.map ptrV ++ [ptrV T])) (hgrow : (W.alloc tmp).grownBy w1 old.ownBlock) (hat : v'.ownBlock = old.ownBlock ∨ v'.ownBlock = some (W.alloc tmp).heap.size) :
    w1.heap[B]? = some (.cells (wcs T0 T1 R0 R1 old ref) 68) ∧ WB (w1.setCell ⟨B, 4, none⟩ v') B T0 T1 R0 R1 v' ref (os ++ [T]) rs ∧ KeptR (WBB B old ref) W (w1.setCell ⟨B, 4, none⟩ v') ∧ (∀ b, v'.ownBlock = some b → old.ownBlock = some b ∨ W.heap.size ≤ b) := by
  have hBl : ∀ {X : World} {e : TypeId} {n : Nat} {v : Value} {xs : List Value}, X.ownsRow 0 e 1 v n xs → X.heap[B]? = some (.cells (wcs T0 T1 R0 R1 old ref) 68) → e ≠ 68 → v.ownBlock ≠ some B := fun ho hb he e => (own_ty ho e).ne ⟨_, _, hb⟩ he rfl
  have hB1 : w1.heap[B]? = some (.cells (wcs T0 T1 R0 R1 old ref) 68) := by
    rw [hgrow.block B (by rw [World.size_alloc]; have := h.lt; omega) (fun e => hBl h.o1 h.hB (by decide) e.symm), heap_alloc_old _ _ h.lt]
    exact h.hB
  refine ⟨hB1, ⟨by rw [heap_setCell_same _ _ _ _ _ _ hB1]; rfl, ?_, ?_⟩, (((KeptR.refl _ W).al tmp).grown hgrow (fun b e => .inl (.inr (.inl e)))).set (.inl (.inl rfl)), fun b hb => ?_⟩
  · rw [List.length_append, List.map_append]
    exact own_setOther hown (hBl hown hB1 (by decide))
  · exact own_setOther (own_grownOther (h.o2.alloc tmp) hgrow fun b hb e => (own_ty h.o2 hb).ne (own_ty h.o1 e) (by decide) rfl) (hBl h.o2 h.hB (by decide))
  · rcases hat with e | e
    · exact .inl (e ▸ hb)
    · rw [e, World.size_alloc] at hb
      injection hb with hb
      exact .inr (by omega)
theorem WB.more2 (h : WB W B T0 T1 R0 R1 old ref os rs) (hown : w1.ownsRow 0 63 1 v' (rs.length + 1) (rs.map ptrV ++ [ptrV T])) (hgrow : (W.alloc tmp).grownBy w1 ref.ownBlock) (hat : v'.ownBlock = ref.ownBlock ∨ v'.ownBlock = some (W.alloc tmp).heap.size) :
    w1.heap[B]? = some (.cells (wcs T0 T1 R0 R1 old ref) 68) ∧ WB (w1.setCell ⟨B, 5, none⟩ v') B T0 T1 R0 R1 old v' os (rs ++ [T]) ∧ KeptR (WBB B old ref) W (w1.setCell ⟨B, 5, none⟩ v') ∧ (∀ b, v'.ownBlock = some b → ref.ownBlock = some b ∨ W.heap.size ≤ b) := by
  have hBl : ∀ {X : World} {e : TypeId} {n : Nat} {v : Value} {xs : List Value}, X.ownsRow 0 e 1 v n xs → X.heap[B]? = some (.cells (wcs T0 T1 R0 R1 old ref) 68) → e ≠ 68 → v.ownBlock ≠ some B := fun ho hb he e => (own_ty ho e).ne ⟨_, _, hb⟩ he rfl
  have hB1 : w1.heap[B]? = some (.cells (wcs T0 T1 R0 R1 old ref) 68) := by
    rw [hgrow.block B (by rw [World.size_alloc]; have := h.lt; omega) (fun e => hBl h.o2 h.hB (by decide) e.symm), heap_alloc_old _ _ h.lt]
    exact h.hB
  refine ⟨hB1, ⟨by rw [heap_setCell_same _ _ _ _ _ _ hB1]; rfl, ?_, ?_⟩, (((KeptR.refl _ W).al tmp).grown hgrow (fun b e => .inl (.inr (.inr e)))).set (.inl (.inl rfl)), fun b hb => ?_⟩
  · exact own_setOther (own_grownOther (h.o1.alloc tmp) hgrow fun b hb e => (own_ty h.o1 hb).ne (own_ty h.o2 e) (by decide) rfl) (hBl h.o1 h.hB (by decide))
  · rw [List.length_append, List.map_append]
    exact own_setOther hown (hBl hown hB1 (by decide))
  · rcases hat with e | e
    · exact .inl (e ▸ hb)
    · rw [e, World.size_alloc] at hb
      injection hb with hb
      exact .inr (by omega)
theorem WB.set0 (h : WB W B T0 T1 R0 R1 old ref os rs) (T : Nat) : WB (W.setCell ⟨B, 0, none⟩ (ptrV T)) B T T1 R0 R1 old ref os rs :=
  ⟨by rw [heap_setCell_same _ _ _ _ _ _ h.hB]; rfl, own_setOther h.o1 fun e => (own_ty h.o1 e).ne ⟨_, _, h.hB⟩ (by decide) rfl, own_setOther h.o2 fun e => (own_ty h.o2 e).ne ⟨_, _, h.hB⟩ (by decide) rfl⟩
theorem WB.set1 (h : WB W B T0 T1 R0 R1 old ref os rs) (T : Nat) : WB (W.setCell ⟨B, 1, none⟩ (ptrV T)) B T0 T R0 R1 old ref os rs :=
  ⟨by rw [heap_setCell_same _ _ _ _ _ _ h.hB]; rfl, own_setOther h.o1 fun e => (own_ty h.o1 e).ne ⟨_, _, h.hB⟩ (by decide) rfl, own_setOther h.o2 fun e => (own_ty h.o2 e).ne ⟨_, _, h.hB⟩ (by decide) rfl⟩
theorem JT.wb {way : Int} {n : Nat} {x : JTab} (h : JT W way n x) (hw : WB W B T0 T1 R0 R1 old ref os rs) {b : Nat} (hb : JB x b) : ¬ WBB B old ref b := by
  intro e
  rcases hw.ty e with e | e | e <;> exact h.box e (by decide) (by decide) (by decide) (by decide) (by decide) hb
theorem WB.box (hw : WB W B T0 T1 R0 R1 old ref os rs) {b : Nat} {v : Value} (hb : Boxed W b 3 v) : ¬ WBB B old ref b := by
  intro e
  rcases hw.ty e with e | e | e <;> exact (bx_ty hb).ne e (by decide) rfl
theorem JT.keptW {way : Int} {n : Nat} {x : JTab} (h : JT W way n x) (hw : WB W B T0 T1 R0 R1 old ref os rs) (hk : KeptR (WBB B old ref) W W') : JT W' way n x :=
  h.kept hk (fun _ hb => h.wb hw hb) (hw.box h.ts.tab.hH) (hw.box h.ts.tab.hS)
theorem TS.keptW {T P hb sb : Nat} {way : Int} {sz : Nat} {es : List Ent} {pl : Nat → Option Nat} (h : TS W T P hb sb way sz es pl) (hw : WB W B T0 T1 R0 R1 old ref os rs) (hk : KeptR (WBB B old ref) W W') : TS W' T P hb sb way sz es pl := by
  have hn : ∀ b, tabB T P es b → ¬ WBB B old ref b := fun b hb e => by
    rcases tab_ty h.tab hb with h1 | h1 | h1 <;> rcases hw.ty e with h2 | h2 | h2 <;> exact h1.ne h2 (by decide) rfl
  exact h.kept hk (hn _ (.inl rfl)) (hn _ (.inr (.inl rfl))) (hw.box h.tab.hH) (hw.box h.tab.hS) fun e he => hn _ (.inr (.inr ⟨e, he, rfl⟩))
theorem RF.keptW {base Rt : Nat} {way : Int} {sz : Nat} {v : Value} {ps : List (Int × Int)} (h : RF W base Rt way sz v ps) (hw : WB W B T0 T1 R0 R1 old ref os rs) (hk : KeptR (WBB B old ref) W W') : RF W' base Rt way sz v ps :=
  h.kept hk fun b hb e => by rcases rf_ty h hb with h1 | h1 <;> rcases hw.ty e with h2 | h2 | h2 <;> exact h1.ne h2 (by decide) rfl
theorem RF.low {base base2 Rt : Nat} {way : Int} {sz : Nat} {v : Value} {ps : List (Int × Int)} (h : RF W base Rt way sz v ps) (hb : base2 ≤ base) : RF W base2 Rt way sz v ps := ⟨h.hR, own_base h.row hb⟩
theorem kr_chain {old2 : Value} {W1 : World} (h1 : KeptR (WBB B old ref) W W1) (h2 : KeptR (WBB B old2 ref) W1 W') (ho : ∀ b, old2.ownBlock = some b → old.ownBlock = some b ∨ W.heap.size ≤ b) : KeptR (WBB B old ref) W W' :=
  ⟨h2.os.trans h1.os, h2.tape.trans h1.tape, h2.output.trans h1.output, Nat.le_trans h1.size h2.size, fun b hb hn => by
    refine (h2.block b (Nat.lt_of_lt_of_le hb h1.size) ?_).trans (h1.block b hb hn)
    rintro (e | e | e)
    · exact hn (.inl e)
    · rcases ho b e with e | e
      · exact hn (.inr (.inl e))
      · omega
    · exact hn (.inr (.inr e))⟩
theorem kr_setB (hk : KeptR (WBB B old ref) W W') (i : Nat) (u : Value) : KeptR (WBB B old ref) W (W'.setCell ⟨B, i, none⟩ u) := hk.set (.inl (.inl rfl))
end
end Go.Proofs.Ytjeeljolhcoeoaa
