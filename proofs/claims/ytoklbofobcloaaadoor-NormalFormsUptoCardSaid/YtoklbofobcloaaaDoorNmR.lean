/- Normal: Vars. -/
import Derived.Test.YtoklbofobcloaaaDoorNmQ
import Derived.Shelf.RegionOpenPlain
namespace Go.Proofs.YtoklbofobcloaaaDoor
open Go.RowKit Go.Sort Go.Shelf
attribute [local go_sem] Oper.semAt_some
set_option linter.unusedVariables false
theorem nm_all (r : Rul) (a b : Option Addr) (c d : Nat) (w : World) : Calls Tryd.prog 35 #[.agg #[.string r.h, .slice a r.a.length c, .slice b r.b.length d]] w fun e w' => e = .returned (.func (.func 61) #[] #[.pointer (some ⟨w.heap.size, 0, none⟩)]) ∧ w' = w.alloc (.cells #[.string r.h, .slice a r.a.length c, .slice b r.b.length d] 27) := by
  go_enter Tryd.func35, Tryd.ntmps35
  go_wp2
  go_ret
  exact ⟨rfl, rfl⟩
theorem all_stops (n : Nat) (r : Rul) (a b : Option Addr) (c d : Nat) (Bt : Nat) (w0 w : World) (ha : Terms w0 a r.a) (hb : Lits w0 b r.b) (hM : Below w0.heap.size w0 w) (hBt : w.heap[Bt]? = some (.cells #[.string r.h, .slice a r.a.length c, .slice b r.b.length d] 27)) :
    SeqStopsK Fence.wide n Tryd.prog 61 #[.pointer (some ⟨Bt, 0, none⟩)] (itemT (everyR r)) (KpN w0.heap.size) (fun xs => xs = List.range (everyR r).length) (fun pre => pre <+: List.range (everyR r).length) (everyR r).length w :=
  fun l J Jx W hW hJ _ hY h0 => all1 n r a b c d Bt l w0 J Jx W ha hb (fun k hk => (hW.block k (Nat.lt_of_lt_of_le hk hM.size)).trans (hM.block k hk)) (Nat.le_trans hM.size hW.size) ((hW.block Bt (Array.getElem?_eq_some_iff.1 hBt).1).trans hBt) hJ hY h0
theorem every_len {w : World} {a b : Option Addr} {r : Rul} (ha : Terms w a r.a) (hb : Lits w b r.b) : (everyR r).length ≤ 1099516000000 := by
  have h1 := ha.len
  have h2 := hb.len
  have h3 : ∀ x ∈ r.b, (everyL x).length ≤ 1048578 := fun x hx => by
    obtain ⟨j, hj⟩ := List.getElem?_of_mem hx
    obtain ⟨p, ad, cap, -, -, -, -, -, -, -, -, ht⟩ := hb.cells j x hj
    have := ht.len
    unfold everyL
    rw [List.length_append]; simp; omega
  have h4 : ∀ l : List Lit, (∀ x ∈ l, (everyL x).length ≤ 1048578) → (l.flatMap everyL).length ≤ l.length * 1048578 := by
    intro l
    induction l with
    | nil => intro _; simp
    | cons x l ih =>
      intro h
      rw [List.flatMap_cons, List.length_append, List.length_cons, Nat.succ_mul]
      have := h x (List.mem_cons_self ..)
      have := ih fun y hy => h y (List.mem_cons_of_mem _ hy)
      omega
  have := h4 r.b h3
  have h5 : r.b.length * 1048578 ≤ 1048576 * 1048578 := Nat.mul_le_mul_right _ h2
  unfold everyR
  rw [List.length_append]
  omega
theorem every_size {w : World} {a b : Option Addr} {r : Rul} (ha : Terms w a r.a) (hb : Lits w b r.b) : ∀ x ∈ everyR r, x.2.size ≤ 1048576 := by
  intro x hx
  rcases List.mem_append.1 hx with h | h
  · exact ha.size x h
  · obtain ⟨y, hy, h⟩ := List.mem_flatMap.1 h
    rcases List.mem_append.1 h with h | h
    · exact hb.argsize y hy x h
    · have := hb.size y hy
      simp at h
      rcases h with rfl | rfl
      · exact this.2.1
      · exact this.2.2
/-- the texts that were met -/
noncomputable def seenM (l : List ByteArray) (s : ByteArray) : Option Value := if s ∈ l then some (.bool true) else none
theorem seenM_put (l : List ByteArray) (s : ByteArray) : upd (seenM l) s (some (.bool true)) = seenM (l ++ [s]) := by
  funext t
  by_cases e : t = s
  · subst e; rw [upd_same]; simp [seenM]
  · rw [upd_ne _ _ e]; simp [seenM, e]
theorem zeroBool (w : World) : (zeroValue 4).run Tryd.prog w = .ok (.bool false) w := by kernel_rfl
theorem infoStr2 : (Tryd.prog.info? 9).map (fun i => (i.zero, i.size, i.bytes)) = some (some (.string ⟨#[]⟩), 1, 16) := by kernel_rfl
/-- what stands while the variables are gathered -/
structure VS (w0 : World) (Bo Bs m : Nat) (l : List ByteArray) (n : Nat) (v : Value) (W : World) : Prop where
  bo : W.heap[Bo]? = some (.cells #[v] 28)
  bs : W.heap[Bs]? = some (.cells #[.map (some m)] 55)
  map_ : MapIs W Tryd.prog 9 tKey m n (seenM l)
  row : W.ownsRow w0.heap.size 9 1 v l.length (l.map Value.string)
  bel : Below w0.heap.size w0 W
  ge : w0.heap.size ≤ Bo ∧ w0.heap.size ≤ Bs ∧ w0.heap.size ≤ m ∧ Bo ≠ Bs
theorem not_row {W : World} {base size n g : Nat} {e T : TypeId} {v : Value} {xs : List Value} {cs : Array Value} (h : W.ownsRow base e size v n xs) (hg : W.heap[g]? = some (.cells cs T)) (hT : T ≠ e) : some g ≠ v.ownBlock := by
  rcases h.2 with ⟨rfl, _⟩ | ⟨g', cap, cur, rfl, _, hg2, _⟩
  · simp [Value.ownBlock]
  · intro e2
    simp only [Value.ownBlock, Option.some.injEq] at e2
    subst e2
    rw [hg] at hg2
    injection hg2 with hg2
    injection hg2 with _ hg2
    exact hT hg2
theorem own_grownO {w w' : World} {base : Nat} {e : TypeId} {size : Nat} {v : Value} {n : Nat} {xs : List Value} {r : Option Nat} (h : w.ownsRow base e size v n xs) (hg : w.grownBy w' r) (hk : ∀ b, v.ownBlock = some b → r ≠ some b) : w'.ownsRow base e size v n xs := by
  refine h.kept hg ?_
  cases ho : v.ownBlock with
  | none => exact .inl rfl
  | some b => exact .inr fun e => hk b ho e.symm
section
variable {w0 W W' : World} {Bo Bs m n : Nat} {l : List ByteArray} {v : Value}
theorem VS.below (h : VS w0 Bo Bs m l n v W) (hb : Below W.heap.size W W') : VS w0 Bo Bs m l n v W' :=
  ⟨(hb.block _ (Array.getElem?_eq_some_iff.1 h.bo).1).trans h.bo, (hb.block _ (Array.getElem?_eq_some_iff.1 h.bs).1).trans h.bs, h.map_.below hb, own_below h.row hb, h.bel.trans (hb.mono h.bel.size), h.ge⟩
/-- blocks of no cells, all behind M, turn -/
theorem VS.own (h : VS w0 Bo Bs m l n v W) {M : Nat} (hM : w0.heap.size ≤ M) (hm : m < M) {row : Option Nat} (hg : W.grownBy W' row) (hr : ∀ r, row = some r → M ≤ r ∧ ∃ o : Obj, W.heap[r]? = some o ∧ o.isCells = false) : VS w0 Bo Bs m l n v W' := by
  have hc : ∀ (k : Nat) (cs : Array Value) (T : TypeId), W.heap[k]? = some (Obj.cells cs T) → W'.heap[k]? = some (Obj.cells cs T) := fun k cs T hk => (hg.block k (Array.getElem?_eq_some_iff.1 hk).1 (fun e => by
    obtain ⟨-, o, ho, hc⟩ := hr k e.symm
    rw [hk] at ho
    injection ho with ho
    rw [← ho] at hc
    cases hc)).trans hk
  refine ⟨hc _ _ _ h.bo, hc _ _ _ h.bs, h.map_.kept hg (fun e => by have := (hr m e.symm).1; omega), own_grownO h.row hg (fun k hk e => ?_), h.bel.grown hg h.bel.size (fun k e => Nat.le_trans hM (hr k e).1), h.ge⟩
  obtain ⟨-, o, ho, hcl⟩ := hr k e
  rcases h.row.2 with ⟨rfl, _⟩ | ⟨g', cap, cur, rfl, _, hg2, _⟩
  · cases hk
  · simp only [Value.ownBlock, Option.some.injEq] at hk
    subst hk
    rw [hg2] at ho
    injection ho with ho
    rw [← ho] at hcl
    cases hcl
/-- the map has taken a text, the list has grown by it -/
theorem VS.put (h : VS w0 Bo Bs m l n v W) {W1 W2 : World} {s : ByteArray} {v3 : Value} (hg1 : W.grownBy W1 (some m)) (hm : MapIs W1 Tryd.prog 9 tKey m (n + 1) (upd (seenM l) s (some (.bool true)))) (hg2 : (W1.alloc (.cells #[.string s] 9)).grownBy W2 v.ownBlock) (hown : W2.ownsRow w0.heap.size 9 1 v3 (l.length + 1) (l.map Value.string ++ [.string s])) :
    W2.heap[Bo]? = some (.cells #[v] 28) ∧ VS w0 Bo Bs m (l ++ [s]) (n + 1) v3 (W2.setCell ⟨Bo, 0, none⟩ v3) := by
  have hmne : ∀ (k : Nat) (cs : Array Value) (T : TypeId), W.heap[k]? = some (Obj.cells cs T) → k ≠ m := fun k cs T hk e => by
    obtain ⟨es, clock, hb⟩ := h.map_.isMap
    rw [e, hb] at hk; cases hk
  have hsame : ∀ (k : Nat) (cs : Array Value) (T : TypeId), W.heap[k]? = some (Obj.cells cs T) → T ≠ 9 → W2.heap[k]? = some (Obj.cells cs T) := fun k cs T hk hT => by
    have h1 : W1.heap[k]? = some (.cells cs T) := (hg1.block k (Array.getElem?_eq_some_iff.1 hk).1 (fun e => hmne k cs T hk (by injection e))).trans hk
    have h2 := not_row h.row hk hT
    exact ((hg2.block k (by rw [World.size_alloc]; have := (Array.getElem?_eq_some_iff.1 h1).1; omega) h2).trans (((Below.refl W1.heap.size W1).al (.cells #[.string s] 9)).block k (Array.getElem?_eq_some_iff.1 h1).1)).trans h1
  have hbo := hsame Bo _ _ h.bo (by decide)
  have hbs := hsame Bs _ _ h.bs (by decide)
  have hmW1 := (hm.below ((Below.refl _ _).al (.cells #[.string s] 9))).kept hg2 (h.map_.no_row h.row)
  have hBm := hmne Bo _ _ h.bo
  have hg3 := grown_set W2 Bo 0 v3
  refine ⟨hbo, Go.heap_setCell_same _ _ _ _ _ _ hbo, (hg3.block Bs (Array.getElem?_eq_some_iff.1 hbs).1 (fun e => h.ge.2.2.2 (by injection e with e; exact e.symm))).trans hbs, (hmW1.kept hg3 (fun e => hBm (by injection e with e; exact e.symm))).congr fun t => by rw [seenM_put], ?_, ?_, h.ge⟩
  · rw [List.length_append, List.map_append]
    exact own_grownO hown hg3 fun k hk e => not_row hown hbo (by decide) (by rw [hk]; exact e)
  · have h1 : Below w0.heap.size w0 W1 := h.bel.grown hg1 h.bel.size (fun k e => by injection e with e; rw [← e]; exact h.ge.2.2.1)
    exact ((h1.al _).grown hg2 (by rw [World.size_alloc]; have := h1.size; omega) (own_ge h.row)).setCell h.ge.1 v3
theorem KpN.of_grown {A C : World} {M g : Nat} (hg : A.grownBy C (some g)) (hM : M ≤ g) (hMA : M ≤ A.heap.size) (hgT : ∀ (cs : Array Value) (T : TypeId) (fz : Nat × Nat), T = 27 ∨ T = 44 → A.heap[g]? ≠ some (Obj.cells cs T fz)) : KpN M A C :=
  ⟨hg.size, fun k hk => hg.block k (Nat.lt_of_lt_of_le hk hMA) (fun e => by injection e with e; omega), fun k cs T fz hT e => (hg.block k (Array.getElem?_eq_some_iff.1 e).1 (fun e2 => by injection e2 with e2; subst e2; exact hgT _ _ _ hT e)).trans e⟩
end
end Go.Proofs.YtoklbofobcloaaaDoor
