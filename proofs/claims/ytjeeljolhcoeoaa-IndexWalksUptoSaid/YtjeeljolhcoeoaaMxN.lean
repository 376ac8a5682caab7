/- Index: a walk over the table beside the document's list. -/
import Derived.Test.YtjeeljolhcoeoaaMxM
import Derived.Test.YtjeeljolhcoeoaaKxA
import Derived.Test.YtjeeljolhcoeoaaKxB
namespace Go.Proofs.Ytjeeljolhcoeoaa
open Go.RowKit Go.Shelf

theorem layL_length (es : List Ent) (pl : Nat → Option Nat) (n : Nat) : (layL es pl n).length ≤ n := by
  unfold layL
  refine Nat.le_trans (List.length_filterMap_le _ _) ?_
  rw [List.length_range]; exact Nat.le_refl _
section
variable {w : World} {way : Int} {n : Nat} {x : JTab} {base : Nat} {v1 v2 : Value}
theorem jt_all_walk (h : JT w way n x) (hn : n ≤ 2200000) {Bt : Nat} (hB : Boxed w Bt 43 (.pointer (some ⟨x.T, 0, none⟩))) (leave : Int)
    (o1 : w.ownsRow base 3 1 v1 (allL x.es).length ((allL x.es).map fun x => .int .i64 x.1)) (o2 : w.ownsRow base 3 1 v2 (allL x.es).length ((allL x.es).map fun x => .int .i64 x.2)) :
    Calls Try.prog 31 #[.func (.func 52) #[] #[.pointer (some ⟨Bt, 0, none⟩)], .agg #[v1, v2], .int .i64 leave] w fun e w' => e = .returned (.bool true) ∧ Below w.heap.size w w' := by
  obtain ⟨z1, z2, z3, z4⟩ := h.w8 hn
  refine wk_walks (Kp := KpA) leave (enters_of Try.func52 (by kernel_rfl) rfl) (fun W g => all_stops 8 W (h.ts.tab.below g) (by omega) Bt (Nat.lt_of_lt_of_le hB.lt (Below.size g)) (bx_gr hB g).cell)
    KpA.trans (fun W l o o' _ h hc => KpA.put W l o o' h hc) (fun W W' _ g => KpA.below g) (fun W b u v _ _ hb => ⟨by rw [World.size_setCell]; exact Nat.le_refl _, fun k c fr _ e => ?_⟩) o1 o2 (by rw [allL_length]; omega)
  rw [heap_setCell_other _ _ _ _ ((show isTy W k 104 from ⟨_, _, e⟩).ne (bx_ty hb) (by decide))]
  exact e
theorem jt_lay_walk (h : JT w way n x) (hn : n ≤ 2200000) {Bt : Nat} (hB : Boxed w Bt 43 (.pointer (some ⟨x.T, 0, none⟩))) (leave : Int)
    (o1 : w.ownsRow base 3 1 v1 (layL x.es x.pl x.sz).length ((layL x.es x.pl x.sz).map fun x => .int .i64 x.1)) (o2 : w.ownsRow base 3 1 v2 (layL x.es x.pl x.sz).length ((layL x.es x.pl x.sz).map fun x => .int .i64 x.2)) :
    Calls Try.prog 31 #[.func (.func 51) #[] #[.pointer (some ⟨Bt, 0, none⟩)], .agg #[v1, v2], .int .i64 leave] w fun e w' => e = .returned (.bool true) ∧ Below w.heap.size w w' := by
  obtain ⟨z1, z2, z3, z4⟩ := h.w8 hn
  have hT := (Array.getElem?_eq_some_iff.1 h.ts.tab.hT).1
  have hl := layL_length x.es x.pl x.sz
  refine wk_walks (Kp := KpL x.T x.es) leave (enters_of Try.func51 (by kernel_rfl) rfl) (fun W g => lay_stops 8 W (h.ts.tab.below g) (by omega) Bt (Nat.lt_of_lt_of_le hB.lt (Below.size g)) (bx_gr hB g).cell)
    KpL.trans (fun W l o o' hl h hc => KpL.put (B0 := w.heap.size) hT W l o o' hl h hc) (fun W W' g1 g => KpL.below (Nat.lt_of_lt_of_le hT (Below.size g1)) g)
    (fun W b u v g1 hb1 hb => ⟨by rw [World.size_setCell]; exact Nat.le_refl _, fun k c fr hk e => ⟨fun ad m c he => ?_, ?_⟩, fun i hi e => ?_⟩) o1 o2 (by omega)
  · refine hk ad m c ?_
    rw [← he]
    exact (World.cell?_setCell_other W ⟨b, 0, none⟩ ⟨x.T, 2, none⟩ u (by intro e; simp only [Addr.mk.injEq] at e; omega)).symm
  · rw [heap_setCell_other _ _ _ _ ((show isTy W k 85 from ⟨_, _, e⟩).ne (bx_ty hb) (by decide))]
    exact e
  · refine (World.cell?_setCell_other W ⟨b, 0, none⟩ ⟨x.es[i].b, 0, none⟩ u (by have := h.ts.tab.ltE i hi; intro e; simp only [Addr.mk.injEq] at e; omega)).trans e
/-! ### Put and Take beside the document's -/
theorem allL_set (es : List Ent) (i : Nat) (hi : i < es.length) (v : Int) (hi2 : i < (allL es).length) : allL (es.set i { es[i] with val := v }) = (allL es).set i ((allL es)[i].1, v) := by
  rw [allL_get]
  unfold allL
  rw [List.map_set]
theorem allL_snoc (es : List Ent) (e : Ent) : allL (es ++ [e]) = allL es ++ [(e.key, e.val)] := by simp [allL]
theorem allL_erase : ∀ (es : List Ent) (i : Nat), allL (es.eraseIdx i) = (allL es).eraseIdx i
  | [], _ => rfl
  | _ :: _, 0 => rfl
  | e :: es, i + 1 => congrArg ((e.key, e.val) :: ·) (allL_erase es i)
theorem JT.tu (h : JT w way n x) : TU (fun b => tabB x.T x.P x.es b ∨ w.heap.size ≤ b) w x.T x.P x.hb x.sb way x.sz x.es x.pl :=
  ⟨h.ts, .inl (.inl rfl), .inl (.inr (.inl rfl)), fun e he => .inl (.inr (.inr ⟨e, he, rfl⟩))⟩
theorem JT.rf1 (h : JT w way n x) {w1 : World} (k1 : KeptR (fun b => tabB x.T x.P x.es b ∨ w.heap.size ≤ b) w w1) : RF w1 0 x.Rt way x.sz x.v (allL x.es) := h.rf.kept k1 fun b hb => by
  rintro (e | e)
  · exact tab_rf h.ts.tab h.rf e hb
  · have := h.lt (.inr hb); omega
theorem jt_put (h : JT w way n x) (hn : n ≤ 2200000) (key value : Int) : Calls Try.prog 20 #[.pointer (some ⟨x.T, 0, none⟩), .int .i64 key, .int .i64 value] w fun e w1 => ∃ (V : Int) (Bo : Bool), e = .returned (.tuple #[.int .i64 V, .bool Bo, .int .i64 0]) ∧ KeptR (fun b => tabB x.T x.P x.es b ∨ w.heap.size ≤ b) w w1 ∧
    Hid (Calls Try.prog 34 #[.pointer (some ⟨x.Rt, 0, none⟩), .int .i64 key, .int .i64 value] w1 fun e w2 => e = .returned (.tuple #[.int .i64 V, .bool Bo]) ∧ ∃ y, JPost w w2 way n x y) := by
  obtain ⟨z1, z2, z3, z4⟩ := h.w8 hn
  have hln := h.ln
  have hlen := allL_length x.es
  refine (tu_put h.tu (fun b hb => .inr hb) key value (by omega)).mono ?_
  rintro e w1 (⟨i, hi, hm, rfl, h1, k1, a1, l1, o1⟩ | ⟨hno, rfl, b, P', pl', hb2, h1, k1, a1, l1, o1⟩)
  · refine ⟨_, _, rfl, k1, Lib.hid ?_⟩
    have hise := ise_tab2 h.ts.tab h1.ts.tab k1 (fun b hb hr => hr.elim id fun h => absurd hb (by omega)) (fun e he => by
      obtain ⟨j, hj, rfl⟩ := List.getElem_of_mem he
      refine ⟨(x.es.set i { x.es[i] with val := value })[j]'(by rw [List.length_set]; exact hj), List.getElem_mem _, ?_⟩
      rw [List.getElem_set]
      split
      · rename_i e; subst e; rfl
      · rfl)
    refine (rf_Put (h.rf1 k1) (Nat.zero_le _) key value (by omega) z2).mono ?_
    rintro e w2 (⟨j, hj, hmj, rfl, h2, k2⟩ | ⟨hnj, rfl, v', h2, hv, k2⟩)
    · obtain ⟨hj2, g1, g2⟩ := all_hit hj hmj
      obtain rfl := h.one hi hj2 hm g1
      rw [g2]
      exact ⟨rfl, _, jp_join h h1 k1 a1 l1 o1 hise (by rw [allL_set _ _ hi _ hj]; exact h2) k2 (fun b hb => .inl hb) (by rw [List.length_set]; omega) (by have := h.sz; omega)⟩
    · rw [all_no hnj i hi] at hm; cases hm
  · refine ⟨_, _, rfl, k1, Lib.hid ?_⟩
    have hise := ise_tab2 h.ts.tab h1.ts.tab k1 (fun b hb hr => hr.elim id fun h => absurd hb (by omega)) (fun e he => ⟨e, List.mem_append_left _ he, rfl⟩)
    refine (rf_Put (h.rf1 k1) (Nat.zero_le _) key value (by omega) z2).mono ?_
    rintro e w2 (⟨j, hj, hmj, rfl, h2, k2⟩ | ⟨hnj, rfl, v', h2, hv, k2⟩)
    · obtain ⟨hj2, g1, g2⟩ := all_hit hj hmj
      rw [hno j hj2] at g1; cases g1
    · rw [hlen] at h2
      exact ⟨rfl, _, jp_join h h1 k1 a1 l1 o1 hise (by rw [allL_snoc]; exact h2) k2 hv (by rw [List.length_append, List.length_singleton]; omega) (by have := h.sz; split <;> omega)⟩
theorem jt_take (h : JT w way n x) (hn : n ≤ 2200000) (key : Int) : Calls Try.prog 21 #[.pointer (some ⟨x.T, 0, none⟩), .int .i64 key] w fun e w1 => ∃ (V : Int) (Bo : Bool), e = .returned (.tuple #[.int .i64 V, .bool Bo]) ∧ KeptR (fun b => tabB x.T x.P x.es b ∨ w.heap.size ≤ b) w w1 ∧
    Hid (Calls Try.prog 55 #[.pointer (some ⟨x.Rt, 0, none⟩), .int .i64 key] w1 fun e w2 => e = .returned (.tuple #[.int .i64 V, .bool Bo]) ∧ ∃ y, JPost w w2 way n x y) := by
  obtain ⟨z1, z2, z3, z4⟩ := h.w8 hn
  have hln := h.ln
  have hlen := allL_length x.es
  refine (tu_take2 h.tu key (by omega)).mono ?_
  rintro e w1 (⟨i, hi, hm, rfl, pl', h1, k1, a1, l1, o1, hise⟩ | ⟨hno, rfl, hd⟩)
  · refine ⟨_, _, rfl, k1, Lib.hid ?_⟩
    refine (rf_Take (h.rf1 k1) (Nat.zero_le _) key (by omega)).mono ?_
    rintro e w2 (⟨j, hj, hmj, _, rfl, v', h2, hv, k2⟩ | ⟨hnj, rfl, hd⟩)
    · obtain ⟨hj2, g1, g2⟩ := all_hit hj hmj
      obtain rfl := h.one hi hj2 hm g1
      rw [g2]
      have hle : (x.es.eraseIdx i).length ≤ x.es.length := by rw [List.length_eraseIdx_of_lt hi]; omega
      exact ⟨rfl, _, jp_join h h1 k1 a1 l1 o1 hise (by rw [allL_erase]; exact h2) (kr_mono k2 fun b e => .inl e) (fun b hb => .inr (hv b hb)) (by omega) (by have := h.sz; omega)⟩
    · rw [all_no hnj i hi] at hm; cases hm
  · refine ⟨_, _, rfl, below_kept (hd.below _), Lib.hid ?_⟩
    have hb1 := hd.below w.heap.size
    refine (rf_Take (h.rf.below hb1) (Nat.zero_le _) key (by omega)).mono ?_
    rintro e w2 (⟨j, hj, hmj, _, rfl, v', h2, hv, k2⟩ | ⟨hnj, rfl, hd2⟩)
    · obtain ⟨hj2, g1, g2⟩ := all_hit hj hmj
      rw [hno j hj2] at g1; cases g1
    · exact ⟨rfl, x, jp_below h (hb1.trans (hd2.below _))⟩
end
end Go.Proofs.Ytjeeljolhcoeoaa
