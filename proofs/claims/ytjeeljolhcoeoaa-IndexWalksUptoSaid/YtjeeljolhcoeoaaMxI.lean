/- Index: what a walk must tell: laid. -/
import Derived.Test.YtjeeljolhcoeoaaMxH
namespace Go.Proofs.Ytjeeljolhcoeoaa
open Go.RowKit Go.Shelf

/-- what was told stays, whatever else of its blocks turned -/
theorem told_kept2 {w wr W' : World} {A B n : Nat} {v : Value} {xs : List Value} {cs : Array Value} (hbw : Below w.heap.size w wr) (ho : wr.ownsRow w.heap.size 3 1 v n xs) (hB : w.heap.size ≤ B) (hne : A ≠ B) (hA : wr.heap[A]? = some (.cells cs 75)) (hk : KeptR (fun b => b = B ∨ v.ownBlock = some b) wr W') : Below w.heap.size w W' ∧ W'.heap[A]? = some (.cells cs 75) := by
  refine ⟨keptR_belowK hbw hk (fun b hb => ?_) hbw.size, (hk.block A (Array.getElem?_eq_some_iff.1 hA).1 ?_).trans hA⟩
  · rcases hb with rfl | hb
    · exact hB
    · exact own_ge ho b hb
  · rintro (e | e)
    · exact hne e
    · exact told_ne ho hA e
/-- a row beside what is told -/
theorem row_keptR {wr W' : World} {b1 B m : Nat} {v u : Value} {ys : List Value} (h : wr.ownsRow b1 3 1 u m ys) (hB : u.ownBlock ≠ some B) (hne : ∀ b, u.ownBlock = some b → v.ownBlock ≠ some b) (hk : KeptR (fun b => b = B ∨ v.ownBlock = some b) wr W') : W'.ownsRow b1 3 1 u m ys := by
  obtain ⟨h1, h2⟩ := h
  refine ⟨h1, ?_⟩
  rcases h2 with h2 | ⟨g, cap, cur, hv, hg1, hh, r⟩
  · exact .inl h2
  · refine .inr ⟨g, cap, cur, hv, hg1, (hk.block g (Array.getElem?_eq_some_iff.1 hh).1 ?_).trans hh, r⟩
    rintro (e | e)
    · subst e; exact hB (by rw [hv]; rfl)
    · exact hne g (by rw [hv]; rfl) e
section
variable {w w' : World} {base Rt : Nat} {way : Int} {sz : Nat} {v : Value} {ps : List (Int × Int)}
theorem refE_nd (way : Int) (ps : List (Int × Int)) : ∀ i j (hi : i < (refE way ps).length) (hj : j < (refE way ps).length), (refE way ps)[i].b = (refE way ps)[j].b → i = j := fun i j hi hj e => by
  rw [refE_get, refE_get] at e; exact e
set_option maxRecDepth 100000 in
set_option maxHeartbeats 8000000 in
theorem rf_laid (h : RF w base Rt way sz v ps) (h8 : 8 ≤ sz) (hs : sz ≤ 16777216) (hroom : ps.length < sz) : Calls Try.prog 33 #[.pointer (some ⟨Rt, 0, none⟩)] w fun e w' => ∃ pl B v1 v2, e = .returned (.agg #[v1, v2]) ∧ Can sz (refE way ps) pl ∧ TB w' w.heap.size B v1 v2 ((layL (refE way ps) pl sz).map Prod.fst) ((layL (refE way ps) pl sz).map Prod.snd) ∧ Below w.heap.size w w' := by
  obtain ⟨i0, hi0, hz0, hz1, hzb⟩ := info_parts infoInt
  obtain ⟨va, vc, rfl, -⟩ := own_sliceI h.row
  go_enter Try.func33, Try.ntmps33
  go_wp2_with fail
  have hTB : Hid (TB ((w.alloc (.cells #[.slice none 0 0, .slice none 0 0] 75)).alloc (.cells #[.slice none 0 0, .slice none 0 0] 75)) w.heap.size (w.heap.size + 1) (.slice none 0 0) (.slice none 0 0) [] []) := Lib.hid (by
    have := heap_alloc_new (w.alloc (.cells #[.slice none 0 0, .slice none 0 0] 75)) (.cells #[.slice none 0 0, .slice none 0 0] 75)
    rw [World.size_alloc] at this
    exact ⟨this, World.ownsRow_nil _ _ _ _, World.ownsRow_nil _ _ _ _, fun b hb => by cases hb⟩)
  have hbw : Hid (Below w.heap.size w ((w.alloc (.cells #[.slice none 0 0, .slice none 0 0] 75)).alloc (.cells #[.slice none 0 0, .slice none 0 0] 75))) := Lib.hid (((Below.refl _ w).al _).al _)
  have hA : Hid (((w.alloc (.cells #[.slice none 0 0, .slice none 0 0] 75)).alloc (.cells #[.slice none 0 0, .slice none 0 0] 75)).heap[w.heap.size]? = some (.cells #[.slice none 0 0, .slice none 0 0] 75)) := Lib.hid (by
    rw [heap_alloc_old _ _ (by rw [World.size_alloc]; omega)]; exact heap_alloc_new _ _)
  generalize (w.alloc (.cells #[.slice none 0 0, .slice none 0 0] 75)).alloc (.cells #[.slice none 0 0, .slice none 0 0] 75) = W0 at hTB hbw hA ⊢
  obtain ⟨A, hAe⟩ : ∃ A, w.heap.size = A := ⟨_, rfl⟩
  obtain ⟨B, hBe⟩ : ∃ B, w.heap.size + 1 = B := ⟨_, rfl⟩
  rw [hBe] at hTB ⊢
  have hAe' := Lib.hid hAe
  rw [hAe] at hA ⊢
  have hBne : A ≠ B := by omega
  clear hAe
  have hBlt : Hid (B < W0.heap.size) := Lib.hid (Array.getElem?_eq_some_iff.1 hTB.out.hB).1
  replace hBe := Lib.hid hBe
  refine (rf_Layout (h.below hbw.out) h8 hs hroom).mono ?_
  rintro e w1 ⟨G, pl, rfl, hcan, hrow, hb1⟩
  replace hTB := Lib.hid (hTB.out.below hb1)
  have hA1 : Hid (w1.heap[A]? = some (.cells #[.slice none 0 0, .slice none 0 0] 75)) := Lib.hid ((hb1.block _ (Array.getElem?_eq_some_iff.1 hA.out).1).trans hA.out)
  replace hbw := Lib.hid (hbw.out.trans (hb1.mono hbw.out.size))
  have hGge : W0.heap.size ≤ G := own_ge hrow G rfl
  have hcan2 := Lib.hid hcan
  replace hrow := Lib.hid hrow
  clear hA hb1 hcan
  go_wp2_with fail
  have hGl : Hid (G < w1.heap.size) := Lib.hid (own_lt hrow.out G rfl).2
  have hBl : B < W0.heap.size := hBlt.out
  have hGB : G ≠ B := by omega
  go_loopw [5] (fun i wr => ∃ (k : Nat) (v1 v2 : Value), k ≤ sz ∧ i = .int .i64 k ∧ Hid (TB wr w.heap.size B v1 v2 ((layL (refE way ps) pl k).map Prod.fst) ((layL (refE way ps) pl k).map Prod.snd)) ∧ Hid (Below w.heap.size w wr) ∧ Hid (wr.heap[A]? = some (.cells #[.slice none 0 0, .slice none 0 0] 75)) ∧ Hid (wr.ownsRow W0.heap.size 3 1 (.slice (some ⟨G, 0, none⟩) sz sz) sz (lvs sz (lvP pl))) ∧ Hid (v1.ownBlock ≠ some G ∧ v2.ownBlock ≠ some G)) (fun i _ => sz - (intOf i).toNat)
  case atStart => exact ⟨0, _, _, Nat.zero_le _, rfl, hTB, hbw, hA1, hrow, Lib.hid ⟨fun e => (by cases e), fun e => (by cases e)⟩⟩
  case round =>
    clear hTB hbw hA1 hrow
    obtain ⟨k, v1, v2, hk, rfl, hTB, hbw, hA, hrow, hdis⟩ := hrel
    by_cases hlt : k < sz
    · have hck : wr.cell? ⟨G, k, none⟩ = some (.int .i64 (lvP pl k)) := by
        have := hrow.out.cells (g := G) rfl k _ (lvs_get _ hlt)
        simpa [addr_add] using this
      cases hpk : pl k with
      | none =>
        rw [lvP_none hpk] at hck
        have hge : decide ((0 : Int) ≤ -1) = false := by decide
        have hTB2 : Hid (TB wr w.heap.size B v1 v2 ((layL (refE way ps) pl (k + 1)).map Prod.fst) ((layL (refE way ps) pl (k + 1)).map Prod.snd)) := Lib.hid (by rw [layL_none _ _ _ hpk]; exact hTB.out)
        go_wp2_with fail
        go_roundw
        case rel => exact ⟨k + 1, _, _, by omega, by go_num, hTB2, hbw, hA, hrow, hdis⟩
        case measure => simp [intOf]; omega
      | some q =>
        rw [lvP_some hpk] at hck
        have hge : decide ((0 : Int) ≤ (q : Int)) = true := decide_eq_true (by omega)
        obtain ⟨q', hq', hqe⟩ := hcan2.out.only k hlt q hpk
        have hql : q < ps.length := by rw [refE_get] at hqe; have hqe' : q' = q := hqe; rw [refE_length] at hq'; omega
        obtain ⟨X, hX⟩ : ∃ X, (ps[q]'hql).1 = X := ⟨_, rfl⟩
        have hkey : keyOf (refE way ps) q = X := by
          have := keyOf_at (refE_nd way ps) q (by rw [refE_length]; exact hql)
          rw [refE_get] at this
          rw [← hX]; exact this
        have hnx : layL (refE way ps) pl (k + 1) = layL (refE way ps) pl k ++ [((k : Int), X)] := by rw [layL_some _ _ _ _ hpk, hkey]
        have ht1 : Hid ((layL (refE way ps) pl (k + 1)).map Prod.fst = (layL (refE way ps) pl k).map Prod.fst ++ [(k : Int)]) := Lib.hid (by rw [hnx]; simp)
        have ht2 : Hid ((layL (refE way ps) pl (k + 1)).map Prod.snd = (layL (refE way ps) pl k).map Prod.snd ++ [X]) := Lib.hid (by rw [hnx]; simp)
        have hle := layL_len (refE way ps) pl k
        obtain ⟨ks, hks⟩ : ∃ ks, (layL (refE way ps) pl k).map Prod.fst = ks := ⟨_, rfl⟩
        obtain ⟨vs, hvs⟩ : ∃ vs, (layL (refE way ps) pl k).map Prod.snd = vs := ⟨_, rfl⟩
        have hkl : ks.length ≤ k := by rw [← hks]; simpa using hle
        have hvl : vs.length ≤ k := by rw [← hvs]; simpa using hle
        rw [hks, hvs] at hTB
        rw [hks] at ht1
        rw [hvs] at ht2
        have cB : wr.cell? ⟨B, 0, none⟩ = some v1 := cell_of_row _ _ _ _ _ _ hTB.out.hB
        have fB := fz_row hTB.out.hB 0
        have hz := Lib.hid hbw.out.size
        have hX2 := Lib.hid hX
        clear hX hkey hnx hle hks hvs hqe
        go_upto_region 8 with (at_builtin; refine wpList_append_lies _ rfl (.tmp 20) (.tmp 22) 28 rfl w.heap.size 3 i0 _ 1 8 Try.underlying28 hi0 hz0 hz1 hzb rfl (by decide) _ ks.length _ rfl (hTB.out.o1.alloc _) ⟨wr.heap.size, 0, none⟩ 1 1 [.int .i64 (k : Int)] rfl rfl (World.news_of_block (cs := #[.int .i64 (k : Int)]) (t := 3) (fr := (0, 0)) (heap_alloc_new wr _)) (by simp [Value.oneCell']) (by decide) (by unfold maxLen; omega) (by omega) (by rw [World.size_alloc]; have := hz.out; omega) (wr.heap.size + 1) (by simp) ?_; intro g3 c3 w3 hown1 hgrow hat hlt1; have hm := hTB.out.more1 hown1 hgrow hat; have cB3 : w3.cell? ⟨B, 0, none⟩ = some v1 := cell_of_row _ _ _ _ _ _ hm.1; have fB3 := fz_row hm.1 0)
        obtain ⟨hm1, hm2, hm3⟩ := hm
        obtain ⟨hb2, hA2⟩ := told_kept2 hbw.out hTB.out.o1 (by have := hBe.out; omega) hBne hA.out hm3
        have hrow2 := row_keptR hrow.out (fun e => by injection e with e; exact hGB e) (fun b hb => by injection hb with hb; subst hb; exact hdis.out.1) hm3
        have hGr : G < wr.heap.size := (own_lt hrow.out G rfl).2
        have hdis2 : Hid ((Value.slice (some ⟨g3, 0, none⟩) (ks.length + 1) c3).ownBlock ≠ some G ∧ v2.ownBlock ≠ some G) := Lib.hid ⟨fun e => by
          have e' : some g3 = some G := e
          injection e' with e'; subst e'
          rcases hat with e2 | e2
          · exact hdis.out.1 e2
          · omega, hdis.out.2⟩
        clear cB3 fB3 hm1 cB fB hown1 hgrow hat hlt1 hck
        generalize w3.setCell ⟨B, 0, none⟩ (.slice (some ⟨g3, 0, none⟩) (ks.length + 1) c3) = Y at hm2 hm3 hb2 hA2 hrow2 ⊢
        have hr2 := h.below hb2
        obtain ⟨g, c, hv, k3, _⟩ := hr2.pair q hql
        injection hv with hv _ hvc
        subst hv hvc
        rw [hX2.out] at k3
        have c1 := hr2.c1
        have hcG : Y.cell? ⟨G, k, none⟩ = some (.int .i64 (q : Int)) := by
          have := hrow2.cells (g := G) rfl k _ (lvs_get _ hlt)
          rw [lvP_some hpk] at this
          simpa [addr_add] using this
        have cB : Y.cell? ⟨B, 1, none⟩ = some v2 := cell_of_row _ _ _ _ _ _ hm2.hB
        have fB := fz_row hm2.hB 1
        have hTBd := Lib.hid (hm2.below (below_drewN (Below.refl Y.heap.size Y) 1))
        have hrowd := Lib.hid (own_below hrow2 (below_drewN (Below.refl Y.heap.size Y) 1))
        have cBa : ((Y.alloc (.cells #[.int .i64 X] 3)).drew).cell? ⟨B, 1, none⟩ = some v2 := cell_of_row _ _ _ _ _ _ (hm2.below (below_drewN ((Below.refl Y.heap.size Y).al _) 1)).hB
        have hz2 := Lib.hid hb2.size
        have hGY : Hid (G < Y.heap.size) := Lib.hid (own_lt hrow2 G rfl).2
        replace hm2 := Lib.hid hm2
        replace hb2 := Lib.hid hb2
        replace hA2 := Lib.hid hA2
        clear hTB hbw hA hrow hm3 hr2 hz hGr hdis hrow2
        go_wp2_with fail
        go_region_law ((refine step_append_lies _ rfl (.tmp 26) (.tmp 38) 28 rfl w.heap.size 3 i0 _ 1 8 Try.underlying28 hi0 hz0 hz1 hzb rfl (by decide) v2 vs.length _ rfl (own_al_drew _ hm2.out.o2) ⟨Y.heap.size, 0, none⟩ 1 1 [.int .i64 X] rfl rfl (own_cells_row (w := Y) rfl rfl) (by simp [Value.oneCell']) (by decide) (by unfold maxLen; omega) (by omega) (le_al_drew _ hz2.out) _ rfl ?_; intro g4 c4 w4 hown1 hgrow hat hlt1; have hm := hTBd.out.more2 hown1 (show (World.alloc Y.drew (.cells #[.int .i64 X] 3)).grownBy w4 _ from hgrow) (hat.imp id fun e => e.trans (World.size_alloc _ _)); have cB3 : w4.cell? ⟨B, 1, none⟩ = some v2 := cell_of_row _ _ _ _ _ _ hm.1; have fB3 := fz_row hm.1 1))
        all_goals
          obtain ⟨hb3, hA3⟩ := told_kept hb2.out hm2.out.o2 (by have := hBe.out; omega) hBne hA2.out hm.2.2
          have hrow3 := Lib.hid (row_keptR hrowd.out (fun e => by injection e with e; exact hGB e) (fun b hb => by injection hb with hb; subst hb; exact hdis2.out.2) hm.2.2)
          have hdis3 : Hid ((Value.slice (some ⟨g3, 0, none⟩) (ks.length + 1) c3).ownBlock ≠ some G ∧ (Value.slice (some ⟨g4, 0, none⟩) (vs.length + 1) c4).ownBlock ≠ some G) := Lib.hid ⟨hdis2.out.1, fun e => by
            have e' : some g4 = some G := e
            injection e' with e'; subst e'
            rcases hat with e2 | e2
            · exact hdis2.out.2 e2
            · have := hGY.out
              have e3 : (Y.alloc (.cells #[.int .i64 X] 3)).heap.size = Y.heap.size + 1 := World.size_alloc _ _
              have e4 : g4 = (Y.alloc (.cells #[.int .i64 X] 3)).heap.size := e2
              omega⟩
          have hT4 : Hid (TB _ w.heap.size B _ _ ((layL (refE way ps) pl (k + 1)).map Prod.fst) ((layL (refE way ps) pl (k + 1)).map Prod.snd)) := Lib.hid (by rw [ht1.out, ht2.out]; exact hm.2.1)
          replace hb3 := Lib.hid hb3
          replace hA3 := Lib.hid hA3
          clear hm cB3 fB3 hown1 hgrow hat hlt1 hm2 hb2 hA2 cB fB hTBd cBa hz2 k3 c1 hcG hrowd hGY hdis2
          go_wp2_with fail
          go_roundw
          case rel => exact ⟨k + 1, _, _, by omega, by go_num, hT4, hb3, hA3, hrow3, hdis3⟩
          case measure => simp [intOf]; omega
    · obtain rfl : k = sz := by omega
      have d0 : wr.cell? ⟨B, 0, none⟩ = some v1 := cell_of_row _ _ _ _ _ _ hTB.out.hB
      have d1 : wr.cell? ⟨B, 1, none⟩ = some v2 := cell_of_row _ _ _ _ _ _ hTB.out.hB
      obtain ⟨LL, hLL⟩ : ∃ LL, layL (refE way ps) pl k = LL := ⟨_, rfl⟩
      rw [hLL] at hTB
      replace hLL := Lib.hid hLL
      have hl1 : (LL.map Prod.fst).length = LL.length := by simp
      have hl2 : (LL.map Prod.snd).length = LL.length := by simp
      obtain ⟨e1, e2, rfl, -⟩ := own_sliceI hTB.out.o1
      obtain ⟨e3, e4, rfl, -⟩ := own_sliceI hTB.out.o2
      rw [hl1, hl2] at hTB
      rw [hl1] at d0
      rw [hl2] at d1
      have a0 : wr.cell? ⟨A, 0, none⟩ = some (.slice none 0 0) := cell_of_row _ _ _ _ _ _ hA.out
      have a1 : wr.cell? ⟨A, 1, none⟩ = some (.slice none 0 0) := cell_of_row _ _ _ _ _ _ hA.out
      have af0 := fz_row hA.out 0
      have af1 := fz_row hA.out 1
      clear hrow hdis
      go_wp2_with fail
      have hT10 := hTB.out.setA hBne hA.out 0 (.slice e1 LL.length e2)
      have hA10 : (wr.setCell ⟨A, 0, none⟩ (.slice e1 LL.length e2)).heap[A]? = _ := heap_setCell_same _ _ _ _ _ _ hA.out
      have hT11 := hT10.setA hBne hA10 1 (.slice e3 LL.length e4)
      have hA11 : ((wr.setCell ⟨A, 0, none⟩ (.slice e1 LL.length e2)).setCell ⟨A, 1, none⟩ (.slice e3 LL.length e4)).heap[A]? = _ := heap_setCell_same _ _ _ _ _ _ hA10
      refine bodyPost_ret (v := .agg #[.slice e1 LL.length e2, .slice e3 LL.length e4]) (results_cell1 rfl _ _ A 75 _ (0, 0) _ rfl hA11 Try.underlying75 rfl sizeTold) rfl ⟨pl, B, _, _, rfl, hcan2.out, ?_, ?_⟩
      · rw [hLL.out]; exact hT11
      · exact (hbw.out.setCell (p := ⟨A, 0, none⟩) (Nat.le_of_eq hAe'.out) _).setCell (p := ⟨A, 1, none⟩) (Nat.le_of_eq hAe'.out) _
end
end Go.Proofs.Ytjeeljolhcoeoaa
