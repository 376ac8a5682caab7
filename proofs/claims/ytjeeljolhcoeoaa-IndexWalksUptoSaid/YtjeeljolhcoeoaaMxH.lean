/- Index: what a walk must tell: pairs. -/
import Derived.Test.YtjeeljolhcoeoaaMxG
namespace Go.Proofs.Ytjeeljolhcoeoaa
open Go.RowKit Go.Shelf

theorem results_cell1 {P : Program} {fn : Func} {p : Tmp} {ty : TypeId} (h : fn.results = #[.cell p ty]) (tmps : Array Value) (w : World) (g : Nat) (t : TypeId) (cs : Array Value) (fr : Nat × Nat) (d : TypeDesc)
    (hp : tmps.getD p undef = .pointer (some ⟨g, 0, none⟩)) (hg : w.heap[g]? = some (.cells cs t fr)) (hu : P.underlying ty = some d)
    (hd : (match d, hu with | .struct _, _ => true | .array _ _, _ => true | _, _ => false) = true) (hi : (P.info? ty).map (fun x => x.size) = some cs.size) :
    (results fn tmps).run P w = .ok (.agg cs) w := by
  have hl := run_loadVar_row (P := P) w g t ty cs fr d hg hu hd hi
  have hp2 : tmps[p]?.getD undef = .pointer (some ⟨g, 0, none⟩) := by simpa using hp
  simp only [results, h]
  simp [hp2, asAddr, hl]
theorem sizeTold : (Try.prog.info? 75).map (fun i => i.size) = some 2 := by kernel_rfl
/-- two rows that grow, in one block -/
structure TB (W : World) (base B : Nat) (v1 v2 : Value) (ks vs : List Int) : Prop where
  hB : W.heap[B]? = some (.cells #[v1, v2] 75)
  o1 : W.ownsRow base 3 1 v1 ks.length (ks.map (Value.int .i64))
  o2 : W.ownsRow base 3 1 v2 vs.length (vs.map (Value.int .i64))
  ne : ∀ b, v1.ownBlock = some b → v2.ownBlock ≠ some b
theorem told_ne {W : World} {base B : Nat} {v : Value} {n : Nat} {xs : List Value} {cs : Array Value} {fr : Nat × Nat} (h : W.ownsRow base 3 1 v n xs) (hB : W.heap[B]? = some (.cells cs 75 fr)) : v.ownBlock ≠ some B := by
  intro e
  rcases h.2 with ⟨hv, _⟩ | ⟨g, cap, cur, hv, _, hh, _⟩
  · rw [hv] at e; cases e
  · rw [hv] at e
    have e' : some g = some B := e
    injection e' with e'; subst e'
    rw [hB] at hh; injection hh with hh; injection hh with _ hh _; exact absurd hh (by decide)
theorem told_kept {w wr W' : World} {A B n : Nat} {v : Value} {xs : List Value} {cs : Array Value} (hbw : Below w.heap.size w wr) (ho : wr.ownsRow w.heap.size 3 1 v n xs) (hB : w.heap.size ≤ B) (hne : A ≠ B) (hA : wr.heap[A]? = some (.cells cs 75)) (hk : KeptR (fun b => b = B ∨ v.ownBlock = some b) wr.drew W') : Below w.heap.size w W' ∧ W'.heap[A]? = some (.cells cs 75) := by
  refine ⟨keptR_belowK (below_drewN hbw 1) hk (fun b hb => ?_) hbw.size, (hk.block A (Array.getElem?_eq_some_iff.1 hA).1 ?_).trans hA⟩
  · rcases hb with rfl | hb
    · exact hB
    · exact own_ge ho b hb
  · rintro (e | e)
    · exact hne e
    · exact told_ne ho hA e
section
variable {W w1 : World} {base B : Nat} {v1 v2 : Value} {ks vs : List Int} {g c : Nat} {tmp : Obj} {x : Int}
theorem TB.below {W' : World} (h : TB W base B v1 v2 ks vs) (hb : Below W.heap.size W W') : TB W' base B v1 v2 ks vs := ⟨(hb.block _ (Array.getElem?_eq_some_iff.1 h.hB).1).trans h.hB, own_below h.o1 hb, own_below h.o2 hb, h.ne⟩
theorem TB.setA {A : Nat} {cs : Array Value} {fr : Nat × Nat} (h : TB W base B v1 v2 ks vs) (hne : A ≠ B) (hA : W.heap[A]? = some (.cells cs 75 fr)) (i : Nat) (u : Value) : TB (W.setCell ⟨A, i, none⟩ u) base B v1 v2 ks vs :=
  ⟨by rw [heap_setCell_other _ _ _ _ (fun e => hne e.symm)]; exact h.hB, own_setOther h.o1 (told_ne h.o1 hA), own_setOther h.o2 (told_ne h.o2 hA), h.ne⟩
theorem TB.more1 (h : TB W base B v1 v2 ks vs) (hown : w1.ownsRow base 3 1 (.slice (some ⟨g, 0, none⟩) (ks.length + 1) c) (ks.length + 1) (ks.map (Value.int .i64) ++ [.int .i64 x])) (hgrow : (W.alloc tmp).grownBy w1 v1.ownBlock) (hat : v1.ownBlock = some g ∨ g = W.heap.size + 1) :
    w1.heap[B]? = some (.cells #[v1, v2] 75) ∧ TB (w1.setCell ⟨B, 0, none⟩ (.slice (some ⟨g, 0, none⟩) (ks.length + 1) c)) base B (.slice (some ⟨g, 0, none⟩) (ks.length + 1) c) v2 (ks ++ [x]) vs ∧ KeptR (fun b => b = B ∨ v1.ownBlock = some b) W (w1.setCell ⟨B, 0, none⟩ (.slice (some ⟨g, 0, none⟩) (ks.length + 1) c)) := by
  have hlt := (Array.getElem?_eq_some_iff.1 h.hB).1
  have hB1 : w1.heap[B]? = some (.cells #[v1, v2] 75) := by
    rw [hgrow.block B (by rw [World.size_alloc]; omega) (fun e => told_ne h.o1 h.hB e.symm), heap_alloc_old _ _ hlt]
    exact h.hB
  refine ⟨hB1, ⟨by rw [heap_setCell_same _ _ _ _ _ _ hB1]; rfl, ?_, ?_, fun b hb => ?_⟩, (((KeptR.refl _ W).al tmp).grown hgrow (fun b e => .inl (.inr e))).set (.inl (.inl rfl))⟩
  · rw [List.length_append, List.map_append]
    exact own_setOther hown (told_ne hown hB1)
  · exact own_setOther (own_grownOther (h.o2.alloc tmp) hgrow fun b hb e => h.ne b e hb) (told_ne h.o2 h.hB)
  · have hb' : some g = some b := hb
    injection hb' with hb'; subst hb'
    rcases hat with e | e
    · exact h.ne _ e
    · intro e2
      have := (own_lt h.o2 _ e2).2
      omega
theorem TB.more2 (h : TB W base B v1 v2 ks vs) (hown : w1.ownsRow base 3 1 (.slice (some ⟨g, 0, none⟩) (vs.length + 1) c) (vs.length + 1) (vs.map (Value.int .i64) ++ [.int .i64 x])) (hgrow : (W.alloc tmp).grownBy w1 v2.ownBlock) (hat : v2.ownBlock = some g ∨ g = W.heap.size + 1) :
    w1.heap[B]? = some (.cells #[v1, v2] 75) ∧ TB (w1.setCell ⟨B, 1, none⟩ (.slice (some ⟨g, 0, none⟩) (vs.length + 1) c)) base B v1 (.slice (some ⟨g, 0, none⟩) (vs.length + 1) c) ks (vs ++ [x]) ∧ KeptR (fun b => b = B ∨ v2.ownBlock = some b) W (w1.setCell ⟨B, 1, none⟩ (.slice (some ⟨g, 0, none⟩) (vs.length + 1) c)) := by
  have hlt := (Array.getElem?_eq_some_iff.1 h.hB).1
  have hB1 : w1.heap[B]? = some (.cells #[v1, v2] 75) := by
    rw [hgrow.block B (by rw [World.size_alloc]; omega) (fun e => told_ne h.o2 h.hB e.symm), heap_alloc_old _ _ hlt]
    exact h.hB
  refine ⟨hB1, ⟨by rw [heap_setCell_same _ _ _ _ _ _ hB1]; rfl, ?_, ?_, fun b hb => ?_⟩, (((KeptR.refl _ W).al tmp).grown hgrow (fun b e => .inl (.inr e))).set (.inl (.inl rfl))⟩
  · exact own_setOther (own_grownOther (h.o1.alloc tmp) hgrow fun b hb e => h.ne b hb e) (told_ne h.o1 h.hB)
  · rw [List.length_append, List.map_append]
    exact own_setOther hown (told_ne hown hB1)
  · intro e
    have e' : some g = some b := e
    injection e' with e'; subst e'
    rcases hat with e | e
    · exact h.ne _ hb e
    · have := (own_lt h.o1 _ hb).2
      omega
end
section
variable {w w' : World} {base Rt : Nat} {way : Int} {sz : Nat} {v : Value} {ps : List (Int × Int)}
set_option maxRecDepth 100000 in
set_option maxHeartbeats 8000000 in
theorem rf_pairs (h : RF w base Rt way sz v ps) (hl : ps.length ≤ 8388608) : Calls Try.prog 32 #[.pointer (some ⟨Rt, 0, none⟩)] w fun e w' => ∃ B v1 v2, e = .returned (.agg #[v1, v2]) ∧ TB w' w.heap.size B v1 v2 (ps.map Prod.fst) (ps.map Prod.snd) ∧ Below w.heap.size w w' := by
  obtain ⟨i0, hi0, hz0, hz1, hzb⟩ := info_parts infoInt
  obtain ⟨va, vc, rfl, -⟩ := own_sliceI h.row
  go_enter Try.func32, Try.ntmps32
  go_wp2_with fail
  have hTB : Hid (TB ((w.alloc (.cells #[.slice none 0 0, .slice none 0 0] 75)).alloc (.cells #[.slice none 0 0, .slice none 0 0] 75)) w.heap.size (w.heap.size + 1) (.slice none 0 0) (.slice none 0 0) [] []) := Lib.hid (by
    have := heap_alloc_new (w.alloc (.cells #[.slice none 0 0, .slice none 0 0] 75)) (.cells #[.slice none 0 0, .slice none 0 0] 75)
    rw [World.size_alloc] at this
    exact ⟨this, World.ownsRow_nil _ _ _ _, World.ownsRow_nil _ _ _ _, fun b hb => by cases hb⟩)
  have hbw : Hid (Below w.heap.size w ((w.alloc (.cells #[.slice none 0 0, .slice none 0 0] 75)).alloc (.cells #[.slice none 0 0, .slice none 0 0] 75))) := Lib.hid (((Below.refl _ w).al _).al _)
  have hA : Hid (((w.alloc (.cells #[.slice none 0 0, .slice none 0 0] 75)).alloc (.cells #[.slice none 0 0, .slice none 0 0] 75)).heap[w.heap.size]? = some (.cells #[.slice none 0 0, .slice none 0 0] 75)) := Lib.hid (by
    rw [heap_alloc_old _ _ (by rw [World.size_alloc]; omega)]; exact heap_alloc_new _ _)
  generalize (w.alloc (.cells #[.slice none 0 0, .slice none 0 0] 75)).alloc (.cells #[.slice none 0 0, .slice none 0 0] 75) = W0 at hTB hbw hA ⊢
  obtain ⟨A, hAe⟩ : ∃ A, w.heap.size = A := ⟨_, rfl⟩
  obtain ⟨B, hBe⟩ : ∃ B, w.heap.size + 1 = B := ⟨_, rfl⟩
  rw [hBe] at hTB ⊢
  have hAe' := Lib.hid hAe
  rw [hAe] at hA ⊢
  have hBne : A ≠ B := by omega
  clear hAe
  replace hBe := Lib.hid hBe
  go_loopw [4] (fun i wr => ∃ (k : Nat) (v1 v2 : Value), k ≤ ps.length ∧ i = .int .i64 k ∧ Hid (TB wr w.heap.size B v1 v2 ((ps.take k).map Prod.fst) ((ps.take k).map Prod.snd)) ∧ Hid (Below w.heap.size w wr) ∧ Hid (wr.heap[A]? = some (.cells #[.slice none 0 0, .slice none 0 0] 75))) (fun i _ => ps.length - (intOf i).toNat)
  case atStart => exact ⟨0, _, _, Nat.zero_le _, rfl, hTB, hbw, hA⟩
  case round =>
    clear hTB hbw hA
    obtain ⟨k, v1, v2, hk, rfl, hTB, hbw, hA⟩ := hrel
    have hr1 := h.below hbw.out
    have c1 := hr1.c1
    by_cases hlt : k < ps.length
    · obtain ⟨g, c, hv, k1, k2⟩ := hr1.pair k hlt
      injection hv with hv _ hvc
      subst hv hvc
      obtain ⟨X, hX⟩ : ∃ X, ps[k].1 = X := ⟨_, rfl⟩
      obtain ⟨Y, hY⟩ : ∃ Y, ps[k].2 = Y := ⟨_, rfl⟩
      have htk : ps.take (k + 1) = ps.take k ++ [(X, Y)] := by rw [List.take_succ_eq_append_getElem hlt, show ps[k] = (X, Y) from Prod.ext hX hY]
      have ht1 : Hid ((ps.take (k + 1)).map Prod.fst = (ps.take k).map Prod.fst ++ [X]) := Lib.hid (by rw [htk]; simp)
      have ht2 : Hid ((ps.take (k + 1)).map Prod.snd = (ps.take k).map Prod.snd ++ [Y]) := Lib.hid (by rw [htk]; simp)
      obtain ⟨ks, hks⟩ : ∃ ks, (ps.take k).map Prod.fst = ks := ⟨_, rfl⟩
      obtain ⟨vs, hvs⟩ : ∃ vs, (ps.take k).map Prod.snd = vs := ⟨_, rfl⟩
      have hkl : ks.length = k := by rw [← hks]; simp; omega
      have hvl : vs.length = k := by rw [← hvs]; simp; omega
      rw [hks, hvs] at hTB
      rw [hks] at ht1
      rw [hvs] at ht2
      rw [hX] at k1
      rw [hY] at k2
      have cB : wr.cell? ⟨B, 0, none⟩ = some v1 := cell_of_row _ _ _ _ _ _ hTB.out.hB
      have fB := fz_row hTB.out.hB 0
      have hTBd := Lib.hid (hTB.out.below (below_drewN (Below.refl wr.heap.size wr) 1))
      have cBa' : ((wr.alloc (.cells #[.int .i64 X] 3)).drew).cell? ⟨B, 0, none⟩ = some v1 := cell_of_row _ _ _ _ _ _ (hTB.out.below (below_drewN ((Below.refl wr.heap.size wr).al _) 1)).hB
      have hz := Lib.hid hbw.out.size
      have hY2 := Lib.hid hY
      clear hX hY hr1 htk hks hvs
      go_upto_region 5 with fail
      go_cut [] from 5 to 39 (fun wx => ∃ v1', Hid (TB wx w.heap.size B v1' v2 (ks ++ [X]) vs) ∧ Hid (Below w.heap.size w wx) ∧ Hid (wx.heap[A]? = some (.cells #[.slice none 0 0, .slice none 0 0] 75)))
      case first =>
        go_wp2_with fail
        go_region_law ((refine step_append_lies _ rfl (.tmp 15) (.tmp 24) 28 rfl w.heap.size 3 i0 _ 1 8 Try.underlying28 hi0 hz0 hz1 hzb rfl (by decide) v1 ks.length _ rfl (own_al_drew _ hTB.out.o1) ⟨wr.heap.size, 0, none⟩ 1 1 [.int .i64 X] rfl rfl (own_cells_row (w := wr) rfl rfl) (by simp [Value.oneCell']) (by decide) (by unfold maxLen; omega) (by omega) (le_al_drew _ hz.out) _ rfl ?_; intro g3 c3 w3 hown1 hgrow hat hlt1; have hm := hTBd.out.more1 hown1 (show (World.alloc wr.drew (.cells #[.int .i64 X] 3)).grownBy w3 _ from hgrow) (hat.imp id fun e => e.trans (World.size_alloc _ _)); have cB3 : w3.cell? ⟨B, 0, none⟩ = some v1 := cell_of_row _ _ _ _ _ _ hm.1; have fB3 := fz_row hm.1 0))
        all_goals (go_wp2_with fail; go_meet)
        all_goals
          rw [hkl] at hm
          obtain ⟨hb2, hA2⟩ := told_kept hbw.out hTB.out.o1 (by have := hBe.out; omega) hBne hA.out hm.2.2
          exact ⟨_, Lib.hid hm.2.1, Lib.hid hb2, Lib.hid hA2⟩
      case rest =>
      obtain ⟨v1', hT2, hb2, hA2⟩ := hcut
      have hrc := h.below hb2.out
      obtain ⟨g2, c2, hv, _, k3⟩ := hrc.pair k hlt
      injection hv with hv _ hvc
      injection hv with hv
      injection hv with hv _ _
      subst hv hvc
      have c1c := hrc.c1
      have hYY : ps[k].2 = Y := hY2.out
      rw [hYY] at k3
      have cB : wc.cell? ⟨B, 1, none⟩ = some v2 := cell_of_row _ _ _ _ _ _ hT2.out.hB
      have fB := fz_row hT2.out.hB 1
      have hTBd := Lib.hid (hT2.out.below (below_drewN (Below.refl wc.heap.size wc) 1))
      have cBa : ((wc.alloc (.cells #[.int .i64 Y] 3)).drew).cell? ⟨B, 1, none⟩ = some v2 := cell_of_row _ _ _ _ _ _ (hT2.out.below (below_drewN ((Below.refl wc.heap.size wc).al _) 1)).hB
      have hz2 := Lib.hid hb2.out.size
      clear hTB hbw hA cBa' hrc hYY
      go_wp2_with fail
      go_region_law ((refine step_append_lies _ rfl (.tmp 28) (.tmp 37) 28 rfl w.heap.size 3 i0 _ 1 8 Try.underlying28 hi0 hz0 hz1 hzb rfl (by decide) v2 vs.length _ rfl (own_al_drew _ hT2.out.o2) ⟨wc.heap.size, 0, none⟩ 1 1 [.int .i64 Y] rfl rfl (own_cells_row (w := wc) rfl rfl) (by simp [Value.oneCell']) (by decide) (by unfold maxLen; omega) (by omega) (le_al_drew _ hz2.out) _ rfl ?_; intro g3 c3 w3 hown1 hgrow hat hlt1; have hm := hTBd.out.more2 hown1 (show (World.alloc wc.drew (.cells #[.int .i64 Y] 3)).grownBy w3 _ from hgrow) (hat.imp id fun e => e.trans (World.size_alloc _ _)); have cB3 : w3.cell? ⟨B, 1, none⟩ = some v2 := cell_of_row _ _ _ _ _ _ hm.1; have fB3 := fz_row hm.1 1))
      all_goals
        rw [hvl] at hm
        obtain ⟨hb3, hA3⟩ := told_kept hb2.out hT2.out.o2 (by have := hBe.out; omega) hBne hA2.out hm.2.2
        have hT4 : Hid (TB _ w.heap.size B v1' _ ((ps.take (k + 1)).map Prod.fst) ((ps.take (k + 1)).map Prod.snd)) := Lib.hid (by rw [ht1.out, ht2.out]; exact hm.2.1)
        replace hb3 := Lib.hid hb3
        replace hA3 := Lib.hid hA3
        clear hm cB3 fB3 hown1 hgrow hat hlt1 hT2 hb2 hA2 cB fB hTBd cBa hz2 k3 c1c
        go_wp2_with fail
        go_roundw
        case rel => exact ⟨k + 1, _, _, by omega, by go_num, hT4, hb3, hA3⟩
        case measure => simp [intOf]; omega
    · obtain rfl : k = ps.length := by omega
      have hTe : Hid (TB wr w.heap.size B v1 v2 (ps.map Prod.fst) (ps.map Prod.snd)) := Lib.hid (by have := hTB.out; rwa [List.take_of_length_le (Nat.le_refl _)] at this)
      have d0 : wr.cell? ⟨B, 0, none⟩ = some v1 := cell_of_row _ _ _ _ _ _ hTe.out.hB
      have d1 : wr.cell? ⟨B, 1, none⟩ = some v2 := cell_of_row _ _ _ _ _ _ hTe.out.hB
      obtain ⟨e1, e2, rfl, -⟩ := own_sliceI hTe.out.o1
      obtain ⟨e3, e4, rfl, -⟩ := own_sliceI hTe.out.o2
      have a0 : wr.cell? ⟨A, 0, none⟩ = some (.slice none 0 0) := cell_of_row _ _ _ _ _ _ hA.out
      have a1 : wr.cell? ⟨A, 1, none⟩ = some (.slice none 0 0) := cell_of_row _ _ _ _ _ _ hA.out
      have af0 := fz_row hA.out 0
      have af1 := fz_row hA.out 1
      clear hr1 hTB
      have hBlt := (Array.getElem?_eq_some_iff.1 hTe.out.hB).1
      go_wp2_with fail
      have hl1 : (ps.map Prod.fst).length = ps.length := by simp
      have hl2 : (ps.map Prod.snd).length = ps.length := by simp
      have hT9 := hTe.out
      rw [hl1, hl2] at hT9
      have hT10 := hT9.setA hBne hA.out 0 (.slice e1 ps.length e2)
      have hA10 : (wr.setCell ⟨A, 0, none⟩ (.slice e1 ps.length e2)).heap[A]? = _ := heap_setCell_same _ _ _ _ _ _ hA.out
      have hT11 := hT10.setA hBne hA10 1 (.slice e3 ps.length e4)
      have hA11 : ((wr.setCell ⟨A, 0, none⟩ (.slice e1 ps.length e2)).setCell ⟨A, 1, none⟩ (.slice e3 ps.length e4)).heap[A]? = _ := heap_setCell_same _ _ _ _ _ _ hA10
      refine bodyPost_ret (v := .agg #[.slice e1 ps.length e2, .slice e3 ps.length e4]) (results_cell1 rfl _ _ A 75 _ (0, 0) _ rfl hA11 Try.underlying75 rfl sizeTold) rfl ⟨B, _, _, rfl, hT11, ?_⟩
      exact (hbw.out.setCell (p := ⟨A, 0, none⟩) (Nat.le_of_eq hAe'.out) _).setCell (p := ⟨A, 1, none⟩) (Nat.le_of_eq hAe'.out) _
end
end Go.Proofs.Ytjeeljolhcoeoaa
