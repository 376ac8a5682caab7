/- Normal: Vars walked. -/
import Derived.Test.YtoklbofobcloaaaDoorNmR
namespace Go.Proofs.YtoklbofobcloaaaDoor
open Go.RowKit Go.Sort Go.Shelf
attribute [local go_sem] Oper.semAt_some
set_option linter.unusedVariables false
theorem name_frame {P : Program} {c : Code} {Q : Exit → Act → World → Prop} {tm : Array Value} {ds : List Deferred} {w : World} (h : ∀ t, t = tm → c.wp P Q { tmps := t, defers := ds } w) : c.wp P Q { tmps := tm, defers := ds } w := h tm rfl
theorem ko_below {A B : World} (h : Below A.heap.size A B) : KeepsOthers A B := ⟨h.size, fun j _ e _ => (h.block j (Array.getElem?_eq_some_iff.1 e).1).trans e⟩
theorem KpN.put (M : Nat) (W : World) (l : Nat) (o o' : Obj) (hl : M ≤ l) (ho : W.heap[l]? = some o) (hc : o.isCells = false) : KpN M W (W.putObj l o') :=
  KpN.of_grown (grownBy_putObj' W l o') hl (Nat.le_of_lt (Nat.lt_of_le_of_lt hl (Array.getElem?_eq_some_iff.1 ho).1)) fun cs T fz _ e => by
    rw [ho] at e
    injection e with e
    rw [e] at hc
    cases hc
theorem kf_map {A C : World} {M m : Nat} (hg : A.grownBy C (some m)) (hm : m < M) : KeepsFrom M A C := ⟨hg.size, fun k o hk e _ => (hg.block k (Array.getElem?_eq_some_iff.1 e).1 (fun e2 => by injection e2 with e2; omega)).trans e⟩
theorem ko_row {A C : World} {base size n : Nat} {e : TypeId} {v : Value} {xs : List Value} (hg : A.grownBy C v.ownBlock) (h : A.ownsRow base e size v n xs) : KeepsOthers A C :=
  KeepsOthers.of_grownBy hg fun j o ej eo => by
    rcases h.2 with ⟨rfl, _⟩ | ⟨g', cap, cur, rfl, _, hg2, _⟩
    · cases ej
    · simp only [Value.ownBlock, Option.some.injEq] at ej
      subst ej
      rw [hg2] at eo
      injection eo with eo
      rw [← eo]; rfl
theorem kp_row {A C : World} {M base size n : Nat} {v : Value} {xs : List Value} {e : TypeId} (hg : A.grownBy C v.ownBlock) (h : A.ownsRow base e size v n xs) (he : ¬ (e = 27 ∨ e = 44)) (hM : M ≤ base) (hMA : M ≤ A.heap.size) : KpN M A C := by
  rcases h.2 with ⟨rfl, _⟩ | ⟨g', cap, cur, rfl, hb, hg2, _⟩
  · exact ⟨hg.size, fun k hk => hg.block k (Nat.lt_of_lt_of_le hk hMA) (by simp [Value.ownBlock]), fun k cs T fz hT e => (hg.block k (Array.getElem?_eq_some_iff.1 e).1 (by simp [Value.ownBlock])).trans e⟩
  · refine KpN.of_grown hg (Nat.le_trans hM hb) hMA fun cs T fz hT e2 => ?_
    have hb2 : A.heap[g']? = some (Obj.cells cs T fz) := e2
    rw [hg2] at hb2
    injection hb2 with hb2
    injection hb2 with _ hb2
    exact he (hb2 ▸ hT)
theorem kp_set {A : World} {M g i : Nat} {u : Value} {cs : Array Value} {T : TypeId} (hA : A.heap[g]? = some (.cells cs T)) (hT : ¬ (T = 27 ∨ T = 44)) (hM : M ≤ g) : KpN M A (A.setCell ⟨g, i, none⟩ u) :=
  KpN.of_grown (grown_set A g i u) hM (Nat.le_of_lt (Nat.lt_of_le_of_lt hM (Array.getElem?_eq_some_iff.1 hA).1)) fun cs2 T2 fz hT2 e => by
    rw [hA] at e
    injection e with e
    injection e with _ e
    exact hT (e ▸ hT2)
theorem map_getD_range {α : Type} (L : List α) (d : α) : (List.range L.length).map (fun x => L.getD x d) = L := by
  apply List.ext_getElem
  · simp
  · intro i h1 h2
    simp at h1
    simp [h1]
theorem cell_one_new' (w : World) (v : Value) (t : TypeId) : ∀ j u, [v][j]? = some u → (w.alloc (.cells #[v] t)).cell? ((⟨w.heap.size, 0, none⟩ : Addr).add j) = some u := own_cells_row rfl rfl
def dT : Tm := (false, ⟨#[]⟩)
set_option maxRecDepth 100000 in
set_option maxHeartbeats 8000000 in
theorem nm_Vars (r : Rul) (a b : Option Addr) (c d : Nat) (w : World) (ha : Terms w a r.a) (hb : Lits w b r.b) :
    Calls Tryd.prog 10 #[.agg #[.string r.h, .slice a r.a.length c, .slice b r.b.length d]] w fun e w' => ∃ v, e = .returned v ∧ w'.ownsRow w.heap.size 9 1 v (varsR r).length ((varsR r).map Value.string) ∧ Below w.heap.size w w' := by
  have hN := every_len ha hb
  have hsz := every_size ha hb
  have hmm := @run_makeMap Tryd.prog
  have hal := fun w => nm_all r a b c d w
  replace ha := Lib.hid ha
  replace hb := Lib.hid hb
  replace hsz : Hid (∀ x, ((everyR r).getD x dT).2.size ≤ 1048576) := Lib.hid fun x => by
    rw [List.getD_eq_getElem?_getD]
    cases e : (everyR r)[x]? with
    | none => decide
    | some t => exact hsz t (List.mem_of_getElem? e)
  refine callsIn_wide.1 (callsIn_of_wp_marks (n := 9) Tryd.func10 rfl trivial ?_ rfl)
  simp only [Tryd.ntmps10, List.size_toArray, List.length_cons, List.length_nil, Nat.reduceAdd, Nat.reduceSub, Array.replicate_succ, Array.replicate_zero, List.push_toArray, List.append_toArray, List.nil_append, List.cons_append]
  refine wpIn_wide.2 ?_
  go_wp2_with (go_at_call 35; go_loud (refine (hal _).mono ?_); rintro e w1 ⟨rfl, rfl⟩)
  have h0 : VS w (w.heap.size + 1) (w.heap.size + 1 + 1 + 1) (w.heap.size + 1 + 1) [] 0 (.slice none 0 0) (((((w.alloc (.cells #[.string r.h, .slice a r.a.length c, .slice b r.b.length d] 27)).alloc (.cells #[.slice none 0 0] 28)).alloc (.map #[] 0)).alloc (.cells #[.map (some (w.heap.size + 1 + 1))] 55)).alloc (.cells #[.string r.h, .slice a r.a.length c, .slice b r.b.length d] 27)) ∧ (((((w.alloc (.cells #[.string r.h, .slice a r.a.length c, .slice b r.b.length d] 27)).alloc (.cells #[.slice none 0 0] 28)).alloc (.map #[] 0)).alloc (.cells #[.map (some (w.heap.size + 1 + 1))] 55)).alloc (.cells #[.string r.h, .slice a r.a.length c, .slice b r.b.length d] 27)).heap[w.heap.size + 1 + 1 + 1 + 1]? = some (.cells #[.string r.h, .slice a r.a.length c, .slice b r.b.length d] 27) ∧ (((((w.alloc (.cells #[.string r.h, .slice a r.a.length c, .slice b r.b.length d] 27)).alloc (.cells #[.slice none 0 0] 28)).alloc (.map #[] 0)).alloc (.cells #[.map (some (w.heap.size + 1 + 1))] 55)).alloc (.cells #[.string r.h, .slice a r.a.length c, .slice b r.b.length d] 27)).heap.size = w.heap.size + 5 := by
    have al := (Below.refl ((((w.alloc (.cells #[.string r.h, .slice a r.a.length c, .slice b r.b.length d] 27)).alloc (.cells #[.slice none 0 0] 28)).alloc (.map #[] 0)).alloc (.cells #[.map (some (w.heap.size + 1 + 1))] 55)).heap.size ((((w.alloc (.cells #[.string r.h, .slice a r.a.length c, .slice b r.b.length d] 27)).alloc (.cells #[.slice none 0 0] 28)).alloc (.map #[] 0)).alloc (.cells #[.map (some (w.heap.size + 1 + 1))] 55))).al (.cells #[.string r.h, .slice a r.a.length c, .slice b r.b.length d] 27)
    obtain ⟨-, h2, h3, h4, h5, -⟩ := four_new al
    have hs : ((((w.alloc (.cells #[.string r.h, .slice a r.a.length c, .slice b r.b.length d] 27)).alloc (.cells #[.slice none 0 0] 28)).alloc (.map #[] 0)).alloc (.cells #[.map (some (w.heap.size + 1 + 1))] 55)).heap.size = w.heap.size + 4 := by rw [World.size_alloc, World.size_alloc, World.size_alloc, World.size_alloc]
    have hm := (((MapIs.made ((w.alloc (.cells #[.string r.h, .slice a r.a.length c, .slice b r.b.length d] 27)).alloc (.cells #[.slice none 0 0] 28)) Tryd.prog 9 tKey).below ((Below.refl _ _).al (.cells #[.map (some (w.heap.size + 1 + 1))] 55))).below al)
    rw [World.size_alloc, World.size_alloc] at hm
    refine ⟨⟨h2, h4, hm.congr fun s => rfl, World.ownsRow_nil _ _ _ _, h5, by omega, by omega, by omega, by omega⟩, ?_, by rw [World.size_alloc, hs]⟩
    have := heap_alloc_new ((((w.alloc (.cells #[.string r.h, .slice a r.a.length c, .slice b r.b.length d] 27)).alloc (.cells #[.slice none 0 0] 28)).alloc (.map #[] 0)).alloc (.cells #[.map (some (w.heap.size + 1 + 1))] 55)) (.cells #[.string r.h, .slice a r.a.length c, .slice b r.b.length d] 27)
    rw [hs] at this
    exact this
  generalize ((((w.alloc (.cells #[.string r.h, .slice a r.a.length c, .slice b r.b.length d] 27)).alloc (.cells #[.slice none 0 0] 28)).alloc (.map #[] 0)).alloc (.cells #[.map (some (w.heap.size + 1 + 1))] 55)).alloc (.cells #[.string r.h, .slice a r.a.length c, .slice b r.b.length d] 27) = W1 at h0 ⊢
  obtain ⟨hV, hB, hs1⟩ := h0
  refine name_frame ?_
  intro tm htm
  refine range_wide (P := Tryd.prog) (tm := tm) (ds := _) (gf := 61) (lb := #[.pointer (some ⟨w.heap.size + 1 + 1 + 1 + 1, 0, none⟩)]) (by rw [htm]; rfl) (enters_of Tryd.func61 (by kernel_rfl) rfl)
    (all_stops 8 r a b c d (w.heap.size + 1 + 1 + 1 + 1) w W1 ha.out hb.out hV.bel hB) KpN.trans (fun W l o o' hl ho hc _ => KpN.put _ W l o o' (Nat.le_trans hV.bel.size hl) ho hc) (fun _ => rfl)
    (fun pre W => ∃ n v, n ≤ pre.length ∧ VS w (w.heap.size + 1) (w.heap.size + 1 + 1 + 1) (w.heap.size + 1 + 1) (varsOf (pre.map fun x => (everyR r).getD x dT)) n v W)
    (fun c pre W => False)
    (fun pre A B' row hs hg hr => by obtain ⟨n, v, hn, hs⟩ := hs; exact ⟨n, v, hn, hs.own hV.bel.size (by omega) hg hr⟩)
    (fun c pre A B' row hs hg hr => hs)
    ⟨0, _, Nat.le_refl _, hV⟩
    (fun x b W => W.heap[b]? = some (.cells #[.bool ((everyR r).getD x dT).1, .string ((everyR r).getD x dT).2] 33)) (fun x b _ A B' row hs hg hr => (hg.block b (Array.getElem?_eq_some_iff.1 hs).1 (fun e => by
      obtain ⟨-, o, ho, hc⟩ := hr b e.symm
      rw [hs] at ho
      injection ho with ho
      rw [← ho] at hc
      cases hc)).trans hs)
    (fun x b tm => (tm.setIfInBounds 9 (tmV ((everyR r).getD x dT))).setIfInBounds 5 (.pointer (some ⟨b, 0, none⟩)))
    ?assign1 ?body1 ?done1 ?stop1
  case assign1 =>
    rintro l pre x W K ⟨n, v, hn, hi⟩ hK
    rw [htm] at hK ⊢
    have hdT : (everyR r).getD x (false, ⟨#[]⟩) = (everyR r).getD x dT := rfl
    simp only [itemT, hdT] at hK ⊢
    generalize (everyR r).getD x dT = t at hK ⊢
    obtain ⟨tv, ts⟩ := t
    unfold tmV at hK ⊢
    have hb := (Below.refl W.heap.size W).al (.cells #[.bool tv, .string ts] 33)
    have hk := hK W.heap.size (W.alloc (.cells #[.bool tv, .string ts] 33)) ((ko_below hb).from _) (KpN.below hb hi.bel.size) ⟨n, v, hn, hi.below hb⟩ (heap_alloc_new _ _)
    clear hK hb
    simp only [List.setIfInBounds_toArray, List.set_cons_succ, List.set_cons_zero] at hk ⊢
    gi_wp2
    exact hk
  case body1 =>
    rintro l pre x bb W hl hr ⟨n, v, hn, hS⟩ hbx hlt
    rw [htm]
    obtain ⟨ii, hii, hi0, hi1, hi2⟩ := info_parts infoStr2
    have hts := hsz.out x
    have hvars : varsOf ((pre ++ [x]).map fun x => (everyR r).getD x dT) = addV (varsOf (pre.map fun x => (everyR r).getD x dT)) ((everyR r).getD x dT) := by rw [List.map_append]; exact varsOf_snoc _ _
    have hll : (varsOf (pre.map fun x => (everyR r).getD x dT)).length ≤ 1099516000000 := Nat.le_trans (varsOf_len _) (by rw [List.length_map]; omega)
    obtain ⟨VL, hVL⟩ : ∃ VL, varsOf ((pre ++ [x]).map fun x => (everyR r).getD x dT) = VL := ⟨_, rfl⟩
    rw [hVL] at hvars
    replace hVL := Lib.hid hVL
    generalize varsOf (pre.map fun x => (everyR r).getD x dT) = vl at hS hll hvars
    generalize (everyR r).getD x dT = t at hbx hts hvars ⊢
    obtain ⟨tv, ts⟩ := t
    unfold tmV
    dsimp only at hbx hts
    have hc1 : W.cell? ⟨bb, 0, none⟩ = some (.bool tv) := by simp [World.cell?, hbx]
    have hc2 : W.cell? ⟨bb, 1, none⟩ = some (.string ts) := by simp [World.cell?, hbx]
    have hc3 : W.cell? ⟨w.heap.size + 1 + 1 + 1, 0, none⟩ = some (.map (some (w.heap.size + 1 + 1))) := by simp [World.cell?, hS.bs]
    have hkey := tKey_of (s := ts) (by unfold maxLen; omega)
    have hrun := hS.map_.look (t := 55) strKeyed Tryd.underlying55 (zeroBool _) hkey
    replace hl : W1.heap.size ≤ l := hl
    have hsz2 := hV.bel.size
    simp only [List.setIfInBounds_toArray, List.set_cons_succ, List.set_cons_zero]
    cases tv
    · have hadd : addV vl (false, ts) = vl := if_neg (by simp)
      have hfin : Hid (∃ n v, n ≤ (pre ++ [x]).length ∧ VS w (w.heap.size + 1) (w.heap.size + 1 + 1 + 1) (w.heap.size + 1 + 1) (varsOf ((pre ++ [x]).map fun x => (everyR r).getD x dT)) n v W) := Lib.hid ⟨n, v, by rw [List.length_append]; exact Nat.le_trans hn (Nat.le_add_right _ _), by rw [hVL.out, hvars, hadd]; exact hS⟩
      clear hS hbx hrun hkey hadd hvars
      gi_wp2
      exact ⟨KeepsFrom.refl _ _, KpN.refl _ _, hfin.out⟩
    · by_cases hin : ts ∈ vl
      · have hadd : addV vl (true, ts) = vl := if_neg (by simp [hin])
        have hfin : Hid (∃ n v, n ≤ (pre ++ [x]).length ∧ VS w (w.heap.size + 1) (w.heap.size + 1 + 1 + 1) (w.heap.size + 1 + 1) (varsOf ((pre ++ [x]).map fun x => (everyR r).getD x dT)) n v W) := Lib.hid ⟨n, v, by rw [List.length_append]; exact Nat.le_trans hn (Nat.le_add_right _ _), by rw [hVL.out, hvars, hadd]; exact hS⟩
        rw [show seenM vl ts = some (.bool true) from if_pos hin] at hrun
        replace hrun : (Instr.lookup 55 (.map (some (w.heap.size + 1 + 1))) (.string ts) false).run Tryd.prog W = .ok (.bool true) W := hrun
        clear hS hbx hkey hadd hin hvars
        gi_wp2
        exact ⟨KeepsFrom.refl _ _, KpN.refl _ _, hfin.out⟩
      · have hadd : addV vl (true, ts) = vl ++ [ts] := if_pos ⟨rfl, hin⟩
        rw [hadd] at hvars
        replace hvars := Lib.hid hvars
        rw [show seenM vl ts = none from if_neg hin] at hrun
        replace hrun : (Instr.lookup 55 (.map (some (w.heap.size + 1 + 1))) (.string ts) false).run Tryd.prog W = .ok (.bool false) W := hrun
        obtain ⟨va, vc, rfl, -⟩ := own_slice hS.row
        have hS0 := Lib.hid hS
        replace hkey := Lib.hid hkey
        have h63 : Hid (vl.length + 1 ≤ maxLen) := Lib.hid (by unfold maxLen; omega)
        have h64 : Hid ((vl.length + 1) * 16 ≤ 140737488355328) := Lib.hid (by omega)
        have hnl : Hid (n < maxLen) := Lib.hid (by unfold maxLen; omega)
        replace hbx := Lib.hid hbx
        clear hadd hin hS
        gi_wp2_with (gi_at_mapUpdate; go_loud (refine wpIn_upd _ tKey_law rfl _ _ _ 55 rfl 9 4 strKeyed Tryd.underlying55 (w.heap.size + 1 + 1) n _ rfl hS0.out.map_ hnl.out _ _ ts rfl rfl hkey.out ?_))
        intro W2 hm2 hg2
        replace hbx := hbx.out
        have hmne : ∀ (k : Nat) (cs : Array Value) (T : TypeId), W.heap[k]? = some (Obj.cells cs T) → k ≠ w.heap.size + 1 + 1 := fun k cs T hk e => by
          obtain ⟨es, clock, hb⟩ := hS0.out.map_.isMap
          rw [e, hb] at hk; cases hk
        have hbx2 : W2.heap[bb]? = some (.cells #[.bool true, .string ts] 33) := (hg2.block bb (Array.getElem?_eq_some_iff.1 hbx).1 (fun e => hmne _ _ _ hbx (by injection e))).trans hbx
        have hbo2 : W2.heap[w.heap.size + 1]? = some (.cells #[.slice va vl.length vc] 28) := (hg2.block _ (Array.getElem?_eq_some_iff.1 hS0.out.bo).1 (fun e => by injection e with e; omega)).trans hS0.out.bo
        have d2 : W2.cell? ⟨bb, 1, none⟩ = some (.string ts) := by simp [World.cell?, hbx2]
        have d3 : W2.cell? ⟨w.heap.size + 1, 0, none⟩ = some (.slice va vl.length vc) := by simp [World.cell?, hbo2]
        have hrow2 := Lib.hid (hS0.out.row.kept hg2 (.inr (fun e => hS0.out.map_.no_row hS0.out.row e.symm)))
        have hg2' := Lib.hid hg2
        have hm2' := Lib.hid hm2
        have hsz3 : Hid (w.heap.size ≤ W2.heap.size) := Lib.hid (Nat.le_trans hS0.out.bel.size hg2.size)
        clear hg2 hm2 hmne hbx hbx2 hbo2 hc1 hc2 hc3 hrun
        gi_wp2_with (gi_at_builtin; go_loud (refine wpListIn_append_own _ rfl (.tmp 22) (.tmp 25) 28 rfl w.heap.size 9 ii (.string ⟨#[]⟩) 1 16 Tryd.underlying28 hii hi0 hi1 hi2 rfl (by decide) _ vl.length (vl.map Value.string) rfl (hrow2.out.alloc _) ⟨W2.heap.size, 0, none⟩ 1 1 [.string ts] rfl rfl (cell_one_new' _ _ _) (by intro u hu; simp at hu; subst hu; rfl) h63.out h64.out (by rw [World.size_alloc]; have := hsz3.out; omega) ?_))
        intro v3 w3 hown3 hg3 _
        obtain ⟨xa, xc, rfl, -⟩ := own_slice hown3
        obtain ⟨hbo3, hS3⟩ := hS0.out.put hg2'.out hm2'.out hg3 hown3
        have e3 : w3.cell? ⟨w.heap.size + 1, 0, none⟩ = some (.slice va vl.length vc) := by simp [World.cell?, hbo3]
        have f3 : w3.frozen? ⟨w.heap.size + 1, 0, none⟩ = false := by simp [World.frozen?, hbo3]
        have hfin : Hid ((∃ n v, n ≤ (pre ++ [x]).length ∧ VS w (w.heap.size + 1) (w.heap.size + 1 + 1 + 1) (w.heap.size + 1 + 1) (varsOf ((pre ++ [x]).map fun x => (everyR r).getD x dT)) n v (w3.setCell ⟨w.heap.size + 1, 0, none⟩ (.slice xa (vl.length + 1) xc))) ∧ KeepsFrom W1.heap.size W (w3.setCell ⟨w.heap.size + 1, 0, none⟩ (.slice xa (vl.length + 1) xc)) ∧ KpN w.heap.size W (w3.setCell ⟨w.heap.size + 1, 0, none⟩ (.slice xa (vl.length + 1) xc))) := Lib.hid (by
          refine ⟨⟨n + 1, _, by rw [List.length_append]; exact Nat.succ_le_succ hn, by rw [hVL.out, hvars.out]; exact hS3⟩, ?_, ?_⟩
          · exact ((kf_map hg2'.out (by omega)).trans ((ko_below ((Below.refl W2.heap.size W2).al (.cells #[.string ts] 9))).from _)).trans (((ko_row hg3 (hrow2.out.alloc _)).trans (KeepsOthers.setCell w3 _ _)).from _)
          · have k1 : KpN w.heap.size W W2 := KpN.of_grown hg2'.out (by omega) hS0.out.bel.size fun cs T fz _ e => by
              obtain ⟨es, clock, hb⟩ := hS0.out.map_.isMap
              rw [hb] at e; cases e
            have k2 := KpN.below (M := w.heap.size) ((Below.refl W2.heap.size W2).al (.cells #[.string ts] 9)) hsz3.out
            have k3 := kp_row (M := w.heap.size) hg3 (hrow2.out.alloc _) (by decide) (Nat.le_refl _) (by rw [World.size_alloc]; have := hsz3.out; omega)
            exact ((k1.trans k2).trans k3).trans (kp_set hbo3 (by decide) (by omega)))
        clear hown3 hg3 hS3 hbo3 d3 d2
        gi_wp2
        exact ⟨hfin.out.2.1, hfin.out.2.2, hfin.out.1⟩
  case done1 =>
    rintro D0 xs W hD0 rfl ⟨n, v, hn, hS⟩ hK
    rw [map_getD_range] at hS
    rw [htm]
    obtain ⟨va, vc, rfl, -⟩ := own_slice hS.row
    have d3 : W.cell? ⟨w.heap.size + 1, 0, none⟩ = some (.slice va (varsOf (everyR r)).length vc) := by simp [World.cell?, hS.bo]
    replace hS := Lib.hid hS
    replace hK := Lib.hid hK
    clear htm
    go_wp2
    have hgp := grownBy_putObj' W D0 (.deferred none)
    refine ⟨by simp, .inl ⟨D0, _, rfl, run_takeDeferred hK.out, ?_⟩⟩
    refine ⟨.slice va (varsOf (everyR r)).length vc, results_tmp (t := 2) rfl _ _ _, .slice va (varsOf (everyR r)).length vc, rfl, own_grownO hS.out.row hgp fun k hk e => ?_, hS.out.bel.grown hgp hS.out.bel.size (fun k e => by injection e with e; omega)⟩
    injection e with e
    subst e
    rcases hS.out.row.2 with ⟨e1, -⟩ | ⟨g', cap, cur, e1, -, hh, -⟩
    · rw [e1] at hk; cases hk
    · rw [e1] at hk
      simp only [Value.ownBlock, Option.some.injEq] at hk
      subst hk
      rw [hK.out] at hh
      cases hh
  case stop1 =>
    rintro D c pre W _ hsp hno hK
    exact hno.elim
end Go.Proofs.YtoklbofobcloaaaDoor
