/- IndexLies: the law walked. -/
import Derived.Test.YtjeeljolhcoeoaaKxB
import Derived.RangeFuncBox
import Derived.Stop.RegionWithIn
import Derived.Deep.DeepCutAuto
import Derived.Deep.CutRange
namespace Go.Proofs.Ytjeeljolhcoeoaa
open Go.RowKit Go.Shelf
attribute [local go_sem] Oper.semAt_some eql_fn_h eql_nn_h eql_fn_s eql_nn_s eql_fn_i eql_nn_i

set_option maxRecDepth 100000 in
set_option maxHeartbeats 8000000 in
theorem law_IndexLies (way : Int) (a1 a2 : Option Addr) (q1 q2 : Nat) (xs1 xs2 : List Int) (w : World) (hx1 : Ints .i64 w a1 xs1) (hx2 : Ints .i64 w a2 xs2) (hl1 : xs1.length ≤ 1048576) (hl2 : xs2.length ≤ 1048576) :
    Calls Try.prog 4 #[.int .i64 way, .slice a1 xs1.length q1, .slice a2 xs2.length q2] w fun e w' => e = .returned (.bool true) ∧ Below w.heap.size w w' := by
  refine callsIn_wide.1 (callsIn_of_wp_marks (n := 9) Try.func4 rfl trivial ?_ rfl)
  simp only [Try.ntmps4, List.size_toArray, List.length_cons, List.length_nil, Nat.reduceAdd, Nat.reduceSub, Array.replicate_succ, Array.replicate_zero, List.push_toArray, List.append_toArray, List.nil_append, List.cons_append]
  refine wpIn_wide.2 ?_
  have bW := (Boxed.new w 3 (.int .i64 way)).alloc (.cells #[.bool false] 4)
  have bR := Boxed.new (w.alloc (.cells #[.int .i64 way] 3)) 4 (.bool false)
  have hb0 : Below w.heap.size w ((w.alloc (.cells #[.int .i64 way] 3)).alloc (.cells #[.bool false] 4)) := ((Below.refl _ w).al _).al _
  have hs0 : ((w.alloc (.cells #[.int .i64 way] 3)).alloc (.cells #[.bool false] 4)).heap.size = w.heap.size + 2 := by simp
  rw [World.size_alloc] at bR
  go_upto_region 1 with fail
  generalize ((w.alloc (.cells #[.int .i64 way] 3)).alloc (.cells #[.bool false] 4)) = W0 at bW bR hb0 hs0 ⊢
  replace hs0 := Lib.hid hs0
  go_cut [7, 8] from 28 (fun v7 v8 wx => ∃ Bt hb sb T P, v7 = .pointer (some ⟨Bt, 0, none⟩) ∧ v8 = .int .i64 0 ∧ Hid (OL w wx w.heap.size Bt hb sb T P way 8 [] (fun _ => none) a1 a2 xs1 xs2))
  case first =>
    as_aux_lemma =>
      have hc0 : ∀ V, Gr W0 V → V.cell? ⟨w.heap.size, 0, none⟩ = some (.int .i64 way) := fun V hV => cell_below hV rfl bW.cell
      have c3 := hc0 W0 (Gr.refl _)
      have c3d := hc0 W0.drew (Gr.refl _).drew
      have c3a := hc0 (W0.drew.alloc (.cells #[.pointer none] 43)) ((Gr.refl _).drew.al _)
      have c3b := hc0 (W0.alloc (.cells #[.pointer none] 43)) ((Gr.refl _).al _)
      go_wp2_with fail
      refine wp_region_noPanic ?_
      go_region_with ((first
        | (go_at_call 18; refine (ix_hashesB way _).mono ?_; rintro e wh ⟨hb, rfl, gh, bh, gH⟩; have gW := (show Gr W0 wh from Gr.trans (by repeat (first | exact Gr.refl _ | assumption | refine Gr.al ?_ _ | refine Gr.drew ?_ | refine Gr.trans ?_ (by assumption))) gH); have c3n := hc0 _ gW; have c3m := hc0 _ (gW.al (.cells #[.pointer none] 43)); first | (have bA := bx_gr (show Boxed (World.alloc W0.drew (.cells #[.pointer none] 43)) W0.heap.size _ _ from Boxed.new _ _ _) (show Gr (World.alloc W0.drew (.cells #[.pointer none] 43)) _ from gH); have cA := bA.cell; have fA := bA.frozen) | (have bA := bx_gr (Boxed.new _ _ _) (show Gr (World.alloc _ (.cells #[.pointer none] 43)) _ from gH); have cA := bA.cell; have fA := bA.frozen) | (have bA := bx_gr bA gH; have cA := bA.cell; have fA := bA.frozen) | skip)
        | (go_at_call 19; refine (ix_samesB way _).mono ?_; rintro e ws ⟨sb, rfl, gs, bs, gS⟩; have gW2 := (show Gr W0 ws from Gr.trans (by repeat (first | exact Gr.refl _ | assumption | refine Gr.al ?_ _ | refine Gr.drew ?_ | refine Gr.trans ?_ (by assumption))) gS); have bh2 := bx_gr bh (show Gr wh ws from Gr.trans (by repeat (first | exact Gr.refl _ | assumption | refine Gr.al ?_ _ | refine Gr.drew ?_ | refine Gr.trans ?_ (by assumption))) gS); first | (have bA := bx_gr (show Boxed (World.alloc W0.drew (.cells #[.pointer none] 43)) W0.heap.size _ _ from Boxed.new _ _ _) (show Gr (World.alloc W0.drew (.cells #[.pointer none] 43)) _ from gS); have cA := bA.cell; have fA := bA.frozen) | (have bA := bx_gr (Boxed.new _ _ _) (show Gr (World.alloc _ (.cells #[.pointer none] 43)) _ from gS); have cA := bA.cell; have fA := bA.frozen) | (have bA := bx_gr bA gS; have cA := bA.cell; have fA := bA.frozen) | skip)
        | (go_at_call 17; refine (ix_new (by first | exact bh2 | exact bh2.alloc _) (by first | exact bs | exact bs.alloc _)).mono ?_; rintro e wt ⟨T, P, rfl, gT, gP, tt, gN⟩; have gW3 := (show Gr W0 wt from Gr.trans (by repeat (first | exact Gr.refl _ | assumption | refine Gr.al ?_ _ | refine Gr.drew ?_ | refine Gr.trans ?_ (by assumption))) gN); first | (have bA := bx_gr (show Boxed (World.alloc W0.drew (.cells #[.pointer none] 43)) W0.heap.size _ _ from Boxed.new _ _ _) (show Gr (World.alloc W0.drew (.cells #[.pointer none] 43)) _ from gN); have cA := bA.cell; have fA := bA.frozen) | (have bA := bx_gr (Boxed.new _ _ _) (show Gr (World.alloc _ (.cells #[.pointer none] 43)) _ from gN); have cA := bA.cell; have fA := bA.frozen) | (have bA := bx_gr bA gN; have cA := bA.cell; have fA := bA.frozen) | skip)))
      all_goals (refine NoPanic.normal ?_)
      all_goals (go_wp2_with fail; go_meet)
      all_goals (
        have gh' : W0.heap.size ≤ hb := Nat.le_trans (Below.size (show Gr W0 _ from (by repeat (first | exact Gr.refl _ | assumption | refine Gr.al ?_ _ | refine Gr.drew ?_ | refine Gr.trans ?_ (by assumption))))) gh
        have gs' : W0.heap.size ≤ sb := Nat.le_trans (Below.size (show Gr W0 _ from (by repeat (first | exact Gr.refl _ | assumption | refine Gr.al ?_ _ | refine Gr.drew ?_ | refine Gr.trans ?_ (by assumption))))) gs
        have gT' : W0.heap.size ≤ T := Nat.le_trans (Below.size (show Gr W0 _ from (by repeat (first | exact Gr.refl _ | assumption | refine Gr.al ?_ _ | refine Gr.drew ?_ | refine Gr.trans ?_ (by assumption))))) gT
        have gP' : W0.heap.size ≤ P := Nat.le_trans (Below.size (show Gr W0 _ from (by repeat (first | exact Gr.refl _ | assumption | refine Gr.al ?_ _ | refine Gr.drew ?_ | refine Gr.trans ?_ (by assumption))))) gP
        first
          | exact ⟨_, _, _, _, _, rfl, rfl, Lib.hid (OL.fin hb0 hs0.out bW bR hx1 hx2 gW3 gh' gs' gT' gP' (by first | exact Nat.le_refl _ | exact Below.size gW | exact Below.size gW2) tt bA)⟩
          | exact ⟨_, _, _, _, _, rfl, rfl, Lib.hid (OL.start hb0 hs0.out bW bR hx1 hx2 (gW3.al _) gh' gs' gT' gP' (Below.size gW3) (tt.below ((Below.refl _ _).al _)) (Boxed.new wt _ _))⟩)
  case rest =>
  obtain ⟨Bt, hb, sb, T, P, rfl, rfl, hOL⟩ := hcut
  clear bW bR hb0 hs0
  have cT := hOL.out.bT.cell
  go_wp2_with fail
  go_loopw [9] (fun i wr => ∃ k : Nat, k ≤ xs1.length ∧ i = .int .i64 k ∧ ∃ P sz es pl, es.length ≤ k ∧ (sz = 8 ∨ 3 * sz < 8 * k) ∧ Hid (OL w wr w.heap.size Bt hb sb T P way sz es pl a1 a2 xs1 xs2)) (fun i _ => xs1.length - (intOf i).toNat)
  case atStart => exact ⟨0, Nat.zero_le _, rfl, P, 8, [], _, Nat.le_refl _, .inl rfl, hOL⟩
  case round =>
    clear hOL cT
    obtain ⟨k, hk, rfl, P, sz, es, pl, hle, hsz, hA⟩ := hrel
    by_cases hlt : k < xs1.length
    · as_aux_lemma =>
        obtain ⟨b, off, rfl, hc⟩ := hA.out.i1.cells k hlt
        have cT := hA.out.bT.cell
        have hAd := hA.out.below (show Gr wr wr.drew from (Gr.refl _).drew)
        have hcd := cell_below (show Gr wr wr.drew from (Gr.refl _).drew) rfl hc
        have cTd := hAd.bT.cell
        go_upto_region 7 with fail
        go_cut [] from 42 to 64 (fun wx => ∃ P sz es pl, es.length ≤ k + 1 ∧ (sz = 8 ∨ 3 * sz < 8 * (k + 1)) ∧ Hid (OL w wx w.heap.size Bt hb sb T P way sz es pl (some ⟨b, off, none⟩) a2 xs1 xs2))
        case first =>
          go_wp2_with fail
          refine wp_region_noPanic ?_
          go_region_with ((go_at_call 20; refine (tu_put2 hAd.tt hAd.new _ _ (by omega)).mono ?_; rintro e wn ⟨⟨x1, x2, x3, rfl⟩, P', sz', es', pl', h1, h2, h3, h4⟩; have hfin : Hid (∃ P sz es pl, es.length ≤ k + 1 ∧ (sz = 8 ∨ 3 * sz < 8 * (k + 1)) ∧ Hid (OL w wn w.heap.size Bt hb sb T P way sz es pl (some ⟨b, off, none⟩) a2 xs1 xs2)) := Lib.hid ⟨P', sz', es', pl', by omega, by omega, Lib.hid (hAd.kept h2 h1)⟩))
          all_goals (refine NoPanic.normal ?_)
          all_goals (go_wp2_with fail; go_meet)
          all_goals exact hfin.out
        case rest =>
        obtain ⟨P2, sz2, es2, pl2, hle2, hsz2, hA2⟩ := hcut
        clear hA hAd hc hcd cT cTd
        by_cases hg : k < xs2.length
        · obtain ⟨b2, off2, rfl, hc⟩ := hA2.out.i2.cells k hg
          have hAd := hA2.out.below (show Gr wc wc.drew from (Gr.refl _).drew)
          have hcd := cell_below (show Gr wc wc.drew from (Gr.refl _).drew) rfl hc
          have cT := hA2.out.bT.cell
          have cTd := hAd.bT.cell
          go_wp2_with fail
          refine wp_region_noPanic ?_
          go_region_with ((go_at_call 21; refine (tu_take1 hAd.tt _ (by omega)).mono ?_; rintro e wn ⟨⟨x1, x2, rfl⟩, es', pl', h1, h2, h3⟩; have hfin : Hid (OL w wn w.heap.size Bt hb sb T P2 way sz2 es' pl' (some ⟨b, off, none⟩) (some ⟨b2, off2, none⟩) xs1 xs2) := Lib.hid (hAd.kept h2 h1)))
          all_goals (refine NoPanic.normal ?_)
          all_goals go_wp2_with fail
          all_goals go_roundw
          all_goals first
            | (case rel => exact ⟨k + 1, by omega, by go_num, P2, sz2, es', pl', by omega, hsz2, hfin⟩)
            | (case measure => simp [intOf]; omega)
        · have hgf : decide ((k : Int) < (xs2.length : Int)) = false := decide_eq_false (by omega)
          go_wp2_with fail
          go_roundw
          case rel => exact ⟨k + 1, by omega, by go_num, P2, sz2, es2, pl2, hle2, hsz2, hA2⟩
          case measure => simp [intOf]; omega
    · obtain rfl : k = xs1.length := by omega
      have cT := hA.out.bT.cell
      have hz : sz ≤ 4194304 := by omega
      have hz8 := hA.out.tt.ts.tab.hsz.1
      have hroom := hA.out.tt.ts.room
      go_wp2_with fail
      refine (ix_size hA.out.tt.ts.tab).mono ?_
      rintro e w' ⟨rfl, rfl⟩
      have bS := Boxed.new wr 3 (.int .i64 sz)
      have gS : Gr wr (wr.alloc (.cells #[.int .i64 sz] 3)) := (Gr.refl _).al _
      obtain ⟨Bs, hBs⟩ : ∃ Bs, wr.heap.size = Bs := ⟨_, rfl⟩
      go_wp2_with fail
      rw [hBs] at bS
      try rw [hBs]
      generalize wr.alloc (.cells #[.int .i64 sz] 3) = V0 at bS gS ⊢
      have hA0 := Lib.hid (hA.out.below gS)
      clear gS hA cT
      have cT := hA0.out.bT.cell
      have cS := bS.cell
      have h8 : decide ((sz : Int) < 8) = false := decide_eq_false (by omega)
      have hpw := pow_and hA0.out.tt.ts.pow hz
      have h43 : decide (3 * (sz : Int) < 4 * (es.length : Int)) = false := decide_eq_false (by omega)
      have hw4 : IntKind.i64.wrap (4 * (es.length : Int)) = 4 * (es.length : Int) := IntWalk.i64_in _ (by omega)
      have hw3 : IntKind.i64.wrap (3 * (sz : Int)) = 3 * (sz : Int) := IntWalk.i64_in _ (by omega)
      have hw1 : IntKind.i64.wrap ((sz : Int) - 1) = (sz : Int) - 1 := IntWalk.i64_in _ (by omega)
      have hL : Hid (∀ n, Calls Try.prog 23 #[.pointer (some ⟨T, 0, none⟩)] (V0.drewN n) fun e w' => e = .returned (.int .i64 es.length) ∧ ∃ m, w' = V0.drewN m) := Lib.hid fun n => (ix_len (hA0.out.tt.ts.tab.below (below_drewN (Below.refl _ _) n))).mono fun e w' h => ⟨h.1, n, h.2.symm⟩
      go_wp2_with fail
      go_quiet ((go_at_call 23; with_reducible exact hL.out _))
      have g1 : Gr V0 (V0.drewN nq) := below_drewN (Below.refl _ _) _
      generalize V0.drewN nq = V1 at g1 ⊢
      have hA1 := Lib.hid (hA0.out.below g1)
      have bS1 := bx_gr bS g1
      clear hL h8 hpw h43 hw4 hw3 hw1 hA0 bS cT cS g1
      obtain ⟨ib, hib, hz0, hz1, hz2⟩ := info_parts infoBool
      have cS := bS1.cell
      have cT2 := hA1.out.bT.cell
      obtain ⟨B2, hB2⟩ : ∃ B2, V1.heap.size = B2 := ⟨_, rfl⟩
      go_wp2_with (refine wpList_make_full _ rfl _ _ _ rfl V1.heap.size 4 ib _ 1 Try.underlying23 hib hz0 hz1 .i64 .i64 sz sz sz rfl rfl rfl rfl (by rw [hz2]; omega) (by unfold maxLen; omega) (Nat.le_refl _) ?_; intro w1 hown hgrow; have gm : Gr V1 w1 := (Below.refl V1.heap.size V1).grown hgrow (Nat.le_refl _) (fun k e => by cases e); have cTn : ∀ o, (w1.alloc o).cell? ⟨Bt, 0, none⟩ = some (.pointer (some ⟨T, 0, none⟩)) := fun o => (hA1.out.below (gm.al o)).bT.cell)
      clear cS cT2
      have bF := Boxed.new w1 23 (.slice (some ⟨V1.heap.size, 0, none⟩) sz sz)
      have gm2 := gm.al (.cells #[.slice (some ⟨V1.heap.size, 0, none⟩) sz sz] 23)
      have hro := (own_below hown ((Gr.refl w1).al (.cells #[.slice (some ⟨V1.heap.size, 0, none⟩) sz sz] 23)))
      rw [made_bools] at hro
      have hsz1 := World.size_alloc w1 (.cells #[.slice (some ⟨V1.heap.size, 0, none⟩) sz sz] 23)
      have hBf : V1.heap.size ≤ w1.heap.size := Below.size gm
      rw [hB2] at bF gm2 hro hsz1
      clear hown hgrow cTn
      generalize (w1.alloc (.cells #[.slice (some ⟨B2, 0, none⟩) sz sz] 23)) = V2 at bF gm2 hro hsz1 ⊢
      generalize w1.heap.size = Bf at bF hsz1 hBf ⊢
      refine (ix_layout _ _).mono ?_
      rintro e w3 ⟨rfl, hw3⟩
      obtain ⟨Bl, hBl⟩ : ∃ Bl, V2.heap.size = Bl := ⟨_, rfl⟩
      rw [hBl]
      have bL : Boxed w3 Bl 43 (.pointer (some ⟨T, 0, none⟩)) := by rw [hw3, ← hBl]; exact Boxed.new _ _ _
      have g3 : Gr V2 w3 := by rw [hw3]; exact (Gr.refl _).al _
      clear hw3
      go_wp2_with fail
      have bN := Boxed.new w3 3 (.int .i64 0)
      have g4 := (Gr.refl w3).al (.cells #[.int .i64 0] 3)
      have hI : Hid (IL V1 (w3.alloc (.cells #[.int .i64 0] 3)) T Bf B2 Bl w3.heap.size sz 0 (List.replicate sz false)) := Lib.hid (by
        have h2 := Below.size gm2
        have h3 := Below.size g3
        refine ⟨gm2.trans (g3.trans g4), bx_gr (bx_gr bF g3) g4, bx_gr bL g4, bN, ?_, hBf, by omega, by omega, by omega⟩
        rw [hB2]
        exact own_below (own_below hro g3) g4)
      clear bF gm2 hro hsz1 bL g3 bN g4 gm hBf
      generalize (w3.alloc (.cells #[.int .i64 0] 3)) = V4 at hI ⊢
      generalize w3.heap.size = Bn at hI ⊢
      have o2 := hA1.out.hs
      have hge : V1.heap.size ≤ V4.heap.size := Below.size hI.out.bel
      have hTlo : T < V1.heap.size := (Array.getElem?_eq_some_iff.1 hA1.out.tt.ts.tab.hT).1
      have hElo : ∀ e, e ∈ es → e.b < V1.heap.size := fun e he => by
        obtain ⟨i, hi, rfl⟩ := List.getElem_of_mem he
        exact hA1.out.tt.ts.tab.ltE i hi
      obtain ⟨L, hLd⟩ : ∃ L, layL es pl sz = L := ⟨_, rfl⟩
      have hLl : L.length ≤ 4194304 := by rw [← hLd]; exact Nat.le_trans (layL_len es pl sz) hz
      replace hLd := Lib.hid hLd
      refine name_frame ?_
      intro tm htm
      refine range_wide (P := Try.prog) (tm := tm) (ds := []) (gf := 51) (lb := #[.pointer (some ⟨Bl, 0, none⟩)]) (by rw [htm]; rfl) (enters_of Try.func51 (by kernel_rfl) rfl)
        (lay_stops 8 V4 (hA1.out.below hI.out.bel).tt.ts.tab (by omega) Bl hI.out.bL.lt hI.out.bL.cell) KpL.trans (fun W l o o' hl h hc _ => KpL.put (B0 := V4.heap.size) (by omega) W l o o' hl h hc) (fun _ => rfl)
        (fun pre W => ∃ fl, IL V1 W T Bf B2 Bl Bn sz pre.length fl ∧ fl.length = sz ∧ (pre <+: L → ∀ j, j < sz → fl[j]? = some (pre.any (fun y => y.1 == (j : Int)))) ∧ V4.heap.size ≤ W.heap.size)
        (fun c pre _ => c = .ret ∧ ¬ pre <+: L)
        (fun pre A B row hs hg hr => by
          obtain ⟨fl, h1, h2, h3, h4⟩ := hs
          exact ⟨fl, h1.own hge hg hr, h2, h3, Nat.le_trans h4 hg.size⟩)
        (fun c pre A B row hs hg hr => hs)
        ⟨_, hI.out, List.length_replicate, fun _ j hj => by rw [List.getElem?_replicate, if_pos hj]; rfl, Nat.le_refl _⟩
        (fun _ _ _ => True) (fun _ _ _ _ _ _ _ _ _ => trivial)
        (fun x _ tm => ((((tm.setIfInBounds 91 (.int .i64 x.1)).setIfInBounds 92 (.int .i64 x.2)).setIfInBounds 14 (.int .i64 x.1)).setIfInBounds 15 (.int .i64 x.2)))
        ?assignA ?bodyA ?doneA ?stopA
      case assignA =>
        rintro l pre x W K hi hK
        rw [htm] at hK ⊢
        gi_wp2
        exact hK 0 W ((ko_gr (Gr.refl W)).from _) (KpL.refl _ _ _) hi trivial
      case bodyA =>
        as_aux_lemma =>
          rintro l pre x b W hl hr ⟨fl, hI, hfl, hfp, hsW⟩ _ hlt
          rw [htm]
          rw [hLd.out] at hlt
          have hAW := hA1.out.below hI.bel
          have cS := (bx_gr bS1 hI.bel).cell
          have cF := hI.bF.cell
          have cR := hAW.bR.cell
          have fR := hAW.bR.frozen
          have hv : Hid (pre ++ [x] <+: L → ∃ j, j < sz ∧ ∃ i, ∃ hi : i < es.length, pl j = some es[i].b ∧ x = ((j : Int), es[i].key) ∧ pre.any (fun y => y.1 == (j : Int)) = false) := Lib.hid fun h => hA1.out.tt.ts.lay_next (by rw [hLd.out]; exact h)
          replace hfp := Lib.hid hfp
          simp only [List.setIfInBounds_toArray, List.set_cons_succ, List.set_cons_zero]
          obtain ⟨x1, x2⟩ := x
          dsimp only at *
          by_cases h0 : x1 < 0
          · have hn : ¬ pre ++ [(x1, x2)] <+: L := fun h => by
              obtain ⟨j, _, i, hi, _, e, _⟩ := hv.out h
              injection e with e _; omega
            have h0b : decide (x1 < 0) = true := decide_eq_true h0
            clear h0
            replace hI := Lib.hid hI
            replace hAW := Lib.hid hAW
            gi_wp2
            exact ⟨(KeepsOthers.setCell W _ _).from _, rfl, hn⟩
          · have h0b : decide (x1 < 0) = false := decide_eq_false h0
            by_cases h1 : (sz : Int) ≤ x1
            · have hn : ¬ pre ++ [(x1, x2)] <+: L := fun h => by
                obtain ⟨j, _, i, hi, _, e, _⟩ := hv.out h
                injection e with e _; omega
              have h1b : decide ((sz : Int) ≤ x1) = true := decide_eq_true h1
              clear h0 h1
              replace hI := Lib.hid hI
              replace hAW := Lib.hid hAW
              gi_wp2
              exact ⟨(KeepsOthers.setCell W _ _).from _, rfl, hn⟩
            · have h1b : decide ((sz : Int) ≤ x1) = false := decide_eq_false h1
              obtain ⟨j, rfl⟩ : ∃ j : Nat, x1 = (j : Int) := ⟨x1.toNat, by omega⟩
              have hj : j < sz := by omega
              have hflj : fl[j]? = some (fl[j]'(by omega)) := List.getElem?_eq_getElem _
              have cj := hI.cell hflj
              cases hfb : fl[j]'(by omega) with
              | true =>
                rw [hfb] at cj hflj
                have hn : ¬ pre ++ [((j : Int), x2)] <+: L := fun h => by
                  obtain ⟨j2, _, i, hi, _, e, ha⟩ := hv.out h
                  injection e with e _
                  have := hfp.out ((List.prefix_append _ _).trans h) j hj
                  rw [hflj, e, ha] at this; cases this
                clear h0 h1 hflj hfb
                replace hI := Lib.hid hI
                replace hAW := Lib.hid hAW
                gi_wp2
                exact ⟨(KeepsOthers.setCell W _ _).from _, rfl, hn⟩
              | false =>
                rw [hfb] at cj hflj
                have fj := own_frozenI hI.row j
                have hI2 := Lib.hid (hI.setF j true)
                have hA2 := Lib.hid (hA1.out.below hI2.out.bel)
                have cT2 := hA2.out.bT.cell
                have hfin0 := Lib.hid (hI.kpl (W' := W.setCell ⟨B2, j, none⟩ (.bool true)) ((KeptR.refl _ W).set (.inl (.inl rfl))) hTlo hElo)
                clear h0 h1 hflj hfb cR fR
                replace hI := Lib.hid hI
                replace hAW := Lib.hid hAW
                obtain ⟨R, hR⟩ : ∃ R, frOf way sz es pl x2 = R := ⟨_, rfl⟩
                gi_wp2
                refine ⟨trivial, CallsIn.inRound l (callsIn_wide.2 ((ix_place hA2.out.tt.ts.tab x2 hA2.out.tt.ts.free (R := R) hR).mono ?_))⟩
                rintro e w3 ⟨rfl, hd⟩
                have gd : Gr (W.setCell ⟨B2, j, none⟩ (.bool true)) w3 := hd.below _
                have hI3 := Lib.hid (hI2.out.below gd)
                have hA3 := Lib.hid (hA1.out.below hI3.out.bel)
                have hko := Lib.hid ((KeepsOthers.setCell W ⟨B2, j, none⟩ (.bool true)).trans (ko_gr gd))
                have hkp := Lib.hid (hfin0.out.trans (KpL.below (es := es) (T := T) (by rw [World.size_setCell]; have := Below.size hI.out.bel; omega) gd))
                have cR := hA3.out.bR.cell
                have fR := hA3.out.bR.frozen
                have cN := hI3.out.bN.cell
                have fN := hI3.out.bN.frozen
                have hval : Hid (pre ++ [((j : Int), x2)] <+: L → ∃ D, R = (j, D, true)) := Lib.hid fun h => by
                  obtain ⟨j2, hj2, i, hi, hp, e, _⟩ := hv.out h
                  injection e with e e2
                  have e3 : j = j2 := by omega
                  subst e3 e2
                  obtain ⟨D, _, _, _, hf⟩ := hA1.out.tt.ts.find_at hj2 hi hp
                  exact ⟨D + 1, by rw [← hR, hf]⟩
                obtain ⟨r1, r2, r3⟩ := R
                have hwn : IntKind.i64.wrap ((pre.length : Int) + 1) = (pre.length : Int) + 1 := IntWalk.i64_in _ (by omega)
                clear cT2 hd gd hfin0 hI2 hA2 hI hAW hR cS cF cj fj h0b h1b
                cases r3 with
                | false =>
                  have hn : ¬ pre ++ [((j : Int), x2)] <+: L := fun h => by
                    obtain ⟨D, e⟩ := hval.out h
                    injection e with _ e; injection e with _ e; cases e
                  clear cN fN
                  gi_wp2
                  exact ⟨(hko.out.trans (KeepsOthers.setCell w3 _ _)).from _, rfl, hn⟩
                | true =>
                  by_cases hr1 : r1 = j
                  · subst hr1
                    have hne : ((r1 : Int) != (r1 : Int)) = false := by simp
                    have hI4 : Hid (IL V1 (w3.setCell ⟨Bn, 0, none⟩ (.int .i64 ((pre.length : Int) + 1))) T Bf B2 Bl Bn sz (pre.length + 1) (fl.set r1 true)) := Lib.hid (by
                      have := hI3.out.setN (pre.length + 1)
                      rwa [show (((pre.length + 1 : Nat)) : Int) = (pre.length : Int) + 1 from by omega] at this)
                    have hkp4 := Lib.hid (hkp.out.trans (hI3.out.kpl (es := es) (W' := w3.setCell ⟨Bn, 0, none⟩ (.int .i64 ((pre.length : Int) + 1))) ((KeptR.refl _ w3).set (.inl (.inr rfl))) hTlo hElo))
                    have hfl4 : Hid (pre ++ [((r1 : Int), x2)] <+: L → ∀ j, j < sz → (fl.set r1 true)[j]? = some ((pre ++ [((r1 : Int), x2)]).any (fun y => y.1 == (j : Int)))) := Lib.hid fun h j hj2 => by
                      have h1 := hfp.out ((List.prefix_append _ _).trans h) j hj2
                      rw [List.any_append, List.getElem?_set]
                      by_cases e : r1 = j
                      · subst e
                        rw [if_pos rfl, if_pos (by omega)]
                        simp
                      · rw [if_neg e, h1]
                        have : ((r1 : Int) == (j : Int)) = false := by simp; omega
                        simp [this]
                    have hs4 : Hid (V4.heap.size ≤ (w3.setCell ⟨Bn, 0, none⟩ (.int .i64 ((pre.length : Int) + 1))).heap.size) := Lib.hid (by
                      have := hkp4.out.size
                      omega)
                    clear cR fR hI3 hA3 hkp hval hfp hv
                    gi_wp2
                    refine ⟨(hko.out.trans (KeepsOthers.setCell w3 _ _)).from _, hkp4.out, fl.set r1 true, ?_, by rw [List.length_set]; exact hfl, hfl4.out, hs4.out⟩
                    rw [List.length_append]; exact hI4.out
                  · have hn : ¬ pre ++ [((j : Int), x2)] <+: L := fun h => by
                      obtain ⟨D, e⟩ := hval.out h
                      injection e with e _; exact hr1 e
                    have hne : ((r1 : Int) != (j : Int)) = true := by simp; omega
                    clear cN fN
                    gi_wp2
                    exact ⟨(hko.out.trans (KeepsOthers.setCell w3 _ _)).from _, rfl, hn⟩
      case doneA =>
        rintro D1 pre W hDl hxs ⟨fl, hI, hfl, hfp, hsW⟩ hK
        rw [hLd.out] at hxs
        subst hxs
        rw [htm]
        have hfull : Hid (∀ j, j < sz → fl[j]? = some (pl j).isSome) := Lib.hid fun j hj => by
          rw [hfp (List.prefix_refl _) j hj, ← any_lay hj, hLd.out]
        have hll : pre.length = es.length := by rw [← hLd.out]; exact hA1.out.tt.ts.lay_len
        have hA5 := Lib.hid (hA1.out.below hI.bel)
        have cT := hA5.out.bT.cell
        have cN := hI.bN.cell
        have hne : ((pre.length : Int) != (es.length : Int)) = false := by rw [hll]; simp
        have hL : Hid (∀ n, Calls Try.prog 23 #[.pointer (some ⟨T, 0, none⟩)] (W.drewN n) fun e w' => e = .returned (.int .i64 es.length) ∧ ∃ m, w' = W.drewN m) := Lib.hid fun n => (ix_len (hA5.out.tt.ts.tab.below (below_drewN (Below.refl _ _) n))).mono fun e w' h => ⟨h.1, n, h.2.symm⟩
        replace hI := Lib.hid hI
        replace hK := Lib.hid hK
        clear hfp
        go_wp2_with fail
        go_quiet ((go_at_call 23; with_reducible exact hL.out _))
        have g1 : Gr W (W.drewN nq) := below_drewN (Below.refl _ _) _
        generalize W.drewN nq = V5 at g1 ⊢
        replace hI := Lib.hid (hI.out.below g1)
        replace hA5 := Lib.hid (hA1.out.below hI.out.bel)
        replace hK := Lib.hid ((Below.block g1 _ (Array.getElem?_eq_some_iff.1 hK.out).1).trans hK.out)
        have bS5 := bx_gr bS1 hI.out.bel
        clear hL hne cN cT g1
        go_wp2_with fail
        refine name_frame ?_
        intro tm2 htm2
        refine range_wide (P := Try.prog) (tm := tm2) (gf := 51) (lb := #[.pointer (some ⟨Bl, 0, none⟩)]) (by rw [htm2]; rfl) (enters_of Try.func51 (by kernel_rfl) rfl)
          (lay_stops 8 V5 hA5.out.tt.ts.tab (by omega) Bl hI.out.bL.lt hI.out.bL.cell) KpL.trans (fun W l o o' hl h hc _ => KpL.put (B0 := V5.heap.size) (by have := Below.size hI.out.bel; omega) W l o o' hl h hc) (fun _ => rfl)
          (fun _ W => Gr V5 W)
          (fun c pre _ => c = .ret ∧ ¬ pre <+: layL es pl sz)
          (fun pre A B row hs hg hr => Below.grown hs hg (Below.size hs) (fun k e => (hr k e).1))
          (fun c pre A B row hs hg hr => hs)
          (Gr.refl _)
          (fun _ _ _ => True) (fun _ _ _ _ _ _ _ _ _ => trivial)
          (fun x _ tm => ((((tm.setIfInBounds 129 (.int .i64 x.1)).setIfInBounds 130 (.int .i64 x.2)).setIfInBounds 18 (.int .i64 x.1)).setIfInBounds 19 (.int .i64 x.2)))
          ?assignB ?bodyB ?doneB ?stopB
        case assignB =>
          rintro l pre x W K hi hK
          rw [htm2] at hK ⊢
          gi_wp2
          exact hK 0 W ((ko_gr (Gr.refl W)).from _) (KpL.refl _ _ _) hi trivial
        case bodyB =>
          as_aux_lemma =>
            rintro l pre x b W hl hr hg5 _ hlt
            rw [htm2]
            clear htm2 htm
            repeat (clear ‹∀ (a : Act) (w : World), Code.wp _ _ _ a w → _›)
            obtain ⟨x1, x2⟩ := x
            dsimp only
            have hAW := hA5.out.below hg5
            have cW := hAW.bW.cell
            have cS := (bx_gr bS5 hg5).cell
            have cSd := (bx_gr bS5 (hg5.drew)).cell
            have cWd := (bx_gr hAW.bW ((Gr.refl W).drew)).cell
            simp only [List.setIfInBounds_toArray, List.set_cons_succ, List.set_cons_zero]
            obtain ⟨H, hH⟩ : ∃ H, hashF way x2 = H := ⟨_, rfl⟩
            obtain ⟨h0, h1⟩ := hashF_range way x2
            rw [hH] at h0 h1
            have hcl : ∀ (q : Nat) (X : World), X.cell? ⟨q, 0, none⟩ = some (.int .i64 way) → Calls Try.prog 42 #[.int .i64 x2, .pointer (some ⟨q, 0, none⟩)] X fun e w' => e = .returned (.int .u64 H) ∧ X = w' := fun q X hc => by rw [← hH]; exact ix_hash way x2 q X hc
            obtain ⟨m, hm⟩ : ∃ m, homeN H sz = m := ⟨_, rfl⟩
            have hmlt : m < sz := by rw [← hm]; exact Nat.mod_lt _ (by omega)
            have hws : IntKind.u64.wrap (sz : Int) = sz := by rw [wrap_u64_eq]; omega
            have hne : ¬ (sz : Int) = 0 := by omega
            have hr : H % (sz : Int) = (m : Int) := by obtain ⟨n, rfl⟩ := Int.eq_ofNat_of_zero_le h0; rw [← hm]; rfl
            have hw2 : IntKind.i64.wrap (m : Int) = m := IntWalk.i64_in _ (by omega)
            have hw3 : IntKind.u64.wrap (m : Int) = m := by rw [wrap_u64_eq]; omega
            replace hcl := Lib.hid hcl
            replace hH := Lib.hid hH
            replace hm := Lib.hid hm
            gi_wp2
            refine region_round (by kernel_rfl) (by kernel_rfl) ?_
            refine wpAny_take (i := 2) (v := ?_) rfl (by kernel_rfl) (by kernel_rfl) (by kernel_rfl) (fun _ _ _ h => h) (Or.inl ⟨by rfl, ?_⟩) ?_
            rotate_left 1
            · intro w
              go_simp
              try with_reducible rfl
            refine wpAny_ready (rs := [0, 4]) (by kernel_rfl) (by simp) ?_
            refine AllReady.cons rfl (fun K hK => ?_) ?_
            · go_simp
              refine hK _ _ ?_
              clear hK K
              refine wpAny_ready (rs := [1, 4]) (by kernel_rfl) (by simp) ?_
              refine AllReady.cons rfl (fun K hK => ?_) ?_
              · go_simp
                refine (ix_hashesC way _).mono ?_
                rintro e wh ⟨hq, rfl, bh, gH⟩
                have gW : Gr W wh := Gr.trans (Gr.refl W).drew gH
                have gX : Gr V5 wh := Gr.trans hg5 gW
                have cSx := (bx_gr bS5 gX).cell
                have bhc := bh.cell
                refine hK _ _ ?_
                clear hK K
                refine wpAny_ready (rs := [3, 4]) (by kernel_rfl) (by simp) ?_
                refine AllReady.cons rfl (fun K hK => ?_) ?_
                · go_simp
                  refine (hcl.out _ _ bhc).mono ?_
                  rintro e wk ⟨rfl, rfl⟩
                  refine hK _ _ ?_
                  clear hK K
                  refine wpAny_ready (rs := [4]) (by kernel_rfl) (by simp) ?_
                  refine AllReady.cons rfl (fun K hK => ?_) ?_
                  · go_simp
                    refine hK _ _ ?_
                    clear hK K
                    refine wpAny_take (i := 5) (v := ?_) rfl (by kernel_rfl) (by kernel_rfl) (by kernel_rfl) (fun _ _ _ h => h) (Or.inl ⟨by rfl, ?_⟩) ?_
                    rotate_left 1
                    · intro w
                      go_simp
                      try with_reducible rfl
                    refine wpAny_ready (rs := [6]) (by kernel_rfl) (by simp) ?_
                    refine AllReady.cons rfl (fun K hK => ?_) ?_
                    · go_simp
                      go_wp2
                      try (refine hK _ _ ?_; clear hK K)
                      refine wpAny_take (i := 7) (v := ?_) rfl (by kernel_rfl) (by kernel_rfl) (by kernel_rfl) (fun _ _ _ h => h) (Or.inl ⟨by rfl, ?_⟩) ?_
                      rotate_left 1
                      · intro w
                        go_simp
                        try with_reducible rfl
                      refine wpAny_take (i := 8) (v := ?_) rfl (by kernel_rfl) (by kernel_rfl) (by kernel_rfl) (fun _ _ _ h => h) (Or.inl ⟨by rfl, ?_⟩) ?_
                      rotate_left 1
                      · intro w
                        go_simp
                        try with_reducible rfl
                      refine wpAny_done (by kernel_rfl) ?_ _
                      refine NP.normal ?_
                      replace gW := Lib.hid gW
                      clear gX cSx bhc bh gH cW cS cSd cWd hcl hws hr hw2 hw3
                      gi_wp2
                      gi_loopw [21, 22] (fun sv pv wr => ∃ t : Nat, t < sz ∧ sv = .int .i64 ((t : Int) + 1) ∧ pv = .int .i64 (((m + t) % sz : Nat) : Int) ∧ Hid (∀ t', t' < t → (((m + t') % sz : Nat) : Int) ≠ x1 ∧ pl ((m + t') % sz) ≠ none) ∧ Hid (Gr W wr)) (fun sv _ _ => sz - (intOf sv).toNat)
                      case atStart => exact ⟨0, by omega, rfl, by rw [Nat.add_zero, Nat.mod_eq_of_lt hmlt], Lib.hid (fun t h => absurd h (Nat.not_lt_zero _)), gW⟩
                      case round =>
                        clear gW
                        obtain ⟨t, ht, rfl, rfl, hbef, hg⟩ := hrel
                        obtain ⟨p, hp⟩ : ∃ p, (m + t) % sz = p := ⟨_, rfl⟩
                        rw [hp]
                        have hpl : p < sz := by rw [← hp]; exact Nat.mod_lt _ (by omega)
                        have hgV := Lib.hid (hg5.trans hg.out)
                        have hAr := Lib.hid (hA5.out.below hgV.out)
                        have hIr := Lib.hid (hI.out.below hgV.out)
                        have cR := hAr.out.bR.cell
                        have fR := hAr.out.bR.frozen
                        have hvalid : Hid (pre ++ [(x1, x2)] <+: layL es pl sz → ∃ D, D < sz ∧ (((m + D) % sz : Nat) : Int) = x1 ∧ (∀ t', t' < D → pl ((m + t') % sz) ≠ none) ∧ (frOf way sz es pl x2).2.1 = D + 1) := Lib.hid fun h => by
                          obtain ⟨j, hj, i, hi, hpj, e, _⟩ := hA1.out.tt.ts.lay_next h
                          injection e with e e2
                          subst e2
                          obtain ⟨D, hD, h1, h2, h3⟩ := hA1.out.tt.ts.find_at hj hi hpj
                          rw [hH.out, hm.out] at h1 h2
                          exact ⟨D, hD, by rw [h1, e], h2, by rw [h3]⟩
                        by_cases hpx : (p : Int) = x1
                        · have hpb : ((p : Int) != x1) = false := by simp [hpx]
                          have cT := hAr.out.bT.cell
                          obtain ⟨R, hR⟩ : ∃ R, frOf way sz es pl x2 = R := ⟨_, rfl⟩
                          have hval : Hid (pre ++ [(x1, x2)] <+: layL es pl sz → R.2.1 = t + 1) := Lib.hid fun h => by
                            obtain ⟨D, hD, h1, _, h3⟩ := hvalid.out h
                            have h4 : (m + D) % sz = (m + t) % sz := by rw [hp]; omega
                            have := mod_cancel hD ht h4
                            rw [← hR, h3, this]
                          gi_wp2
                          refine ⟨trivial, CallsIn.inRound l (callsIn_wide.2 ((ix_probes hAr.out.tt.ts.tab x2 hAr.out.tt.ts.free (R := R) hR).mono ?_))⟩
                          rintro e w4 ⟨rfl, hd⟩
                          have g4 : Gr W w4 := hg.out.trans (hd.below _)
                          have hA4 := Lib.hid (hA5.out.below (hg5.trans g4))
                          have cR4 := hA4.out.bR.cell
                          have fR4 := hA4.out.bR.frozen
                          clear cT cR fR hd
                          replace g4 := Lib.hid g4
                          by_cases hs : R.2.1 = t + 1
                          · have hsb : ((R.2.1 : Int) != (t : Int) + 1) = false := by rw [hs]; simp
                            clear cR4 fR4
                            gi_wp2
                            exact ⟨(ko_gr g4.out).from _, KpL.below (by have := Below.size hI.out.bel; have := Below.size hg5; omega) g4.out, hg5.trans g4.out⟩
                          · have hsb : ((R.2.1 : Int) != (t : Int) + 1) = true := by simp; omega
                            have hn : ¬ pre ++ [(x1, x2)] <+: layL es pl sz := fun h => hs (hval.out h)
                            gi_wp2
                            exact ⟨((ko_gr g4.out).trans (KeepsOthers.setCell w4 _ _)).from _, rfl, hn⟩
                        · have hpb : ((p : Int) != x1) = true := by simp [hpx]
                          have cF := hIr.out.bF.cell
                          have cS := (bx_gr bS5 hgV.out).cell
                          have hcp := hIr.out.cell (hfull.out p hpl)
                          cases hpp : pl p with
                          | none =>
                            rw [hpp] at hcp
                            change wr.cell? _ = some (Value.bool false) at hcp
                            have hn : ¬ pre ++ [(x1, x2)] <+: layL es pl sz := fun h => by
                              obtain ⟨D, hD, h1, h2, _⟩ := hvalid.out h
                              rcases Nat.lt_trichotomy t D with h3 | h3 | h3
                              · have := h2 t h3
                                rw [hp] at this
                                exact this hpp
                              · subst h3
                                rw [hp] at h1
                                exact hpx h1
                              · exact (hbef.out D h3).1 h1
                            gi_wp2
                            exact ⟨((ko_gr hg.out).trans (KeepsOthers.setCell wr _ _)).from _, rfl, hn⟩
                          | some q =>
                            rw [hpp] at hcp
                            change wr.cell? _ = some (Value.bool true) at hcp
                            have hbef2 : Hid (∀ t', t' < t + 1 → (((m + t') % sz : Nat) : Int) ≠ x1 ∧ pl ((m + t') % sz) ≠ none) := Lib.hid fun t' ht' => by
                              rcases Nat.lt_or_ge t' t with h3 | h3
                              · exact hbef.out t' h3
                              · obtain rfl : t' = t := by omega
                                rw [hp]
                                exact ⟨hpx, by rw [hpp]; intro e; cases e⟩
                            have hts : Hid (t + 1 < sz) := Lib.hid (by
                              have h1 := hA1.out.tt.ts.way_le (m := m) (D := t + 1) (by omega) (fun t' ht' => (hbef2.out t' ht').2)
                              have h2 := hA1.out.tt.ts.lt
                              omega)
                            have hnxt : Hid ((m + (t + 1)) % sz = (p + 1) % sz) := Lib.hid (by rw [← hp, Nat.mod_add_mod, Nat.add_assoc])
                            have hw1 : IntKind.i64.wrap ((p : Int) + 1) = (p : Int) + 1 := IntWalk.i64_in _ (by omega)
                            have hw4 : IntKind.i64.wrap ((t : Int) + 1 + 1) = (t : Int) + 1 + 1 := IntWalk.i64_in _ (by omega)
                            clear cR fR
                            gi_wp2
                            go_roundw
                            case rel => exact ⟨t + 1, hts.out, by go_num, by rw [hnxt.out]; rfl, hbef2, hg⟩
                            case measure => have := hts.out; simp [intOf]; omega
                    exact AllReady.nil
                  exact AllReady.nil
                refine AllReady.cons rfl (fun K hK => ?_) ?_
                · go_simp
                  refine hK _ _ ?_
                  clear hK K
                  refine wpAny_take (i := 5) (v := ?_) rfl (by kernel_rfl) (by kernel_rfl) (by kernel_rfl) (fun _ _ _ h => h) (Or.inl ⟨by rfl, ?_⟩) ?_
                  rotate_left 1
                  · intro w
                    go_simp
                    try with_reducible rfl
                  refine wpAny_ready (rs := [3]) (by kernel_rfl) (by simp) ?_
                  refine AllReady.cons rfl (fun K hK => ?_) ?_
                  · go_simp
                    refine (hcl.out _ _ bhc).mono ?_
                    rintro e wk ⟨rfl, rfl⟩
                    refine hK _ _ ?_
                    clear hK K
                    refine wpAny_ready (rs := [6]) (by kernel_rfl) (by simp) ?_
                    refine AllReady.cons rfl (fun K hK => ?_) ?_
                    · go_simp
                      go_wp2
                      try (refine hK _ _ ?_; clear hK K)
                      refine wpAny_take (i := 7) (v := ?_) rfl (by kernel_rfl) (by kernel_rfl) (by kernel_rfl) (fun _ _ _ h => h) (Or.inl ⟨by rfl, ?_⟩) ?_
                      rotate_left 1
                      · intro w
                        go_simp
                        try with_reducible rfl
                      refine wpAny_take (i := 8) (v := ?_) rfl (by kernel_rfl) (by kernel_rfl) (by kernel_rfl) (fun _ _ _ h => h) (Or.inl ⟨by rfl, ?_⟩) ?_
                      rotate_left 1
                      · intro w
                        go_simp
                        try with_reducible rfl
                      refine wpAny_done (by kernel_rfl) ?_ _
                      refine NP.normal ?_
                      replace gW := Lib.hid gW
                      clear gX cSx bhc bh gH cW cS cSd cWd hcl hws hr hw2 hw3
                      gi_wp2
                      gi_loopw [21, 22] (fun sv pv wr => ∃ t : Nat, t < sz ∧ sv = .int .i64 ((t : Int) + 1) ∧ pv = .int .i64 (((m + t) % sz : Nat) : Int) ∧ Hid (∀ t', t' < t → (((m + t') % sz : Nat) : Int) ≠ x1 ∧ pl ((m + t') % sz) ≠ none) ∧ Hid (Gr W wr)) (fun sv _ _ => sz - (intOf sv).toNat)
                      case atStart => exact ⟨0, by omega, rfl, by rw [Nat.add_zero, Nat.mod_eq_of_lt hmlt], Lib.hid (fun t h => absurd h (Nat.not_lt_zero _)), gW⟩
                      case round =>
                        clear gW
                        obtain ⟨t, ht, rfl, rfl, hbef, hg⟩ := hrel
                        obtain ⟨p, hp⟩ : ∃ p, (m + t) % sz = p := ⟨_, rfl⟩
                        rw [hp]
                        have hpl : p < sz := by rw [← hp]; exact Nat.mod_lt _ (by omega)
                        have hgV := Lib.hid (hg5.trans hg.out)
                        have hAr := Lib.hid (hA5.out.below hgV.out)
                        have hIr := Lib.hid (hI.out.below hgV.out)
                        have cR := hAr.out.bR.cell
                        have fR := hAr.out.bR.frozen
                        have hvalid : Hid (pre ++ [(x1, x2)] <+: layL es pl sz → ∃ D, D < sz ∧ (((m + D) % sz : Nat) : Int) = x1 ∧ (∀ t', t' < D → pl ((m + t') % sz) ≠ none) ∧ (frOf way sz es pl x2).2.1 = D + 1) := Lib.hid fun h => by
                          obtain ⟨j, hj, i, hi, hpj, e, _⟩ := hA1.out.tt.ts.lay_next h
                          injection e with e e2
                          subst e2
                          obtain ⟨D, hD, h1, h2, h3⟩ := hA1.out.tt.ts.find_at hj hi hpj
                          rw [hH.out, hm.out] at h1 h2
                          exact ⟨D, hD, by rw [h1, e], h2, by rw [h3]⟩
                        by_cases hpx : (p : Int) = x1
                        · have hpb : ((p : Int) != x1) = false := by simp [hpx]
                          have cT := hAr.out.bT.cell
                          obtain ⟨R, hR⟩ : ∃ R, frOf way sz es pl x2 = R := ⟨_, rfl⟩
                          have hval : Hid (pre ++ [(x1, x2)] <+: layL es pl sz → R.2.1 = t + 1) := Lib.hid fun h => by
                            obtain ⟨D, hD, h1, _, h3⟩ := hvalid.out h
                            have h4 : (m + D) % sz = (m + t) % sz := by rw [hp]; omega
                            have := mod_cancel hD ht h4
                            rw [← hR, h3, this]
                          gi_wp2
                          refine ⟨trivial, CallsIn.inRound l (callsIn_wide.2 ((ix_probes hAr.out.tt.ts.tab x2 hAr.out.tt.ts.free (R := R) hR).mono ?_))⟩
                          rintro e w4 ⟨rfl, hd⟩
                          have g4 : Gr W w4 := hg.out.trans (hd.below _)
                          have hA4 := Lib.hid (hA5.out.below (hg5.trans g4))
                          have cR4 := hA4.out.bR.cell
                          have fR4 := hA4.out.bR.frozen
                          clear cT cR fR hd
                          replace g4 := Lib.hid g4
                          by_cases hs : R.2.1 = t + 1
                          · have hsb : ((R.2.1 : Int) != (t : Int) + 1) = false := by rw [hs]; simp
                            clear cR4 fR4
                            gi_wp2
                            exact ⟨(ko_gr g4.out).from _, KpL.below (by have := Below.size hI.out.bel; have := Below.size hg5; omega) g4.out, hg5.trans g4.out⟩
                          · have hsb : ((R.2.1 : Int) != (t : Int) + 1) = true := by simp; omega
                            have hn : ¬ pre ++ [(x1, x2)] <+: layL es pl sz := fun h => hs (hval.out h)
                            gi_wp2
                            exact ⟨((ko_gr g4.out).trans (KeepsOthers.setCell w4 _ _)).from _, rfl, hn⟩
                        · have hpb : ((p : Int) != x1) = true := by simp [hpx]
                          have cF := hIr.out.bF.cell
                          have cS := (bx_gr bS5 hgV.out).cell
                          have hcp := hIr.out.cell (hfull.out p hpl)
                          cases hpp : pl p with
                          | none =>
                            rw [hpp] at hcp
                            change wr.cell? _ = some (Value.bool false) at hcp
                            have hn : ¬ pre ++ [(x1, x2)] <+: layL es pl sz := fun h => by
                              obtain ⟨D, hD, h1, h2, _⟩ := hvalid.out h
                              rcases Nat.lt_trichotomy t D with h3 | h3 | h3
                              · have := h2 t h3
                                rw [hp] at this
                                exact this hpp
                              · subst h3
                                rw [hp] at h1
                                exact hpx h1
                              · exact (hbef.out D h3).1 h1
                            gi_wp2
                            exact ⟨((ko_gr hg.out).trans (KeepsOthers.setCell wr _ _)).from _, rfl, hn⟩
                          | some q =>
                            rw [hpp] at hcp
                            change wr.cell? _ = some (Value.bool true) at hcp
                            have hbef2 : Hid (∀ t', t' < t + 1 → (((m + t') % sz : Nat) : Int) ≠ x1 ∧ pl ((m + t') % sz) ≠ none) := Lib.hid fun t' ht' => by
                              rcases Nat.lt_or_ge t' t with h3 | h3
                              · exact hbef.out t' h3
                              · obtain rfl : t' = t := by omega
                                rw [hp]
                                exact ⟨hpx, by rw [hpp]; intro e; cases e⟩
                            have hts : Hid (t + 1 < sz) := Lib.hid (by
                              have h1 := hA1.out.tt.ts.way_le (m := m) (D := t + 1) (by omega) (fun t' ht' => (hbef2.out t' ht').2)
                              have h2 := hA1.out.tt.ts.lt
                              omega)
                            have hnxt : Hid ((m + (t + 1)) % sz = (p + 1) % sz) := Lib.hid (by rw [← hp, Nat.mod_add_mod, Nat.add_assoc])
                            have hw1 : IntKind.i64.wrap ((p : Int) + 1) = (p : Int) + 1 := IntWalk.i64_in _ (by omega)
                            have hw4 : IntKind.i64.wrap ((t : Int) + 1 + 1) = (t : Int) + 1 + 1 := IntWalk.i64_in _ (by omega)
                            clear cR fR
                            gi_wp2
                            go_roundw
                            case rel => exact ⟨t + 1, hts.out, by go_num, by rw [hnxt.out]; rfl, hbef2, hg⟩
                            case measure => have := hts.out; simp [intOf]; omega
                    exact AllReady.nil
                  exact AllReady.nil
                exact AllReady.nil
              refine AllReady.cons rfl (fun K hK => ?_) ?_
              · go_simp
                refine hK _ _ ?_
                clear hK K
                refine wpAny_take (i := 5) (v := ?_) rfl (by kernel_rfl) (by kernel_rfl) (by kernel_rfl) (fun _ _ _ h => h) (Or.inl ⟨by rfl, ?_⟩) ?_
                rotate_left 1
                · intro w
                  go_simp
                  try with_reducible rfl
                refine wpAny_ready (rs := [1]) (by kernel_rfl) (by simp) ?_
                refine AllReady.cons rfl (fun K hK => ?_) ?_
                · go_simp
                  refine (ix_hashesC way _).mono ?_
                  rintro e wh ⟨hq, rfl, bh, gH⟩
                  have gW : Gr W wh := Gr.trans (Gr.refl W).drew gH
                  have gX : Gr V5 wh := Gr.trans hg5 gW
                  have cSx := (bx_gr bS5 gX).cell
                  have bhc := bh.cell
                  refine hK _ _ ?_
                  clear hK K
                  refine wpAny_ready (rs := [3]) (by kernel_rfl) (by simp) ?_
                  refine AllReady.cons rfl (fun K hK => ?_) ?_
                  · go_simp
                    refine (hcl.out _ _ bhc).mono ?_
                    rintro e wk ⟨rfl, rfl⟩
                    refine hK _ _ ?_
                    clear hK K
                    refine wpAny_ready (rs := [6]) (by kernel_rfl) (by simp) ?_
                    refine AllReady.cons rfl (fun K hK => ?_) ?_
                    · go_simp
                      go_wp2
                      try (refine hK _ _ ?_; clear hK K)
                      refine wpAny_take (i := 7) (v := ?_) rfl (by kernel_rfl) (by kernel_rfl) (by kernel_rfl) (fun _ _ _ h => h) (Or.inl ⟨by rfl, ?_⟩) ?_
                      rotate_left 1
                      · intro w
                        go_simp
                        try with_reducible rfl
                      refine wpAny_take (i := 8) (v := ?_) rfl (by kernel_rfl) (by kernel_rfl) (by kernel_rfl) (fun _ _ _ h => h) (Or.inl ⟨by rfl, ?_⟩) ?_
                      rotate_left 1
                      · intro w
                        go_simp
                        try with_reducible rfl
                      refine wpAny_done (by kernel_rfl) ?_ _
                      refine NP.normal ?_
                      replace gW := Lib.hid gW
                      clear gX cSx bhc bh gH cW cS cSd cWd hcl hws hr hw2 hw3
                      gi_wp2
                      gi_loopw [21, 22] (fun sv pv wr => ∃ t : Nat, t < sz ∧ sv = .int .i64 ((t : Int) + 1) ∧ pv = .int .i64 (((m + t) % sz : Nat) : Int) ∧ Hid (∀ t', t' < t → (((m + t') % sz : Nat) : Int) ≠ x1 ∧ pl ((m + t') % sz) ≠ none) ∧ Hid (Gr W wr)) (fun sv _ _ => sz - (intOf sv).toNat)
                      case atStart => exact ⟨0, by omega, rfl, by rw [Nat.add_zero, Nat.mod_eq_of_lt hmlt], Lib.hid (fun t h => absurd h (Nat.not_lt_zero _)), gW⟩
                      case round =>
                        clear gW
                        obtain ⟨t, ht, rfl, rfl, hbef, hg⟩ := hrel
                        obtain ⟨p, hp⟩ : ∃ p, (m + t) % sz = p := ⟨_, rfl⟩
                        rw [hp]
                        have hpl : p < sz := by rw [← hp]; exact Nat.mod_lt _ (by omega)
                        have hgV := Lib.hid (hg5.trans hg.out)
                        have hAr := Lib.hid (hA5.out.below hgV.out)
                        have hIr := Lib.hid (hI.out.below hgV.out)
                        have cR := hAr.out.bR.cell
                        have fR := hAr.out.bR.frozen
                        have hvalid : Hid (pre ++ [(x1, x2)] <+: layL es pl sz → ∃ D, D < sz ∧ (((m + D) % sz : Nat) : Int) = x1 ∧ (∀ t', t' < D → pl ((m + t') % sz) ≠ none) ∧ (frOf way sz es pl x2).2.1 = D + 1) := Lib.hid fun h => by
                          obtain ⟨j, hj, i, hi, hpj, e, _⟩ := hA1.out.tt.ts.lay_next h
                          injection e with e e2
                          subst e2
                          obtain ⟨D, hD, h1, h2, h3⟩ := hA1.out.tt.ts.find_at hj hi hpj
                          rw [hH.out, hm.out] at h1 h2
                          exact ⟨D, hD, by rw [h1, e], h2, by rw [h3]⟩
                        by_cases hpx : (p : Int) = x1
                        · have hpb : ((p : Int) != x1) = false := by simp [hpx]
                          have cT := hAr.out.bT.cell
                          obtain ⟨R, hR⟩ : ∃ R, frOf way sz es pl x2 = R := ⟨_, rfl⟩
                          have hval : Hid (pre ++ [(x1, x2)] <+: layL es pl sz → R.2.1 = t + 1) := Lib.hid fun h => by
                            obtain ⟨D, hD, h1, _, h3⟩ := hvalid.out h
                            have h4 : (m + D) % sz = (m + t) % sz := by rw [hp]; omega
                            have := mod_cancel hD ht h4
                            rw [← hR, h3, this]
                          gi_wp2
                          refine ⟨trivial, CallsIn.inRound l (callsIn_wide.2 ((ix_probes hAr.out.tt.ts.tab x2 hAr.out.tt.ts.free (R := R) hR).mono ?_))⟩
                          rintro e w4 ⟨rfl, hd⟩
                          have g4 : Gr W w4 := hg.out.trans (hd.below _)
                          have hA4 := Lib.hid (hA5.out.below (hg5.trans g4))
                          have cR4 := hA4.out.bR.cell
                          have fR4 := hA4.out.bR.frozen
                          clear cT cR fR hd
                          replace g4 := Lib.hid g4
                          by_cases hs : R.2.1 = t + 1
                          · have hsb : ((R.2.1 : Int) != (t : Int) + 1) = false := by rw [hs]; simp
                            clear cR4 fR4
                            gi_wp2
                            exact ⟨(ko_gr g4.out).from _, KpL.below (by have := Below.size hI.out.bel; have := Below.size hg5; omega) g4.out, hg5.trans g4.out⟩
                          · have hsb : ((R.2.1 : Int) != (t : Int) + 1) = true := by simp; omega
                            have hn : ¬ pre ++ [(x1, x2)] <+: layL es pl sz := fun h => hs (hval.out h)
                            gi_wp2
                            exact ⟨((ko_gr g4.out).trans (KeepsOthers.setCell w4 _ _)).from _, rfl, hn⟩
                        · have hpb : ((p : Int) != x1) = true := by simp [hpx]
                          have cF := hIr.out.bF.cell
                          have cS := (bx_gr bS5 hgV.out).cell
                          have hcp := hIr.out.cell (hfull.out p hpl)
                          cases hpp : pl p with
                          | none =>
                            rw [hpp] at hcp
                            change wr.cell? _ = some (Value.bool false) at hcp
                            have hn : ¬ pre ++ [(x1, x2)] <+: layL es pl sz := fun h => by
                              obtain ⟨D, hD, h1, h2, _⟩ := hvalid.out h
                              rcases Nat.lt_trichotomy t D with h3 | h3 | h3
                              · have := h2 t h3
                                rw [hp] at this
                                exact this hpp
                              · subst h3
                                rw [hp] at h1
                                exact hpx h1
                              · exact (hbef.out D h3).1 h1
                            gi_wp2
                            exact ⟨((ko_gr hg.out).trans (KeepsOthers.setCell wr _ _)).from _, rfl, hn⟩
                          | some q =>
                            rw [hpp] at hcp
                            change wr.cell? _ = some (Value.bool true) at hcp
                            have hbef2 : Hid (∀ t', t' < t + 1 → (((m + t') % sz : Nat) : Int) ≠ x1 ∧ pl ((m + t') % sz) ≠ none) := Lib.hid fun t' ht' => by
                              rcases Nat.lt_or_ge t' t with h3 | h3
                              · exact hbef.out t' h3
                              · obtain rfl : t' = t := by omega
                                rw [hp]
                                exact ⟨hpx, by rw [hpp]; intro e; cases e⟩
                            have hts : Hid (t + 1 < sz) := Lib.hid (by
                              have h1 := hA1.out.tt.ts.way_le (m := m) (D := t + 1) (by omega) (fun t' ht' => (hbef2.out t' ht').2)
                              have h2 := hA1.out.tt.ts.lt
                              omega)
                            have hnxt : Hid ((m + (t + 1)) % sz = (p + 1) % sz) := Lib.hid (by rw [← hp, Nat.mod_add_mod, Nat.add_assoc])
                            have hw1 : IntKind.i64.wrap ((p : Int) + 1) = (p : Int) + 1 := IntWalk.i64_in _ (by omega)
                            have hw4 : IntKind.i64.wrap ((t : Int) + 1 + 1) = (t : Int) + 1 + 1 := IntWalk.i64_in _ (by omega)
                            clear cR fR
                            gi_wp2
                            go_roundw
                            case rel => exact ⟨t + 1, hts.out, by go_num, by rw [hnxt.out]; rfl, hbef2, hg⟩
                            case measure => have := hts.out; simp [intOf]; omega
                    exact AllReady.nil
                  exact AllReady.nil
                exact AllReady.nil
              exact AllReady.nil
            refine AllReady.cons rfl (fun K hK => ?_) ?_
            · go_simp
              refine hK _ _ ?_
              clear hK K
              refine wpAny_take (i := 5) (v := ?_) rfl (by kernel_rfl) (by kernel_rfl) (by kernel_rfl) (fun _ _ _ h => h) (Or.inl ⟨by rfl, ?_⟩) ?_
              rotate_left 1
              · intro w
                go_simp
                try with_reducible rfl
              refine wpAny_ready (rs := [0]) (by kernel_rfl) (by simp) ?_
              refine AllReady.cons rfl (fun K hK => ?_) ?_
              · go_simp
                refine hK _ _ ?_
                clear hK K
                refine wpAny_ready (rs := [1]) (by kernel_rfl) (by simp) ?_
                refine AllReady.cons rfl (fun K hK => ?_) ?_
                · go_simp
                  refine (ix_hashesC way _).mono ?_
                  rintro e wh ⟨hq, rfl, bh, gH⟩
                  have gW : Gr W wh := Gr.trans (Gr.refl W).drew gH
                  have gX : Gr V5 wh := Gr.trans hg5 gW
                  have cSx := (bx_gr bS5 gX).cell
                  have bhc := bh.cell
                  refine hK _ _ ?_
                  clear hK K
                  refine wpAny_ready (rs := [3]) (by kernel_rfl) (by simp) ?_
                  refine AllReady.cons rfl (fun K hK => ?_) ?_
                  · go_simp
                    refine (hcl.out _ _ bhc).mono ?_
                    rintro e wk ⟨rfl, rfl⟩
                    refine hK _ _ ?_
                    clear hK K
                    refine wpAny_ready (rs := [6]) (by kernel_rfl) (by simp) ?_
                    refine AllReady.cons rfl (fun K hK => ?_) ?_
                    · go_simp
                      go_wp2
                      try (refine hK _ _ ?_; clear hK K)
                      refine wpAny_take (i := 7) (v := ?_) rfl (by kernel_rfl) (by kernel_rfl) (by kernel_rfl) (fun _ _ _ h => h) (Or.inl ⟨by rfl, ?_⟩) ?_
                      rotate_left 1
                      · intro w
                        go_simp
                        try with_reducible rfl
                      refine wpAny_take (i := 8) (v := ?_) rfl (by kernel_rfl) (by kernel_rfl) (by kernel_rfl) (fun _ _ _ h => h) (Or.inl ⟨by rfl, ?_⟩) ?_
                      rotate_left 1
                      · intro w
                        go_simp
                        try with_reducible rfl
                      refine wpAny_done (by kernel_rfl) ?_ _
                      refine NP.normal ?_
                      replace gW := Lib.hid gW
                      clear gX cSx bhc bh gH cW cS cSd cWd hcl hws hr hw2 hw3
                      gi_wp2
                      gi_loopw [21, 22] (fun sv pv wr => ∃ t : Nat, t < sz ∧ sv = .int .i64 ((t : Int) + 1) ∧ pv = .int .i64 (((m + t) % sz : Nat) : Int) ∧ Hid (∀ t', t' < t → (((m + t') % sz : Nat) : Int) ≠ x1 ∧ pl ((m + t') % sz) ≠ none) ∧ Hid (Gr W wr)) (fun sv _ _ => sz - (intOf sv).toNat)
                      case atStart => exact ⟨0, by omega, rfl, by rw [Nat.add_zero, Nat.mod_eq_of_lt hmlt], Lib.hid (fun t h => absurd h (Nat.not_lt_zero _)), gW⟩
                      case round =>
                        clear gW
                        obtain ⟨t, ht, rfl, rfl, hbef, hg⟩ := hrel
                        obtain ⟨p, hp⟩ : ∃ p, (m + t) % sz = p := ⟨_, rfl⟩
                        rw [hp]
                        have hpl : p < sz := by rw [← hp]; exact Nat.mod_lt _ (by omega)
                        have hgV := Lib.hid (hg5.trans hg.out)
                        have hAr := Lib.hid (hA5.out.below hgV.out)
                        have hIr := Lib.hid (hI.out.below hgV.out)
                        have cR := hAr.out.bR.cell
                        have fR := hAr.out.bR.frozen
                        have hvalid : Hid (pre ++ [(x1, x2)] <+: layL es pl sz → ∃ D, D < sz ∧ (((m + D) % sz : Nat) : Int) = x1 ∧ (∀ t', t' < D → pl ((m + t') % sz) ≠ none) ∧ (frOf way sz es pl x2).2.1 = D + 1) := Lib.hid fun h => by
                          obtain ⟨j, hj, i, hi, hpj, e, _⟩ := hA1.out.tt.ts.lay_next h
                          injection e with e e2
                          subst e2
                          obtain ⟨D, hD, h1, h2, h3⟩ := hA1.out.tt.ts.find_at hj hi hpj
                          rw [hH.out, hm.out] at h1 h2
                          exact ⟨D, hD, by rw [h1, e], h2, by rw [h3]⟩
                        by_cases hpx : (p : Int) = x1
                        · have hpb : ((p : Int) != x1) = false := by simp [hpx]
                          have cT := hAr.out.bT.cell
                          obtain ⟨R, hR⟩ : ∃ R, frOf way sz es pl x2 = R := ⟨_, rfl⟩
                          have hval : Hid (pre ++ [(x1, x2)] <+: layL es pl sz → R.2.1 = t + 1) := Lib.hid fun h => by
                            obtain ⟨D, hD, h1, _, h3⟩ := hvalid.out h
                            have h4 : (m + D) % sz = (m + t) % sz := by rw [hp]; omega
                            have := mod_cancel hD ht h4
                            rw [← hR, h3, this]
                          gi_wp2
                          refine ⟨trivial, CallsIn.inRound l (callsIn_wide.2 ((ix_probes hAr.out.tt.ts.tab x2 hAr.out.tt.ts.free (R := R) hR).mono ?_))⟩
                          rintro e w4 ⟨rfl, hd⟩
                          have g4 : Gr W w4 := hg.out.trans (hd.below _)
                          have hA4 := Lib.hid (hA5.out.below (hg5.trans g4))
                          have cR4 := hA4.out.bR.cell
                          have fR4 := hA4.out.bR.frozen
                          clear cT cR fR hd
                          replace g4 := Lib.hid g4
                          by_cases hs : R.2.1 = t + 1
                          · have hsb : ((R.2.1 : Int) != (t : Int) + 1) = false := by rw [hs]; simp
                            clear cR4 fR4
                            gi_wp2
                            exact ⟨(ko_gr g4.out).from _, KpL.below (by have := Below.size hI.out.bel; have := Below.size hg5; omega) g4.out, hg5.trans g4.out⟩
                          · have hsb : ((R.2.1 : Int) != (t : Int) + 1) = true := by simp; omega
                            have hn : ¬ pre ++ [(x1, x2)] <+: layL es pl sz := fun h => hs (hval.out h)
                            gi_wp2
                            exact ⟨((ko_gr g4.out).trans (KeepsOthers.setCell w4 _ _)).from _, rfl, hn⟩
                        · have hpb : ((p : Int) != x1) = true := by simp [hpx]
                          have cF := hIr.out.bF.cell
                          have cS := (bx_gr bS5 hgV.out).cell
                          have hcp := hIr.out.cell (hfull.out p hpl)
                          cases hpp : pl p with
                          | none =>
                            rw [hpp] at hcp
                            change wr.cell? _ = some (Value.bool false) at hcp
                            have hn : ¬ pre ++ [(x1, x2)] <+: layL es pl sz := fun h => by
                              obtain ⟨D, hD, h1, h2, _⟩ := hvalid.out h
                              rcases Nat.lt_trichotomy t D with h3 | h3 | h3
                              · have := h2 t h3
                                rw [hp] at this
                                exact this hpp
                              · subst h3
                                rw [hp] at h1
                                exact hpx h1
                              · exact (hbef.out D h3).1 h1
                            gi_wp2
                            exact ⟨((ko_gr hg.out).trans (KeepsOthers.setCell wr _ _)).from _, rfl, hn⟩
                          | some q =>
                            rw [hpp] at hcp
                            change wr.cell? _ = some (Value.bool true) at hcp
                            have hbef2 : Hid (∀ t', t' < t + 1 → (((m + t') % sz : Nat) : Int) ≠ x1 ∧ pl ((m + t') % sz) ≠ none) := Lib.hid fun t' ht' => by
                              rcases Nat.lt_or_ge t' t with h3 | h3
                              · exact hbef.out t' h3
                              · obtain rfl : t' = t := by omega
                                rw [hp]
                                exact ⟨hpx, by rw [hpp]; intro e; cases e⟩
                            have hts : Hid (t + 1 < sz) := Lib.hid (by
                              have h1 := hA1.out.tt.ts.way_le (m := m) (D := t + 1) (by omega) (fun t' ht' => (hbef2.out t' ht').2)
                              have h2 := hA1.out.tt.ts.lt
                              omega)
                            have hnxt : Hid ((m + (t + 1)) % sz = (p + 1) % sz) := Lib.hid (by rw [← hp, Nat.mod_add_mod, Nat.add_assoc])
                            have hw1 : IntKind.i64.wrap ((p : Int) + 1) = (p : Int) + 1 := IntWalk.i64_in _ (by omega)
                            have hw4 : IntKind.i64.wrap ((t : Int) + 1 + 1) = (t : Int) + 1 + 1 := IntWalk.i64_in _ (by omega)
                            clear cR fR
                            gi_wp2
                            go_roundw
                            case rel => exact ⟨t + 1, hts.out, by go_num, by rw [hnxt.out]; rfl, hbef2, hg⟩
                            case measure => have := hts.out; simp [intOf]; omega
                    exact AllReady.nil
                  exact AllReady.nil
                exact AllReady.nil
              exact AllReady.nil
            exact AllReady.nil
        case doneB =>
          rintro D2 pre2 W hDl2 hxs hg5 hK2
          rw [htm2]
          have hA6 := Lib.hid (hA5.out.below hg5)
          have hI6 := Lib.hid (hI.out.below hg5)
          have hD1l := (Array.getElem?_eq_some_iff.1 hK.out).1
          have hK6 := Lib.hid ((Below.block hg5 _ hD1l).trans hK.out)
          have bS6 := bx_gr bS5 hg5
          replace hK2 := Lib.hid hK2
          have hD2l := (Array.getElem?_eq_some_iff.1 hK2.out).1
          clear hxs hA5 hI hK bS5 htm htm2
          go_wp2_with fail
          go_loopw [23] (fun i wr => ∃ k : Nat, k ≤ xs2.length ∧ i = .int .i64 k ∧ Hid (Gr W wr)) (fun i _ => xs2.length - (intOf i).toNat)
          case atStart => exact ⟨0, Nat.zero_le _, rfl, Lib.hid (Gr.refl _)⟩
          case round =>
            obtain ⟨k, hk, rfl, hg⟩ := hrel
            have hAr := Lib.hid (hA6.out.below hg.out)
            have hIr := Lib.hid (hI6.out.below hg.out)
            by_cases hlt : k < xs2.length
            · obtain ⟨b2, off2, rfl, hcW⟩ := hA6.out.i2.cells k hlt
              obtain ⟨key, hkey⟩ : ∃ key, nth xs2 k = key := ⟨_, rfl⟩
              rw [hkey] at hcW
              clear hkey
              have hc := cell_below hg.out rfl hcW
              replace hcW := Lib.hid hcW
              obtain ⟨R, hR⟩ : ∃ R, frOf way sz es pl key = R := ⟨_, rfl⟩
              obtain ⟨v, hv1, hv0⟩ := hAr.out.tt.ts.get_val key
              obtain ⟨D, hD, hR1, hDle, hDb, hDn⟩ := hAr.out.tt.ts.fr key
              obtain ⟨H, hH⟩ : ∃ H, hashF way key = H := ⟨_, rfl⟩
              obtain ⟨h0, h1⟩ := hashF_range way key
              obtain ⟨m, hm⟩ : ∃ m, homeN H sz = m := ⟨_, rfl⟩
              have hmlt : m < sz := by rw [← hm]; exact Nat.mod_lt _ (by omega)
              obtain ⟨D0, hD0, hn0, hb0⟩ := first_none hmlt hAr.out.tt.ts.free
              have hG : Hid (∀ n, Calls Try.prog 27 #[.pointer (some ⟨T, 0, none⟩), .int .i64 key] (wr.drewN n) fun e w' => e = .returned (.tuple #[.int .i64 v, .bool R.2.2]) ∧ ∃ m, w' = wr.drewN m) := Lib.hid fun n => by
                have ht := hAr.out.tt.below (below_drewN (Below.refl _ _) n)
                refine (ix_get ht.ts.tab key ht.ts.free (R := R) hR (by rw [← hR]; exact hv1) (by rw [← hR]; exact hv0)).mono ?_
                rintro e w' ⟨he, hd⟩
                exact ⟨he, (Drawn.trans ⟨n, rfl⟩ hd)⟩
              rw [hR] at hR1 hDn
              rw [hH] at h0 h1 hDb hDn
              rw [hm] at hDb hDn
              clear hv1 hv0
              have hcl : Hid (∀ (q : Nat) (X : World), X.cell? ⟨q, 0, none⟩ = some (.int .i64 way) → Calls Try.prog 42 #[.int .i64 key, .pointer (some ⟨q, 0, none⟩)] X fun e w' => e = .returned (.int .u64 H) ∧ X = w') := Lib.hid fun q X hc => by rw [← hH]; exact ix_hash way key q X hc
              have cT := hAr.out.bT.cell
              go_wp2_with fail
              go_quiet ((go_at_call 27; with_reducible exact hG.out _))
              have g1 : Gr wr (wr.drewN nq) := below_drewN (Below.refl _ _) _
              generalize wr.drewN nq = X1 at g1 ⊢
              have hc1 := cell_below g1 rfl hc
              have hg1 := Lib.hid (hg.out.trans g1)
              clear hG cT hc hAr hIr hg g1
              have hA1x := Lib.hid (hA6.out.below hg1.out)
              have cW := hA1x.out.bW.cell
              have cS := (bx_gr bS6 hg1.out).cell
              have hc1d := cell_below (show Gr X1 X1.drew from (Gr.refl _).drew) rfl hc1
              have cWd := (bx_gr hA1x.out.bW ((Gr.refl X1).drew)).cell
              have cSd := (bx_gr bS6 (hg1.out.drew)).cell
              have hws : IntKind.u64.wrap (sz : Int) = sz := by rw [wrap_u64_eq]; omega
              have hne : ¬ (sz : Int) = 0 := by omega
              have hr : H % (sz : Int) = (m : Int) := by obtain ⟨n, rfl⟩ := Int.eq_ofNat_of_zero_le h0; rw [← hm]; rfl
              have hw2 : IntKind.i64.wrap (m : Int) = m := IntWalk.i64_in _ (by omega)
              have hw3 : IntKind.u64.wrap (m : Int) = m := by rw [wrap_u64_eq]; omega
              replace hm := Lib.hid hm
              replace hH := Lib.hid hH
              replace hDb := Lib.hid hDb
              replace hDn := Lib.hid hDn
              replace hn0 := Lib.hid hn0
              replace hb0 := Lib.hid hb0
              go_upto_region 48 with fail
              go_cut [27] from 174 to 184 (fun v27 wx => v27 = .int .i64 (m : Int) ∧ Hid (Gr W wx))
              case first =>
                as_aux_lemma =>
                  go_wp2_with fail
                  refine wp_region_noPanic ?_
                  go_region_with ((first
                    | (go_at_call 18; refine (ix_hashesC way _).mono ?_; rintro e wh ⟨hq, rfl, bh, gH⟩; have gW : Gr X1 wh := Gr.trans (Gr.refl X1).drew gH; have gX : Gr W wh := hg1.out.trans gW; have cSx := (bx_gr bS6 gX).cell; have hcx := cell_below gW rfl hc1; have bhc := bh.cell)
                    | (go_at_call 42; refine (hcl.out _ _ bhc).mono ?_; rintro e wk ⟨rfl, rfl⟩)))
                  all_goals (refine NoPanic.normal ?_)
                  all_goals (go_wp2_with fail; go_meet)
                  all_goals exact ⟨rfl, Lib.hid gX⟩
              case rest =>
              obtain ⟨rfl, hg2⟩ := hcut
              clear hc1 hc1d cW cWd cS cSd hcl hws hr hw2 hw3 hg1 hA1x
              go_wp2_with fail
              go_loopw [26, 27] (fun sv pv wr => ∃ t : Nat, t ≤ D0 ∧ sv = .int .i64 ((t : Int) + 1) ∧ pv = .int .i64 (((m + t) % sz : Nat) : Int) ∧ Hid (Gr W wr)) (fun sv _ _ => sz - (intOf sv).toNat)
              case atStart => exact ⟨0, Nat.zero_le _, rfl, by rw [Nat.add_zero, Nat.mod_eq_of_lt hmlt], hg2⟩
              case round =>
                clear hg2
                obtain ⟨t, ht, rfl, rfl, hg3⟩ := hrel
                obtain ⟨p, hp⟩ : ∃ p, (m + t) % sz = p := ⟨_, rfl⟩
                rw [hp]
                have hpl : p < sz := by rw [← hp]; exact Nat.mod_lt _ (by omega)
                have hI3 := Lib.hid (hI6.out.below hg3.out)
                have hA3 := Lib.hid (hA6.out.below hg3.out)
                have cF := hI3.out.bF.cell
                have cS := (bx_gr bS6 hg3.out).cell
                have hcp := hI3.out.cell (hfull.out p hpl)
                cases hpp : pl p with
                | some q =>
                  rw [hpp] at hcp
                  change World.cell? _ _ = some (Value.bool true) at hcp
                  have htD : t < D0 := by
                    rcases Nat.lt_or_ge t D0 with h | h
                    · exact h
                    · obtain rfl : t = D0 := by omega
                      have := hn0.out
                      rw [hp, hpp] at this; cases this
                  have hnxt : Hid ((m + (t + 1)) % sz = (p + 1) % sz) := Lib.hid (by rw [← hp, Nat.mod_add_mod, Nat.add_assoc])
                  have hw1 : IntKind.i64.wrap ((p : Int) + 1) = (p : Int) + 1 := IntWalk.i64_in _ (by omega)
                  have hw4 : IntKind.i64.wrap ((t : Int) + 1 + 1) = (t : Int) + 1 + 1 := IntWalk.i64_in _ (by omega)
                  clear hI3 hA3
                  go_wp2_with fail
                  go_roundw
                  case rel => exact ⟨t + 1, by omega, by go_num, by rw [hnxt.out]; rfl, hg3⟩
                  case measure => simp [intOf]; omega
                | none =>
                  rw [hpp] at hcp
                  change World.cell? _ _ = some (Value.bool false) at hcp
                  obtain rfl : t = D0 := by
                    rcases Nat.lt_or_ge t D0 with h | h
                    · have := hb0.out t h
                      rw [hp] at this
                      exact absurd hpp this
                    · omega
                  obtain ⟨r1, r2, r3⟩ := R
                  have hP : Hid (∀ n, Calls Try.prog 26 #[.pointer (some ⟨T, 0, none⟩), .int .i64 key] (wr.drewN n) fun e w' => e = .returned (.int .i64 r2) ∧ ∃ m, w' = wr.drewN m) := Lib.hid fun n => by
                    have ht := hA3.out.tt.below (below_drewN (Below.refl _ _) n)
                    refine (ix_probes ht.ts.tab key ht.ts.free (R := (r1, r2, r3)) hR).mono ?_
                    rintro e w' ⟨he, hd⟩
                    exact ⟨he, (Drawn.trans ⟨n, rfl⟩ hd)⟩
                  have hLn : Hid (∀ n, Calls Try.prog 23 #[.pointer (some ⟨T, 0, none⟩)] (wr.drewN n) fun e w' => e = .returned (.int .i64 es.length) ∧ ∃ m, w' = wr.drewN m) := Lib.hid fun n => (ix_len (hA3.out.tt.ts.tab.below (below_drewN (Below.refl _ _) n))).mono fun e w' h => ⟨h.1, n, h.2.symm⟩
                  have hr2 : r2 = D + 1 := hR1
                  have cT := hA3.out.bT.cell
                  have hc := cell_below hg3.out rfl hcW.out
                  have hw1 : IntKind.i64.wrap ((es.length : Int) + 1) = (es.length : Int) + 1 := IntWalk.i64_in _ (by omega)
                  have hgt : decide ((es.length : Int) + 1 < (r2 : Int)) = false := decide_eq_false (by omega)
                  clear hI3
                  cases r3 with
                  | true =>
                    go_wp2_with fail
                    go_quiet ((first
                      | (go_at_call 26; with_reducible exact hP.out _)
                      | (go_at_call 23; with_reducible exact hLn.out _)))
                    have hg4 := Lib.hid (hg3.out.trans (show Gr wr (wr.drewN nq) from below_drewN (Below.refl _ _) _))
                    clear hP hLn cT hc cF cS hcp
                    go_wp2_with fail
                    go_roundw
                    case rel => exact ⟨k + 1, by omega, by go_num, hg4⟩
                    case measure => simp [intOf]; omega
                  | false =>
                    have hDD : D = t := by
                      have h2 := hDn.out rfl
                      rcases Nat.lt_trichotomy D t with h | h | h
                      · exact absurd h2 (hb0.out D h)
                      · exact h
                      · have := hDb.out t h
                        rw [hp] at this
                        exact absurd hpp this
                    have hnq : ((r2 : Int) != (t : Int) + 1) = false := by rw [hr2, hDD]; simp
                    go_wp2_with fail
                    go_quiet ((first
                      | (go_at_call 26; with_reducible exact hP.out _)
                      | (go_at_call 23; with_reducible exact hLn.out _)))
                    have hg4 := Lib.hid (hg3.out.trans (show Gr wr (wr.drewN nq) from below_drewN (Below.refl _ _) _))
                    clear hP hLn cT hc cF cS hcp
                    go_wp2_with fail
                    go_roundw
                    case rel => exact ⟨k + 1, by omega, by go_num, hg4⟩
                    case measure => simp [intOf]; omega
            · obtain rfl : k = xs2.length := by omega
              go_wp2_with fail
              refine (ix_known _).mono ?_
              rintro e w13 ⟨rfl, hb13⟩
              have hA7 := hAr.out.below hb13
              have hKa1 := (Below.block (hg.out.trans hb13) _ (Array.getElem?_eq_some_iff.1 hK6.out).1).trans hK6.out
              have hKb1 := (Below.block (hg.out.trans hb13) _ hD2l).trans hK2.out
              have bR1 := hA7.bR
              have hb1 := hA7.bel
              have cR := bR1.cell
              have fR := bR1.frozen
              clear hAr hIr hA7
              go_wp2_with fail
              have bR2 := bR1.set (.bool true)
              have hb2 := hb1.setCell (p := ⟨w.heap.size + 1, 0, none⟩) (Nat.le_succ _) (.bool true)
              have hKa2 := set_def (u := .bool true) hKa1 bR1
              have hKb2 := set_def (u := .bool true) hKb1 bR1
              clear cR fR bR1 hb1 hKa1 hKb1
              generalize w13.setCell ⟨w.heap.size + 1, 0, none⟩ (.bool true) = w14 at bR2 hb2 hKa2 hKb2 ⊢
              refine ⟨by simp, .inl ⟨D2, _, rfl, run_takeDeferred hKb2, ?_⟩⟩
              have hKa3 : (w14.putObj D2 (.deferred none)).heap[D1]? = some (.deferred (some [])) := by rw [World.putObj_heap_other (by omega)]; exact hKa2
              refine ⟨by simp, .inl ⟨D1, _, rfl, run_takeDeferred hKa3, ?_⟩⟩
              have bR3 := put_box (o := .deferred none) (put_box (o := .deferred none) bR2 hKb2) hKa3
              have hs7 := Below.size hb2
              have hs8 : w.heap.size ≤ V5.heap.size := by have := hA6.out.bel.size; omega
              have hb3 := (hb2.trans (belowK_b (w := w) (Nat.le_refl _) w14 D2 _ (.deferred none) (by omega) hKb2 rfl rfl)).trans (belowK_b (w := w) (Nat.le_refl _) _ D1 _ (.deferred none) (by omega) hKa3 rfl rfl)
              exact ⟨.bool true, results_bool rfl Try.underlying4 _ _ _ _ rfl bR3.cell, rfl, hb3⟩
        case stopB =>
          rintro D c pre Y _ hsp ⟨_, hno⟩ _
          exact absurd hsp hno
      case stopA =>
        rintro D c pre Y _ hsp ⟨_, hno⟩ _
        rw [hLd.out] at hsp
        exact absurd hsp hno
end Go.Proofs.Ytjeeljolhcoeoaa
