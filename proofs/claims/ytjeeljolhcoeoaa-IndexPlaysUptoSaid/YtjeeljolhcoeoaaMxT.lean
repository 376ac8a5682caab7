/- Index: IndexPlays, the walk. -/
import Derived.Test.YtjeeljolhcoeoaaMxS
import Derived.Deep.RegionHeld3
import Derived.Deep.CutRange
import Derived.BigQuiet
namespace Go.Proofs.Ytjeeljolhcoeoaa
open Go.RowKit Go.Shelf
set_option maxHeartbeats 8000000 in
set_option maxRecDepth 100000 in
theorem law_IndexPlays (way : Int) (a : Option Addr) (cap : Nat) (ss : List StepD) (w : World) (hx : Steps w a ss) (hl : ss.length ≤ 1048576) :
    Calls Try.prog 6 #[.int .i64 way, .slice a ss.length cap] w fun e w' => e = .returned (.bool true) ∧ Below w.heap.size w w' := by
  obtain ⟨it, hit, tz0, tz1, tz2⟩ := info_parts infoTP
  obtain ⟨ir, hir, rz0, rz1, rz2⟩ := info_parts infoRP
  replace hx := Lib.hid hx
  replace hl := Lib.hid hl
  obtain ⟨B, hBs⟩ : ∃ B, w.heap.size = B := ⟨_, rfl⟩
  go_enter Try.func6, Try.ntmps6
  go_wp2_with fail
  have hI : Hid (LP w (w.alloc (.cells #[.pointer none, .pointer none, .pointer none, .pointer none, .slice none 0 0, .slice none 0 0] 68)) B way 0) := Lib.hid (.inl ⟨rfl, by rw [← hBs]; exact heap_alloc_new _ _, Nat.le_of_eq hBs, (Below.refl _ w).al _⟩)
  generalize w.alloc (.cells #[.pointer none, .pointer none, .pointer none, .pointer none, .slice none 0 0, .slice none 0 0] 68) = W1 at hI ⊢
  replace hBs := Lib.hid hBs
  go_loopw [6] (fun i wr => ∃ k : Nat, k ≤ 2 ∧ i = .int .i64 k ∧ Hid (LP w wr B way k)) (fun i _ => 2 - (intOf i).toNat)
  case atStart => exact ⟨0, by decide, rfl, hI⟩
  case round =>
    clear hI
    obtain ⟨k, hk, rfl, hL⟩ := hrel
    by_cases hlt : k < 2
    · go_wp2_with fail
      refine (ix_hashesB way wr).mono ?_
      rintro e wa ⟨hb, rfl, hge1, bx1, gr1⟩
      go_wp2_with fail
      refine (ix_samesB way wa).mono ?_
      rintro e wb ⟨sb, rfl, hge2, bx2, gr2⟩
      replace bx1 := bx_gr bx1 gr2
      go_wp2_with fail
      refine (ix_new bx1 bx2).mono ?_
      rintro e wn ⟨T, P, rfl, hT, hP, ht, gr3⟩
      have hs1 := Below.size gr1
      have hs2 := Below.size gr2
      have gw : Hid (Below wr.heap.size wr wn) := Lib.hid (Below.trans gr1 ((Below.mono gr2 hs1).trans (gr3.mono (Nat.le_trans hs1 hs2))))
      replace hT : Hid (wr.heap.size ≤ T) := Lib.hid (Nat.le_trans (Nat.le_trans hs1 hs2) hT)
      replace hP : Hid (wr.heap.size ≤ P) := Lib.hid (Nat.le_trans (Nat.le_trans hs1 hs2) hP)
      replace ht := Lib.hid ht
      clear bx1 bx2 hs1 hs2 gr1 gr2 gr3 hge1 hge2
      obtain rfl | rfl : k = 0 ∨ k = 1 := by omega
      · obtain ⟨a0, a1, b0, b1, hI⟩ := LP.cells (.inl hL.out)
        have hI2 := hI.below gw.out
        have c0 : wn.cell? ⟨B, 0, none⟩ = some a0 := cell_of_row _ _ _ _ _ _ hI2.hB
        have f0 := fz_row hI2.hB 0
        have hI3 := Lib.hid (hI2.set 0 (.pointer (some ⟨T, 0, none⟩)) _ _ _ _ rfl)
        have hf := Lib.hid (fun w4 base Rt => lp_0 (base := base) (Rt := Rt) (w4 := w4) hL.out gw.out ht.out hT.out hP.out)
        have hgs : Hid (wr.heap.size ≤ (wn.setCell ⟨B, 0, none⟩ (.pointer (some ⟨T, 0, none⟩))).heap.size) := Lib.hid (by rw [World.size_setCell]; exact gw.out.size)
        clear hI hI2 hL hT hP ht gw
        go_wp2_with fail
        clear c0 f0
        generalize wn.setCell ⟨B, 0, none⟩ (.pointer (some ⟨T, 0, none⟩)) = W3 at hI3 hf hgs ⊢
        go_region_with ((go_at_call 29; (with_reducible refine (rf_NewB _ _).mono ?_); rintro e w4 ⟨Rt, rfl, hge, hr, hb4⟩; have g2 : Below W3.heap.size W3 w4 := (below_drewN (Below.refl _ W3) 1).trans hb4; have hI4 := hI3.out.below g2; have c2 : w4.cell? ⟨B, 2, none⟩ = some b0 := cell_of_row _ _ _ _ _ _ hI4.hB; have f2 := fz_row hI4.hB 2; have hf2 := Lib.hid (hf.out w4 _ Rt g2 hr (Nat.le_trans hgs.out hge)); clear hge hr hb4 g2 hI4))
        all_goals
          go_wp2_with fail
          go_roundw
        all_goals first
          | (case rel => exact ⟨1, by decide, rfl, hf2⟩)
          | (case measure => simp [intOf])
      · obtain ⟨a0, a1, b0, b1, hI⟩ := LP.cells (.inr hL.out)
        have hI2 := hI.below gw.out
        have c0 : wn.cell? ⟨B, 1, none⟩ = some a1 := cell_of_row _ _ _ _ _ _ hI2.hB
        have f0 := fz_row hI2.hB 1
        have hI3 := Lib.hid (hI2.set 1 (.pointer (some ⟨T, 0, none⟩)) _ _ _ _ rfl)
        have hf := Lib.hid (fun w4 base Rt => lp_1 (base := base) (Rt := Rt) (w4 := w4) hL.out gw.out ht.out hT.out hP.out)
        have hgs : Hid (wr.heap.size ≤ (wn.setCell ⟨B, 1, none⟩ (.pointer (some ⟨T, 0, none⟩))).heap.size) := Lib.hid (by rw [World.size_setCell]; exact gw.out.size)
        clear hI hI2 hL hT hP ht gw
        go_wp2_with fail
        clear c0 f0
        generalize wn.setCell ⟨B, 1, none⟩ (.pointer (some ⟨T, 0, none⟩)) = W3 at hI3 hf hgs ⊢
        go_region_with ((go_at_call 29; (with_reducible refine (rf_NewB _ _).mono ?_); rintro e w4 ⟨Rt, rfl, hge, hr, hb4⟩; have g2 : Below W3.heap.size W3 w4 := (below_drewN (Below.refl _ W3) 1).trans hb4; have hI4 := hI3.out.below g2; have c2 : w4.cell? ⟨B, 3, none⟩ = some b1 := cell_of_row _ _ _ _ _ _ hI4.hB; have f2 := fz_row hI4.hB 3; have hf2 := Lib.hid (hf.out w4 _ Rt g2 hr (Nat.le_trans hgs.out hge)); clear hge hr hb4 g2 hI4))
        all_goals
          go_wp2_with fail
          go_roundw
        all_goals first
          | (case rel => exact ⟨2, by decide, rfl, hf2⟩)
          | (case measure => simp [intOf])
    · obtain rfl : k = 2 := by omega
      have hP : Hid (PSN w wr B way 0) := Lib.hid (by
        rcases hL.out with ⟨e, _⟩ | ⟨e, _⟩ | ⟨_, x0, x1, h⟩
        · exact absurd e (by decide)
        · exact absurd e (by decide)
        · exact ⟨_, _, _, _, _, h, by decide⟩)
      clear hL
      rw [show ((2 : Nat) : Int) = 2 from rfl]
      go_wp2_with fail
      go_loopw [9] (fun i wr => ∃ k : Nat, k ≤ ss.length ∧ i = .int .i64 k ∧ Hid (PSN w wr B way k)) (fun i _ => ss.length - (intOf i).toNat)
      case atStart => exact ⟨0, Nat.zero_le _, rfl, hP⟩
      case round =>
        clear hP
        obtain ⟨k, hk, rfl, hP⟩ := hrel
        by_cases hlt : k < ss.length
        · obtain ⟨b, off, rfl, q0, q1, q2, q3, q4⟩ := hx.out.cells k hlt
          obtain ⟨x0, x1, xs, old, ref, hS, hxl⟩ := hP.out
          have hcb := hS.bel
          replace q0 := (hcb.cell (cell_lt q0)).trans q0
          replace q1 := (hcb.cell (cell_lt q1)).trans q1
          replace q2 := (hcb.cell (cell_lt q2)).trans q2
          replace q3 := (hcb.cell (cell_lt q3)).trans q3
          replace q4 := (hcb.cell (cell_lt q4)).trans q4
          have hstep := Lib.hid (ps_step hS (by have := hl.out; omega) hxl ss[k].K ss[k].On ss[k].key ss[k].value ss[k].leave)
          clear hcb hS
          have hkb : k < 1048576 := by have := hl.out; omega
          go_wp2_with fail
          with_reducible refine hstep.out.mono ?_
          rintro e w1 ⟨rfl, hN⟩
          replace hN := Lib.hid hN
          clear hstep q0 q1 q2 q3 q4 hP
          go_wp2_with fail
          go_roundw
          case rel => exact ⟨k + 1, by omega, by go_num, hN⟩
          case measure => simp [intOf]; omega
        · obtain rfl : k = ss.length := by omega
          obtain ⟨x0, x1, xs, old, ref, hS, hxl⟩ := hP.out
          have hK : Hid (PK w wr B way ss.length x0 x1 xs 0) := Lib.hid ⟨old, ref, by simp only [List.take_zero, List.append_nil]; exact ⟨hS.aj, hS.wb, hS.ge, hS.bel⟩⟩
          clear hS hP hx
          have hnl := hl.out
          generalize ss.length = n at hK hnl ⊢
          replace hnl := Lib.hid hnl
          clear hl
          go_wp2_with fail
          go_loopw [11] (fun i wr => ∃ k : Nat, k ≤ 2 ∧ i = .int .i64 k ∧ Hid (PK w wr B way n x0 x1 xs k)) (fun i _ => 2 - (intOf i).toNat)
          case atStart => exact ⟨0, by decide, rfl, hK⟩
          case round =>
            clear hK
            obtain ⟨k, hk, rfl, hK⟩ := hrel
            by_cases hlt : k < 2
            · obtain ⟨old, ref, hF⟩ := hK.out
              obtain ⟨os, hos⟩ : ∃ os, xs.map JTab.T ++ [x0.T, x1.T].take k = os := ⟨_, rfl⟩
              obtain ⟨rs, hrs⟩ : ∃ rs, xs.map JTab.Rt ++ [x0.Rt, x1.Rt].take k = rs := ⟨_, rfl⟩
              rw [hos, hrs] at hF
              have hol : os.length ≤ 22 := by rw [← hos, List.length_append, List.length_map, List.length_take]; omega
              have hrl : rs.length ≤ 22 := by rw [← hrs, List.length_append, List.length_map, List.length_take]; omega
              replace hF := Lib.hid hF
              clear hK
              obtain rfl | rfl : k = 0 ∨ k = 1 := by omega
              · have hos2 : Hid (xs.map JTab.T ++ [x0.T, x1.T].take 1 = os ++ [x0.T]) := Lib.hid (by rw [← hos]; simp)
                have hrs2 : Hid (xs.map JTab.Rt ++ [x0.Rt, x1.Rt].take 1 = rs ++ [x0.Rt]) := Lib.hid (by rw [← hrs]; simp)
                clear hos hrs
                obtain ⟨oa, oc, rfl, -⟩ := own_sliceI hF.out.wb.o1
                have cT : wr.cell? ⟨B, 0, none⟩ = some (.pointer (some ⟨x0.T, 0, none⟩)) := cell_of_row _ _ _ _ _ _ hF.out.wb.hB
                have c4 : wr.cell? ⟨B, 4, none⟩ = some (.slice oa os.length oc) := cell_of_row _ _ _ _ _ _ hF.out.wb.hB
                have hFd := Lib.hid (hF.out.below (below_drewN (Below.refl wr.heap.size wr) 1))
                have c4a : ((wr.alloc (.cells #[.pointer (some ⟨x0.T, 0, none⟩)] 43)).drew).cell? ⟨B, 4, none⟩ = some (.slice oa os.length oc) := cell_of_row _ _ _ _ _ _ (hF.out.below (below_drewN ((Below.refl wr.heap.size wr).al _) 1)).wb.hB
                go_upto_region 19 with fail
                go_cut [] from 66 to 80 (fun wx => ∃ oa2 oc2, Hid (PF w wx B way n (x0 :: x1 :: xs) x0.T x1.T x0.Rt x1.Rt (.slice oa2 (os.length + 1) oc2) ref (os ++ [x0.T]) rs))
                case first =>
                  go_wp2_with fail
                  go_region_law ((refine step_append_lies _ rfl (.tmp 70) (.tmp 77) 65 rfl 0 43 it _ 1 8 Try.underlying65 hit tz0 tz1 tz2 rfl (by decide) (.slice oa os.length oc) os.length _ rfl (own_al_drew _ hF.out.wb.o1) ⟨wr.heap.size, 0, none⟩ 1 1 [.pointer (some ⟨x0.T, 0, none⟩)] rfl rfl (own_cells_row (w := wr) rfl rfl) (by simp [Value.oneCell']) (by decide) (by unfold maxLen; omega) (by omega) (Nat.zero_le _) _ rfl ?_; intro g3 c3 w3 hown1 hgrow hat hlt1; have hm := hFd.out.more1 hown1 (show (World.alloc wr.drew (.cells #[.pointer (some ⟨x0.T, 0, none⟩)] 43)).grownBy w3 _ from hgrow) (hat.imp (fun e => Eq.symm e) (fun e => congrArg some e)); have cB3 : w3.cell? ⟨B, 4, none⟩ = some (.slice oa os.length oc) := cell_of_row _ _ _ _ _ _ hm.1; have fB3 := fz_row hm.1 4; replace hm := Lib.hid hm; clear hown1 hgrow hat hlt1))
                  all_goals (go_wp2_with fail; go_meet)
                  all_goals exact ⟨_, _, Lib.hid hm.out.2⟩
                case rest =>
                obtain ⟨oa2, oc2, hG⟩ := hcut
                clear hF hFd cT c4 c4a
                obtain ⟨ra, rc, rfl, -⟩ := own_sliceI hG.out.wb.o2
                have cT : wc.cell? ⟨B, 2, none⟩ = some (.pointer (some ⟨x0.Rt, 0, none⟩)) := cell_of_row _ _ _ _ _ _ hG.out.wb.hB
                have c5 : wc.cell? ⟨B, 5, none⟩ = some (.slice ra rs.length rc) := cell_of_row _ _ _ _ _ _ hG.out.wb.hB
                have hGd := Lib.hid (hG.out.below (below_drewN (Below.refl wc.heap.size wc) 1))
                have c5a : ((wc.alloc (.cells #[.pointer (some ⟨x0.Rt, 0, none⟩)] 63)).drew).cell? ⟨B, 5, none⟩ = some (.slice ra rs.length rc) := cell_of_row _ _ _ _ _ _ (hG.out.below (below_drewN ((Below.refl wc.heap.size wc).al _) 1)).wb.hB
                go_wp2_with fail
                go_region_law ((refine step_append_lies _ rfl (.tmp 85) (.tmp 92) 66 rfl 0 63 ir _ 1 8 Try.underlying66 hir rz0 rz1 rz2 rfl (by decide) (.slice ra rs.length rc) rs.length _ rfl (own_al_drew _ hG.out.wb.o2) ⟨wc.heap.size, 0, none⟩ 1 1 [.pointer (some ⟨x0.Rt, 0, none⟩)] rfl rfl (own_cells_row (w := wc) rfl rfl) (by simp [Value.oneCell']) (by decide) (by unfold maxLen; omega) (by omega) (Nat.zero_le _) _ rfl ?_; intro g3 c3 w3 hown1 hgrow hat hlt1; have hm := hGd.out.more2 hown1 (show (World.alloc wc.drew (.cells #[.pointer (some ⟨x0.Rt, 0, none⟩)] 63)).grownBy w3 _ from hgrow) (hat.imp (fun e => Eq.symm e) (fun e => congrArg some e)); have cB3 : w3.cell? ⟨B, 5, none⟩ = some (.slice ra rs.length rc) := cell_of_row _ _ _ _ _ _ hm.1; have fB3 := fz_row hm.1 5; replace hm := Lib.hid hm; clear hown1 hgrow hat hlt1))
                all_goals
                  have h2 : Hid (PK w _ B way n x0 x1 xs 1) := Lib.hid ⟨_, _, by rw [hos2.out, hrs2.out]; exact hm.out.2⟩
                  clear hm hG hGd cT c5 c5a
                  go_wp2_with fail
                  go_roundw
                  case rel => exact ⟨1, by decide, rfl, h2⟩
                  case measure => simp [intOf]
              · have hos2 : Hid (xs.map JTab.T ++ [x0.T, x1.T].take 2 = os ++ [x1.T]) := Lib.hid (by rw [← hos]; simp)
                have hrs2 : Hid (xs.map JTab.Rt ++ [x0.Rt, x1.Rt].take 2 = rs ++ [x1.Rt]) := Lib.hid (by rw [← hrs]; simp)
                clear hos hrs
                obtain ⟨oa, oc, rfl, -⟩ := own_sliceI hF.out.wb.o1
                have cT : wr.cell? ⟨B, 1, none⟩ = some (.pointer (some ⟨x1.T, 0, none⟩)) := cell_of_row _ _ _ _ _ _ hF.out.wb.hB
                have c4 : wr.cell? ⟨B, 4, none⟩ = some (.slice oa os.length oc) := cell_of_row _ _ _ _ _ _ hF.out.wb.hB
                have hFd := Lib.hid (hF.out.below (below_drewN (Below.refl wr.heap.size wr) 1))
                have c4a : ((wr.alloc (.cells #[.pointer (some ⟨x1.T, 0, none⟩)] 43)).drew).cell? ⟨B, 4, none⟩ = some (.slice oa os.length oc) := cell_of_row _ _ _ _ _ _ (hF.out.below (below_drewN ((Below.refl wr.heap.size wr).al _) 1)).wb.hB
                go_upto_region 19 with fail
                go_cut [] from 66 to 80 (fun wx => ∃ oa2 oc2, Hid (PF w wx B way n (x0 :: x1 :: xs) x0.T x1.T x0.Rt x1.Rt (.slice oa2 (os.length + 1) oc2) ref (os ++ [x1.T]) rs))
                case first =>
                  go_wp2_with fail
                  go_region_law ((refine step_append_lies _ rfl (.tmp 70) (.tmp 77) 65 rfl 0 43 it _ 1 8 Try.underlying65 hit tz0 tz1 tz2 rfl (by decide) (.slice oa os.length oc) os.length _ rfl (own_al_drew _ hF.out.wb.o1) ⟨wr.heap.size, 0, none⟩ 1 1 [.pointer (some ⟨x1.T, 0, none⟩)] rfl rfl (own_cells_row (w := wr) rfl rfl) (by simp [Value.oneCell']) (by decide) (by unfold maxLen; omega) (by omega) (Nat.zero_le _) _ rfl ?_; intro g3 c3 w3 hown1 hgrow hat hlt1; have hm := hFd.out.more1 hown1 (show (World.alloc wr.drew (.cells #[.pointer (some ⟨x1.T, 0, none⟩)] 43)).grownBy w3 _ from hgrow) (hat.imp (fun e => Eq.symm e) (fun e => congrArg some e)); have cB3 : w3.cell? ⟨B, 4, none⟩ = some (.slice oa os.length oc) := cell_of_row _ _ _ _ _ _ hm.1; have fB3 := fz_row hm.1 4; replace hm := Lib.hid hm; clear hown1 hgrow hat hlt1))
                  all_goals (go_wp2_with fail; go_meet)
                  all_goals exact ⟨_, _, Lib.hid hm.out.2⟩
                case rest =>
                obtain ⟨oa2, oc2, hG⟩ := hcut
                clear hF hFd cT c4 c4a
                obtain ⟨ra, rc, rfl, -⟩ := own_sliceI hG.out.wb.o2
                have cT : wc.cell? ⟨B, 3, none⟩ = some (.pointer (some ⟨x1.Rt, 0, none⟩)) := cell_of_row _ _ _ _ _ _ hG.out.wb.hB
                have c5 : wc.cell? ⟨B, 5, none⟩ = some (.slice ra rs.length rc) := cell_of_row _ _ _ _ _ _ hG.out.wb.hB
                have hGd := Lib.hid (hG.out.below (below_drewN (Below.refl wc.heap.size wc) 1))
                have c5a : ((wc.alloc (.cells #[.pointer (some ⟨x1.Rt, 0, none⟩)] 63)).drew).cell? ⟨B, 5, none⟩ = some (.slice ra rs.length rc) := cell_of_row _ _ _ _ _ _ (hG.out.below (below_drewN ((Below.refl wc.heap.size wc).al _) 1)).wb.hB
                go_wp2_with fail
                go_region_law ((refine step_append_lies _ rfl (.tmp 85) (.tmp 92) 66 rfl 0 63 ir _ 1 8 Try.underlying66 hir rz0 rz1 rz2 rfl (by decide) (.slice ra rs.length rc) rs.length _ rfl (own_al_drew _ hG.out.wb.o2) ⟨wc.heap.size, 0, none⟩ 1 1 [.pointer (some ⟨x1.Rt, 0, none⟩)] rfl rfl (own_cells_row (w := wc) rfl rfl) (by simp [Value.oneCell']) (by decide) (by unfold maxLen; omega) (by omega) (Nat.zero_le _) _ rfl ?_; intro g3 c3 w3 hown1 hgrow hat hlt1; have hm := hGd.out.more2 hown1 (show (World.alloc wc.drew (.cells #[.pointer (some ⟨x1.Rt, 0, none⟩)] 63)).grownBy w3 _ from hgrow) (hat.imp (fun e => Eq.symm e) (fun e => congrArg some e)); have cB3 : w3.cell? ⟨B, 5, none⟩ = some (.slice ra rs.length rc) := cell_of_row _ _ _ _ _ _ hm.1; have fB3 := fz_row hm.1 5; replace hm := Lib.hid hm; clear hown1 hgrow hat hlt1))
                all_goals
                  have h3 : Hid (PK w _ B way n x0 x1 xs 2) := Lib.hid ⟨_, _, by rw [hos2.out, hrs2.out]; exact hm.out.2⟩
                  clear hm hG hGd cT c5 c5a
                  go_wp2_with fail
                  go_roundw
                  case rel => exact ⟨2, by decide, rfl, h3⟩
                  case measure => simp [intOf]
            · obtain rfl : k = 2 := by omega
              obtain ⟨old, ref, hF⟩ := hK.out
              obtain ⟨L, hL⟩ : ∃ L, xs ++ [x0, x1] = L := ⟨_, rfl⟩
              have hos : xs.map JTab.T ++ [x0.T, x1.T].take 2 = L.map JTab.T := by rw [← hL]; simp
              have hrs : xs.map JTab.Rt ++ [x0.Rt, x1.Rt].take 2 = L.map JTab.Rt := by rw [← hL]; simp
              rw [hos, hrs] at hF
              have hlen : L.length ≤ 22 := by rw [← hL]; simp; omega
              have hlen0 : 0 < L.length := by rw [← hL]; simp
              have hJs : Hid (∀ x, x ∈ L → JT wr way n x) := Lib.hid fun x hx => hF.aj.jt x (by rw [← hL] at hx; simp at hx ⊢; rcases hx with h | h | h <;> simp [h])
              obtain ⟨g1, d1, hv1, -⟩ := own_shape hF.wb.o1 (by rw [List.length_map]; exact hlen0)
              obtain ⟨g2, d2, hv2, -⟩ := own_shape hF.wb.o2 (by rw [List.length_map]; exact hlen0)
              rw [List.length_map] at hv1 hv2
              subst hv1 hv2
              have v4 : wr.cell? ⟨B, 4, none⟩ = some (.slice (some ⟨g1, 0, none⟩) L.length d1) := cell_of_row _ _ _ _ _ _ hF.wb.hB
              have v5 : wr.cell? ⟨B, 5, none⟩ = some (.slice (some ⟨g2, 0, none⟩) L.length d2) := cell_of_row _ _ _ _ _ _ hF.wb.hB
              have vo : ∀ k (h : k < L.length), wr.cell? ⟨g1, k, none⟩ = some (.pointer (some ⟨L[k].T, 0, none⟩)) := fun k h => by
                have := hF.wb.o1.cells (g := g1) rfl k (ptrV L[k].T) (by simp [h])
                simpa [addr_add, ptrV] using this
              have vr : ∀ k (h : k < L.length), wr.cell? ⟨g2, k, none⟩ = some (.pointer (some ⟨L[k].Rt, 0, none⟩)) := fun k h => by
                have := hF.wb.o2.cells (g := g2) rfl k (ptrV L[k].Rt) (by simp [h])
                simpa [addr_add, ptrV] using this
              have hV := Lib.hid hF.bel
              replace v4 := Lib.hid v4
              replace v5 := Lib.hid v5
              replace vo := Lib.hid vo
              replace vr := Lib.hid vr
              clear hF hK hos hrs hL
              obtain ⟨V, hVe⟩ : ∃ V, wr = V := ⟨_, rfl⟩
              rw [hVe] at hJs v4 v5 vo vr hV ⊢
              clear hVe
              rw [show ((2 : Nat) : Int) = 2 from rfl]
              go_wp2_with fail
              go_loopw [12] (fun i wr => ∃ k : Nat, k ≤ L.length ∧ i = .int .i64 k ∧ Hid (Below V.heap.size V wr)) (fun i _ => L.length - (intOf i).toNat)
              case atStart => exact ⟨0, Nat.zero_le _, rfl, Lib.hid (Below.refl _ _)⟩
              case round =>
                obtain ⟨k, hk, rfl, hb⟩ := hrel
                have hc2 : Hid (∀ v, Below wr.heap.size wr v → v.cell? ⟨B, 4, none⟩ = some (.slice (some ⟨g1, 0, none⟩) L.length d1) ∧ v.cell? ⟨B, 5, none⟩ = some (.slice (some ⟨g2, 0, none⟩) L.length d2) ∧ (∀ h : k < L.length, v.cell? ⟨g1, k, none⟩ = some (.pointer (some ⟨L[k].T, 0, none⟩)) ∧ v.cell? ⟨g2, k, none⟩ = some (.pointer (some ⟨L[k].Rt, 0, none⟩)))) := Lib.hid fun v hv => by
                  have hbv := hb.out.trans (hv.mono hb.out.size)
                  exact ⟨cell_below hbv rfl v4.out, cell_below hbv rfl v5.out, fun h => ⟨cell_below hbv rfl (vo.out k h), cell_below hbv rfl (vr.out k h)⟩⟩
                by_cases hlt : k < L.length
                · obtain ⟨x, hxe⟩ : ∃ x, L[k] = x := ⟨_, rfl⟩
                  have hJ : Hid (∀ v, Below wr.heap.size wr v → JT v way n x) := Lib.hid fun v hv => ((hJs.out x (by rw [← hxe]; exact List.getElem_mem hlt)).below hb.out).below hv
                  have hn2 : n ≤ 2200000 := by have := hnl.out; omega
                  have hc3 : Hid (∀ v, Below wr.heap.size wr v → (v.cell? ⟨B, 4, none⟩ = some (.slice (some ⟨g1, 0, none⟩) L.length d1) ∧ v.cell? ⟨B, 5, none⟩ = some (.slice (some ⟨g2, 0, none⟩) L.length d2) ∧ v.cell? ⟨g1, k, none⟩ = some (.pointer (some ⟨x.T, 0, none⟩)) ∧ v.cell? ⟨g2, k, none⟩ = some (.pointer (some ⟨x.Rt, 0, none⟩)) ∧ Below wr.heap.size wr v)) := Lib.hid fun v hv => by
                    obtain ⟨h1, h2, h3⟩ := hc2.out v hv
                    obtain ⟨h3, h4⟩ := h3 hlt
                    rw [hxe] at h3 h4
                    exact ⟨h1, h2, h3, h4, hv⟩
                  replace hxe := Lib.hid hxe
                  have hltb : k < L.length := hlt
                  clear hc2
                  obtain ⟨s4, s5, s6, s7, hb0⟩ := hc3.out wr (Below.refl _ _)
                  have q0 : Hid (∀ v, Below wr.heap.size wr v → Calls Try.prog 28 #[.pointer (some ⟨x.T, 0, none⟩)] v fun e w' => ∃ Bt, e = .returned (.func (.func 52) #[] #[.pointer (some ⟨Bt, 0, none⟩)]) ∧ Hid (Boxed w' Bt 43 (.pointer (some ⟨x.T, 0, none⟩))) ∧ Below wr.heap.size wr w') := Lib.hid fun v hv => (ix_allB _ _).mono fun e w' h => by
                    obtain ⟨b, h1, h2, h3⟩ := h
                    exact ⟨b, h1, Lib.hid h2, hv.trans (h3.mono hv.size)⟩
                  have q1 : Hid (∀ v Bt, Below wr.heap.size wr v → Hid (Boxed v Bt 43 (.pointer (some ⟨x.T, 0, none⟩))) → Calls Try.prog 32 #[.pointer (some ⟨x.Rt, 0, none⟩)] v fun e w' => ∃ v1 v2, e = .returned (.agg #[v1, v2]) ∧ Hid (w'.ownsRow v.heap.size 3 1 v1 (allL x.es).length ((allL x.es).map fun x => .int .i64 x.1) ∧ w'.ownsRow v.heap.size 3 1 v2 (allL x.es).length ((allL x.es).map fun x => .int .i64 x.2) ∧ Boxed w' Bt 43 (.pointer (some ⟨x.T, 0, none⟩))) ∧ Below wr.heap.size wr w') := Lib.hid fun v Bt hv hbt => (jt_pairs (hJ.out v hv) hn2).mono fun e w' h => by
                    obtain ⟨v1, v2, h1, h2, h3, h4⟩ := h
                    exact ⟨v1, v2, h1, Lib.hid ⟨h2, h3, bx_below hbt.out h4⟩, hv.trans (h4.mono hv.size)⟩
                  have q2 : Hid (∀ v v1 v2 base Bt, Below wr.heap.size wr v → v.ownsRow base 3 1 v1 (allL x.es).length ((allL x.es).map fun x => .int .i64 x.1) ∧ v.ownsRow base 3 1 v2 (allL x.es).length ((allL x.es).map fun x => .int .i64 x.2) ∧ Boxed v Bt 43 (.pointer (some ⟨x.T, 0, none⟩)) →
                      Calls Try.prog 31 #[.func (.func 52) #[] #[.pointer (some ⟨Bt, 0, none⟩)], .agg #[v1, v2], .int .i64 0] v fun e w' => e = .returned (.bool true) ∧ Below wr.heap.size wr w') :=
                    Lib.hid fun v v1 v2 base Bt hv o => (jt_all_walk (hJ.out v hv) hn2 o.2.2 0 o.1 o.2.1).mono fun e w' h => ⟨h.1, hv.trans (h.2.mono hv.size)⟩
                  go_upto_region 24 with fail
                  go_cut [13] from 105 to 121 (fun v13 wx => v13 = .bool true ∧ Below wr.heap.size wr wx)
                  case first =>
                    go_wp2_with fail
                    go_region_held3 (fun w' => w'.cell? ⟨B, 4, none⟩ = some (.slice (some ⟨g1, 0, none⟩) L.length d1) ∧ w'.cell? ⟨B, 5, none⟩ = some (.slice (some ⟨g2, 0, none⟩) L.length d2) ∧ w'.cell? ⟨g1, k, none⟩ = some (.pointer (some ⟨x.T, 0, none⟩)) ∧ w'.cell? ⟨g2, k, none⟩ = some (.pointer (some ⟨x.Rt, 0, none⟩)) ∧ Below wr.heap.size wr w')
                      (first | (go_split_ands; have hbX := (‹Below wr.heap.size wr _›).drewN 1; exact hc3.out _ hbX) | (have hbX := hbc; exact hc3.out _ hbX) | (have hbX := hb0; exact hc3.out _ hbX) | (have hbX := hb0.drewN 1; exact hc3.out _ hbX))
                      (first
                        | (go_at_call 28; with_reducible refine (q0.out _ (by go_split_ands; assumption)).mono ?_; rintro e wn ⟨Bt, rfl, hbt, hbc⟩)
                        | (go_at_call 32; with_reducible refine (q1.out _ _ (by go_split_ands; assumption) hbt).mono ?_; rintro e wn ⟨v1, v2, rfl, hrow, hbc⟩)
                        | (go_at_call 31; with_reducible refine (q2.out _ _ _ _ _ hbc hrow.out).mono ?_; rintro e wn ⟨rfl, hbc⟩))
                    go_wp2_with fail
                    go_meet
                    exact ⟨rfl, hbc⟩
                  case rest =>
                  obtain ⟨rfl, hbw⟩ := hcut
                  obtain ⟨m4, m5, m6, m7, -⟩ := hc3.out _ hbw
                  have p0 : Hid (∀ v, Below wr.heap.size wr v → Calls Try.prog 24 #[.pointer (some ⟨x.T, 0, none⟩)] v fun e w' => ∃ Bt, e = .returned (.func (.func 51) #[] #[.pointer (some ⟨Bt, 0, none⟩)]) ∧ Hid (Boxed w' Bt 43 (.pointer (some ⟨x.T, 0, none⟩))) ∧ Below wr.heap.size wr w') := Lib.hid fun v hv => (ix_layoutB _ _).mono fun e w' h => by
                    obtain ⟨b, h1, h2, h3⟩ := h
                    exact ⟨b, h1, Lib.hid h2, hv.trans (h3.mono hv.size)⟩
                  have p1 : Hid (∀ v Bt, Below wr.heap.size wr v → Hid (Boxed v Bt 43 (.pointer (some ⟨x.T, 0, none⟩))) → Calls Try.prog 33 #[.pointer (some ⟨x.Rt, 0, none⟩)] v fun e w' => ∃ v1 v2, e = .returned (.agg #[v1, v2]) ∧ Hid (w'.ownsRow v.heap.size 3 1 v1 (layL x.es x.pl x.sz).length ((layL x.es x.pl x.sz).map fun x => .int .i64 x.1) ∧ w'.ownsRow v.heap.size 3 1 v2 (layL x.es x.pl x.sz).length ((layL x.es x.pl x.sz).map fun x => .int .i64 x.2) ∧ Boxed w' Bt 43 (.pointer (some ⟨x.T, 0, none⟩))) ∧ Below wr.heap.size wr w') := Lib.hid fun v Bt hv hbt => (jt_laid (hJ.out v hv) hn2).mono fun e w' h => by
                    obtain ⟨v1, v2, h1, h2, h3, h4⟩ := h
                    exact ⟨v1, v2, h1, Lib.hid ⟨h2, h3, bx_below hbt.out h4⟩, hv.trans (h4.mono hv.size)⟩
                  have p2 : Hid (∀ v v1 v2 base Bt, Below wr.heap.size wr v → v.ownsRow base 3 1 v1 (layL x.es x.pl x.sz).length ((layL x.es x.pl x.sz).map fun x => .int .i64 x.1) ∧ v.ownsRow base 3 1 v2 (layL x.es x.pl x.sz).length ((layL x.es x.pl x.sz).map fun x => .int .i64 x.2) ∧ Boxed v Bt 43 (.pointer (some ⟨x.T, 0, none⟩)) →
                      Calls Try.prog 31 #[.func (.func 51) #[] #[.pointer (some ⟨Bt, 0, none⟩)], .agg #[v1, v2], .int .i64 0] v fun e w' => e = .returned (.bool true) ∧ Below wr.heap.size wr w') :=
                    Lib.hid fun v v1 v2 base Bt hv o => (jt_lay_walk (hJ.out v hv) hn2 o.2.2 0 o.1 o.2.1).mono fun e w' h => ⟨h.1, hv.trans (h.2.mono hv.size)⟩
                  clear q0 q1 q2 s4 s5 s6 s7 hb0
                  go_upto_region 25 with fail
                  go_cut [14] from 122 to 138 (fun v14 wx => v14 = .bool true ∧ Below wr.heap.size wr wx)
                  case first =>
                    go_wp2_with fail
                    go_region_held3 (fun w' => w'.cell? ⟨B, 4, none⟩ = some (.slice (some ⟨g1, 0, none⟩) L.length d1) ∧ w'.cell? ⟨B, 5, none⟩ = some (.slice (some ⟨g2, 0, none⟩) L.length d2) ∧ w'.cell? ⟨g1, k, none⟩ = some (.pointer (some ⟨x.T, 0, none⟩)) ∧ w'.cell? ⟨g2, k, none⟩ = some (.pointer (some ⟨x.Rt, 0, none⟩)) ∧ Below wr.heap.size wr w')
                      (first | (go_split_ands; have hbX := (‹Below wr.heap.size wr _›).drewN 1; exact hc3.out _ hbX) | (have hbX := hbc; exact hc3.out _ hbX) | (have hbX := hbw; exact hc3.out _ hbX) | (have hbX := hbw.drewN 1; exact hc3.out _ hbX))
                      (first
                        | (go_at_call 24; with_reducible refine (p0.out _ (by go_split_ands; assumption)).mono ?_; rintro e wn ⟨Bt, rfl, hbt, hbc⟩)
                        | (go_at_call 33; with_reducible refine (p1.out _ _ (by go_split_ands; assumption) hbt).mono ?_; rintro e wn ⟨v1, v2, rfl, hrow, hbc⟩)
                        | (go_at_call 31; with_reducible refine (p2.out _ _ _ _ _ hbc hrow.out).mono ?_; rintro e wn ⟨rfl, hbc⟩))
                    go_wp2_with fail
                    go_meet
                    exact ⟨rfl, hbc⟩
                  case rest =>
                  clear m4 m5 m6 m7 hbw p0 p1 p2
                  obtain ⟨rfl, hbw⟩ := hcut
                  obtain ⟨m4, m5, m6, m7, -⟩ := hc3.out _ hbw
                  have hJc := Lib.hid (hJ.out _ hbw)
                  obtain ⟨ra, rc, hv, -⟩ := own_sliceI hJc.out.rf.row
                  have r1 := hJc.out.rf.c1
                  have r2 := hJc.out.rf.c2
                  rw [hv, allL_length] at r1
                  have hL : Hid (∀ n, Calls Try.prog 23 #[.pointer (some ⟨x.T, 0, none⟩)] (wc.drewN n) fun e w' => e = .returned (.int .i64 x.es.length) ∧ ∃ m, w' = wc.drewN m) := Lib.hid fun n => (ix_len (hJc.out.ts.tab.below (below_drewN (Below.refl _ _) n))).mono fun e w' h => ⟨h.1, n, h.2.symm⟩
                  have hS : Hid (∀ n, Calls Try.prog 22 #[.pointer (some ⟨x.T, 0, none⟩)] (wc.drewN n) fun e w' => e = .returned (.int .i64 x.sz) ∧ ∃ m, w' = wc.drewN m) := Lib.hid fun n => (ix_size (hJc.out.ts.tab.below (below_drewN (Below.refl _ _) n))).mono fun e w' h => ⟨h.1, n, h.2.symm⟩
                  have e1 : ((x.es.length : Int) != (x.es.length : Int)) = false := by simp
                  have e2 : ((x.sz : Int) != (x.sz : Int)) = false := by simp
                  have hf : Hid (∀ m, Hid (Below V.heap.size V (wc.drewN m))) := Lib.hid fun m => Lib.hid (below_drewN (hb.out.trans (hbw.mono hb.out.size)) m)
                  have hkb : k < 1048576 := by omega
                  clear hv hJc hJ hbw hc3 hb hJs
                  go_upto_region 26 with fail
                  go_quiet ((first
                    | (go_at_call 23; with_reducible exact hL.out _)
                    | (go_at_call 22; with_reducible exact hS.out _)))
                  go_wp2_with fail
                  go_roundw
                  case rel => exact ⟨k + 1, by omega, by go_num, hf.out _⟩
                  case measure => simp [intOf]; omega
                · obtain rfl : k = L.length := by omega
                  obtain ⟨s4, s5, -⟩ := hc2.out wr (Below.refl _ _)
                  clear hc2
                  go_wp2_with (go_at_call 16; refine (ix_known _).mono ?_; rintro e w9 ⟨rfl, hb9⟩; have hfin := Lib.hid (hV.out.trans ((hb.out.trans (hb9.mono hb.out.size)).mono hV.out.size)); clear hb9 hb)
                  go_ret
                  exact ⟨rfl, hfin.out⟩
end Go.Proofs.Ytjeeljolhcoeoaa
