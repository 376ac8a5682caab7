/- Normal: neighbours that are alike taken together: walked. (gen_nmy.py) -/
import Derived.Test.YtoklbofobcloaaaDoorNmX
namespace Go.Proofs.YtoklbofobcloaaaDoor
open Go.RowKit Go.Sort Go.Shelf
attribute [local go_sem ↓] Go.wp_at_zero Go.wp_at_succ
theorem LRow.at {w : World} {base g n c k : Nat} {L : List LV} {y : LV} (h : LRow w base (.slice (some ⟨g, 0, none⟩) n c) L) (hy : L[k]? = some y) :
    ∃ a c2, y.2 = .slice a y.1.a.length c2 ∧ Terms w a y.1.a ∧ w.cell? ⟨g, k * 7, none⟩ = some (.int .i64 y.1.k) ∧ w.cell? ⟨g, k * 7 + 1, none⟩ = some (.string y.1.p) ∧ w.cell? ⟨g, k * 7 + 2, none⟩ = some y.2 ∧ w.cell? ⟨g, k * 7 + 3, none⟩ = some (.bool y.1.l.1) ∧ w.cell? ⟨g, k * 7 + 4, none⟩ = some (.string y.1.l.2) ∧ w.cell? ⟨g, k * 7 + 5, none⟩ = some (.bool y.1.r.1) ∧ w.cell? ⟨g, k * 7 + 6, none⟩ = some (.string y.1.r.2) := by
  obtain ⟨a, c2, e, ht, -⟩ := (h.inner y (List.mem_of_getElem? hy)).form
  obtain ⟨x, v⟩ := y
  exact ⟨a, c2, e, ht, h.cells hy⟩
set_option maxHeartbeats 16000000 in
set_option maxRecDepth 100000 in
theorem nm_compL (W : World) (base : Nat) (a : Option Addr) (c : Nat) (L : List LV) (h : LRow W base (.slice a L.length c) L) :
    Calls Tryd.prog 44 #[.slice a L.length c, .func (.func 45) #[] #[]] W fun e w' => ∃ L', e = .returned (.slice a L'.length c) ∧ L' = compK (·.1) L ∧ LRow w' base (.slice a L'.length c) L' ∧ W.grownBy w' (Value.slice a L.length c).ownBlock := by
  have hlen := h.len
  obtain ⟨n, hn⟩ : ∃ n, L.length = n := ⟨_, rfl⟩
  rw [hn] at h hlen ⊢
  by_cases h2 : n < 2
  · have h2i : (n : Int) < 2 := by omega
    have hc : compK (·.1) L = L := by
      match L, hn with
      | [], _ => rfl
      | [x], _ => rfl
      | _ :: _ :: _, hn => simp at hn; omega
    replace hn := Lib.hid hn
    replace hc := Lib.hid hc
    replace h := Lib.hid h
    go_enter Tryd.func44, Tryd.ntmps44
    go_wp2
    go_ret
    refine ⟨L, by rw [hn.out]; rfl, hc.out.symm, by rw [hn.out]; exact h.out, grown_of_below' (Below.refl _ _)⟩
  · have h2i : ¬ ((n : Int) < 2) := by omega
    obtain ⟨g, cap, e0, hnc, hcm, -⟩ := own_some h.own (by rw [hn]; omega)
    injection e0 with e0 e1 e2
    clear e1
    subst e0 e2
    have hnci : (n : Int) ≤ (c : Int) := by omega
    have hcm2 : Hid (c ≤ maxLen) := Lib.hid hcm
    have hcall := fun (x y : Lit) a a' c c' w h1 h2 => nm_Body2 x y a a' c c' w h1 h2
    replace h := Lib.hid h
    replace hcall := Lib.hid hcall
    replace hn := Lib.hid hn
    clear hcm
    go_enter Tryd.func44, Tryd.ntmps44
    go_wp2
    go_loopw [5] (fun i wr => ∃ kp : Nat, kp + 1 ≤ n ∧ i = .int .i64 ((kp + 1 : Nat) : Int) ∧ Hid (compK (·.1) (L.take (kp + 1)) = L.take (kp + 1)) ∧ Hid (Below W.heap.size W wr)) (fun i _ => n - (intOf i).toNat)
    case atStart => exact ⟨0, by omega, rfl, Lib.hid (by
      match L, hn.out with
      | [], hn => simp at hn; omega
      | x :: _, _ => rfl), Lib.hid (Below.refl _ _)⟩
    case round =>
      obtain ⟨kp, hk, rfl, hck, hb⟩ := hrel
      by_cases hlt : kp + 1 < n
      · obtain ⟨x, e1⟩ : ∃ x, L[kp]? = some x := ⟨_, List.getElem?_eq_getElem (by rw [hn.out]; omega)⟩
        obtain ⟨y, e2⟩ : ∃ y, L[kp + 1]? = some y := ⟨_, List.getElem?_eq_getElem (by rw [hn.out]; exact hlt)⟩
        have hrow := h.out.below hb.out
        obtain ⟨ad, adc, ex, tx, c0, c1, c2, c3, c4, c5, c6⟩ := hrow.at e1
        obtain ⟨bd, bdc, ey, ty, d0, d1, d2, d3, d4, d5, d6⟩ := hrow.at e2
        clear hrow
        obtain ⟨⟨xk, xp, xa, ⟨xlv, xlt⟩, ⟨xrv, xrt⟩⟩, xv⟩ := x
        obtain ⟨⟨yk, yp, ya, ⟨ylv, ylt⟩, ⟨yrv, yrt⟩⟩, yv⟩ := y
        dsimp only at ex ey tx ty c0 c1 c2 c3 c4 c5 c6 d0 d1 d2 d3 d4 d5 d6
        subst ex ey
        have hq0 : (0 : Int) ≤ (kp : Int) + 1 := by omega
        have hq1 : (kp : Int) + 1 < (n : Int) := by omega
        have hq3 : (0 : Int) ≤ (kp : Int) := Int.natCast_nonneg _
        have hw1 : IntKind.i64.wrap ((kp : Int) + 1 - 1) = (kp : Int) := by rw [IntKind.wrap_i64]; omega
        have hw2 : IntKind.i64.wrap (kp : Int) = (kp : Int) := by rw [IntKind.wrap_i64]; omega
        have hq2 : ((kp : Nat) : Int) < (n : Int) := by omega
        have hkS : Hid (∀ w', Below wr.heap.size wr w' → w'.cell? ⟨g, (kp + 1) * 7, none⟩ = some (.int .i64 yk) ∧ w'.cell? ⟨g, (kp + 1) * 7 + 1, none⟩ = some (.string yp) ∧ w'.cell? ⟨g, (kp + 1) * 7 + 2, none⟩ = some (.slice bd ya.length bdc) ∧ w'.cell? ⟨g, (kp + 1) * 7 + 3, none⟩ = some (.bool ylv) ∧ w'.cell? ⟨g, (kp + 1) * 7 + 4, none⟩ = some (.string ylt) ∧ w'.cell? ⟨g, (kp + 1) * 7 + 5, none⟩ = some (.bool yrv) ∧ w'.cell? ⟨g, (kp + 1) * 7 + 6, none⟩ = some (.string yrt) ∧ w'.cell? ⟨g, kp * 7, none⟩ = some (.int .i64 xk) ∧ w'.cell? ⟨g, kp * 7 + 1, none⟩ = some (.string xp) ∧ w'.cell? ⟨g, kp * 7 + 2, none⟩ = some (.slice ad xa.length adc) ∧ w'.cell? ⟨g, kp * 7 + 3, none⟩ = some (.bool xlv) ∧ w'.cell? ⟨g, kp * 7 + 4, none⟩ = some (.string xlt) ∧ w'.cell? ⟨g, kp * 7 + 5, none⟩ = some (.bool xrv) ∧ w'.cell? ⟨g, kp * 7 + 6, none⟩ = some (.string xrt)) := Lib.hid fun w' hb => ⟨cell_below hb rfl d0, cell_below hb rfl d1, cell_below hb rfl d2, cell_below hb rfl d3, cell_below hb rfl d4, cell_below hb rfl d5, cell_below hb rfl d6, cell_below hb rfl c0, cell_below hb rfl c1, cell_below hb rfl c2, cell_below hb rfl c3, cell_below hb rfl c4, cell_below hb rfl c5, cell_below hb rfl c6⟩
        replace tx := Lib.hid tx
        replace ty := Lib.hid ty
        have hcl := hcall.out ⟨yk, yp, ya, (ylv, ylt), (yrv, yrt)⟩ ⟨xk, xp, xa, (xlv, xlt), (xrv, xrt)⟩ bd ad bdc adc
        unfold litV at hcl
        dsimp only at hcl
        replace e1 := Lib.hid e1
        replace e2 := Lib.hid e2
        by_cases hxy : (⟨yk, yp, ya, (ylv, ylt), (yrv, yrt)⟩ : Lit) = ⟨xk, xp, xa, (xlv, xlt), (xrv, xrt)⟩
        · rw [decide_eq_true hxy] at hcl
          have hm2 : Hid (compK (·.1) (L.take (kp + 2)) = L.take (kp + 1)) := Lib.hid ((compK_same (·.1) e1.out e2.out hxy.symm).trans hck.out)
          clear hxy
          replace hcl := Lib.hid hcl
          go_wp2_with fail
          go_region_held3 (fun w' => w'.cell? ⟨g, (kp + 1) * 7, none⟩ = some (.int .i64 yk) ∧ w'.cell? ⟨g, (kp + 1) * 7 + 1, none⟩ = some (.string yp) ∧ w'.cell? ⟨g, (kp + 1) * 7 + 2, none⟩ = some (.slice bd ya.length bdc) ∧ w'.cell? ⟨g, (kp + 1) * 7 + 3, none⟩ = some (.bool ylv) ∧ w'.cell? ⟨g, (kp + 1) * 7 + 4, none⟩ = some (.string ylt) ∧ w'.cell? ⟨g, (kp + 1) * 7 + 5, none⟩ = some (.bool yrv) ∧ w'.cell? ⟨g, (kp + 1) * 7 + 6, none⟩ = some (.string yrt) ∧ w'.cell? ⟨g, kp * 7, none⟩ = some (.int .i64 xk) ∧ w'.cell? ⟨g, kp * 7 + 1, none⟩ = some (.string xp) ∧ w'.cell? ⟨g, kp * 7 + 2, none⟩ = some (.slice ad xa.length adc) ∧ w'.cell? ⟨g, kp * 7 + 3, none⟩ = some (.bool xlv) ∧ w'.cell? ⟨g, kp * 7 + 4, none⟩ = some (.string xlt) ∧ w'.cell? ⟨g, kp * 7 + 5, none⟩ = some (.bool xrv) ∧ w'.cell? ⟨g, kp * 7 + 6, none⟩ = some (.string xrt))
            (first
              | exact hkS.out _ (Below.refl _ _).drew
              | exact hkS.out _ hg2.out.below)
            (first
              | (go_at_call 45; go_loud (refine (hcl.out _ (ty.out.below (Below.refl _ _).drew) (tx.out.below (Below.refl _ _).drew)).mono ?_); rintro e w2 ⟨rfl, hg20⟩; have hg2 := Lib.hid ((Grw.refl wr).drew.trans hg20); clear hg20))
          have hrow2 : Hid (LRow w2 base (.slice (some ⟨g, 0, none⟩) n c) (compD (·.1) L (kp + 2))) := Lib.hid (by
            have : compD (·.1) L (kp + 2) = L := by
              unfold compD
              rw [hm2.out, List.length_take, Nat.min_eq_left (by rw [hn.out]; exact hk), List.take_append_drop]
            rw [this]
            exact h.out.below (hb.out.trans (hg2.out.below.mono hb.out.size)))
          have hgr2 : Hid (W.grownBy w2 (some g)) := Lib.hid (grown_of_below' (hb.out.trans (hg2.out.below.mono hb.out.size)))
          clear c0 c1 c2 c3 c4 c5 c6 d0 d1 d2 d3 d4 d5 d6
          go_wp2_with fail
          obtain ⟨O, hO⟩ : ∃ O, (kp + 1) * 7 = O := ⟨_, rfl⟩
          obtain ⟨N2, hN2⟩ : ∃ N2, n - (kp + 1) = N2 := ⟨_, rfl⟩
          obtain ⟨C2, hC2⟩ : ∃ C2, c - (kp + 1) = C2 := ⟨_, rfl⟩
          have hN3 : kp + 1 + N2 = n := by omega
          rw [hO, hN2, hC2]
          replace hO := Lib.hid hO
          replace hN3 := Lib.hid hN3
          clear hN2 hC2 e1 e2 hcl tx ty hkS hw1 hw2 hb hck hq0 hq1 hq2 hq3
          go_loopw [7, 5] (fun i kv wr => ∃ (jp kk : Nat), jp + 1 ≤ N2 ∧ i = .int .i64 ((jp + 1 : Nat) : Int) ∧ kv = .int .i64 (kk : Int) ∧ kk + 1 ≤ kp + 1 + (jp + 1) ∧ 1 ≤ kk ∧ Hid ((compK (·.1) (L.take (kp + 1 + (jp + 1)))).length = kk) ∧ Hid (LRow wr base (.slice (some ⟨g, 0, none⟩) n c) (compD (·.1) L (kp + 1 + (jp + 1)))) ∧ Hid (W.grownBy wr (some g))) (fun i _ _ => N2 - (intOf i).toNat)
          case atStart => exact ⟨0, kp + 1, by have := hN3.out; omega, rfl, by go_num, by omega, by omega, Lib.hid (by rw [show kp + 1 + (0 + 1) = kp + 2 from rfl, hm2.out, List.length_take, hn.out]; omega), hrow2, hgr2⟩
          case round =>
            clear hrow2 hgr2 hg2
            obtain ⟨jp, kk, hj, rfl, rfl, hkk, hkk1, hck, hrow, hgr⟩ := hrel
            have hN4 := hN3.out
            by_cases hjt : jp + 1 < N2
            · obtain ⟨x, e1⟩ : ∃ x, L[kp + 1 + jp]? = some x := ⟨_, List.getElem?_eq_getElem (by rw [hn.out]; omega)⟩
              obtain ⟨y, e2⟩ : ∃ y, L[kp + 1 + jp + 1]? = some y := ⟨_, List.getElem?_eq_getElem (by rw [hn.out]; omega)⟩
              have f1 := compD_at (·.1) (m := kp + 1 + (jp + 1)) e1 (by rw [hck.out]; omega)
              have f2 := compD_at (·.1) (m := kp + 1 + (jp + 1)) e2 (by rw [hck.out]; omega)
              obtain ⟨ad, adc, ex, tx, c0, c1, c2, c3, c4, c5, c6⟩ := hrow.out.at f1
              obtain ⟨bd, bdc, ey, ty, d0, d1, d2, d3, d4, d5, d6⟩ := hrow.out.at f2
              rw [show (kp + 1 + jp) * 7 = O + jp * 7 from by rw [Nat.add_mul, hO.out]] at c0 c1 c2 c3 c4 c5 c6
              rw [show (kp + 1 + jp + 1) * 7 = O + (jp + 1) * 7 from by rw [Nat.add_assoc (kp + 1), Nat.add_mul, hO.out]] at d0 d1 d2 d3 d4 d5 d6
              clear f1 f2
              have hxmem := hrow.out.size y (by
                have := compD_at (·.1) (m := kp + 1 + (jp + 1)) e2 (by rw [hck.out]; omega)
                exact List.mem_of_getElem? this)
              obtain ⟨⟨xk, xp, xa, ⟨xlv, xlt⟩, ⟨xrv, xrt⟩⟩, xv⟩ := x
              obtain ⟨⟨yk, yp, ya, ⟨ylv, ylt⟩, ⟨yrv, yrt⟩⟩, yv⟩ := y
              dsimp only at ex ey tx ty c0 c1 c2 c3 c4 c5 c6 d0 d1 d2 d3 d4 d5 d6
              subst ex ey
              have hq0 : (0 : Int) ≤ (jp : Int) + 1 := by omega
              have hq1 : (jp : Int) + 1 < (N2 : Int) := by omega
              have hq3 : (0 : Int) ≤ (jp : Int) := Int.natCast_nonneg _
              have hw1 : IntKind.i64.wrap ((jp : Int) + 1 - 1) = (jp : Int) := by rw [IntKind.wrap_i64]; omega
              have hw2 : IntKind.i64.wrap (jp : Int) = (jp : Int) := by rw [IntKind.wrap_i64]; omega
              have hq2 : (jp : Int) < (N2 : Int) := by omega
              have hkS : Hid (∀ w', Below wr.heap.size wr w' → w'.cell? ⟨g, O + (jp + 1) * 7, none⟩ = some (.int .i64 yk) ∧ w'.cell? ⟨g, O + (jp + 1) * 7 + 1, none⟩ = some (.string yp) ∧ w'.cell? ⟨g, O + (jp + 1) * 7 + 2, none⟩ = some (.slice bd ya.length bdc) ∧ w'.cell? ⟨g, O + (jp + 1) * 7 + 3, none⟩ = some (.bool ylv) ∧ w'.cell? ⟨g, O + (jp + 1) * 7 + 4, none⟩ = some (.string ylt) ∧ w'.cell? ⟨g, O + (jp + 1) * 7 + 5, none⟩ = some (.bool yrv) ∧ w'.cell? ⟨g, O + (jp + 1) * 7 + 6, none⟩ = some (.string yrt) ∧ w'.cell? ⟨g, O + jp * 7, none⟩ = some (.int .i64 xk) ∧ w'.cell? ⟨g, O + jp * 7 + 1, none⟩ = some (.string xp) ∧ w'.cell? ⟨g, O + jp * 7 + 2, none⟩ = some (.slice ad xa.length adc) ∧ w'.cell? ⟨g, O + jp * 7 + 3, none⟩ = some (.bool xlv) ∧ w'.cell? ⟨g, O + jp * 7 + 4, none⟩ = some (.string xlt) ∧ w'.cell? ⟨g, O + jp * 7 + 5, none⟩ = some (.bool xrv) ∧ w'.cell? ⟨g, O + jp * 7 + 6, none⟩ = some (.string xrt)) := Lib.hid fun w' hb => ⟨cell_below hb rfl d0, cell_below hb rfl d1, cell_below hb rfl d2, cell_below hb rfl d3, cell_below hb rfl d4, cell_below hb rfl d5, cell_below hb rfl d6, cell_below hb rfl c0, cell_below hb rfl c1, cell_below hb rfl c2, cell_below hb rfl c3, cell_below hb rfl c4, cell_below hb rfl c5, cell_below hb rfl c6⟩
              replace tx := Lib.hid tx
              replace ty := Lib.hid ty
              have hcl := hcall.out ⟨yk, yp, ya, (ylv, ylt), (yrv, yrt)⟩ ⟨xk, xp, xa, (xlv, xlt), (xrv, xrt)⟩ bd ad bdc adc
              unfold litV at hcl
              dsimp only at hcl
              replace e1 := Lib.hid e1
              replace e2 := Lib.hid e2
              by_cases hxy : (⟨yk, yp, ya, (ylv, ylt), (yrv, yrt)⟩ : Lit) = ⟨xk, xp, xa, (xlv, xlt), (xrv, xrt)⟩
              · rw [decide_eq_true hxy] at hcl
                have hm3 : compK (·.1) (L.take (kp + 1 + (jp + 1 + 1))) = compK (·.1) (L.take (kp + 1 + (jp + 1))) := compK_same (·.1) e1.out e2.out hxy.symm
                have hcD : Hid (compD (·.1) L (kp + 1 + (jp + 1 + 1)) = compD (·.1) L (kp + 1 + (jp + 1))) := Lib.hid (by unfold compD; rw [hm3])
                replace hm3 := Lib.hid hm3
                clear hxy
                replace hcl := Lib.hid hcl
                go_wp2_with fail
                go_region_held3 (fun w' => w'.cell? ⟨g, O + (jp + 1) * 7, none⟩ = some (.int .i64 yk) ∧ w'.cell? ⟨g, O + (jp + 1) * 7 + 1, none⟩ = some (.string yp) ∧ w'.cell? ⟨g, O + (jp + 1) * 7 + 2, none⟩ = some (.slice bd ya.length bdc) ∧ w'.cell? ⟨g, O + (jp + 1) * 7 + 3, none⟩ = some (.bool ylv) ∧ w'.cell? ⟨g, O + (jp + 1) * 7 + 4, none⟩ = some (.string ylt) ∧ w'.cell? ⟨g, O + (jp + 1) * 7 + 5, none⟩ = some (.bool yrv) ∧ w'.cell? ⟨g, O + (jp + 1) * 7 + 6, none⟩ = some (.string yrt) ∧ w'.cell? ⟨g, O + jp * 7, none⟩ = some (.int .i64 xk) ∧ w'.cell? ⟨g, O + jp * 7 + 1, none⟩ = some (.string xp) ∧ w'.cell? ⟨g, O + jp * 7 + 2, none⟩ = some (.slice ad xa.length adc) ∧ w'.cell? ⟨g, O + jp * 7 + 3, none⟩ = some (.bool xlv) ∧ w'.cell? ⟨g, O + jp * 7 + 4, none⟩ = some (.string xlt) ∧ w'.cell? ⟨g, O + jp * 7 + 5, none⟩ = some (.bool xrv) ∧ w'.cell? ⟨g, O + jp * 7 + 6, none⟩ = some (.string xrt))
                  (first
                    | exact hkS.out _ (Below.refl _ _).drew
                    | exact hkS.out _ hg2.out.below)
                  (first
                    | (go_at_call 45; go_loud (refine (hcl.out _ (ty.out.below (Below.refl _ _).drew) (tx.out.below (Below.refl _ _).drew)).mono ?_); rintro e w2 ⟨rfl, hg20⟩; have hg2 := Lib.hid ((Grw.refl wr).drew.trans hg20); clear hg20))
                have hrow2 := Lib.hid (hrow.out.below hg2.out.below)
                have hgr2 := Lib.hid (hgr.out.trans (grown_of_below' hg2.out.below))
                go_wp2_with fail
                go_roundw
                case rel => exact ⟨jp + 1, kk, by omega, by go_num, rfl, by omega, hkk1, Lib.hid (by rw [hm3.out]; exact hck.out), Lib.hid (by rw [hcD.out]; exact hrow2.out), hgr2⟩
                case measure => simp [intOf]; omega
              · rw [decide_eq_false hxy] at hcl
                have hm3 : Hid (compK (·.1) (L.take (kp + 1 + (jp + 1 + 1))) = compK (·.1) (L.take (kp + 1 + (jp + 1))) ++ [(⟨yk, yp, ya, (ylv, ylt), (yrv, yrt)⟩, .slice bd ya.length bdc)]) := Lib.hid (compK_new (·.1) e1.out e2.out (fun e => hxy e.symm))
                have hcD : Hid (compD (·.1) L (kp + 1 + (jp + 1 + 1)) = (compD (·.1) L (kp + 1 + (jp + 1))).set kk (⟨yk, yp, ya, (ylv, ylt), (yrv, yrt)⟩, .slice bd ya.length bdc)) := Lib.hid (by
                  have := compD_new (·.1) e1.out e2.out (fun e => hxy e.symm)
                  rw [show kp + 1 + jp + 1 = kp + 1 + (jp + 1) from rfl, hck.out] at this
                  exact this)
                clear hxy
                replace hcl := Lib.hid hcl
                have hqk0 : (0 : Int) ≤ (kk : Int) := Int.natCast_nonneg _
                have hqk1 : (kk : Int) < (n : Int) := by omega
                have hkn : kk < n := by omega
                have hyD : Hid ((compD (·.1) L (kp + 1 + (jp + 1)))[kp + 1 + jp + 1]? = some (⟨yk, yp, ya, (ylv, ylt), (yrv, yrt)⟩, .slice bd ya.length bdc)) := Lib.hid (compD_at (·.1) e2.out (by rw [hck.out]; omega))
                have hex : Hid (∃ z, (compD (·.1) L (kp + 1 + (jp + 1)))[kk]? = some z) := Lib.hid ⟨_, List.getElem?_eq_getElem (by rw [compD_len, hn.out]; exact hkn)⟩
                go_wp2_with fail
                go_region_held3 (fun w' => w'.cell? ⟨g, O + (jp + 1) * 7, none⟩ = some (.int .i64 yk) ∧ w'.cell? ⟨g, O + (jp + 1) * 7 + 1, none⟩ = some (.string yp) ∧ w'.cell? ⟨g, O + (jp + 1) * 7 + 2, none⟩ = some (.slice bd ya.length bdc) ∧ w'.cell? ⟨g, O + (jp + 1) * 7 + 3, none⟩ = some (.bool ylv) ∧ w'.cell? ⟨g, O + (jp + 1) * 7 + 4, none⟩ = some (.string ylt) ∧ w'.cell? ⟨g, O + (jp + 1) * 7 + 5, none⟩ = some (.bool yrv) ∧ w'.cell? ⟨g, O + (jp + 1) * 7 + 6, none⟩ = some (.string yrt) ∧ w'.cell? ⟨g, O + jp * 7, none⟩ = some (.int .i64 xk) ∧ w'.cell? ⟨g, O + jp * 7 + 1, none⟩ = some (.string xp) ∧ w'.cell? ⟨g, O + jp * 7 + 2, none⟩ = some (.slice ad xa.length adc) ∧ w'.cell? ⟨g, O + jp * 7 + 3, none⟩ = some (.bool xlv) ∧ w'.cell? ⟨g, O + jp * 7 + 4, none⟩ = some (.string xlt) ∧ w'.cell? ⟨g, O + jp * 7 + 5, none⟩ = some (.bool xrv) ∧ w'.cell? ⟨g, O + jp * 7 + 6, none⟩ = some (.string xrt))
                  (first
                    | exact hkS.out _ (Below.refl _ _).drew
                    | exact hkS.out _ hg2.out.below)
                  (first
                    | (go_at_call 45; go_loud (refine (hcl.out _ (ty.out.below (Below.refl _ _).drew) (tx.out.below (Below.refl _ _).drew)).mono ?_); rintro e w2 ⟨rfl, hg20⟩; have hg2 := Lib.hid ((Grw.refl wr).drew.trans hg20); clear hg20))
                have hrow2 := Lib.hid (hrow.out.below hg2.out.below)
                have hgr2 := Lib.hid (hgr.out.trans (grown_of_below' hg2.out.below))
                obtain ⟨z, hz⟩ := hex.out
                obtain ⟨zd, zdc, ez, -, p0, p1, p2, p3, p4, p5, p6⟩ := hrow2.out.at hz
                have hown2 : w2.ownsRow base 44 7 (.slice (some ⟨g, 0, none⟩) n c) n (flatV (compD (·.1) L (kp + 1 + (jp + 1)))) := by
                  have := hrow2.out.own
                  rwa [compD_len, hn.out] at this
                have q0 := hown2.frozenAt (kk * 7)
                have q1 := hown2.frozenAt (kk * 7 + 1)
                have q2 := hown2.frozenAt (kk * 7 + 2)
                have q3 := hown2.frozenAt (kk * 7 + 3)
                have q4 := hown2.frozenAt (kk * 7 + 4)
                have q5 := hown2.frozenAt (kk * 7 + 5)
                have q6 := hown2.frozenAt (kk * 7 + 6)
                replace hown2 := Lib.hid hown2
                clear c0 c1 c2 c3 c4 c5 c6 d0 d1 d2 d3 d4 d5 d6
                obtain ⟨d0, d1, d2, d3, d4, d5, d6, -⟩ := hkS.out _ hg2.out.below
                go_wp2_with fail
                have hput := hrow2.out.put hz (z := (⟨yk, yp, ya, (ylv, ylt), (yrv, yrt)⟩, .slice bd ya.length bdc)) (List.mem_of_getElem? hyD.out)
                have hrow3 := Lib.hid hput.1
                have hgr3 := Lib.hid (hgr2.out.trans hput.2)
                clear hput p0 p1 p2 p3 p4 p5 p6 q0 q1 q2 q3 q4 q5 q6 d0 d1 d2 d3 d4 d5 d6
                go_roundw
                case rel => exact ⟨jp + 1, kk + 1, by omega, by go_num, by go_num, by omega, by omega, Lib.hid (by rw [hm3.out, List.length_append, hck.out]; rfl), Lib.hid (by rw [hcD.out]; exact hrow3.out), hgr3⟩
                case measure => simp [intOf]; omega
            · have hje : jp + 1 = N2 := by omega
              have hkn : kk < n := by omega
              have hown0 : wr.ownsRow base 44 7 (.slice (some ⟨g, 0, none⟩) n c) n (flatV (compD (·.1) L (kp + 1 + (jp + 1)))) := by
                have := hrow.out.own
                rwa [compD_len, hn.out] at this
              obtain ⟨W2, hcl2, hown2, hgw⟩ := run_clearK (P := Tryd.prog) (t := 25) (z := .agg #[.int .i64 0, .string ⟨#[]⟩, .slice none 0 0, .bool false, .string ⟨#[]⟩, .bool false, .string ⟨#[]⟩]) hown0 Tryd.underlying25 (fun w => by kernel_rfl) rfl (by intro v hv; have hv : v ∈ #[Value.int .i64 0, .string ⟨#[]⟩, .slice none 0 0, .bool false, .string ⟨#[]⟩, .bool false, .string ⟨#[]⟩] := hv; simp at hv; rcases hv with rfl | rfl | rfl | rfl | rfl | rfl | rfl <;> rfl) (by omega) hkn
              have hm0 : kp + 1 + (jp + 1) = n := by omega
              rw [hm0] at hck hrow
              have hall : L.take n = L := List.take_of_length_le (by rw [hn.out]; omega)
              rw [hall] at hck
              have hfin : Hid (LRow W2 base (.slice (some ⟨g, 0, none⟩) kk c) (compK (·.1) L) ∧ W.grownBy W2 (some g)) := Lib.hid (by
                have hDD : compD (·.1) L n = compK (·.1) L ++ L.drop kk := by unfold compD; rw [hall, hck.out]
                have hin : ∀ y ∈ compK (·.1) L, y ∈ compD (·.1) L n := fun y hy => by rw [hDD]; exact List.mem_append_left _ hy
                refine ⟨⟨?_, by rw [hck.out]; omega, fun y hy => ?_, fun y hy => hrow.out.size y (hin y hy)⟩, hgr.out.trans hgw⟩
                · rw [hck.out]
                  have := hown2
                  rw [hm0, hDD] at this
                  have e3 : (flatV (compK (·.1) L ++ L.drop kk)).take (kk * 7) = flatV (compK (·.1) L) := by
                    unfold flatV
                    rw [List.flatMap_append, List.take_append_of_le_length (by have := flatV_len (compK (·.1) L); unfold flatV at this; rw [this, hck.out]; exact Nat.le_refl _), List.take_of_length_le (by have := flatV_len (compK (·.1) L); unfold flatV at this; rw [this, hck.out]; exact Nat.le_refl _)]
                  rwa [e3] at this
                · have ht := hrow.out.inner y (hin y hy)
                  exact ht.kept hgw (own_diff ht.own hrow.out.own (by decide)))
              have hqk0 : (0 : Int) ≤ (kk : Int) := Int.natCast_nonneg _
              have hqk1 : (kk : Int) ≤ (n : Int) := by omega
              have hqk2 : (kk : Int) ≤ (c : Int) := by omega
              have hqk3 : kk ≤ c := by omega
              clear hown0 hown2 hgw
              go_wp2
              go_ret
              exact ⟨compK (·.1) L, by rw [hck.out]; rfl, rfl, by rw [hck.out]; exact hfin.out.1, hfin.out.2⟩
        · rw [decide_eq_false hxy] at hcl
          have hm2 : Hid (compK (·.1) (L.take (kp + 1 + 1)) = L.take (kp + 1 + 1)) := Lib.hid (by
            rw [show kp + 1 + 1 = kp + 2 from rfl, compK_new (·.1) e1.out e2.out (fun e => hxy e.symm), hck.out]
            exact (take_snoc e2.out).symm)
          clear hxy
          replace hcl := Lib.hid hcl
          go_wp2_with fail
          go_region_held3 (fun w' => w'.cell? ⟨g, (kp + 1) * 7, none⟩ = some (.int .i64 yk) ∧ w'.cell? ⟨g, (kp + 1) * 7 + 1, none⟩ = some (.string yp) ∧ w'.cell? ⟨g, (kp + 1) * 7 + 2, none⟩ = some (.slice bd ya.length bdc) ∧ w'.cell? ⟨g, (kp + 1) * 7 + 3, none⟩ = some (.bool ylv) ∧ w'.cell? ⟨g, (kp + 1) * 7 + 4, none⟩ = some (.string ylt) ∧ w'.cell? ⟨g, (kp + 1) * 7 + 5, none⟩ = some (.bool yrv) ∧ w'.cell? ⟨g, (kp + 1) * 7 + 6, none⟩ = some (.string yrt) ∧ w'.cell? ⟨g, kp * 7, none⟩ = some (.int .i64 xk) ∧ w'.cell? ⟨g, kp * 7 + 1, none⟩ = some (.string xp) ∧ w'.cell? ⟨g, kp * 7 + 2, none⟩ = some (.slice ad xa.length adc) ∧ w'.cell? ⟨g, kp * 7 + 3, none⟩ = some (.bool xlv) ∧ w'.cell? ⟨g, kp * 7 + 4, none⟩ = some (.string xlt) ∧ w'.cell? ⟨g, kp * 7 + 5, none⟩ = some (.bool xrv) ∧ w'.cell? ⟨g, kp * 7 + 6, none⟩ = some (.string xrt))
            (first
              | exact hkS.out _ (Below.refl _ _).drew
              | exact hkS.out _ hg2.out.below)
            (first
              | (go_at_call 45; go_loud (refine (hcl.out _ (ty.out.below (Below.refl _ _).drew) (tx.out.below (Below.refl _ _).drew)).mono ?_); rintro e w2 ⟨rfl, hg20⟩; have hg2 := Lib.hid ((Grw.refl wr).drew.trans hg20); clear hg20))
          have hb2 := Lib.hid (hb.out.trans (hg2.out.below.mono hb.out.size))
          go_wp2_with fail
          go_roundw
          case rel => exact ⟨kp + 1, by omega, by go_num, hm2, hb2⟩
          case measure => simp [intOf]; omega
      · have hke : kp + 1 = n := by omega
        subst hke
        have hfin : Hid (compK (·.1) L = L) := Lib.hid (by
          have := hck.out
          rwa [List.take_of_length_le (by rw [hn.out]; omega)] at this)
        go_wp2
        go_ret
        exact ⟨L, by rw [hn.out]; rfl, hfin.out.symm, by rw [hn.out]; exact h.out.below hb.out, grown_of_below' hb.out⟩
end Go.Proofs.YtoklbofobcloaaaDoor
