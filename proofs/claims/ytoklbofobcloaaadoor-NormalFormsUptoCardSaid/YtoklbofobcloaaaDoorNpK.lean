/- Normal: the document's Body. (gen_npk.py) -/
import Derived.Test.YtoklbofobcloaaaDoorNpJ
import Derived.Deep.CutRange
namespace Go.Proofs.YtoklbofobcloaaaDoor
open Go.RowKit Go.Sort Go.Shelf
set_option linter.unusedVariables false
/-- what stands while a body is put together: the row, and the literal at hand in its box -/
structure LS (W2 : World) (lo : Nat) (wr : World) (v : Value) (Q : List Blk) (b : Nat) (y : Blk) : Prop where
  os : OS W2 lo wr v Q
  box : wr.heap[b]? = some (.cells (litV y.1 (some ⟨y.2.1, 0, none⟩) y.2.2) 44)
  ne : v.ownBlock ≠ some b
  ge : W2.heap.size ≤ b
  el : InB W2 lo y
theorem LS.below {W2 wr w' : World} {lo b : Nat} {v : Value} {Q : List Blk} {y : Blk} (h : LS W2 lo wr v Q b y) (hb : Below wr.heap.size wr w') : LS W2 lo w' v Q b y :=
  ⟨h.os.below hb, (hb.block b (Array.getElem?_eq_some_iff.1 h.box).1).trans h.box, h.ne, h.ge, h.el⟩
theorem LS.swap {W2 wr : World} {lo b : Nat} {v : Value} {Q : List Blk} {y : Blk} (h : LS W2 lo wr v Q b y) : LS W2 lo ((((wr.setCell ⟨b, 3, none⟩ (.bool y.1.r.1)).setCell ⟨b, 4, none⟩ (.string y.1.r.2)).setCell ⟨b, 5, none⟩ (.bool y.1.l.1)).setCell ⟨b, 6, none⟩ (.string y.1.l.2)) v Q b (⟨y.1.k, y.1.p, y.1.a, y.1.r, y.1.l⟩, y.2) :=
  ⟨h.os.other ((((grown_set _ _ _ _).trans (grown_set _ _ _ _)).trans (grown_set _ _ _ _)).trans (grown_set _ _ _ _)) h.ne h.ge,
    Go.heap_setCell_same _ _ _ _ _ _ (Go.heap_setCell_same _ _ _ _ _ _ (Go.heap_setCell_same _ _ _ _ _ _ (Go.heap_setCell_same _ _ _ _ _ _ h.box))), h.ne, h.ge, ⟨h.el.1, h.el.2.1, h.el.2.2.1, h.el.2.2.2.2, h.el.2.2.2.1⟩⟩
theorem LS.set {W2 wr : World} {lo b g n c k : Nat} {Z : List Blk} {y z : Blk} (h : LS W2 lo wr (.slice (some ⟨g, 0, none⟩) n c) Z b y) (hn : Z.length = n) (hk : k < n) (hz : InB W2 lo z) : LS W2 lo (setM wr g (k * 7) z) (.slice (some ⟨g, 0, none⟩) n c) (Z.set k z) b y := by
  subst hn
  refine ⟨⟨by rw [List.length_set]; exact row_set h.os.own hk z, fun x hx => ?_, h.os.bel.grown (grown_setM _ _ _ _) h.os.bel.size (fun j e => own_ge h.os.own j e)⟩, ((grown_setM wr g (k * 7) z).block b (Array.getElem?_eq_some_iff.1 h.box).1 (fun e => h.ne (by rw [e]; rfl))).trans h.box, h.ne, h.ge, h.el⟩
  rcases List.mem_or_eq_of_mem_set hx with hx | hx
  · exact h.os.el x hx
  · rw [hx]; exact hz
set_option maxHeartbeats 8000000 in
set_option maxRecDepth 100000 in
theorem rn_Body (r : Rul) (a b : Option Addr) (c d : Nat) (w : World) (ha : Terms w a r.a) (hb : Lits w b r.b) :
    Calls Tryd.prog 18 #[.agg #[.string r.h, .slice a r.a.length c, .slice b r.b.length d]] w fun e w' => ∃ va vb, e = .returned (.agg #[.string r.h, va, vb]) ∧ Rl w' w.heap.size w'.heap.size va vb (bodyR r) ∧ Below w.heap.size w w' := by
  obtain ⟨il, hil, hz0, hz1, hz2⟩ := info_parts pr_infoLit
  obtain ⟨W0, hW0⟩ : ∃ W0, W0 = (w.alloc (.cells #[.string r.h, .slice a r.a.length c, .slice b r.b.length d] 27)).alloc (.cells #[.string ⟨#[]⟩, .slice none 0 0, .slice none 0 0] 27) := ⟨_, rfl⟩
  have hkp : Hid (∀ w', Below W0.heap.size W0 w' → w'.heap[w.heap.size]? = some (.cells #[.string r.h, .slice a r.a.length c, .slice b r.b.length d] 27) ∧ w'.heap[w.heap.size + 1]? = some (.cells #[.string ⟨#[]⟩, .slice none 0 0, .slice none 0 0] 27) ∧ Below w.heap.size w w') := Lib.hid (by
    subst hW0; intro w' hb; obtain ⟨h1, h2, h3⟩ := two_cells hb; exact ⟨h2, h3, h1⟩)
  have hB0 := (hkp.out W0 (Below.refl _ _)).2.2
  have hB1 : Hid (w.heap.size + 1 < W0.heap.size) := Lib.hid (Array.getElem?_eq_some_iff.1 (hkp.out W0 (Below.refl _ _)).2.1).1
  have h0 := hkp.out W0 (Below.refl _ _)
  have q0 : W0.cell? ⟨w.heap.size, 0, none⟩ = some (.string r.h) := by simp [World.cell?, h0.1]
  have q1 : W0.cell? ⟨w.heap.size, 1, none⟩ = some (.slice a r.a.length c) := by simp [World.cell?, h0.1]
  have q2 : W0.cell? ⟨w.heap.size, 2, none⟩ = some (.slice b r.b.length d) := by simp [World.cell?, h0.1]
  clear h0
  have hcq := Lib.hid (cq_rule r.h a r.a c b r.b d W0 (ha.below hB0) (hb.below hB0))
  have hla := ha.len
  have hlb := hb.len
  clear ha hb hB0
  go_enter Tryd.func18, Tryd.ntmps18
  go_upto_region 1 with fail
  rw [← hW0]
  clear hW0
  go_wp2_with (go_at_call 9; go_loud (refine hcq.out.mono ?_); rintro e w1 ⟨g, gc, B, cB, L, rfl, hT, hL, hmap0, hgg, hbb⟩; have hcp := Lib.hid (And.intro hT (And.intro hL hgg)); have hmap := Lib.hid hmap0; have hb1 := Lib.hid hbb; clear hT hL hmap0 hgg hbb)
  obtain ⟨W2, hW2⟩ : ∃ W2, W2 = w1.alloc (.cells #[.string r.h, .slice (some ⟨g, 0, none⟩) r.a.length gc, .slice (some ⟨B, 0, none⟩) r.b.length cB] 27) := ⟨_, rfl⟩
  obtain ⟨G, hG⟩ : ∃ G, w1.heap.size = G := ⟨_, rfl⟩
  have hP : Hid (W2.heap[G]? = some (.cells #[.string r.h, .slice (some ⟨g, 0, none⟩) r.a.length gc, .slice (some ⟨B, 0, none⟩) r.b.length cB] 27) ∧ TermsM W2 g r.a gc ∧ LitsM W2 B L cB ∧ (W0.heap.size ≤ g ∧ W0.heap.size ≤ B ∧ ∀ y ∈ L, g < y.2.1) ∧ Below W0.heap.size W0 W2) := Lib.hid (by
    have hal := (Below.refl w1.heap.size w1).al (.cells #[.string r.h, .slice (some ⟨g, 0, none⟩) r.a.length gc, .slice (some ⟨B, 0, none⟩) r.b.length cB] 27)
    rw [← hW2] at hal
    obtain ⟨h1, h2, h3, h4, h5, h6⟩ := hcp.out
    exact ⟨by rw [hW2, ← hG]; exact heap_alloc_new _ _, h1.below hal, h2.below hal, ⟨h3, h4, h5⟩, hb1.out.trans (hal.mono hb1.out.size)⟩)
  have hLl : Hid (L.length = r.b.length) := Lib.hid (by rw [← hmap.out, List.length_map])
  have hLe : Hid (∀ y ∈ L, InB W2 W0.heap.size y) := Lib.hid fun y hy => ⟨hP.out.2.2.1.inner y hy, Nat.le_of_lt (Nat.lt_of_le_of_lt hP.out.2.2.2.1.1 (hP.out.2.2.2.1.2.2 y hy)), hP.out.2.2.1.size y hy⟩
  have hbx : Hid (∀ W, Below W2.heap.size W2 W → W.cell? ⟨G, 0, none⟩ = some (.string r.h) ∧ W.cell? ⟨G, 1, none⟩ = some (.slice (some ⟨g, 0, none⟩) r.a.length gc) ∧ W.cell? ⟨G, 2, none⟩ = some (.slice (some ⟨B, 0, none⟩) r.b.length cB)) := Lib.hid fun W hW => box_cells ((hW.block G (Array.getElem?_eq_some_iff.1 hP.out.1).1).trans hP.out.1)
  have hlc : Hid (∀ W, Below W2.heap.size W2 W → LitsM W B L cB) := Lib.hid fun W hW => hP.out.2.2.1.below hW
  rw [← hW2]
  rw [hG]
  clear hW2 hG hb1 q0 q1 q2 hcq hcp
  clear w1
  obtain ⟨z0, z1, z2⟩ := hbx.out W2 (Below.refl _ _)
  go_wp2
  go_loopw [4, 5] (fun v i wr => ∃ (k : Nat) (Q : List Blk), k ≤ r.b.length ∧ i = .int .i64 k ∧ Hid (OS W2 W0.heap.size wr v Q) ∧ Hid (Q.map (·.1) = setL cmpL ((r.b.take k).map turnL))) (fun _ i _ => r.b.length - (intOf i).toNat)
  case atStart => exact ⟨0, [], Nat.zero_le _, rfl, Lib.hid ⟨World.ownsRow_nil _ _ _ _, by simp, Below.refl _ _⟩, Lib.hid (by simp [setL])⟩
  case round =>
    clear z0 z1 z2
    obtain ⟨i, Q, hi, rfl, hO, hQ⟩ := hrel
    obtain ⟨z0, z1, z2⟩ := hbx.out wr hO.out.bel
    have hq0 : (0 : Int) ≤ (i : Int) := Int.natCast_nonneg _
    obtain ⟨va, vc, rfl, -⟩ := own_slice hO.out.own
    have hQl : Q.length ≤ i := by
      have h1 := congrArg List.length hQ.out
      have h2 := setL_len cmpL ((r.b.take i).map turnL)
      rw [List.length_map] at h1
      rw [List.length_map, List.length_take] at h2
      omega
    by_cases hlt : i < r.b.length
    · have hq1 : (i : Int) < (r.b.length : Int) := by omega
      obtain ⟨y, ey⟩ : ∃ y, L[i]? = some y := ⟨_, List.getElem?_eq_getElem (by rw [hLl.out]; exact hlt)⟩
      have hyb := Lib.hid (hLe.out _ (List.mem_of_getElem? ey))
      have hlm := hlc.out wr hO.out.bel
      have c0 : wr.cell? ⟨B, i * 7, none⟩ = _ := hlm.cell i 0 (by decide) ey rfl
      have c1 := hlm.cell i 1 (by decide) ey rfl
      have c2 := hlm.cell i 2 (by decide) ey rfl
      have c3 := hlm.cell i 3 (by decide) ey rfl
      have c4 := hlm.cell i 4 (by decide) ey rfl
      have c5 := hlm.cell i 5 (by decide) ey rfl
      have c6 := hlm.cell i 6 (by decide) ey rfl
      clear hlm
      have hsn : Hid (setL cmpL ((r.b.take (i + 1)).map turnL) = insL cmpL (turnL y.1) (Q.map (·.1))) := Lib.hid (by
        have h1 : r.b[i]? = some y.1 := by rw [← hmap.out, List.getElem?_map, ey]; rfl
        rw [hQ.out, ← setL_snoc, ← List.take_append_getElem (List.getElem?_eq_some_iff.1 h1).1, List.map_append, (List.getElem?_eq_some_iff.1 h1).2]
        rfl)
      have htu : turnL y.1 = if y.1.k = 3 ∧ cmpT y.1.r y.1.l = -1 then ⟨y.1.k, y.1.p, y.1.a, y.1.r, y.1.l⟩ else y.1 := rfl
      have hct := rn_Terms y.1.r y.1.l
      have hc3 := cmpT_ord.three y.1.r y.1.l
      obtain ⟨⟨xk, xp, xa, ⟨xlv, xlt⟩, ⟨xrv, xrt⟩⟩, yg, yc⟩ := y
      dsimp only at htu hct hc3
      clear ey
      go_upto_region 7 with fail
      obtain ⟨W3, hW3⟩ : ∃ W3, W3 = wr.alloc (.cells #[.int .i64 xk, .string xp, .slice (some ⟨yg, 0, none⟩) xa.length yc, .bool xlv, .string xlt, .bool xrv, .string xrt] 44) := ⟨_, rfl⟩
      obtain ⟨bx, hbx2⟩ : ∃ bx, wr.heap.size = bx := ⟨_, rfl⟩
      have hS : Hid (LS W2 W0.heap.size W3 (.slice va Q.length vc) Q bx (⟨xk, xp, xa, (xlv, xlt), (xrv, xrt)⟩, yg, yc)) := Lib.hid (by
        have hal := (Below.refl wr.heap.size wr).al (.cells #[.int .i64 xk, .string xp, .slice (some ⟨yg, 0, none⟩) xa.length yc, .bool xlv, .string xlt, .bool xrv, .string xrt] 44)
        rw [← hW3] at hal
        refine ⟨hO.out.below hal, by rw [hW3, ← hbx2]; exact heap_alloc_new _ _, fun e => ?_, by rw [← hbx2]; exact hO.out.bel.size, hyb.out⟩
        have := (hO.out.own.lt _ e).2
        omega)
      rw [← hW3, hbx2]
      clear hW3 hbx2 hO c0 c1 c2 c3 c4 c5 c6 z0 z1 z2
      clear wr
      obtain ⟨d0, d1, d2, d3, d4, d5, d6⟩ := lit_box hS.out.box
      dsimp only at d0 d1 d2 d3 d4 d5 d6
      obtain ⟨z, hz⟩ : ∃ z, cmpT (xrv, xrt) (xlv, xlt) = z := ⟨_, rfl⟩
      rw [hz] at hct hc3 htu
      clear hz
      go_cut [33] from 23 to 32 (fun v33 wx => ∃ T : Bool, v33 = .bool T ∧ Hid (T = true ↔ xk = 3 ∧ z = -1) ∧ Hid (LS W2 W0.heap.size wx (.slice va Q.length vc) Q bx (⟨xk, xp, xa, (xlv, xlt), (xrv, xrt)⟩, yg, yc)))
      case first =>
        by_cases hk3 : xk = 3
        · subst hk3
          by_cases hz0 : z < 0
          · go_wp2_with (go_at_call 48; go_loud (refine (hct _).mono ?_); rintro e w2 ⟨rfl, hg20⟩; have hS2 := Lib.hid (hS.out.below hg20.below); clear hg20)
            go_meet
            case rel => exact ⟨true, rfl, Lib.hid (by rcases hc3 with e | e | e <;> subst e <;> simp at hz0 ⊢), hS2⟩
          · have hzd : decide (z < 0) = false := decide_eq_false hz0
            go_wp2_with (go_at_call 48; go_loud (refine (hct _).mono ?_); rintro e w2 ⟨rfl, hg20⟩; have hS2 := Lib.hid (hS.out.below hg20.below); clear hg20)
            go_meet
            case rel => exact ⟨false, rfl, Lib.hid (by rcases hc3 with e | e | e <;> subst e <;> simp at hz0 ⊢), hS2⟩
        · have hk3b : (xk == 3) = false := by simp [hk3]
          have hk3d : decide (xk = 3) = false := by simp [hk3]
          go_wp2_with fail
          go_meet
          case rel => exact ⟨false, rfl, Lib.hid ⟨fun h => (by cases h), fun h => absurd h.1 hk3⟩, hS⟩
      case rest =>
        clear hS d0 d1 d2 d3 d4 d5 d6
        obtain ⟨T, rfl, hT, hS⟩ := hcut
        obtain ⟨d0, d1, d2, d3, d4, d5, d6⟩ := lit_box hS.out.box
        dsimp only at d0 d1 d2 d3 d4 d5 d6
        have f3 := lit_live hS.out.box 3
        have f4 := lit_live hS.out.box 4
        have f5 := lit_live hS.out.box 5
        have f6 := lit_live hS.out.box 6
        go_upto_if 33 with fail
        go_cut [] from 34 to 39 (fun wx => Hid (LS W2 W0.heap.size wx (.slice va Q.length vc) Q bx (turnY (⟨xk, xp, xa, (xlv, xlt), (xrv, xrt)⟩, yg, yc))))
        case first =>
          cases T with
          | true =>
            have hTu : turnY (⟨xk, xp, xa, (xlv, xlt), (xrv, xrt)⟩, yg, yc) = (⟨xk, xp, xa, (xrv, xrt), (xlv, xlt)⟩, yg, yc) := by
              unfold turnY; rw [htu, if_pos (hT.out.1 rfl)]
            have hsw := Lib.hid hS.out.swap
            dsimp only at hsw
            rw [← hTu] at hsw
            go_wp2_with fail
            go_meet
            case rel => exact hsw
          | false =>
            have hTu : turnY (⟨xk, xp, xa, (xlv, xlt), (xrv, xrt)⟩, yg, yc) = (⟨xk, xp, xa, (xlv, xlt), (xrv, xrt)⟩, yg, yc) := by
              unfold turnY; rw [htu, if_neg (fun h => by have := hT.out.2 h; cases this)]
            go_wp2_with fail
            go_meet
            case rel => rw [hTu]; exact hS
        case rest =>
          clear hS hT d0 d1 d2 d3 d4 d5 d6 f3 f4 f5 f6
          have hsn2 : Hid (setL cmpL ((r.b.take (i + 1)).map turnL) = insL cmpL (turnY (⟨xk, xp, xa, (xlv, xlt), (xrv, xrt)⟩, yg, yc)).1 (Q.map (·.1))) := hsn
          clear htu hc3 hct hsn
          generalize turnY (⟨xk, xp, xa, (xlv, xlt), (xrv, xrt)⟩, yg, yc) = yy at hsn2 hcut ⊢
          have hS := hcut
          clear hcut hyb
          obtain ⟨⟨lk, lp, la, ⟨llv, llt⟩, ⟨lrv, lrt⟩⟩, lg, lc⟩ := yy
          go_wp2_with fail
          go_loopw [7] (fun v wt => ∃ p : Nat, v = .int .i64 p ∧ p ≤ Q.length ∧ Hid (∀ j y, j < p → Q[j]? = some y → cmpY y (⟨lk, lp, la, (llv, llt), (lrv, lrt)⟩, lg, lc) = -1) ∧ Hid (LS W2 W0.heap.size wt (.slice va Q.length vc) Q bx (⟨lk, lp, la, (llv, llt), (lrv, lrt)⟩, lg, lc))) (fun v _ => Q.length - (intOf v).toNat)
          case atStart => exact ⟨0, rfl, Nat.zero_le _, Lib.hid (fun j y hj => by omega), hS⟩
          case round =>
            clear hS
            obtain ⟨p, rfl, hp, hno, hS⟩ := hrel
            have hp0 : (0 : Int) ≤ (p : Int) := Int.natCast_nonneg _
            go_upto_region 10 with fail
            go_cut [52] from 40 to 51 (fun v52 wx => ∃ T : Bool, v52 = .bool T ∧ Hid (T = true → ∃ y, Q[p]? = some y ∧ cmpY y (⟨lk, lp, la, (llv, llt), (lrv, lrt)⟩, lg, lc) = -1) ∧ Hid (T = false → ∀ y, Q[p]? = some y → cmpY y (⟨lk, lp, la, (llv, llt), (lrv, lrt)⟩, lg, lc) ≠ -1) ∧ Hid (LS W2 W0.heap.size wx (.slice va Q.length vc) Q bx (⟨lk, lp, la, (llv, llt), (lrv, lrt)⟩, lg, lc)))
            case first =>
              by_cases hlt2 : p < Q.length
              · have hp1 : (p : Int) < (Q.length : Int) := by omega
                obtain ⟨⟨⟨qk, qp, qa, ⟨qlv, qlt⟩, ⟨qrv, qrt⟩⟩, qg, qc⟩, eq0'⟩ : ∃ q, Q[p]? = some q := ⟨_, List.getElem?_eq_getElem hlt2⟩
                have eq0 := Lib.hid eq0'
                have hqe := hS.out.os.el _ (List.mem_of_getElem? eq0')
                obtain ⟨vg, vcap, e0, -⟩ := own_some hS.out.os.own (by omega)
                injection e0 with e0 e3 e4
                clear e3
                subst e0 e4
                have hcells : Hid (∀ w', Below wr.heap.size wr w' → (w'.cell? ⟨vg, p * 7, none⟩ = some (.int .i64 qk) ∧ w'.cell? ⟨vg, p * 7 + 1, none⟩ = some (.string qp) ∧ w'.cell? ⟨vg, p * 7 + 2, none⟩ = some (.slice (some ⟨qg, 0, none⟩) qa.length qc) ∧ w'.cell? ⟨vg, p * 7 + 3, none⟩ = some (.bool qlv) ∧ w'.cell? ⟨vg, p * 7 + 4, none⟩ = some (.string qlt) ∧ w'.cell? ⟨vg, p * 7 + 5, none⟩ = some (.bool qrv) ∧ w'.cell? ⟨vg, p * 7 + 6, none⟩ = some (.string qrt)) ∧ (w'.cell? ⟨bx, 0, none⟩ = some (.int .i64 lk) ∧ w'.cell? ⟨bx, 1, none⟩ = some (.string lp) ∧ w'.cell? ⟨bx, 2, none⟩ = some (.slice (some ⟨lg, 0, none⟩) la.length lc) ∧ w'.cell? ⟨bx, 3, none⟩ = some (.bool llv) ∧ w'.cell? ⟨bx, 4, none⟩ = some (.string llt) ∧ w'.cell? ⟨bx, 5, none⟩ = some (.bool lrv) ∧ w'.cell? ⟨bx, 6, none⟩ = some (.string lrt))) := Lib.hid (fun w' hb => ⟨row_cells (hS.out.below hb).os.own eq0.out, lit_box (hS.out.below hb).box⟩)
                have hcl : Hid (∀ W, Below wr.heap.size wr W → Calls Tryd.prog 26 #[.agg #[.int .i64 qk, .string qp, .slice (some ⟨qg, 0, none⟩) qa.length qc, .bool qlv, .string qlt, .bool qrv, .string qrt], .agg #[.int .i64 lk, .string lp, .slice (some ⟨lg, 0, none⟩) la.length lc, .bool llv, .string llt, .bool lrv, .string lrt]] W fun e w' => e = .returned (.int .i64 (cmpL ⟨qk, qp, qa, (qlv, qlt), (qrv, qrt)⟩ ⟨lk, lp, la, (llv, llt), (lrv, lrt)⟩)) ∧ Grw W w') := Lib.hid (fun W hW => rn_Compare ⟨qk, qp, qa, (qlv, qlt), (qrv, qrt)⟩ ⟨lk, lp, la, (llv, llt), (lrv, lrt)⟩ (some ⟨qg, 0, none⟩) (some ⟨lg, 0, none⟩) qc lc W ((hS.out.below hW).os.terms hqe) ((hS.out.below hW).os.terms hS.out.el))
                have hz3 := cmpL_ord.three ⟨qk, qp, qa, (qlv, qlt), (qrv, qrt)⟩ ⟨lk, lp, la, (llv, llt), (lrv, lrt)⟩
                obtain ⟨z, hz'⟩ : ∃ z, cmpL ⟨qk, qp, qa, (qlv, qlt), (qrv, qrt)⟩ ⟨lk, lp, la, (llv, llt), (lrv, lrt)⟩ = z := ⟨_, rfl⟩
                rw [hz'] at hcl hz3
                have hz := Lib.hid hz'
                clear hz' eq0' hqe
                obtain ⟨⟨c0, c1, c2, c3, c4, c5, c6⟩, ⟨d0, d1, d2, d3, d4, d5, d6⟩⟩ := hcells.out _ (Below.refl _ _)

                have hval : Hid (∀ y, Q[p]? = some y → cmpY y (⟨lk, lp, la, (llv, llt), (lrv, lrt)⟩, lg, lc) = z) := Lib.hid (fun y e => by
                  rw [eq0.out] at e
                  injection e with e
                  subst e
                  exact hz.out)
                clear hz
                by_cases hz0 : z < 0
                · have hzd : decide (z < 0) = true := decide_eq_true hz0
                  have hyes : Hid (cmpY (⟨qk, qp, qa, (qlv, qlt), (qrv, qrt)⟩, qg, qc) (⟨lk, lp, la, (llv, llt), (lrv, lrt)⟩, lg, lc) = -1) := Lib.hid (by
                    rw [hval.out _ eq0.out]
                    rcases hz3 with h | h | h <;> omega)
                  clear hz3 hval
                  go_wp2_with fail
                  go_region_held3 (fun w' => (w'.cell? ⟨vg, p * 7, none⟩ = some (.int .i64 qk) ∧ w'.cell? ⟨vg, p * 7 + 1, none⟩ = some (.string qp) ∧ w'.cell? ⟨vg, p * 7 + 2, none⟩ = some (.slice (some ⟨qg, 0, none⟩) qa.length qc) ∧ w'.cell? ⟨vg, p * 7 + 3, none⟩ = some (.bool qlv) ∧ w'.cell? ⟨vg, p * 7 + 4, none⟩ = some (.string qlt) ∧ w'.cell? ⟨vg, p * 7 + 5, none⟩ = some (.bool qrv) ∧ w'.cell? ⟨vg, p * 7 + 6, none⟩ = some (.string qrt)) ∧ (w'.cell? ⟨bx, 0, none⟩ = some (.int .i64 lk) ∧ w'.cell? ⟨bx, 1, none⟩ = some (.string lp) ∧ w'.cell? ⟨bx, 2, none⟩ = some (.slice (some ⟨lg, 0, none⟩) la.length lc) ∧ w'.cell? ⟨bx, 3, none⟩ = some (.bool llv) ∧ w'.cell? ⟨bx, 4, none⟩ = some (.string llt) ∧ w'.cell? ⟨bx, 5, none⟩ = some (.bool lrv) ∧ w'.cell? ⟨bx, 6, none⟩ = some (.string lrt)))
                    (first
                      | exact hcells.out _ (Below.refl _ _).drew
                      | exact hcells.out _ hg2.out.below)
                    (first
                      | (go_at_call 26; go_loud (refine (hcl.out _ (Below.refl _ _).drew).mono ?_); rintro e w2 ⟨rfl, hg20⟩; have hg2 := Lib.hid ((Grw.refl wr).drew.trans hg20); clear hg20))

                  have hS2 := Lib.hid (hS.out.below hg2.out.below)
                  go_wp2_with fail
                  go_meet
                  case rel => exact ⟨true, rfl, Lib.hid (fun _ => ⟨_, eq0.out, hyes.out⟩), Lib.hid (fun h => by cases h), hS2⟩
                · have hzd : decide (z < 0) = false := decide_eq_false hz0
                  have hnot : Hid (∀ y, Q[p]? = some y → cmpY y (⟨lk, lp, la, (llv, llt), (lrv, lrt)⟩, lg, lc) ≠ -1) := Lib.hid (fun y e => by
                    rw [hval.out y e]
                    omega)
                  clear hz3 hval
                  go_wp2_with fail
                  go_region_held3 (fun w' => (w'.cell? ⟨vg, p * 7, none⟩ = some (.int .i64 qk) ∧ w'.cell? ⟨vg, p * 7 + 1, none⟩ = some (.string qp) ∧ w'.cell? ⟨vg, p * 7 + 2, none⟩ = some (.slice (some ⟨qg, 0, none⟩) qa.length qc) ∧ w'.cell? ⟨vg, p * 7 + 3, none⟩ = some (.bool qlv) ∧ w'.cell? ⟨vg, p * 7 + 4, none⟩ = some (.string qlt) ∧ w'.cell? ⟨vg, p * 7 + 5, none⟩ = some (.bool qrv) ∧ w'.cell? ⟨vg, p * 7 + 6, none⟩ = some (.string qrt)) ∧ (w'.cell? ⟨bx, 0, none⟩ = some (.int .i64 lk) ∧ w'.cell? ⟨bx, 1, none⟩ = some (.string lp) ∧ w'.cell? ⟨bx, 2, none⟩ = some (.slice (some ⟨lg, 0, none⟩) la.length lc) ∧ w'.cell? ⟨bx, 3, none⟩ = some (.bool llv) ∧ w'.cell? ⟨bx, 4, none⟩ = some (.string llt) ∧ w'.cell? ⟨bx, 5, none⟩ = some (.bool lrv) ∧ w'.cell? ⟨bx, 6, none⟩ = some (.string lrt)))
                    (first
                      | exact hcells.out _ (Below.refl _ _).drew
                      | exact hcells.out _ hg2.out.below)
                    (first
                      | (go_at_call 26; go_loud (refine (hcl.out _ (Below.refl _ _).drew).mono ?_); rintro e w2 ⟨rfl, hg20⟩; have hg2 := Lib.hid ((Grw.refl wr).drew.trans hg20); clear hg20))

                  have hS2 := Lib.hid (hS.out.below hg2.out.below)
                  go_wp2_with fail
                  go_meet
                  case rel => exact ⟨false, rfl, Lib.hid (fun h => by cases h), Lib.hid (fun _ => hnot.out), hS2⟩
              · have hp1 : ¬ (p : Int) < (Q.length : Int) := by omega
                have hnot : Hid (∀ y, Q[p]? = some y → cmpY y (⟨lk, lp, la, (llv, llt), (lrv, lrt)⟩, lg, lc) ≠ -1) := Lib.hid (fun y e => by
                  have := (List.getElem?_eq_some_iff.1 e).1
                  omega)
                go_wp2_with fail
                go_quiet (fail)
                go_wp2_with fail
                go_meet
                case rel => exact ⟨false, rfl, Lib.hid (fun h => by cases h), Lib.hid (fun _ => hnot.out), Lib.hid (hS.out.below (below_drewN (Below.refl _ _) _))⟩

            case rest =>
              clear hS
              obtain ⟨T2, rfl, hT1, hT0, hS⟩ := hcut
              cases T2 with
              | true =>
                have hno2 : Hid (p < Q.length ∧ ∀ j y, j < p + 1 → Q[j]? = some y → cmpY y (⟨lk, lp, la, (llv, llt), (lrv, lrt)⟩, lg, lc) = -1) := Lib.hid (by
                  obtain ⟨y, e1, e2⟩ := hT1.out rfl
                  refine ⟨(List.getElem?_eq_some_iff.1 e1).1, fun j z hj e => ?_⟩
                  by_cases hjp : j < p
                  · exact hno.out j z hjp e
                  · have : j = p := by omega
                    subst this
                    rw [e1] at e
                    injection e with e
                    subst e
                    exact e2)
                have hlt3 := hno2.out.1
                go_wp2_with fail
                go_roundw
                case rel => exact ⟨p + 1, by go_num, by omega, Lib.hid hno2.out.2, hS⟩
                case measure => simp [intOf]; omega
              | false =>
                have hne := Lib.hid (hT0.out rfl)
                clear hT1 hT0
                go_upto_region 12 with fail
                go_cut [67] from 55 to 66 (fun v67 wx => ∃ T : Bool, v67 = .bool T ∧ Hid (T = true → ∃ y, Q[p]? = some y ∧ cmpY y (⟨lk, lp, la, (llv, llt), (lrv, lrt)⟩, lg, lc) = 0) ∧ Hid (T = false → ∀ y, Q[p]? = some y → cmpY y (⟨lk, lp, la, (llv, llt), (lrv, lrt)⟩, lg, lc) ≠ 0) ∧ Hid (LS W2 W0.heap.size wx (.slice va Q.length vc) Q bx (⟨lk, lp, la, (llv, llt), (lrv, lrt)⟩, lg, lc)))
                case first =>
                  by_cases hlt2 : p < Q.length
                  · have hp1 : (p : Int) < (Q.length : Int) := by omega
                    obtain ⟨⟨⟨qk, qp, qa, ⟨qlv, qlt⟩, ⟨qrv, qrt⟩⟩, qg, qc⟩, eq0'⟩ : ∃ q, Q[p]? = some q := ⟨_, List.getElem?_eq_getElem hlt2⟩
                    have eq0 := Lib.hid eq0'
                    have hqe := hS.out.os.el _ (List.mem_of_getElem? eq0')
                    obtain ⟨vg, vcap, e0, -⟩ := own_some hS.out.os.own (by omega)
                    injection e0 with e0 e3 e4
                    clear e3
                    subst e0 e4
                    have hcells : Hid (∀ w', Below wc.heap.size wc w' → (w'.cell? ⟨vg, p * 7, none⟩ = some (.int .i64 qk) ∧ w'.cell? ⟨vg, p * 7 + 1, none⟩ = some (.string qp) ∧ w'.cell? ⟨vg, p * 7 + 2, none⟩ = some (.slice (some ⟨qg, 0, none⟩) qa.length qc) ∧ w'.cell? ⟨vg, p * 7 + 3, none⟩ = some (.bool qlv) ∧ w'.cell? ⟨vg, p * 7 + 4, none⟩ = some (.string qlt) ∧ w'.cell? ⟨vg, p * 7 + 5, none⟩ = some (.bool qrv) ∧ w'.cell? ⟨vg, p * 7 + 6, none⟩ = some (.string qrt)) ∧ (w'.cell? ⟨bx, 0, none⟩ = some (.int .i64 lk) ∧ w'.cell? ⟨bx, 1, none⟩ = some (.string lp) ∧ w'.cell? ⟨bx, 2, none⟩ = some (.slice (some ⟨lg, 0, none⟩) la.length lc) ∧ w'.cell? ⟨bx, 3, none⟩ = some (.bool llv) ∧ w'.cell? ⟨bx, 4, none⟩ = some (.string llt) ∧ w'.cell? ⟨bx, 5, none⟩ = some (.bool lrv) ∧ w'.cell? ⟨bx, 6, none⟩ = some (.string lrt))) := Lib.hid (fun w' hb => ⟨row_cells (hS.out.below hb).os.own eq0.out, lit_box (hS.out.below hb).box⟩)
                    have hcl : Hid (∀ W, Below wc.heap.size wc W → Calls Tryd.prog 26 #[.agg #[.int .i64 qk, .string qp, .slice (some ⟨qg, 0, none⟩) qa.length qc, .bool qlv, .string qlt, .bool qrv, .string qrt], .agg #[.int .i64 lk, .string lp, .slice (some ⟨lg, 0, none⟩) la.length lc, .bool llv, .string llt, .bool lrv, .string lrt]] W fun e w' => e = .returned (.int .i64 (cmpL ⟨qk, qp, qa, (qlv, qlt), (qrv, qrt)⟩ ⟨lk, lp, la, (llv, llt), (lrv, lrt)⟩)) ∧ Grw W w') := Lib.hid (fun W hW => rn_Compare ⟨qk, qp, qa, (qlv, qlt), (qrv, qrt)⟩ ⟨lk, lp, la, (llv, llt), (lrv, lrt)⟩ (some ⟨qg, 0, none⟩) (some ⟨lg, 0, none⟩) qc lc W ((hS.out.below hW).os.terms hqe) ((hS.out.below hW).os.terms hS.out.el))
                    have hz3 := cmpL_ord.three ⟨qk, qp, qa, (qlv, qlt), (qrv, qrt)⟩ ⟨lk, lp, la, (llv, llt), (lrv, lrt)⟩
                    obtain ⟨z, hz'⟩ : ∃ z, cmpL ⟨qk, qp, qa, (qlv, qlt), (qrv, qrt)⟩ ⟨lk, lp, la, (llv, llt), (lrv, lrt)⟩ = z := ⟨_, rfl⟩
                    rw [hz'] at hcl hz3
                    have hz := Lib.hid hz'
                    clear hz' eq0' hqe
                    obtain ⟨⟨c0, c1, c2, c3, c4, c5, c6⟩, ⟨d0, d1, d2, d3, d4, d5, d6⟩⟩ := hcells.out _ (Below.refl _ _)

                    have hval : Hid (∀ y, Q[p]? = some y → cmpY y (⟨lk, lp, la, (llv, llt), (lrv, lrt)⟩, lg, lc) = z) := Lib.hid (fun y e => by
                      rw [eq0.out] at e
                      injection e with e
                      subst e
                      exact hz.out)
                    clear hz
                    by_cases hz0 : z = 0
                    · have hzd : (z == 0) = true := by simp [hz0]
                      have hyes : Hid (cmpY (⟨qk, qp, qa, (qlv, qlt), (qrv, qrt)⟩, qg, qc) (⟨lk, lp, la, (llv, llt), (lrv, lrt)⟩, lg, lc) = 0) := Lib.hid (by
                        rw [hval.out _ eq0.out]
                        omega)
                      clear hz3 hval
                      go_wp2_with fail
                      go_region_held3 (fun w' => (w'.cell? ⟨vg, p * 7, none⟩ = some (.int .i64 qk) ∧ w'.cell? ⟨vg, p * 7 + 1, none⟩ = some (.string qp) ∧ w'.cell? ⟨vg, p * 7 + 2, none⟩ = some (.slice (some ⟨qg, 0, none⟩) qa.length qc) ∧ w'.cell? ⟨vg, p * 7 + 3, none⟩ = some (.bool qlv) ∧ w'.cell? ⟨vg, p * 7 + 4, none⟩ = some (.string qlt) ∧ w'.cell? ⟨vg, p * 7 + 5, none⟩ = some (.bool qrv) ∧ w'.cell? ⟨vg, p * 7 + 6, none⟩ = some (.string qrt)) ∧ (w'.cell? ⟨bx, 0, none⟩ = some (.int .i64 lk) ∧ w'.cell? ⟨bx, 1, none⟩ = some (.string lp) ∧ w'.cell? ⟨bx, 2, none⟩ = some (.slice (some ⟨lg, 0, none⟩) la.length lc) ∧ w'.cell? ⟨bx, 3, none⟩ = some (.bool llv) ∧ w'.cell? ⟨bx, 4, none⟩ = some (.string llt) ∧ w'.cell? ⟨bx, 5, none⟩ = some (.bool lrv) ∧ w'.cell? ⟨bx, 6, none⟩ = some (.string lrt)))
                        (first
                          | exact hcells.out _ (Below.refl _ _).drew
                          | exact hcells.out _ hg2.out.below)
                        (first
                          | (go_at_call 26; go_loud (refine (hcl.out _ (Below.refl _ _).drew).mono ?_); rintro e w2 ⟨rfl, hg20⟩; have hg2 := Lib.hid ((Grw.refl wc).drew.trans hg20); clear hg20))

                      have hS2 := Lib.hid (hS.out.below hg2.out.below)
                      go_wp2_with fail
                      go_meet
                      case rel => exact ⟨true, rfl, Lib.hid (fun _ => ⟨_, eq0.out, hyes.out⟩), Lib.hid (fun h => by cases h), hS2⟩
                    · have hzd : (z == 0) = false := by simp [hz0]
                      have hnot : Hid (∀ y, Q[p]? = some y → cmpY y (⟨lk, lp, la, (llv, llt), (lrv, lrt)⟩, lg, lc) ≠ 0) := Lib.hid (fun y e => by
                        rw [hval.out y e]
                        omega)
                      clear hz3 hval
                      go_wp2_with fail
                      go_region_held3 (fun w' => (w'.cell? ⟨vg, p * 7, none⟩ = some (.int .i64 qk) ∧ w'.cell? ⟨vg, p * 7 + 1, none⟩ = some (.string qp) ∧ w'.cell? ⟨vg, p * 7 + 2, none⟩ = some (.slice (some ⟨qg, 0, none⟩) qa.length qc) ∧ w'.cell? ⟨vg, p * 7 + 3, none⟩ = some (.bool qlv) ∧ w'.cell? ⟨vg, p * 7 + 4, none⟩ = some (.string qlt) ∧ w'.cell? ⟨vg, p * 7 + 5, none⟩ = some (.bool qrv) ∧ w'.cell? ⟨vg, p * 7 + 6, none⟩ = some (.string qrt)) ∧ (w'.cell? ⟨bx, 0, none⟩ = some (.int .i64 lk) ∧ w'.cell? ⟨bx, 1, none⟩ = some (.string lp) ∧ w'.cell? ⟨bx, 2, none⟩ = some (.slice (some ⟨lg, 0, none⟩) la.length lc) ∧ w'.cell? ⟨bx, 3, none⟩ = some (.bool llv) ∧ w'.cell? ⟨bx, 4, none⟩ = some (.string llt) ∧ w'.cell? ⟨bx, 5, none⟩ = some (.bool lrv) ∧ w'.cell? ⟨bx, 6, none⟩ = some (.string lrt)))
                        (first
                          | exact hcells.out _ (Below.refl _ _).drew
                          | exact hcells.out _ hg2.out.below)
                        (first
                          | (go_at_call 26; go_loud (refine (hcl.out _ (Below.refl _ _).drew).mono ?_); rintro e w2 ⟨rfl, hg20⟩; have hg2 := Lib.hid ((Grw.refl wc).drew.trans hg20); clear hg20))

                      have hS2 := Lib.hid (hS.out.below hg2.out.below)
                      go_wp2_with fail
                      go_meet
                      case rel => exact ⟨false, rfl, Lib.hid (fun h => by cases h), Lib.hid (fun _ => hnot.out), hS2⟩
                  · have hp1 : ¬ (p : Int) < (Q.length : Int) := by omega
                    have hnot : Hid (∀ y, Q[p]? = some y → cmpY y (⟨lk, lp, la, (llv, llt), (lrv, lrt)⟩, lg, lc) ≠ 0) := Lib.hid (fun y e => by
                      have := (List.getElem?_eq_some_iff.1 e).1
                      omega)
                    go_wp2_with fail
                    go_quiet (fail)
                    go_wp2_with fail
                    go_meet
                    case rel => exact ⟨false, rfl, Lib.hid (fun h => by cases h), Lib.hid (fun _ => hnot.out), Lib.hid (hS.out.below (below_drewN (Below.refl _ _) _))⟩

                case rest =>
                  clear hS
                  obtain ⟨T3, rfl, hT1, hT0, hS⟩ := hcut
                  cases T3 with
                  | true =>
                    have hsame : Hid (insL cmpL ((⟨lk, lp, la, (llv, llt), (lrv, lrt)⟩, lg, lc) : Blk).1 (Q.map (·.1)) = Q.map (·.1)) := Lib.hid (by
                      obtain ⟨y, e1, e2⟩ := hT1.out rfl
                      have h1 := insL_same (f := cmpY) hno.out e1 e2
                      have h2 := insL_map (fun y : Blk => y.1) cmpL (⟨lk, lp, la, (llv, llt), (lrv, lrt)⟩, lg, lc) Q
                      rw [← h2]
                      exact congrArg (List.map _) h1)
                    go_wp2_with fail
                    go_roundw
                    case rel => exact ⟨i + 1, Q, by omega, by go_num, Lib.hid hS.out.os, Lib.hid (by rw [hsn2.out]; exact hsame.out.symm)⟩
                    case measure => simp [intOf]; omega
                  | false =>
                    have hne0 := Lib.hid (hT0.out rfl)
                    clear hT1 hT0
                    obtain ⟨d0, d1, d2, d3, d4, d5, d6⟩ := lit_box hS.out.box
                    dsimp only at d0 d1 d2 d3 d4 d5 d6
                    have hws := hS.out.os.bel.size
                    have hins : Hid (insL cmpY (⟨lk, lp, la, (llv, llt), (lrv, lrt)⟩, lg, lc) Q = Q.take p ++ (⟨lk, lp, la, (llv, llt), (lrv, lrt)⟩, lg, lc) :: Q.drop p) := Lib.hid (insL_put hno.out (fun y e => ⟨hne.out y e, hne0.out y e⟩))
                    clear hno hne hne0
                    go_wp2_with (at_builtin; go_loud (refine wpList_append_own_at _ rfl (.tmp 68) (.tmp 70) 25 rfl W2.heap.size 44 il (.agg #[.int .i64 0, .string ⟨#[]⟩, .slice none 0 0, .bool false, .string ⟨#[]⟩, .bool false, .string ⟨#[]⟩]) 7 96 Tryd.underlying25 hil hz0 hz1 hz2 rfl (by decide) _ Q.length (flatL Q) rfl (hS.out.os.own.alloc _) ⟨wc.heap.size, 0, none⟩ 1 1 (cellL (⟨lk, lp, la, (llv, llt), (lrv, lrt)⟩, lg, lc)) rfl rfl (own_cells_row rfl rfl) (by have := cellL_one [(⟨lk, lp, la, (llv, llt), (lrv, lrt)⟩, lg, lc)]; simpa [flatL] using this) (by unfold maxLen; omega) (by omega) (by rw [World.size_alloc]; omega) ?_))
                    intro v3 w3 hown3 hgr3 _ hat3
                    obtain ⟨g3, c3, rfl, hn3, -⟩ := own_some hown3 (by omega)
                    have hgx : Hid (g3 ≠ bx) := Lib.hid (by
                      have hlt0 := (Array.getElem?_eq_some_iff.1 hS.out.box).1
                      rcases hat3 with e | e
                      · intro h
                        subst h
                        exact hS.out.ne e.symm
                      · simp only [Value.ownBlock, Option.some.injEq] at e
                        omega)
                    have hS3 : Hid (LS W2 W0.heap.size w3 (.slice (some ⟨g3, 0, none⟩) (shiftL Q (⟨lk, lp, la, (llv, llt), (lrv, lrt)⟩, lg, lc) Q.length).length c3) (shiftL Q (⟨lk, lp, la, (llv, llt), (lrv, lrt)⟩, lg, lc) Q.length) bx (⟨lk, lp, la, (llv, llt), (lrv, lrt)⟩, lg, lc)) := Lib.hid (by
                      have hlt0 := (Array.getElem?_eq_some_iff.1 hS.out.box).1
                      rw [shiftL_all]
                      refine ⟨⟨?_, fun y hy => ?_, (hS.out.os.bel.al _).grown hgr3 (by rw [World.size_alloc]; omega) (own_ge hS.out.os.own)⟩, ?_, fun e => hgx.out (by simpa [Value.ownBlock] using e), hS.out.ge, hS.out.el⟩
                      · rw [flatL_snoc, List.length_append]; exact hown3
                      · rcases List.mem_append.1 hy with hy | hy
                        · exact hS.out.os.el y hy
                        · simp at hy; subst hy; exact hS.out.el
                      · exact ((hgr3.block bx (by rw [World.size_alloc]; omega) (fun e => hS.out.ne e.symm)).trans (heap_alloc_old _ _ hlt0)).trans hS.out.box)
                    clear hown3 hgr3 hat3 d0 d1 d2 d3 d4 d5 d6 hS
                    go_wp2_with fail
                    go_loopw [8] (fun v wt => ∃ n : Nat, v = .int .i64 n ∧ p ≤ n ∧ n ≤ Q.length ∧ Hid (LS W2 W0.heap.size wt (.slice (some ⟨g3, 0, none⟩) (Q.length + 1) c3) (shiftL Q (⟨lk, lp, la, (llv, llt), (lrv, lrt)⟩, lg, lc) n) bx (⟨lk, lp, la, (llv, llt), (lrv, lrt)⟩, lg, lc))) (fun v _ => (intOf v).toNat)
                    case atStart => exact ⟨Q.length, by go_num, hp, Nat.le_refl _, by rw [shiftL_len _ _ _ (Nat.le_refl _)] at hS3; exact hS3⟩
                    case round =>
                      clear hS3
                      obtain ⟨n, rfl, hpn, hn, hS⟩ := hrel
                      by_cases hgt : p < n
                      · obtain ⟨m, rfl⟩ : ∃ m, n = m + 1 := ⟨n - 1, by omega⟩
                        have hm1 : (p : Int) < ((m + 1 : Nat) : Int) := by omega
                        obtain ⟨⟨⟨qk, qp, qa, ⟨qlv, qlt⟩, ⟨qrv, qrt⟩⟩, qg, qc⟩, eq0'⟩ : ∃ q, Q[m]? = some q := ⟨_, List.getElem?_eq_getElem (by omega)⟩
                        have eq0 := Lib.hid eq0'
                        have hat := shiftL_at Q (⟨lk, lp, la, (llv, llt), (lrv, lrt)⟩, lg, lc) m (by omega)
                        rw [eq0'] at hat
                        have hown := hS.out.os.own
                        rw [shiftL_len _ _ _ hn] at hown
                        have hfz := hown.frozenAt
                        obtain ⟨c0, c1, c2, c3', c4, c5, c6⟩ := row_cells hown hat
                        dsimp only at c0 c1 c2 c3' c4 c5 c6
                        have hm0 : (0 : Int) ≤ ((m : Nat) : Int) := Int.natCast_nonneg _
                        have hm2 : (((m + 1 : Nat) : Int)) - 1 = (m : Int) := by omega
                        have hm3 : (m : Int) < ((Q.length + 1 : Nat) : Int) := by omega
                        have hm4 : (((m + 1 : Nat) : Int)) < ((Q.length + 1 : Nat) : Int) := by omega
                        have hqe := Lib.hid (hS.out.os.el _ (List.mem_of_getElem? hat))
                        obtain ⟨q2, hq2⟩ : ∃ q2, (shiftL Q (⟨lk, lp, la, (llv, llt), (lrv, lrt)⟩, lg, lc) (m + 1))[m + 1]? = some q2 := ⟨_, List.getElem?_eq_getElem (by rw [shiftL_len _ _ _ hn]; omega)⟩
                        obtain ⟨e0, e1, e2, e3, e4, e5, e6⟩ := row_cells hown hq2
                        have hset := Lib.hid (hS.out.set (shiftL_len _ _ _ hn) (k := m + 1) (by omega) hqe.out)
                        rw [shiftL_step _ eq0'] at hset
                        clear eq0' hat hq2 hown
                        go_wp2_with fail
                        go_roundw
                        case rel => exact ⟨m, by go_num, by omega, by omega, hset⟩
                        case measure => simp [intOf]
                      · have hpe : n = p := by omega
                        subst hpe
                        have hnn : ¬ ((n : Int) > (n : Int)) := by omega
                        have hm3 : (n : Int) < ((Q.length + 1 : Nat) : Int) := by omega
                        have hm0 : (0 : Int) ≤ ((n : Nat) : Int) := Int.natCast_nonneg _
                        have hown := hS.out.os.own
                        rw [shiftL_len _ _ _ hn] at hown
                        have hfz := hown.frozenAt
                        obtain ⟨q2, hq2⟩ : ∃ q2, (shiftL Q (⟨lk, lp, la, (llv, llt), (lrv, lrt)⟩, lg, lc) n)[n]? = some q2 := ⟨_, List.getElem?_eq_getElem (by rw [shiftL_len _ _ _ hn]; omega)⟩
                        obtain ⟨e0, e1, e2, e3, e4, e5, e6⟩ := row_cells hown hq2
                        obtain ⟨d0, d1, d2, d3, d4, d5, d6⟩ := lit_box hS.out.box
                        dsimp only at d0 d1 d2 d3 d4 d5 d6
                        have hset := Lib.hid (hS.out.set (shiftL_len _ _ _ hn) (k := n) (by omega) hS.out.el)
                        rw [shiftL_set _ _ _ _ hn, ← hins.out] at hset
                        have hlen : Hid (Q.length + 1 = (insL cmpY (⟨lk, lp, la, (llv, llt), (lrv, lrt)⟩, lg, lc) Q).length) := Lib.hid (by rw [hins.out]; simp; omega)
                        have hmm : Hid ((insL cmpY (⟨lk, lp, la, (llv, llt), (lrv, lrt)⟩, lg, lc) Q).map (·.1) = setL cmpL ((r.b.take (i + 1)).map turnL)) := Lib.hid (by
                          rw [hsn2.out]
                          exact insL_map (fun y : Blk => y.1) cmpL (⟨lk, lp, la, (llv, llt), (lrv, lrt)⟩, lg, lc) Q)
                        clear hq2 hown
                        go_wp2_with fail
                        go_roundw
                        case rel => exact ⟨i + 1, insL cmpY (⟨lk, lp, la, (llv, llt), (lrv, lrt)⟩, lg, lc) Q, by omega, by go_num, Lib.hid hset.out.os, hmm⟩
                        case measure => simp [intOf]; omega
    · have hq1 : ¬ (i : Int) < (r.b.length : Int) := by omega
      have hie : i = r.b.length := by omega
      have hQ2 : Hid (Q.map (·.1) = (bodyR r).b) := Lib.hid (by rw [hQ.out, hie, List.take_length]; rfl)
      have hQn : Q.length = (bodyR r).b.length := by rw [← hQ2.out, List.length_map]
      have hbw := Lib.hid (hP.out.2.2.2.2.trans (hO.out.bel.mono hP.out.2.2.2.2.size))
      have hx := Lib.hid (hkp.out _ hbw.out)
      obtain ⟨x0, x1, x2⟩ := box_cells hx.out.2.1
      have g0 : wr.frozen? ⟨w.heap.size + 1, 0, none⟩ = false := by simp [World.frozen?, hx.out.2.1]
      have g1 : wr.frozen? ⟨w.heap.size + 1, 1, none⟩ = false := by simp [World.frozen?, hx.out.2.1]
      have g2 : wr.frozen? ⟨w.heap.size + 1, 2, none⟩ = false := by simp [World.frozen?, hx.out.2.1]
      have hR : Hid (Rl wr W0.heap.size wr.heap.size (.slice (some ⟨g, 0, none⟩) r.a.length gc) (.slice va Q.length vc) (bodyR r)) := Lib.hid (by
        refine ⟨some ⟨g, 0, none⟩, gc, va, vc, rfl, by rw [hQn], fun W hW => ⟨?_, ?_⟩⟩
        · have hg := hP.out.2.1.same (hO.out.bel.block g hP.out.2.1.lt)
          exact (hg.same (hW g hP.out.2.2.2.1.1 hg.lt)).terms
        · have h1 := hO.out.lits (by omega) W hP.out.2.2.2.2.size hW
          rw [hQ2.out] at h1
          exact h1)
      rw [hQn] at hR ⊢
      clear hO hQ hQ2
      go_wp2_with fail
      obtain ⟨V, hV, hVb, hVg, hVw⟩ := rule_stored hx.out.2.1 (.string r.h) (.slice (some ⟨g, 0, none⟩) r.a.length gc) (.slice va (bodyR r).b.length vc) (Nat.le_refl w.heap.size) (Nat.le_succ _) hx.out.2.2
      rw [← hV]
      refine bodyPost_ret (v := .agg #[.string r.h, .slice (some ⟨g, 0, none⟩) r.a.length gc, .slice va (bodyR r).b.length vc]) (results_cell_row rfl _ _ (w.heap.size + 1) 27 _ (0, 0) _ rfl hVb Tryd.underlying27 rfl pr_sizeRule) rfl ?_
      exact ⟨_, _, rfl, (hR.out.stay (fun j h1 h2 => hVg.block j h2 (fun e => by injection e with e; have := hB1.out; omega))).mono (by have := hB1.out; omega) hVg.size, hVw⟩
end Go.Proofs.YtoklbofobcloaaaDoor
