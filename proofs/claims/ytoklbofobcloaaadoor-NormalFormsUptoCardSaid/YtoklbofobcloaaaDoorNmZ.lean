/- Normal: Body walked. (gen_nmz.py) -/
import Derived.Test.YtoklbofobcloaaaDoorNmY
import Derived.Deep.QuietTactic
import Derived.BigQuiet
namespace Go.Proofs.YtoklbofobcloaaaDoor
open Go.RowKit Go.Sort Go.Shelf
attribute [local go_sem ↓] Go.wp_at_zero Go.wp_at_succ
/-- the box of the rule that is put in order -/
structure BodS (w0 : World) (G : Nat) (h : ByteArray) (va : Value) (a : List Tm) (w : World) (v : Value) (L : List LV) : Prop where
  box : w.heap[G]? = some (.cells #[.string h, va, v] 27)
  args : TRow w w0.heap.size va a
  row : LRow w w0.heap.size v L
  ge : w0.heap.size ≤ G
  bel : Below w0.heap.size w0 w
section
variable {w0 w w' : World} {G : Nat} {h : ByteArray} {va v v' : Value} {a : List Tm} {L L' : List LV}
theorem BodS.below (s : BodS w0 G h va a w v L) (hb : Below w.heap.size w w') : BodS w0 G h va a w' v L :=
  ⟨(hb.block G (Array.getElem?_eq_some_iff.1 s.box).1).trans s.box, s.args.below hb, s.row.below hb, s.ge, s.bel.trans (hb.mono s.bel.size)⟩
/-- the row of literals has turned -/
theorem BodS.row' (s : BodS w0 G h va a w v L) (hg : w.grownBy w' v.ownBlock) : w'.heap[G]? = some (.cells #[.string h, va, v] 27) ∧ TRow w' w0.heap.size va a ∧ Below w0.heap.size w0 w' :=
  ⟨(hg.block G (Array.getElem?_eq_some_iff.1 s.box).1 (not_row s.row.own s.box (by decide))).trans s.box, s.args.kept hg (own_diff s.args.own s.row.own (by decide)), s.bel.grown hg s.bel.size (own_ge s.row.own)⟩
theorem BodS.turned (s : BodS w0 G h va a w v L) (hg : w.grownBy w' v.ownBlock) (hr : LRow w' w0.heap.size v L') : BodS w0 G h va a w' v L' :=
  let ⟨h1, h2, h3⟩ := s.row' hg; ⟨h1, h2, hr, s.ge, h3⟩
end
theorem map_turn_step {l : List Lit} {k : Nat} {x : Lit} (h : l[k]? = some x) : (l.take k).map turnL ++ l.drop k = (l.take k).map turnL ++ x :: l.drop (k + 1) := by
  obtain ⟨h1, h2⟩ := List.getElem?_eq_some_iff.1 h
  rw [List.drop_eq_getElem_cons h1, h2]
/-- the first k literals are turned -/
def turnP (l : List Lit) (k : Nat) : List Lit := (l.take k).map turnL ++ l.drop k
theorem turnP_len (l : List Lit) (k : Nat) (h : k ≤ l.length) : (turnP l k).length = l.length := by
  unfold turnP; rw [List.length_append, List.length_map, List.length_take, List.length_drop]; omega
theorem turnP_at {l : List Lit} {k : Nat} {x : Lit} (h : l[k]? = some x) : (turnP l k)[k]? = some x := by
  have hlt := (List.getElem?_eq_some_iff.1 h).1
  unfold turnP
  have hl : ((l.take k).map turnL).length = k := by rw [List.length_map, List.length_take]; omega
  rw [List.getElem?_append_right (by omega), hl, Nat.sub_self, List.getElem?_drop, Nat.add_zero]
  exact h
theorem turnP_succ {l : List Lit} {k : Nat} {x : Lit} (h : l[k]? = some x) : turnP l (k + 1) = (turnP l k).set k (turnL x) := by
  have hlt := (List.getElem?_eq_some_iff.1 h).1
  have hl : ((l.take k).map turnL).length = k := by rw [List.length_map, List.length_take]; omega
  unfold turnP
  rw [take_snoc h, List.map_append, map_turn_step h, List.set_append_right _ _ (by omega), hl, Nat.sub_self]
  simp
theorem turnP_all (l : List Lit) : turnP l l.length = l.map turnL := by unfold turnP; rw [List.take_length, List.drop_length, List.append_nil]
theorem turnP_same {l : List Lit} {k : Nat} {x : Lit} (h : l[k]? = some x) (hx : turnL x = x) : turnP l (k + 1) = turnP l k := by
  rw [turnP_succ h, hx]
  apply List.ext_getElem?
  intro j
  rw [List.getElem?_set]
  by_cases e : k = j
  · subst e
    rw [if_pos rfl, if_pos (by have := turnP_at h; exact (List.getElem?_eq_some_iff.1 this).1), turnP_at h]
  · rw [if_neg e]
set_option maxHeartbeats 16000000 in
set_option maxRecDepth 100000 in
theorem nm_Body (r : Rul) (a b : Option Addr) (c d : Nat) (w : World) (ha : Terms w a r.a) (hb : Lits w b r.b) :
    Calls Tryd.prog 14 #[.agg #[.string r.h, .slice a r.a.length c, .slice b r.b.length d]] w fun e w' => ∃ va vb, e = .returned (.agg #[.string r.h, va, vb]) ∧ RRow w' w.heap.size va vb (bodyR r) ∧ Below w.heap.size w w' := by
  have hes := Lib.hid (every_size ha hb)
  obtain ⟨W0, hW0⟩ : ∃ W0, W0 = (w.alloc (.cells #[.string r.h, .slice a r.a.length c, .slice b r.b.length d] 27)).alloc (.cells #[.string ⟨#[]⟩, .slice none 0 0, .slice none 0 0] 27) := ⟨_, rfl⟩
  have hkp : Hid (∀ w', Below W0.heap.size W0 w' → w'.heap[w.heap.size]? = some (.cells #[.string r.h, .slice a r.a.length c, .slice b r.b.length d] 27) ∧ w'.heap[w.heap.size + 1]? = some (.cells #[.string ⟨#[]⟩, .slice none 0 0, .slice none 0 0] 27) ∧ Below w.heap.size w w') := Lib.hid (by
    subst hW0; intro w' hb; obtain ⟨h1, h2, h3⟩ := two_cells hb; exact ⟨h2, h3, h1⟩)
  have hB0 := (hkp.out W0 (Below.refl _ _)).2.2
  have h0 := hkp.out W0 (Below.refl _ _)
  have q0 : W0.cell? ⟨w.heap.size, 0, none⟩ = some (.string r.h) := by simp [World.cell?, h0.1]
  have q1 : W0.cell? ⟨w.heap.size, 1, none⟩ = some (.slice a r.a.length c) := by simp [World.cell?, h0.1]
  have q2 : W0.cell? ⟨w.heap.size, 2, none⟩ = some (.slice b r.b.length d) := by simp [World.cell?, h0.1]
  clear h0
  have hput := nm_put (F := fun t => t) (g := 41) (cb := #[]) (enters_of Tryd.func41 rfl rfl) r a b c d W0 (ha.below hB0) (hb.below hB0) (fun W x _ _ => nm_Body1 x W) (fun x hx => hes.out x hx)
  rw [mapR_id] at hput
  replace hput := Lib.hid hput
  go_enter Tryd.func14, Tryd.ntmps14
  go_upto_region 1 with fail
  rw [← hW0]
  clear hW0
  go_wp2_with (go_at_call 39; go_loud (refine hput.out.mono ?_); rintro e w1 ⟨va, vb, rfl, hr0, hbb⟩; obtain ⟨xa, xc, xb, xd, rfl, rfl, -, -⟩ := hr0.form; have hr := Lib.hid hr0; have hb1 := Lib.hid hbb; clear hr0 hbb)
  obtain ⟨W2, hW2⟩ : ∃ W2, W2 = w1.alloc (.cells #[.string r.h, .slice xa r.a.length xc, .slice xb r.b.length xd] 27) := ⟨_, rfl⟩
  obtain ⟨G, hG⟩ : ∃ G, w1.heap.size = G := ⟨_, rfl⟩
  obtain ⟨L, hL, hLb⟩ : ∃ L, Hid (LRow w1 W0.heap.size (.slice xb r.b.length xd) L) ∧ Hid (L.map (·.1) = r.b) := let ⟨L, h1, h2⟩ := hr.out.2; ⟨L, Lib.hid h1, Lib.hid h2⟩
  have hS : Hid (BodS W0 G r.h (.slice xa r.a.length xc) r.a W2 (.slice xb r.b.length xd) L) := Lib.hid (by
    have hal := (Below.refl w1.heap.size w1).al (.cells #[.string r.h, .slice xa r.a.length xc, .slice xb r.b.length xd] 27)
    rw [← hW2] at hal
    refine ⟨by rw [hW2, ← hG]; exact heap_alloc_new _ _, hr.out.1.below hal, hL.out.below hal, by rw [← hG]; exact hb1.out.size, hb1.out.trans (hal.mono hb1.out.size)⟩)
  rw [← hW2]
  rw [hG]
  clear hW2 hG hL hr hb1 q0 q1 q2 hput hB0
  clear w1
  have hLl : Hid (L.length = r.b.length) := Lib.hid (by rw [← hLb.out, List.length_map])
  have hlb : r.b.length ≤ 1048576 := by rw [← hLl.out]; exact hS.out.row.len
  obtain ⟨n, hn⟩ : ∃ n, r.b.length = n := ⟨_, rfl⟩
  rw [hn] at hlb hLl hS ⊢
  obtain ⟨z0, z1, z2⟩ := box_cells hS.out.box
  replace hn := Lib.hid hn
  go_wp2
  go_loopw [11, 4, 5] (fun i _ _ wr => ∃ (k : Nat) (L' : List LV), k ≤ n ∧ i = .int .i64 k ∧ Hid (L'.map (·.1) = turnP r.b k) ∧ Hid (BodS W0 G r.h (.slice xa r.a.length xc) r.a wr (.slice xb n xd) L')) (fun i _ _ _ => n - (intOf i).toNat)
  case atStart => exact ⟨0, L, Nat.zero_le _, rfl, Lib.hid (by rw [hLb.out]; simp [turnP]), hS⟩
  case round =>
    clear hS hLb hLl z0 z1 z2
    clear L
    obtain ⟨k, L, hk, rfl, hLk, hS⟩ := hrel
    obtain ⟨z0, z1, z2⟩ := box_cells hS.out.box
    have hLl : L.length = n := by
      have := congrArg List.length hLk.out
      rw [List.length_map, turnP_len _ _ (by rw [hn.out]; exact hk), hn.out] at this
      exact this
    by_cases hlt : k < n
    · obtain ⟨x, e1⟩ : ∃ x, r.b[k]? = some x := ⟨_, List.getElem?_eq_getElem (by rw [hn.out]; exact hlt)⟩
      obtain ⟨v, e2⟩ : ∃ v, L[k]? = some (x, v) := by
        have := turnP_at e1
        rw [← hLk.out, List.getElem?_map] at this
        cases h : L[k]? with
        | none => rw [h] at this; cases this
        | some y => rw [h] at this; injection this with this; exact ⟨y.2, by rw [← this]⟩
      obtain ⟨g, cap, e0, -⟩ := own_some hS.out.row.own (by omega)
      injection e0 with e0 e3 e4
      clear e3
      subst e0 e4
      obtain ⟨c0, c1, c2, c3, c4, c5, c6⟩ := hS.out.row.cells e2
      have hq0 : (0 : Int) ≤ (k : Int) := Int.natCast_nonneg _
      have hq1 : (k : Int) < (n : Int) := by omega
      have htk := turnL_k x
      have hsame := fun h => turnP_same (l := r.b) (k := k) (x := x) e1 h
      have hsucc := turnP_succ e1
      have hsw := Lib.hid (hS.out.row.swap e2)
      have hfz := fun j => Lib.hid ((show wr.ownsRow W0.heap.size 44 7 (.slice (some ⟨g, 0, none⟩) n xd) n (flatV L) by have := hS.out.row.own; rwa [hLl] at this).frozenAt j)
      have hcl := nm_terms x.r x.l
      obtain ⟨xk, xp, xa2, ⟨xlv, xlt⟩, ⟨xrv, xrt⟩⟩ := x
      dsimp only at c0 c1 c2 c3 c4 c5 c6 hcl htk
      replace e2 := Lib.hid e2
      replace hfz := Lib.hid hfz
      have hkS : Hid (∀ w', Below wr.heap.size wr w' → w'.cell? ⟨g, k * 7, none⟩ = some (.int .i64 xk) ∧ w'.cell? ⟨g, k * 7 + 3, none⟩ = some (.bool xlv) ∧ w'.cell? ⟨g, k * 7 + 4, none⟩ = some (.string xlt) ∧ w'.cell? ⟨g, k * 7 + 5, none⟩ = some (.bool xrv) ∧ w'.cell? ⟨g, k * 7 + 6, none⟩ = some (.string xrt)) := Lib.hid fun w' hb => ⟨cell_below hb rfl c0, cell_below hb rfl c3, cell_below hb rfl c4, cell_below hb rfl c5, cell_below hb rfl c6⟩
      clear c1 c2 e1
      by_cases hk3 : xk = 3
      · subst hk3
        obtain ⟨z, hz⟩ : ∃ z, cmpT (xrv, xrt) (xlv, xlt) = z := ⟨_, rfl⟩
        rw [hz] at hcl htk
        have hz3 := cmpT_ord.three (xrv, xrt) (xlv, xlt)
        rw [hz] at hz3
        clear hz
        by_cases hz0 : z < 0
        · rw [if_pos ⟨rfl, by omega⟩] at htk
          clear hz3 hsame
          rw [htk] at hsucc
          replace hsucc := Lib.hid hsucc
          clear htk
          go_wp2_with fail
          go_region_held3 (fun w' => w'.cell? ⟨g, k * 7, none⟩ = some (.int .i64 3) ∧ w'.cell? ⟨g, k * 7 + 3, none⟩ = some (.bool xlv) ∧ w'.cell? ⟨g, k * 7 + 4, none⟩ = some (.string xlt) ∧ w'.cell? ⟨g, k * 7 + 5, none⟩ = some (.bool xrv) ∧ w'.cell? ⟨g, k * 7 + 6, none⟩ = some (.string xrt))
            (first
              | exact hkS.out _ (Below.refl _ _).drew
              | exact hkS.out _ hg2.out.below)
            (first
              | (go_at_call 42; go_loud (refine (hcl _).mono ?_); rintro e w2 ⟨rfl, hg20⟩; have hg2 := Lib.hid ((Grw.refl wr).drew.trans hg20); clear hg20))
          obtain ⟨d0, d3, d4, d5, d6⟩ := hkS.out _ hg2.out.below
          have hS2 := Lib.hid (hS.out.below hg2.out.below)
          have hown2 : w2.ownsRow W0.heap.size 44 7 (.slice (some ⟨g, 0, none⟩) n xd) n (flatV L) := by have := hS2.out.row.own; rwa [hLl] at this
          have f3 := hown2.frozenAt (k * 7 + 3)
          have f4 := hown2.frozenAt (k * 7 + 4)
          have f5 := hown2.frozenAt (k * 7 + 5)
          have f6 := hown2.frozenAt (k * 7 + 6)
          clear hown2 c0 c3 c4 c5 c6
          go_wp2_with fail
          go_region
          have hsw2 := hS2.out.row.swap e2.out
          have hS3 := Lib.hid ((hS2.out.turned hsw2.2 hsw2.1).below (Below.refl _ _).drew)
          clear hsw2 f3 f4 f5 f6 d0 d3 d4 d5 d6
          go_wp2_with fail
          go_roundw
          case rel => exact ⟨k + 1, _, by omega, by go_num, Lib.hid (by rw [hsucc.out, ← hLk.out, List.map_set]), hS3⟩
          case measure => simp [intOf]; omega
        · rw [if_neg (fun h => by omega)] at htk
          have hs2 := Lib.hid (hsame htk)
          clear hz3 hsame hsucc htk hsw
          go_wp2_with fail
          go_region_held3 (fun w' => w'.cell? ⟨g, k * 7, none⟩ = some (.int .i64 3) ∧ w'.cell? ⟨g, k * 7 + 3, none⟩ = some (.bool xlv) ∧ w'.cell? ⟨g, k * 7 + 4, none⟩ = some (.string xlt) ∧ w'.cell? ⟨g, k * 7 + 5, none⟩ = some (.bool xrv) ∧ w'.cell? ⟨g, k * 7 + 6, none⟩ = some (.string xrt))
            (first
              | exact hkS.out _ (Below.refl _ _).drew
              | exact hkS.out _ hg2.out.below)
            (first
              | (go_at_call 42; go_loud (refine (hcl _).mono ?_); rintro e w2 ⟨rfl, hg20⟩; have hg2 := Lib.hid ((Grw.refl wr).drew.trans hg20); clear hg20))
          have hS2 := Lib.hid (hS.out.below hg2.out.below)
          go_wp2_with fail
          go_roundw
          case rel => exact ⟨k + 1, L, by omega, by go_num, Lib.hid (by rw [hs2.out]; exact hLk.out), hS2⟩
          case measure => simp [intOf]; omega
      · have hk3b : (xk == 3) = false := by simp [hk3]
        have hk3d : decide (xk = 3) = false := by simp [hk3]
        rw [if_neg (fun h => hk3 h.1)] at htk
        have hs2 := Lib.hid (hsame htk)
        clear hsame hsucc htk hsw
        go_wp2_with fail
        go_quiet (fail)
        have hS2 := Lib.hid (hS.out.below (Below.drewN (Below.refl _ _) nq))
        generalize wr.drewN nq = wq at hS2 ⊢
        go_wp2_with fail
        go_roundw
        case rel => exact ⟨k + 1, L, by omega, by go_num, Lib.hid (by rw [hs2.out]; exact hLk.out), hS2⟩
        case measure => simp [intOf]; omega
    · have hke : k = n := by omega
      subst hke
      have hLk2 : Hid (L.map (·.1) = r.b.map turnL) := Lib.hid (by
        have h1 := hLk.out
        rwa [← hn.out, turnP_all] at h1)
      obtain ⟨ya, yc, hya, -⟩ := own_slice hS.out.row.own
      injection hya with h1 h2 h3
      subst h1 h3
      clear h2
      have hsort := nm_sortL wr W0.heap.size xb xd L (by rw [hLl]; exact hS.out.row)
      rw [hLl] at hsort
      replace hsort := Lib.hid hsort
      replace hLl := Lib.hid hLl
      have hkW : Hid (∀ w', Below W0.heap.size W0 w' → w'.heap[w.heap.size + 1]? = some (.cells #[.string ⟨#[]⟩, .slice none 0 0, .slice none 0 0] 27) ∧ Below w.heap.size w w') := Lib.hid fun w' h => (hkp.out w' h).2
      go_wp2_with (first
        | (go_at_call 43
           go_loud (refine hsort.out.mono ?_)
           rintro e w3 ⟨rfl, L3, hp3, hpw3, hr3, hg3⟩
           have hl3 : L3.length = k := by rw [hp3.length_eq]; exact hLl.out
           have hS3 := Lib.hid (hS.out.turned hg3 hr3)
           have hp4 := Lib.hid hp3
           have hpw4 := Lib.hid hpw3
           have y2 := (box_cells hS3.out.box).2.2
           have hcomp := nm_compL w3 W0.heap.size xb xd L3 (by rw [hl3]; exact hS3.out.row)
           rw [hl3] at hcomp
           replace hcomp := Lib.hid hcomp
           clear hl3 hr3 hg3 hp3 hpw3)
        | (go_at_call 44
           go_loud (refine hcomp.out.mono ?_)
           rintro e w4 ⟨L4, rfl, hL4, hr4, hg4⟩
           have h5 := hS3.out.row' hg4
           have h6 := Lib.hid h5
           have hx := (hkW.out _ h5.2.2).1
           obtain ⟨x0, x1, x2⟩ := box_cells hx
           have g0 : w4.frozen? ⟨w.heap.size + 1, 0, none⟩ = false := by simp [World.frozen?, hx]
           have g1 : w4.frozen? ⟨w.heap.size + 1, 1, none⟩ = false := by simp [World.frozen?, hx]
           have g2 : w4.frozen? ⟨w.heap.size + 1, 2, none⟩ = false := by simp [World.frozen?, hx]
           have hne : w.heap.size + 1 ≠ G := fun e => by have := hS3.out.ge; have := (hkp.out W0 (Below.refl _ _)).2.1; have := (Array.getElem?_eq_some_iff.1 this).1; omega
           have hx2 : (w4.setCell ⟨G, 2, none⟩ (.slice xb L4.length xd)).heap[w.heap.size + 1]? = some (.cells #[.string ⟨#[]⟩, .slice none 0 0, .slice none 0 0] 27) := (heap_setCell_other _ _ _ _ hne).trans hx
           obtain ⟨xx0, xx1, xx2⟩ := box_cells hx2
           have gg0 : (w4.setCell ⟨G, 2, none⟩ (.slice xb L4.length xd)).frozen? ⟨w.heap.size + 1, 0, none⟩ = false := by simp [World.frozen?, hx2]
           have gg1 : (w4.setCell ⟨G, 2, none⟩ (.slice xb L4.length xd)).frozen? ⟨w.heap.size + 1, 1, none⟩ = false := by simp [World.frozen?, hx2]
           have gg2 : (w4.setCell ⟨G, 2, none⟩ (.slice xb L4.length xd)).frozen? ⟨w.heap.size + 1, 2, none⟩ = false := by simp [World.frozen?, hx2]
           replace hx2 := Lib.hid hx2
           replace hx := Lib.hid hx
           obtain ⟨y00, y01, y3⟩ := box_cells h5.1
           have f3 : w4.frozen? ⟨G, 2, none⟩ = false := by simp [World.frozen?, h5.1]
           have hr5 := Lib.hid hr4
           have hL5 := Lib.hid hL4
           clear h5 hL4 hr4 hg4))
      have hbody : (bodyR r).b = L4.map (·.1) := by
        rw [hL5.out, compK_once]
        show setL cmpL (r.b.map turnL) = _
        refine (once_sorted cmpL_ord (fun z => ?_) hpw4.out).symm
        rw [← hLk2.out]
        exact (hp4.out.map (·.1)).mem_iff
      have hgG := grown_set w4 G 2 (.slice xb L4.length xd)
      have hRR : RRow (w4.setCell ⟨G, 2, none⟩ (.slice xb L4.length xd)) W0.heap.size (.slice xa r.a.length xc) (.slice xb L4.length xd) (bodyR r) := by
        have h7 : RRow w4 W0.heap.size (.slice xa r.a.length xc) (.slice xb L4.length xd) (bodyR r) := ⟨h6.out.2.1, L4, hr5.out, hbody.symm⟩
        exact h7.keepR h6.out.1 hgG
      have hle : w.heap.size ≤ W0.heap.size := (hkW.out W0 (Below.refl _ _)).2.size
      have hBw : Below w.heap.size w (w4.setCell ⟨G, 2, none⟩ (.slice xb L4.length xd)) := (hkW.out _ h6.out.2.2).2.setCell (p := ⟨G, 2, none⟩) (Nat.le_trans hle hS3.out.ge) _
      obtain ⟨V, hV, hVb, hVg, hVw⟩ := rule_stored hx2.out (.string r.h) (.slice xa r.a.length xc) (.slice xb L4.length xd) (Nat.le_refl w.heap.size) (Nat.le_succ _) hBw
      rw [← hV]
      refine bodyPost_ret (v := .agg #[.string r.h, .slice xa r.a.length xc, .slice xb L4.length xd]) (results_cell_row rfl _ _ (w.heap.size + 1) 27 _ (0, 0) _ rfl hVb Tryd.underlying27 rfl pr_sizeRule) rfl ?_
      exact ⟨_, _, rfl, (hRR.keepR hx2.out hVg).mono hle, hVw⟩
end Go.Proofs.YtoklbofobcloaaaDoor
