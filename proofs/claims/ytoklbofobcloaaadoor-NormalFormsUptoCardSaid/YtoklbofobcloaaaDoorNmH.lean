/- Normal: the document's comparisons. (gen_nmh.py) -/
import Derived.Test.YtoklbofobcloaaaDoorNmG
namespace Go.Proofs.YtoklbofobcloaaaDoor
open Go.RowKit Go.Sort
set_option maxHeartbeats 1000000 in
theorem rn_text (x y : ByteArray) (w : World) : Calls Tryd.prog 67 #[.string x, .string y] w fun e w' => e = .returned (.int .i64 (cmpS x y)) ∧ w = w' := by
  have hx := lessB_op x y
  unfold cmpS
  cases h1 : lessB x y with
  | true =>
    rw [h1] at hx
    clear h1
    go_enter Tryd.func67, Tryd.ntmps67
    go_wp2
    go_ret
    exact ⟨rfl, rfl⟩
  | false =>
    have hy := gtr_str h1
    rw [h1] at hx
    cases h2 : lessB y x <;> rw [h2] at hy <;> clear h1 h2
    all_goals go_enter Tryd.func67, Tryd.ntmps67
    all_goals go_wp2
    all_goals go_ret
    all_goals exact ⟨rfl, rfl⟩
set_option maxHeartbeats 1000000 in
theorem rn_number (x y : Int) (w : World) : Calls Tryd.prog 57 #[.int .i64 x, .int .i64 y] w fun e w' => e = .returned (.int .i64 (cmpN x y)) ∧ w = w' := by
  have hx : cmpN x y = if x < y then -1 else if y < x then 1 else 0 := rfl
  by_cases h1 : x < y
  · have h2 : decide (x < y) = true := decide_eq_true h1
    rw [hx, if_pos h1]
    clear hx
    go_enter Tryd.func57, Tryd.ntmps57
    go_wp2
    go_ret
    exact ⟨rfl, rfl⟩
  · by_cases h2 : y < x
    · rw [hx, if_neg h1, if_pos h2]
      clear hx
      go_enter Tryd.func57, Tryd.ntmps57
      go_wp2
      go_ret
      exact ⟨rfl, rfl⟩
    · rw [hx, if_neg h1, if_neg h2]
      clear hx
      go_enter Tryd.func57, Tryd.ntmps57
      go_wp2
      go_ret
      exact ⟨rfl, rfl⟩
set_option maxHeartbeats 1000000 in
set_option maxRecDepth 100000 in
theorem rn_Terms (x y : Tm) (w : World) : Calls Tryd.prog 48 #[.agg #[.bool x.1, .string x.2], .agg #[.bool y.1, .string y.2]] w fun e w' => e = .returned (.int .i64 (cmpT x y)) ∧ Grw w w' := by
  obtain ⟨xv, xs⟩ := x
  obtain ⟨yv, ys⟩ := y
  have hn := rn_text xs ys
  have hc : cmpT (xv, xs) (yv, ys) = thn (cmpB xv yv) (cmpS xs ys) := rfl
  rw [hc]
  clear hc
  cases xv <;> cases yv
  case false.false | true.true =>
    show Calls _ _ _ _ fun e w' => e = .returned (.int .i64 (cmpS xs ys)) ∧ Grw w w'
    generalize cmpS xs ys = c at hn ⊢
    go_enter Tryd.func48, Tryd.ntmps48
    go_wp2_with (go_at_call 67; refine (hn _).mono ?_; rintro e w1 ⟨rfl, rfl⟩)
    go_ret
    exact ⟨rfl, grw_box2 _ _ _⟩
  case false.true =>
    clear hn
    show Calls _ _ _ _ fun e w' => e = .returned (.int .i64 (-1)) ∧ Grw w w'
    go_enter Tryd.func48, Tryd.ntmps48
    go_wp2
    go_ret
    exact ⟨rfl, grw_box2 _ _ _⟩
  case true.false =>
    clear hn
    show Calls _ _ _ _ fun e w' => e = .returned (.int .i64 1) ∧ Grw w w'
    go_enter Tryd.func48, Tryd.ntmps48
    go_wp2
    go_ret
    exact ⟨rfl, grw_box2 _ _ _⟩
theorem thn_thn (a b c : Int) : thn (thn a b) c = thn a (thn b c) := by
  unfold thn
  by_cases h : a = 0
  · rw [if_pos h, if_pos h]
  · rw [if_neg h, if_neg h, if_neg h]
theorem thn_zero (c : Int) : thn 0 c = c := if_pos rfl
theorem thn_at {z c : Int} (h : z ≠ 0) : thn z c = z := if_neg h
theorem two_atoms' {w w1 : World} {a b x y : Value} {t u : TypeId} (hb : Below ((w.alloc (.cells #[a, b] t)).alloc (.cells #[x, y] u)).heap.size ((w.alloc (.cells #[a, b] t)).alloc (.cells #[x, y] u)) w1) :
    w1.cell? ⟨w.heap.size, 0, none⟩ = some a ∧ w1.cell? ⟨w.heap.size, 1, none⟩ = some b ∧ w1.cell? ⟨w.heap.size + 1, 0, none⟩ = some x ∧ w1.cell? ⟨w.heap.size + 1, 1, none⟩ = some y := by
  obtain ⟨⟨h0, h1⟩, h2, h3⟩ := two_atoms hb
  exact ⟨h0, h1, h2, h3⟩
set_option maxHeartbeats 4000000 in
set_option maxRecDepth 100000 in
theorem rn_atom (p p' : ByteArray) (a a' : Option Addr) (l l' : List Tm) (c c' : Nat) (w : World) (h1 : Terms w a l) (h2 : Terms w a' l') :
    Calls Tryd.prog 56 #[.agg #[.string p, .slice a l.length c], .agg #[.string p', .slice a' l'.length c']] w fun e w' => e = .returned (.int .i64 (cmpA (p, l) (p', l'))) ∧ Grw w w' := by
  have hlen := h1.len
  have hlen2 := h2.len
  obtain ⟨R, hR⟩ : ∃ R, Hid (cmpA (p, l) (p', l') = R) := ⟨_, Lib.hid rfl⟩
  have hd : cmpA (p, l) (p', l') = thn (cmpS p p') (thn (cmpN l.length l'.length) (cmpF cmpT l l')) := rfl
  rw [hR.out] at hd ⊢
  have hcs := rn_text p p'
  have hnb := rn_number (l.length : Int) (l'.length : Int)
  have hN0 : cmpN (l.length : Int) (l'.length : Int) = 0 → l.length = l'.length := fun e => by have := (cmpN_ord.eq _ _).1 e; omega
  generalize cmpS p p' = x0 at hcs hd
  generalize cmpN (l.length : Int) (l'.length : Int) = n0 at hnb hd hN0
  obtain ⟨W0, hW0⟩ : ∃ W0, W0 = (w.alloc (.cells #[.string p, .slice a l.length c] 24)).alloc (.cells #[.string p', .slice a' l'.length c'] 24) := ⟨_, rfl⟩
  have hkp : Hid (∀ w', Below W0.heap.size W0 w' → w'.cell? ⟨w.heap.size, 0, none⟩ = some (.string p) ∧ w'.cell? ⟨w.heap.size, 1, none⟩ = some (.slice a l.length c) ∧ w'.cell? ⟨w.heap.size + 1, 0, none⟩ = some (.string p') ∧ w'.cell? ⟨w.heap.size + 1, 1, none⟩ = some (.slice a' l'.length c')) := Lib.hid (by
    subst hW0; intro w' hb; exact two_atoms' hb)
  have hG0 : Hid (Grw w W0) := Lib.hid (by subst hW0; exact grw_box2 _ _ _)
  have hR1 := Lib.hid (h1.below hG0.out.below)
  have hR2 := Lib.hid (h2.below hG0.out.below)
  obtain ⟨q0, q1, q2, q3⟩ := hkp.out W0 (Below.refl _ _)
  clear h1 h2
  obtain ⟨z0, hz0, hst, hz0n⟩ : ∃ z0, thn x0 n0 = z0 ∧ Hid (R = thn z0 (cmpF cmpT l l')) ∧ Hid (z0 = 0 → l.length = l'.length) := ⟨_, rfl, Lib.hid (by rw [hd, thn_thn]), Lib.hid (fun e => by
    by_cases hx : x0 = 0
    · rw [hx, thn_zero] at e; exact hN0 e
    · rw [thn_at hx] at e; exact absurd e hx)⟩
  clear hN0
  have key : ∀ (wr : World) (z0 : Int), Hid (Grw W0 wr) → Hid (R = thn z0 (cmpF cmpT l l')) → Hid (z0 = 0 → l.length = l'.length) → True := fun _ _ _ _ _ => trivial
  clear key
  by_cases hx : x0 = 0
  all_goals
    first
      | (have hx2 : (x0 == 0) = true := by simp [hx]
         have hzz : z0 = n0 := by rw [← hz0, hx, thn_zero]
         rw [hzz] at hst hz0n
         clear hzz hz0 hd)
      | (have hx2 : (x0 == 0) = false := by simp [hx]
         have hzz : z0 = x0 := by rw [← hz0, thn_at hx]
         rw [hzz] at hst hz0n
         clear hzz hz0 hd)
    clear hx
    go_enter Tryd.func56, Tryd.ntmps56
    go_wp2_with (first
      | (go_at_call 57; refine (hnb _).mono ?_; rintro e w2 ⟨rfl, rfl⟩)
      | (go_at_call 67; refine (hcs _).mono ?_; rintro e w1 ⟨rfl, rfl⟩))
    first | (rw [← hW0]; clear hW0) | clear hW0
    go_loopw [5, 6] (fun cc i wr => ∃ (k : Nat) (z : Int), k ≤ l.length ∧ i = .int .i64 k ∧ cc = .int .i64 z ∧ Hid (Grw W0 wr) ∧ Hid (R = thn z (cmpF cmpT (l.drop k) (l'.drop k))) ∧ Hid (z = 0 → l.length = l'.length)) (fun _ i _ => l.length - (intOf i).toNat)
    case atStart => exact ⟨0, _, Nat.zero_le _, rfl, rfl, Lib.hid (Grw.refl W0), hst, hz0n⟩
    case round =>
      obtain ⟨k, z, hk, rfl, rfl, hg, hr, hzn⟩ := hrel
      obtain ⟨s0, s1, s2, s3⟩ := hkp.out wr hg.out.below
      by_cases hlt : k < l.length
      · by_cases hz : z = 0
        · subst hz
          have hl2 := hzn.out rfl
          obtain ⟨x, e1⟩ : ∃ x, l[k]? = some x := ⟨_, List.getElem?_eq_getElem hlt⟩
          obtain ⟨y, e2⟩ : ∃ y, l'[k]? = some y := ⟨_, List.getElem?_eq_getElem (by omega)⟩
          obtain ⟨p1, rfl, hc1, hc2⟩ := (hR1.out.below hg.out.below).cells k _ e1
          obtain ⟨p2, rfl, hd1, hd2⟩ := (hR2.out.below hg.out.below).cells k _ e2
          have hstep := cmpF_step (f := cmpT) e1 e2
          have hcall := rn_Terms x y
          obtain ⟨xv, xs⟩ := x
          obtain ⟨yv, ys⟩ := y
          dsimp only at hc1 hc2 hd1 hd2 hcall
          generalize cmpT (xv, xs) (yv, ys) = z2 at hstep hcall
          have hr2 : Hid (R = thn z2 (cmpF cmpT (l.drop (k + 1)) (l'.drop (k + 1)))) := Lib.hid (by rw [hr.out, hstep, thn_zero])
          have hq0 : (0 : Int) ≤ (k : Int) := Int.natCast_nonneg _
          have hq1 : (k : Int) < (l.length : Int) := by omega
          have hq2 : (k : Int) < (l'.length : Int) := by omega
          have hq3 : k < l'.length := by omega
          have hkE : Hid (∀ w', Below wr.heap.size wr w' → (w'.cell? ⟨w.heap.size, 0, none⟩ = some (.string p) ∧ w'.cell? ⟨w.heap.size, 1, none⟩ = some (.slice (some p1) l.length c) ∧ w'.cell? ⟨w.heap.size + 1, 0, none⟩ = some (.string p') ∧ w'.cell? ⟨w.heap.size + 1, 1, none⟩ = some (.slice (some p2) l'.length c')) ∧ w'.cell? (p1.add (k * 2)) = some (.bool xv) ∧ w'.cell? ⟨(p1.add (k * 2)).block, (p1.add (k * 2)).off + 1, none⟩ = some (.string xs) ∧ w'.cell? (p2.add (k * 2)) = some (.bool yv) ∧ w'.cell? ⟨(p2.add (k * 2)).block, (p2.add (k * 2)).off + 1, none⟩ = some (.string ys)) := Lib.hid fun w' hb => ⟨hkp.out w' (hg.out.below.trans (hb.mono hg.out.below.size)), cell_below hb rfl hc1, cell_below hb rfl hc2, cell_below hb rfl hd1, cell_below hb rfl hd2⟩
          replace hl2 := Lib.hid hl2
          clear e1 e2 hstep
          go_wp2_with fail
          go_region_held3 (fun w' => (w'.cell? ⟨w.heap.size, 0, none⟩ = some (.string p) ∧ w'.cell? ⟨w.heap.size, 1, none⟩ = some (.slice (some p1) l.length c) ∧ w'.cell? ⟨w.heap.size + 1, 0, none⟩ = some (.string p') ∧ w'.cell? ⟨w.heap.size + 1, 1, none⟩ = some (.slice (some p2) l'.length c')) ∧ w'.cell? (p1.add (k * 2)) = some (.bool xv) ∧ w'.cell? ⟨(p1.add (k * 2)).block, (p1.add (k * 2)).off + 1, none⟩ = some (.string xs) ∧ w'.cell? (p2.add (k * 2)) = some (.bool yv) ∧ w'.cell? ⟨(p2.add (k * 2)).block, (p2.add (k * 2)).off + 1, none⟩ = some (.string ys))
            (first
              | exact hkE.out _ (Below.refl _ _).drew
              | exact hkE.out _ hg2.out.below)
            (first
              | (go_at_call 48; refine (hcall _).mono ?_; rintro e w2 ⟨rfl, hg20⟩; have hg2 := Lib.hid ((Grw.refl wr).drew.trans hg20); clear hg20))
          have hg3 := Lib.hid (hg.out.trans hg2.out)
          go_wp2_with fail
          go_roundw
          case rel => exact ⟨k + 1, z2, by omega, by go_num, rfl, hg3, hr2, Lib.hid fun _ => hl2.out⟩
          case measure => simp [intOf]; omega
        · have hr2 : Hid (R = z) := Lib.hid (by rw [hr.out, thn_at hz])
          have hz2 : (z == 0) = false := by simp [hz]
          clear hz
          go_wp2_with fail
          go_ret
          exact ⟨by rw [hr2.out]; rfl, hG0.out.trans hg.out⟩
      · have hr2 : Hid (R = z) := Lib.hid (by
          rw [hr.out]
          by_cases hz : z = 0
          · rw [hz, thn_zero]; exact cmpF_end (by omega) (by have := hzn.out hz; omega)
          · exact thn_at hz)
        have hke : k = l.length := by omega
        subst hke
        go_wp2_with fail
        go_ret
        exact ⟨by rw [hr2.out]; rfl, hG0.out.trans hg.out⟩
set_option maxHeartbeats 8000000 in
set_option maxRecDepth 100000 in
theorem rn_Compare (x y : Lit) (a a' : Option Addr) (c c' : Nat) (w : World) (h1 : Terms w a x.a) (h2 : Terms w a' y.a) :
    Calls Tryd.prog 26 #[.agg (litV x a c), .agg (litV y a' c')] w fun e w' => e = .returned (.int .i64 (cmpL x y)) ∧ Grw w w' := by
  have hd : cmpL x y = thn (cmpN x.k y.k) (thn (cmpA (x.p, x.a) (y.p, y.a)) (thn (cmpT x.l y.l) (cmpT x.r y.r))) := rfl
  obtain ⟨R, hR⟩ : ∃ R, Hid (cmpL x y = R) := ⟨_, Lib.hid rfl⟩
  rw [hR.out] at hd ⊢
  have hk := rn_number x.k y.k
  have ha := fun w h1 h2 => rn_atom x.p y.p a a' x.a y.a c c' w h1 h2
  have hl := rn_Terms x.l y.l
  have hr := rn_Terms x.r y.r
  have hcc := fun (w1 : World) => @k_fourteenA w w1 x y a a' c c' 44
  generalize cmpN x.k y.k = z1 at hk hd
  generalize cmpA (x.p, x.a) (y.p, y.a) = z2 at ha hd
  generalize cmpT x.l y.l = z3 at hl hd
  generalize cmpT x.r y.r = z4 at hr hd
  obtain ⟨xk, xp, xa, ⟨xlv, xlt⟩, ⟨xrv, xrt⟩⟩ := x
  obtain ⟨yk, yp, ya, ⟨ylv, ylt⟩, ⟨yrv, yrt⟩⟩ := y
  unfold litV at hcc ⊢
  dsimp only at h1 h2 hk ha hl hr hcc ⊢
  obtain ⟨W0, hW0⟩ : ∃ W0, W0 = (w.alloc (.cells #[.int .i64 xk, .string xp, .slice a xa.length c, .bool xlv, .string xlt, .bool xrv, .string xrt] 44)).alloc (.cells #[.int .i64 yk, .string yp, .slice a' ya.length c', .bool ylv, .string ylt, .bool yrv, .string yrt] 44) := ⟨_, rfl⟩
  have hkp : Hid (∀ w', Below W0.heap.size W0 w' → w'.cell? ⟨w.heap.size, 0, none⟩ = some (.int .i64 xk) ∧ w'.cell? ⟨w.heap.size, 1, none⟩ = some (.string xp) ∧ w'.cell? ⟨w.heap.size, 2, none⟩ = some (.slice a xa.length c) ∧ w'.cell? ⟨w.heap.size, 3, none⟩ = some (.bool xlv) ∧ w'.cell? ⟨w.heap.size, 4, none⟩ = some (.string xlt) ∧ w'.cell? ⟨w.heap.size, 5, none⟩ = some (.bool xrv) ∧ w'.cell? ⟨w.heap.size, 6, none⟩ = some (.string xrt) ∧ w'.cell? ⟨w.heap.size + 1, 0, none⟩ = some (.int .i64 yk) ∧ w'.cell? ⟨w.heap.size + 1, 1, none⟩ = some (.string yp) ∧ w'.cell? ⟨w.heap.size + 1, 2, none⟩ = some (.slice a' ya.length c') ∧ w'.cell? ⟨w.heap.size + 1, 3, none⟩ = some (.bool ylv) ∧ w'.cell? ⟨w.heap.size + 1, 4, none⟩ = some (.string ylt) ∧ w'.cell? ⟨w.heap.size + 1, 5, none⟩ = some (.bool yrv) ∧ w'.cell? ⟨w.heap.size + 1, 6, none⟩ = some (.string yrt)) := Lib.hid (by
    subst hW0; intro w' hb; exact hcc w' hb)
  have hG0 : Hid (Grw w W0) := Lib.hid (by subst hW0; exact grw_box2 _ _ _)
  have hT1 := Lib.hid (h1.below hG0.out.below)
  have hT2 := Lib.hid (h2.below hG0.out.below)
  clear h1 h2 hcc
  replace ha : Hid (∀ w, Grw W0 w → Calls Tryd.prog 56 #[.agg #[.string xp, .slice a xa.length c], .agg #[.string yp, .slice a' ya.length c']] w fun e w' => e = .returned (.int .i64 z2) ∧ Grw w w') := Lib.hid fun w hg => ha w (hT1.out.below hg.below) (hT2.out.below hg.below)
  obtain ⟨d0, d1, d2, d3, d4, d5, d6, d7, d8, d9, d10, d11, d12, d13⟩ := hkp.out W0 (Below.refl _ _)
  by_cases y1 : z1 = 0
  case neg =>
    have hS : Hid (R = z1) := Lib.hid (by rw [hd, thn_at y1])
    have b1 : (z1 == 0) = false := by simp [y1]
    clear hd y1
    go_enter Tryd.func26, Tryd.ntmps26
    go_wp2_with (go_at_call 57; refine (hk _).mono ?_; rintro e w1 ⟨rfl, rfl⟩)
    rw [← hW0]
    go_ret
    exact ⟨by rw [hS.out]; rfl, hG0.out⟩
  rw [y1, thn_zero] at hd
  subst y1
  by_cases y2 : z2 = 0
  case neg =>
    have hS : Hid (R = z2) := Lib.hid (by rw [hd, thn_at y2])
    have b2 : (z2 == 0) = false := by simp [y2]
    clear hd y2
    go_enter Tryd.func26, Tryd.ntmps26
    go_wp2_with (first
      | (go_at_call 56; rw [← hW0]; refine (ha.out _ (Grw.refl _)).mono ?_; rintro e w2 ⟨rfl, hg20⟩; have hg2 := Lib.hid hg20; clear hg20)
      | (go_at_call 57; refine (hk _).mono ?_; rintro e w1 ⟨rfl, rfl⟩))
    go_ret
    exact ⟨by rw [hS.out]; rfl, hG0.out.trans hg2.out⟩
  rw [y2, thn_zero] at hd
  subst y2
  by_cases y3 : z3 = 0
  case neg =>
    have hS : Hid (R = z3) := Lib.hid (by rw [hd, thn_at y3])
    have b3 : (z3 == 0) = false := by simp [y3]
    clear hd y3
    go_enter Tryd.func26, Tryd.ntmps26
    go_wp2_with (first
      | (have hg := hg2.out; clear hg; go_at_call 48; refine (hl _).mono ?_; rintro e w3 ⟨rfl, hg30⟩; have hg3 := Lib.hid (hg2.out.trans hg30); clear hg30)
      | (go_at_call 56; rw [← hW0]; refine (ha.out _ (Grw.refl _)).mono ?_; rintro e w2 ⟨rfl, hg20⟩; have hg2 := Lib.hid hg20; obtain ⟨e0, e1, e2, e3, e4, e5, e6, e7, e8, e9, e10, e11, e12, e13⟩ := hkp.out w2 hg20.below; clear hg20)
      | (go_at_call 57; refine (hk _).mono ?_; rintro e w1 ⟨rfl, rfl⟩))
    go_ret
    exact ⟨by rw [hS.out]; rfl, hG0.out.trans hg3.out⟩
  rw [y3, thn_zero] at hd
  subst y3
  have hS := Lib.hid hd
  clear hd
  go_enter Tryd.func26, Tryd.ntmps26
  go_wp2_with (first
    | (have hg := hg3.out; clear hg; go_at_call 48; refine (hr _).mono ?_; rintro e w4 ⟨rfl, hg40⟩; have hg4 := Lib.hid (hg3.out.trans hg40); clear hg40)
    | (have hg := hg2.out; clear hg; go_at_call 48; refine (hl _).mono ?_; rintro e w3 ⟨rfl, hg30⟩; have hg3 := Lib.hid (hg2.out.trans hg30); obtain ⟨f0, f1, f2, f3, f4, f5, f6, f7, f8, f9, f10, f11, f12, f13⟩ := hkp.out w3 hg3.out.below; clear hg30)
    | (go_at_call 56; rw [← hW0]; refine (ha.out _ (Grw.refl _)).mono ?_; rintro e w2 ⟨rfl, hg20⟩; have hg2 := Lib.hid hg20; obtain ⟨e0, e1, e2, e3, e4, e5, e6, e7, e8, e9, e10, e11, e12, e13⟩ := hkp.out w2 hg20.below; clear hg20)
    | (go_at_call 57; refine (hk _).mono ?_; rintro e w1 ⟨rfl, rfl⟩))
  go_ret
  exact ⟨by rw [hS.out]; rfl, hG0.out.trans hg4.out⟩
set_option maxHeartbeats 4000000 in
set_option maxRecDepth 100000 in
theorem rn_CompareRules (p p' : ByteArray) (ha ha' : Option Addr) (hl hl' : List Tm) (hc hc' : Nat) (a a' : Option Addr) (l l' : List Lit) (c c' : Nat) (w : World) (h3 : Terms w ha hl) (h4 : Terms w ha' hl') (h1 : Lits w a l) (h2 : Lits w a' l') :
    Calls Tryd.prog 24 #[.agg #[.string p, .slice ha hl.length hc, .slice a l.length c], .agg #[.string p', .slice ha' hl'.length hc', .slice a' l'.length c']] w fun e w' => e = .returned (.int .i64 (cmpR ⟨p, hl, l⟩ ⟨p', hl', l'⟩)) ∧ Grw w w' := by
  have hlen := h1.len
  have hlen2 := h2.len
  obtain ⟨R, hR⟩ : ∃ R, Hid (cmpR ⟨p, hl, l⟩ ⟨p', hl', l'⟩ = R) := ⟨_, Lib.hid rfl⟩
  have hd : cmpR ⟨p, hl, l⟩ ⟨p', hl', l'⟩ = thn (cmpA (p, hl) (p', hl')) (thn (cmpN l.length l'.length) (cmpF cmpL l l')) := rfl
  rw [hR.out] at hd ⊢
  have hcs := fun w h3 h4 => rn_atom p p' ha ha' hl hl' hc hc' w h3 h4
  have hnb := rn_number (l.length : Int) (l'.length : Int)
  have hN0 : cmpN (l.length : Int) (l'.length : Int) = 0 → l.length = l'.length := fun e => by have := (cmpN_ord.eq _ _).1 e; omega
  generalize cmpA (p, hl) (p', hl') = x0 at hcs hd
  generalize cmpN (l.length : Int) (l'.length : Int) = n0 at hnb hd hN0
  obtain ⟨W0, hW0⟩ : ∃ W0, W0 = (w.alloc (.cells #[.string p, .slice ha hl.length hc, .slice a l.length c] 27)).alloc (.cells #[.string p', .slice ha' hl'.length hc', .slice a' l'.length c'] 27) := ⟨_, rfl⟩
  have hkp : Hid (∀ w', Below W0.heap.size W0 w' → w'.cell? ⟨w.heap.size, 0, none⟩ = some (.string p) ∧ w'.cell? ⟨w.heap.size, 1, none⟩ = some (.slice ha hl.length hc) ∧ w'.cell? ⟨w.heap.size, 2, none⟩ = some (.slice a l.length c) ∧ w'.cell? ⟨w.heap.size + 1, 0, none⟩ = some (.string p') ∧ w'.cell? ⟨w.heap.size + 1, 1, none⟩ = some (.slice ha' hl'.length hc') ∧ w'.cell? ⟨w.heap.size + 1, 2, none⟩ = some (.slice a' l'.length c')) := Lib.hid (by
    subst hW0; intro w' hb; exact two_rls hb)
  have hG0 : Hid (Grw w W0) := Lib.hid (by subst hW0; exact grw_box2 _ _ _)
  have hR1 := Lib.hid (h1.below hG0.out.below)
  have hR2 := Lib.hid (h2.below hG0.out.below)
  have hT3 := Lib.hid (h3.below hG0.out.below)
  have hT4 := Lib.hid (h4.below hG0.out.below)
  obtain ⟨q0, q1, q2, q3, q4, q5⟩ := hkp.out W0 (Below.refl _ _)
  clear h1 h2 h3 h4
  obtain ⟨z0, hz0, hst, hz0n⟩ : ∃ z0, thn x0 n0 = z0 ∧ Hid (R = thn z0 (cmpF cmpL l l')) ∧ Hid (z0 = 0 → l.length = l'.length) := ⟨_, rfl, Lib.hid (by rw [hd, thn_thn]), Lib.hid (fun e => by
    by_cases hx : x0 = 0
    · rw [hx, thn_zero] at e; exact hN0 e
    · rw [thn_at hx] at e; exact absurd e hx)⟩
  clear hN0
  have key : ∀ (wr : World) (z0 : Int), Hid (Grw W0 wr) → Hid (R = thn z0 (cmpF cmpL l l')) → Hid (z0 = 0 → l.length = l'.length) → True := fun _ _ _ _ _ => trivial
  clear key
  by_cases hx : x0 = 0
  all_goals
    first
      | (have hx2 : (x0 == 0) = true := by simp [hx]
         have hzz : z0 = n0 := by rw [← hz0, hx, thn_zero]
         rw [hzz] at hst hz0n
         clear hzz hz0 hd)
      | (have hx2 : (x0 == 0) = false := by simp [hx]
         have hzz : z0 = x0 := by rw [← hz0, thn_at hx]
         rw [hzz] at hst hz0n
         clear hzz hz0 hd)
    clear hx
    go_enter Tryd.func24, Tryd.ntmps24
    go_wp2_with (first
      | (go_at_call 57; refine (hnb _).mono ?_; rintro e w2 ⟨rfl, rfl⟩)
      | (go_at_call 56; rw [← hW0]; refine (hcs _ hT3.out hT4.out).mono ?_; rintro e w1 ⟨rfl, hg10⟩; have hg1 := Lib.hid hg10; obtain ⟨r0, r1, r2, r3, r4, r5⟩ := hkp.out w1 hg10.below; clear hg10))
    first | (rw [← hW0]; clear hW0) | clear hW0
    go_loopw [5, 6] (fun cc i wr => ∃ (k : Nat) (z : Int), k ≤ l.length ∧ i = .int .i64 k ∧ cc = .int .i64 z ∧ Hid (Grw W0 wr) ∧ Hid (R = thn z (cmpF cmpL (l.drop k) (l'.drop k))) ∧ Hid (z = 0 → l.length = l'.length)) (fun _ i _ => l.length - (intOf i).toNat)
    case atStart => exact ⟨0, _, Nat.zero_le _, rfl, rfl, Lib.hid (hg1.out), hst, hz0n⟩
    case round =>
      obtain ⟨k, z, hk, rfl, rfl, hg, hr, hzn⟩ := hrel
      obtain ⟨s0, s1, s2, s3, s4, s5⟩ := hkp.out wr hg.out.below
      by_cases hlt : k < l.length
      · by_cases hz : z = 0
        · subst hz
          have hl2 := hzn.out rfl
          obtain ⟨x, e1⟩ : ∃ x, l[k]? = some x := ⟨_, List.getElem?_eq_getElem hlt⟩
          obtain ⟨y, e2⟩ : ∃ y, l'[k]? = some y := ⟨_, List.getElem?_eq_getElem (by omega)⟩
          obtain ⟨p1, ad, adc, rfl, hc1, hc2, hc3, hc4, hc5, hc6, hc7, hat⟩ := (hR1.out.below hg.out.below).cells k _ e1
          obtain ⟨p2, bd, bdc, rfl, hd1, hd2, hd3, hd4, hd5, hd6, hd7, hbt⟩ := (hR2.out.below hg.out.below).cells k _ e2
          have hstep := cmpF_step (f := cmpL) e1 e2
          have hcall := fun w h1 h2 => rn_Compare x y ad bd adc bdc w h1 h2
          obtain ⟨xk, xp, xa, ⟨xlv, xlt⟩, ⟨xrv, xrt⟩⟩ := x
          obtain ⟨yk, yp, ya, ⟨ylv, ylt⟩, ⟨yrv, yrt⟩⟩ := y
          unfold litV at hcall
          dsimp only at hc1 hc2 hc3 hc4 hc5 hc6 hc7 hd1 hd2 hd3 hd4 hd5 hd6 hd7 hcall hat hbt
          generalize cmpL ⟨xk, xp, xa, (xlv, xlt), (xrv, xrt)⟩ ⟨yk, yp, ya, (ylv, ylt), (yrv, yrt)⟩ = z2 at hstep hcall
          have hr2 : Hid (R = thn z2 (cmpF cmpL (l.drop (k + 1)) (l'.drop (k + 1)))) := Lib.hid (by rw [hr.out, hstep, thn_zero])
          have hq0 : (0 : Int) ≤ (k : Int) := Int.natCast_nonneg _
          have hq1 : (k : Int) < (l.length : Int) := by omega
          have hq2 : (k : Int) < (l'.length : Int) := by omega
          have hq3 : k < l'.length := by omega
          replace hat := Lib.hid hat
          replace hbt := Lib.hid hbt
          have hgd := Lib.hid ((Below.refl wr.heap.size wr).drew)
          have hkE : Hid (∀ w', Below wr.heap.size wr w' → (w'.cell? ⟨w.heap.size, 0, none⟩ = some (.string p) ∧ w'.cell? ⟨w.heap.size, 1, none⟩ = some (.slice ha hl.length hc) ∧ w'.cell? ⟨w.heap.size, 2, none⟩ = some (.slice (some p1) l.length c) ∧ w'.cell? ⟨w.heap.size + 1, 0, none⟩ = some (.string p') ∧ w'.cell? ⟨w.heap.size + 1, 1, none⟩ = some (.slice ha' hl'.length hc') ∧ w'.cell? ⟨w.heap.size + 1, 2, none⟩ = some (.slice (some p2) l'.length c')) ∧ w'.cell? (p1.add (k * 7)) = some (.int .i64 xk) ∧ w'.cell? ⟨(p1.add (k * 7)).block, (p1.add (k * 7)).off + 1, none⟩ = some (.string xp) ∧ w'.cell? ⟨(p1.add (k * 7)).block, (p1.add (k * 7)).off + 2, none⟩ = some (.slice ad xa.length adc) ∧ w'.cell? ⟨(p1.add (k * 7)).block, (p1.add (k * 7)).off + 3, none⟩ = some (.bool xlv) ∧ w'.cell? ⟨(p1.add (k * 7)).block, (p1.add (k * 7)).off + 4, none⟩ = some (.string xlt) ∧ w'.cell? ⟨(p1.add (k * 7)).block, (p1.add (k * 7)).off + 5, none⟩ = some (.bool xrv) ∧ w'.cell? ⟨(p1.add (k * 7)).block, (p1.add (k * 7)).off + 6, none⟩ = some (.string xrt) ∧ w'.cell? (p2.add (k * 7)) = some (.int .i64 yk) ∧ w'.cell? ⟨(p2.add (k * 7)).block, (p2.add (k * 7)).off + 1, none⟩ = some (.string yp) ∧ w'.cell? ⟨(p2.add (k * 7)).block, (p2.add (k * 7)).off + 2, none⟩ = some (.slice bd ya.length bdc) ∧ w'.cell? ⟨(p2.add (k * 7)).block, (p2.add (k * 7)).off + 3, none⟩ = some (.bool ylv) ∧ w'.cell? ⟨(p2.add (k * 7)).block, (p2.add (k * 7)).off + 4, none⟩ = some (.string ylt) ∧ w'.cell? ⟨(p2.add (k * 7)).block, (p2.add (k * 7)).off + 5, none⟩ = some (.bool yrv) ∧ w'.cell? ⟨(p2.add (k * 7)).block, (p2.add (k * 7)).off + 6, none⟩ = some (.string yrt)) := Lib.hid fun w' hb => ⟨hkp.out w' (hg.out.below.trans (hb.mono hg.out.below.size)), cell_below hb rfl hc1, cell_below hb rfl hc2, cell_below hb rfl hc3, cell_below hb rfl hc4, cell_below hb rfl hc5, cell_below hb rfl hc6, cell_below hb rfl hc7, cell_below hb rfl hd1, cell_below hb rfl hd2, cell_below hb rfl hd3, cell_below hb rfl hd4, cell_below hb rfl hd5, cell_below hb rfl hd6, cell_below hb rfl hd7⟩
          replace hl2 := Lib.hid hl2
          clear e1 e2 hstep
          go_wp2_with fail
          go_region_held3 (fun w' => (w'.cell? ⟨w.heap.size, 0, none⟩ = some (.string p) ∧ w'.cell? ⟨w.heap.size, 1, none⟩ = some (.slice ha hl.length hc) ∧ w'.cell? ⟨w.heap.size, 2, none⟩ = some (.slice (some p1) l.length c) ∧ w'.cell? ⟨w.heap.size + 1, 0, none⟩ = some (.string p') ∧ w'.cell? ⟨w.heap.size + 1, 1, none⟩ = some (.slice ha' hl'.length hc') ∧ w'.cell? ⟨w.heap.size + 1, 2, none⟩ = some (.slice (some p2) l'.length c')) ∧ w'.cell? (p1.add (k * 7)) = some (.int .i64 xk) ∧ w'.cell? ⟨(p1.add (k * 7)).block, (p1.add (k * 7)).off + 1, none⟩ = some (.string xp) ∧ w'.cell? ⟨(p1.add (k * 7)).block, (p1.add (k * 7)).off + 2, none⟩ = some (.slice ad xa.length adc) ∧ w'.cell? ⟨(p1.add (k * 7)).block, (p1.add (k * 7)).off + 3, none⟩ = some (.bool xlv) ∧ w'.cell? ⟨(p1.add (k * 7)).block, (p1.add (k * 7)).off + 4, none⟩ = some (.string xlt) ∧ w'.cell? ⟨(p1.add (k * 7)).block, (p1.add (k * 7)).off + 5, none⟩ = some (.bool xrv) ∧ w'.cell? ⟨(p1.add (k * 7)).block, (p1.add (k * 7)).off + 6, none⟩ = some (.string xrt) ∧ w'.cell? (p2.add (k * 7)) = some (.int .i64 yk) ∧ w'.cell? ⟨(p2.add (k * 7)).block, (p2.add (k * 7)).off + 1, none⟩ = some (.string yp) ∧ w'.cell? ⟨(p2.add (k * 7)).block, (p2.add (k * 7)).off + 2, none⟩ = some (.slice bd ya.length bdc) ∧ w'.cell? ⟨(p2.add (k * 7)).block, (p2.add (k * 7)).off + 3, none⟩ = some (.bool ylv) ∧ w'.cell? ⟨(p2.add (k * 7)).block, (p2.add (k * 7)).off + 4, none⟩ = some (.string ylt) ∧ w'.cell? ⟨(p2.add (k * 7)).block, (p2.add (k * 7)).off + 5, none⟩ = some (.bool yrv) ∧ w'.cell? ⟨(p2.add (k * 7)).block, (p2.add (k * 7)).off + 6, none⟩ = some (.string yrt))
            (first
              | exact hkE.out _ (Below.refl _ _).drew
              | exact hkE.out _ hg2.out.below)
            (first
              | (go_at_call 26; refine (hcall _ (hat.out.below hgd.out) (hbt.out.below hgd.out)).mono ?_; rintro e w2 ⟨rfl, hg20⟩; have hg2 := Lib.hid ((Grw.refl wr).drew.trans hg20); clear hg20))
          have hg3 := Lib.hid (hg.out.trans hg2.out)
          go_wp2_with fail
          go_roundw
          case rel => exact ⟨k + 1, z2, by omega, by go_num, rfl, hg3, hr2, Lib.hid fun _ => hl2.out⟩
          case measure => simp [intOf]; omega
        · have hr2 : Hid (R = z) := Lib.hid (by rw [hr.out, thn_at hz])
          have hz2 : (z == 0) = false := by simp [hz]
          clear hz
          go_wp2_with fail
          go_ret
          exact ⟨by rw [hr2.out]; rfl, hG0.out.trans hg.out⟩
      · have hr2 : Hid (R = z) := Lib.hid (by
          rw [hr.out]
          by_cases hz : z = 0
          · rw [hz, thn_zero]; exact cmpF_end (by omega) (by have := hzn.out hz; omega)
          · exact thn_at hz)
        have hke : k = l.length := by omega
        subst hke
        go_wp2_with fail
        go_ret
        exact ⟨by rw [hr2.out]; rfl, hG0.out.trans hg.out⟩
end Go.Proofs.YtoklbofobcloaaaDoor
