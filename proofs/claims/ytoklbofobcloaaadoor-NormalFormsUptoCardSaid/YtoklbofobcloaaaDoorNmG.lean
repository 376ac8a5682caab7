/- Normal: literals, lists of literals and rules compared. (gen_nmg.py) -/
import Derived.Test.YtoklbofobcloaaaDoorNmF
namespace Go.Proofs.YtoklbofobcloaaaDoor
open Go.RowKit Go.Sort
theorem orr4 (a b c d : Int) : orr [a, b, c, d] = thn a (thn b (thn c d)) := by simp [orr, thn]; (repeat' split) <;> simp_all
theorem three_wrap {α : Type} {f : α → α → Int} (h : Ordr f) (a b : α) : IntKind.i64.wrap (f a b) = f a b := by rcases h.three a b with e | e | e <;> rw [e] <;> decide
theorem k_fourteenA {w w1 : World} {x y : Lit} {a a' : Option Addr} {c c' : Nat} {t : TypeId} (hb : Below ((w.alloc (.cells (litV x a c) t)).alloc (.cells (litV y a' c') t)).heap.size ((w.alloc (.cells (litV x a c) t)).alloc (.cells (litV y a' c') t)) w1) :
    w1.cell? ⟨w.heap.size, 0, none⟩ = some (.int .i64 x.k) ∧ w1.cell? ⟨w.heap.size, 1, none⟩ = some (.string x.p) ∧ w1.cell? ⟨w.heap.size, 2, none⟩ = some (.slice a x.a.length c) ∧ w1.cell? ⟨w.heap.size, 3, none⟩ = some (.bool x.l.1) ∧ w1.cell? ⟨w.heap.size, 4, none⟩ = some (.string x.l.2) ∧ w1.cell? ⟨w.heap.size, 5, none⟩ = some (.bool x.r.1) ∧ w1.cell? ⟨w.heap.size, 6, none⟩ = some (.string x.r.2) ∧ w1.cell? ⟨w.heap.size + 1, 0, none⟩ = some (.int .i64 y.k) ∧ w1.cell? ⟨w.heap.size + 1, 1, none⟩ = some (.string y.p) ∧ w1.cell? ⟨w.heap.size + 1, 2, none⟩ = some (.slice a' y.a.length c') ∧ w1.cell? ⟨w.heap.size + 1, 3, none⟩ = some (.bool y.l.1) ∧ w1.cell? ⟨w.heap.size + 1, 4, none⟩ = some (.string y.l.2) ∧ w1.cell? ⟨w.heap.size + 1, 5, none⟩ = some (.bool y.r.1) ∧ w1.cell? ⟨w.heap.size + 1, 6, none⟩ = some (.string y.r.2) := by
  obtain ⟨_, h1, h2⟩ := two_cells hb
  exact ⟨by simp [World.cell?, h1, litV], by simp [World.cell?, h1, litV], by simp [World.cell?, h1, litV], by simp [World.cell?, h1, litV], by simp [World.cell?, h1, litV], by simp [World.cell?, h1, litV], by simp [World.cell?, h1, litV], by simp [World.cell?, h2, litV], by simp [World.cell?, h2, litV], by simp [World.cell?, h2, litV], by simp [World.cell?, h2, litV], by simp [World.cell?, h2, litV], by simp [World.cell?, h2, litV], by simp [World.cell?, h2, litV]⟩
set_option maxHeartbeats 4000000 in
set_option maxRecDepth 100000 in
theorem nm_Compare (x y : Lit) (a a' : Option Addr) (c c' : Nat) (w : World) (h1 : Terms w a x.a) (h2 : Terms w a' y.a) :
    Calls Tryd.prog 25 #[.agg (litV x a c), .agg (litV y a' c')] w fun e w' => e = .returned (.int .i64 (cmpL x y)) ∧ Grw w w' := by
  have hd : cmpL x y = thn (cmpN x.k y.k) (thn (cmpA (x.p, x.a) (y.p, y.a)) (thn (cmpT x.l y.l) (cmpT x.r y.r))) := rfl
  rw [hd]
  clear hd
  have hk := nm_cmpK x.k y.k
  have ha := fun w h1 h2 => nm_atoms x.p y.p a a' x.a y.a c c' w h1 h2
  have hl := nm_terms x.l y.l
  have hr := nm_terms x.r y.r
  have r1 := three_wrap cmpN_ord x.k y.k
  have r2 := three_wrap cmpA_ord (x.p, x.a) (y.p, y.a)
  have r3 := three_wrap cmpT_ord x.l y.l
  have r4 := three_wrap cmpT_ord x.r y.r
  have hcc := fun (w1 : World) => @k_fourteenA w w1 x y a a' c c' 44
  generalize cmpN x.k y.k = z1 at hk r1 ⊢
  generalize cmpA (x.p, x.a) (y.p, y.a) = z2 at ha r2 ⊢
  generalize cmpT x.l y.l = z3 at hl r3 ⊢
  generalize cmpT x.r y.r = z4 at hr r4 ⊢
  obtain ⟨xk, xp, xa, ⟨xlv, xlt⟩, ⟨xrv, xrt⟩⟩ := x
  obtain ⟨yk, yp, ya, ⟨ylv, ylt⟩, ⟨yrv, yrt⟩⟩ := y
  unfold litV at hcc ⊢
  dsimp only at h1 h2 hk ha hl hr hcc ⊢
  obtain ⟨W0, hW0⟩ : ∃ W0, W0 = (w.alloc (.cells #[.int .i64 xk, .string xp, .slice a xa.length c, .bool xlv, .string xlt, .bool xrv, .string xrt] 44)).alloc (.cells #[.int .i64 yk, .string yp, .slice a' ya.length c', .bool ylv, .string ylt, .bool yrv, .string yrt] 44) := ⟨_, rfl⟩
  have hkp : Hid (∀ w', Below W0.heap.size W0 w' → w'.cell? ⟨w.heap.size, 0, none⟩ = some (.int .i64 xk) ∧ w'.cell? ⟨w.heap.size, 1, none⟩ = some (.string xp) ∧ w'.cell? ⟨w.heap.size, 2, none⟩ = some (.slice a xa.length c) ∧ w'.cell? ⟨w.heap.size, 3, none⟩ = some (.bool xlv) ∧ w'.cell? ⟨w.heap.size, 4, none⟩ = some (.string xlt) ∧ w'.cell? ⟨w.heap.size, 5, none⟩ = some (.bool xrv) ∧ w'.cell? ⟨w.heap.size, 6, none⟩ = some (.string xrt) ∧ w'.cell? ⟨w.heap.size + 1, 0, none⟩ = some (.int .i64 yk) ∧ w'.cell? ⟨w.heap.size + 1, 1, none⟩ = some (.string yp) ∧ w'.cell? ⟨w.heap.size + 1, 2, none⟩ = some (.slice a' ya.length c') ∧ w'.cell? ⟨w.heap.size + 1, 3, none⟩ = some (.bool ylv) ∧ w'.cell? ⟨w.heap.size + 1, 4, none⟩ = some (.string ylt) ∧ w'.cell? ⟨w.heap.size + 1, 5, none⟩ = some (.bool yrv) ∧ w'.cell? ⟨w.heap.size + 1, 6, none⟩ = some (.string yrt)) := Lib.hid (by
    subst hW0; intro w' hb; exact hcc w' hb)
  have hG0 : Hid (Grw w W0) := Lib.hid (by subst hW0; exact grw_box2 _ _ _)
  obtain ⟨d0, d1, d2, d3, d4, d5, d6, d7, d8, d9, d10, d11, d12, d13⟩ := hkp.out W0 (Below.refl _ _)
  have hT1 := Lib.hid (h1.below hG0.out.below)
  have hT2 := Lib.hid (h2.below hG0.out.below)
  have hor : ∀ (W : Nat) (w : World), Ints .i64 w (some ⟨W, 0, none⟩) [z1, z2, z3, z4] → Calls Tryd.prog 53 #[.slice (some ⟨W, 0, none⟩) 4 4] w fun e w' => e = .returned (.int .i64 (thn z1 (thn z2 (thn z3 z4)))) ∧ w = w' := fun W w h => by
    have := nm_Or (some ⟨W, 0, none⟩) [z1, z2, z3, z4] 4 w h
    rwa [orr4] at this
  have hio := Lib.hid (fun (W : World) (n : Nat) (h : W.heap.size = n) => ints_litB .i64 W 3 [z1, z2, z3, z4] #[.int .i64 z1, .int .i64 z2, .int .i64 z3, .int .i64 z4] n h rfl (by simp) (by
    intro i hi
    match i, hi with
    | 0, _ => exact r1
    | 1, _ => exact r2
    | 2, _ => exact r3
    | 3, _ => exact r4))
  clear h1 h2 hcc
  go_enter Tryd.func25, Tryd.ntmps25
  go_wp2_with fail
  rw [← hW0]
  clear hW0
  go_region_held3 (fun w' => w'.cell? ⟨w.heap.size, 0, none⟩ = some (.int .i64 xk) ∧ w'.cell? ⟨w.heap.size, 1, none⟩ = some (.string xp) ∧ w'.cell? ⟨w.heap.size, 2, none⟩ = some (.slice a xa.length c) ∧ w'.cell? ⟨w.heap.size, 3, none⟩ = some (.bool xlv) ∧ w'.cell? ⟨w.heap.size, 4, none⟩ = some (.string xlt) ∧ w'.cell? ⟨w.heap.size, 5, none⟩ = some (.bool xrv) ∧ w'.cell? ⟨w.heap.size, 6, none⟩ = some (.string xrt) ∧ w'.cell? ⟨w.heap.size + 1, 0, none⟩ = some (.int .i64 yk) ∧ w'.cell? ⟨w.heap.size + 1, 1, none⟩ = some (.string yp) ∧ w'.cell? ⟨w.heap.size + 1, 2, none⟩ = some (.slice a' ya.length c') ∧ w'.cell? ⟨w.heap.size + 1, 3, none⟩ = some (.bool ylv) ∧ w'.cell? ⟨w.heap.size + 1, 4, none⟩ = some (.string ylt) ∧ w'.cell? ⟨w.heap.size + 1, 5, none⟩ = some (.bool yrv) ∧ w'.cell? ⟨w.heap.size + 1, 6, none⟩ = some (.string yrt))
    (first
      | exact hkp.out _ (Below.refl _ _).drew
      | exact hkp.out _ (hg4.out.al _).below
      | exact hkp.out _ hg4.out.below
      | exact hkp.out _ hg3.out.below
      | exact hkp.out _ hg2.out.below)
    (first
      | (go_at_call 53; refine (hor _ _ (hio.out _ _ rfl)).mono ?_; rintro e w5 ⟨rfl, rfl⟩)
      | (have hg := hg3.out; clear hg; go_at_call 42; refine (hr _).mono ?_; rintro e w4 ⟨rfl, hg40⟩; have hg4 := Lib.hid (hg3.out.trans hg40); clear hg40)
      | (go_at_call 42; refine (hl _).mono ?_; rintro e w3 ⟨rfl, hg30⟩; have hg3 := Lib.hid (hg2.out.trans hg30); clear hg30)
      | (go_at_call 54; refine (ha _ (hT1.out.below (Below.refl _ _).drew) (hT2.out.below (Below.refl _ _).drew)).mono ?_; rintro e w2 ⟨rfl, hg20⟩; have hg2 := Lib.hid ((Grw.refl W0).drew.trans hg20); clear hg20)
      | (go_at_call 58; refine (hk _).mono ?_; rintro e w1 ⟨rfl, rfl⟩))
  go_wp2_with fail
  go_ret
  exact ⟨rfl, (hG0.out.trans hg4.out).al _⟩
set_option maxHeartbeats 2000000 in
set_option maxRecDepth 100000 in
theorem nm_cfL (a a' : Option Addr) (l l' : List Lit) (c c' N : Nat) (w : World) (h1 : Lits w a l) (h2 : Lits w a' l') (hN : l.length = N) (hN2 : l'.length = N) :
    Calls Tryd.prog 72 #[.slice a N c, .slice a' N c', .func (.func 25) #[] #[]] w fun e w' => e = .returned (.int .i64 (cmpF cmpL l l')) ∧ Grw w w' := by
  have hlen : N ≤ 1048576 := hN ▸ h1.len
  obtain ⟨R, hR⟩ : ∃ R, Hid (cmpF cmpL l l' = R) := ⟨_, Lib.hid rfl⟩
  rw [hR.out]
  replace h1 := Lib.hid h1
  replace h2 := Lib.hid h2
  replace hN := Lib.hid hN
  replace hN2 := Lib.hid hN2
  go_enter Tryd.func72, Tryd.ntmps72
  go_wp2
  go_loopw [13, 7, 8, 9, 10] (fun i _ _ _ _ wr => ∃ k : Nat, k ≤ N ∧ i = .int .i64 k ∧ Hid (Grw w wr) ∧ Hid (R = cmpF cmpL (l.drop k) (l'.drop k))) (fun i _ _ _ _ _ => N - (intOf i).toNat)
  case atStart => exact ⟨0, Nat.zero_le _, rfl, Lib.hid (Grw.refl _), Lib.hid hR.out.symm⟩
  case round =>
    obtain ⟨k, hk, rfl, hg, hr⟩ := hrel
    by_cases hlt : k < N
    · obtain ⟨x, e1⟩ : ∃ x, l[k]? = some x := ⟨_, List.getElem?_eq_getElem (by rw [hN.out]; exact hlt)⟩
      obtain ⟨y, e2⟩ : ∃ y, l'[k]? = some y := ⟨_, List.getElem?_eq_getElem (by rw [hN2.out]; exact hlt)⟩
      obtain ⟨p, ad, adc, rfl, hc1, hc2, hc3, hc4, hc5, hc6, hc7, hat⟩ := (h1.out.below hg.out.below).cells k _ e1
      obtain ⟨q, bd, bdc, rfl, hd1, hd2, hd3, hd4, hd5, hd6, hd7, hbt⟩ := (h2.out.below hg.out.below).cells k _ e2
      have hstep := cmpF_step (f := cmpL) e1 e2
      have hcall := fun w h1 h2 => nm_Compare x y ad bd adc bdc w h1 h2
      obtain ⟨xk, xp, xa, ⟨xlv, xlt⟩, ⟨xrv, xrt⟩⟩ := x
      obtain ⟨yk, yp, ya, ⟨ylv, ylt⟩, ⟨yrv, yrt⟩⟩ := y
      unfold litV at hcall
      dsimp only at hc1 hc2 hc3 hc4 hc5 hc6 hc7 hat hd1 hd2 hd3 hd4 hd5 hd6 hd7 hbt hcall
      generalize cmpL ⟨xk, xp, xa, (xlv, xlt), (xrv, xrt)⟩ ⟨yk, yp, ya, (ylv, ylt), (yrv, yrt)⟩ = z at hstep hcall
      have hq0 : (0 : Int) ≤ (k : Int) := Int.natCast_nonneg _
      have hq1 : (k : Int) < (N : Int) := by omega
      replace hat := Lib.hid hat
      replace hbt := Lib.hid hbt
      have hf1 : (wr.alloc (.cells #[.int .i64 xk, .string xp, .slice ad xa.length adc, .bool xlv, .string xlt, .bool xrv, .string xrt] 44)).cell? (q.add (k * 7)) = some (.int .i64 yk) := cell_below ((Below.refl _ _).al _) rfl hd1
      have hf2 : (wr.alloc (.cells #[.int .i64 xk, .string xp, .slice ad xa.length adc, .bool xlv, .string xlt, .bool xrv, .string xrt] 44)).cell? ⟨(q.add (k * 7)).block, (q.add (k * 7)).off + 1, none⟩ = some (.string yp) := cell_below ((Below.refl _ _).al _) rfl hd2
      have hf3 : (wr.alloc (.cells #[.int .i64 xk, .string xp, .slice ad xa.length adc, .bool xlv, .string xlt, .bool xrv, .string xrt] 44)).cell? ⟨(q.add (k * 7)).block, (q.add (k * 7)).off + 2, none⟩ = some (.slice bd ya.length bdc) := cell_below ((Below.refl _ _).al _) rfl hd3
      have hf4 : (wr.alloc (.cells #[.int .i64 xk, .string xp, .slice ad xa.length adc, .bool xlv, .string xlt, .bool xrv, .string xrt] 44)).cell? ⟨(q.add (k * 7)).block, (q.add (k * 7)).off + 3, none⟩ = some (.bool ylv) := cell_below ((Below.refl _ _).al _) rfl hd4
      have hf5 : (wr.alloc (.cells #[.int .i64 xk, .string xp, .slice ad xa.length adc, .bool xlv, .string xlt, .bool xrv, .string xrt] 44)).cell? ⟨(q.add (k * 7)).block, (q.add (k * 7)).off + 4, none⟩ = some (.string ylt) := cell_below ((Below.refl _ _).al _) rfl hd5
      have hf6 : (wr.alloc (.cells #[.int .i64 xk, .string xp, .slice ad xa.length adc, .bool xlv, .string xlt, .bool xrv, .string xrt] 44)).cell? ⟨(q.add (k * 7)).block, (q.add (k * 7)).off + 5, none⟩ = some (.bool yrv) := cell_below ((Below.refl _ _).al _) rfl hd6
      have hf7 : (wr.alloc (.cells #[.int .i64 xk, .string xp, .slice ad xa.length adc, .bool xlv, .string xlt, .bool xrv, .string xrt] 44)).cell? ⟨(q.add (k * 7)).block, (q.add (k * 7)).off + 6, none⟩ = some (.string yrt) := cell_below ((Below.refl _ _).al _) rfl hd7
      clear e1 e2 hd1 hd2 hd3 hd4 hd5 hd6 hd7
      by_cases hz : z = 0
      · subst hz
        have hr2 : Hid (R = cmpF cmpL (l.drop (k + 1)) (l'.drop (k + 1))) := Lib.hid (by rw [hr.out, hstep]; rfl)
        clear hstep
        go_wp2_with (go_at_call 25; refine (hcall _ (hat.out.below (((Below.refl _ _).al _).al _)) (hbt.out.below (((Below.refl _ _).al _).al _))).mono ?_; rintro e w1 ⟨rfl, hw1⟩; replace hw1 := Lib.hid (((hg.out.al _).al _).trans hw1))
        go_roundw
        case rel => exact ⟨k + 1, by omega, by go_num, hw1, hr2⟩
        case measure => simp [intOf]; omega
      · have hr2 : Hid (R = z) := Lib.hid (by rw [hr.out, hstep]; exact if_neg hz)
        have hz2 : (z != 0) = true := by simp [hz]
        clear hstep hz
        go_wp2_with (go_at_call 25; refine (hcall _ (hat.out.below (((Below.refl _ _).al _).al _)) (hbt.out.below (((Below.refl _ _).al _).al _))).mono ?_; rintro e w1 ⟨rfl, hw1⟩; replace hw1 := Lib.hid (((hg.out.al _).al _).trans hw1))
        go_ret
        exact ⟨by rw [hr2.out]; rfl, hw1.out⟩
    · have hr2 : Hid (R = 0) := Lib.hid (by rw [hr.out]; exact cmpF_end (by rw [hN.out]; omega) (by rw [hN2.out]; omega))
      have hke : k = N := by omega
      subst hke
      go_wp2
      go_ret
      exact ⟨by rw [hr2.out]; rfl, hg.out⟩
set_option maxHeartbeats 1000000 in
set_option maxRecDepth 100000 in
theorem nm_lsL (a a' : Option Addr) (l l' : List Lit) (c c' : Nat) (w : World) (h1 : Lits w a l) (h2 : Lits w a' l') :
    Calls Tryd.prog 55 #[.slice a l.length c, .slice a' l'.length c', .func (.func 25) #[] #[]] w fun e w' => e = .returned (.int .i64 (cmpLs cmpL l l')) ∧ Grw w w' := by
  have hcf := fun (e : l.length = l'.length) => nm_cfL a a' l l' c c' l'.length w h1 h2 e rfl
  have hn := nm_cmpI
  have hd : cmpLs cmpL l l' = thn (cmpN l.length l'.length) (cmpF cmpL l l') := rfl
  by_cases h : l.length = l'.length
  · have hz : cmpN (l.length : Int) (l'.length : Int) = 0 := (cmpN_ord.eq _ _).2 (by rw [h])
    have hd2 : cmpLs cmpL l l' = cmpF cmpL l l' := by rw [hd, hz]; rfl
    rw [hd2]
    replace hcf := hcf h
    clear hd hd2
    generalize cmpF cmpL l l' = R at hcf ⊢
    rw [h] at hz ⊢
    clear h h1 h2
    have hn0 := fun w => nm_cmpI (l'.length : Int) (l'.length : Int) w
    rw [hz] at hn0
    clear hz hn
    go_enter Tryd.func55, Tryd.ntmps55
    go_wp2_with (first
      | (go_at_call 72; refine hcf.mono ?_; rintro e w2 ⟨rfl, hg⟩; replace hg := Lib.hid hg)
      | (go_at_call 71; refine (hn0 _).mono ?_; rintro e w1 ⟨rfl, rfl⟩))
    go_ret
    exact ⟨rfl, hg.out⟩
  · have hz : cmpN (l.length : Int) (l'.length : Int) ≠ 0 := fun e => h (by have := (cmpN_ord.eq _ _).1 e; omega)
    have hd2 : cmpLs cmpL l l' = cmpN l.length l'.length := by rw [hd]; exact if_neg hz
    rw [hd2]
    clear hd hd2 hcf h h1 h2
    have hn0 := fun w => nm_cmpI (l.length : Int) (l'.length : Int) w
    generalize cmpN (l.length : Int) (l'.length : Int) = z at hz hn0 ⊢
    have hz2 : (z != 0) = true := by simp [hz]
    clear hz hn
    go_enter Tryd.func55, Tryd.ntmps55
    go_wp2_with (go_at_call 71; refine (hn0 _).mono ?_; rintro e w1 ⟨rfl, rfl⟩)
    go_ret
    exact ⟨rfl, Grw.refl _⟩
theorem two_rls {w w1 : World} {a b c x y z : Value} {t u : TypeId} (hb : Below ((w.alloc (.cells #[a, b, c] t)).alloc (.cells #[x, y, z] u)).heap.size ((w.alloc (.cells #[a, b, c] t)).alloc (.cells #[x, y, z] u)) w1) :
    w1.cell? ⟨w.heap.size, 0, none⟩ = some a ∧ w1.cell? ⟨w.heap.size, 1, none⟩ = some b ∧ w1.cell? ⟨w.heap.size, 2, none⟩ = some c ∧ w1.cell? ⟨w.heap.size + 1, 0, none⟩ = some x ∧ w1.cell? ⟨w.heap.size + 1, 1, none⟩ = some y ∧ w1.cell? ⟨w.heap.size + 1, 2, none⟩ = some z := by
  obtain ⟨⟨h0, h1, h2⟩, h3, -⟩ := two_rules hb
  exact ⟨h0, h1, h2, by simp [World.cell?, h3], by simp [World.cell?, h3], by simp [World.cell?, h3]⟩
set_option maxHeartbeats 2000000 in
set_option maxRecDepth 100000 in
theorem nm_CompareRules (x y : Rul) (a a' ba ba' : Option Addr) (c c' d d' : Nat) (w : World) (h1 : Terms w a x.a) (h2 : Terms w a' y.a) (h3 : Lits w ba x.b) (h4 : Lits w ba' y.b) :
    Calls Tryd.prog 23 #[.agg #[.string x.h, .slice a x.a.length c, .slice ba x.b.length d], .agg #[.string y.h, .slice a' y.a.length c', .slice ba' y.b.length d']] w fun e w' => e = .returned (.int .i64 (cmpR x y)) ∧ Grw w w' := by
  have hd : cmpR x y = thn (cmpA (x.h, x.a) (y.h, y.a)) (cmpLs cmpL x.b y.b) := rfl
  rw [hd]
  clear hd
  obtain ⟨p, l, b⟩ := x
  obtain ⟨p', l', b'⟩ := y
  dsimp only at h1 h2 h3 h4 ⊢
  have hls := fun w h1 h2 => nm_lsL ba ba' b b' d d' w h1 h2
  have hcs := fun w h1 h2 => nm_atoms p p' a a' l l' c c' w h1 h2
  have r1 := three_wrap cmpA_ord (p, l) (p', l')
  have r2 := three_wrap (cmpLs_ord cmpL_ord) b b'
  generalize cmpA (p, l) (p', l') = x at hcs r1 ⊢
  generalize cmpLs cmpL b b' = y at hls r2 ⊢
  have hor : ∀ (W : Nat) (w : World), Ints .i64 w (some ⟨W, 0, none⟩) [x, y] → Calls Tryd.prog 53 #[.slice (some ⟨W, 0, none⟩) 2 2] w fun e w' => e = .returned (.int .i64 (thn x y)) ∧ w = w' := fun W w h => by
    have := nm_Or (some ⟨W, 0, none⟩) [x, y] 2 w h
    rwa [orr2] at this
  obtain ⟨W0, hW0⟩ : ∃ W0, W0 = (w.alloc (.cells #[.string p, .slice a l.length c, .slice ba b.length d] 27)).alloc (.cells #[.string p', .slice a' l'.length c', .slice ba' b'.length d'] 27) := ⟨_, rfl⟩
  have hkp : Hid (∀ w', Below W0.heap.size W0 w' → w'.cell? ⟨w.heap.size, 0, none⟩ = some (.string p) ∧ w'.cell? ⟨w.heap.size, 1, none⟩ = some (.slice a l.length c) ∧ w'.cell? ⟨w.heap.size, 2, none⟩ = some (.slice ba b.length d) ∧ w'.cell? ⟨w.heap.size + 1, 0, none⟩ = some (.string p') ∧ w'.cell? ⟨w.heap.size + 1, 1, none⟩ = some (.slice a' l'.length c') ∧ w'.cell? ⟨w.heap.size + 1, 2, none⟩ = some (.slice ba' b'.length d')) := Lib.hid (by
    subst hW0; intro w' hb; exact two_rls hb)
  have hG0 : Hid (Grw w W0) := Lib.hid (by subst hW0; exact grw_box2 _ _ _)
  obtain ⟨q1, q2, q3, q4, q5, q6⟩ := hkp.out W0 (Below.refl _ _)
  have hT1 := Lib.hid (h1.below hG0.out.below)
  have hT2 := Lib.hid (h2.below hG0.out.below)
  have hT3 := Lib.hid (h3.below hG0.out.below)
  have hT4 := Lib.hid (h4.below hG0.out.below)
  have hio := Lib.hid (fun (W : World) (n : Nat) (h : W.heap.size = n) => ints_litB .i64 W 3 [x, y] #[.int .i64 x, .int .i64 y] n h rfl (by simp) (by
    intro i hi
    match i, hi with
    | 0, _ => exact r1
    | 1, _ => exact r2))
  clear h1 h2 h3 h4
  go_enter Tryd.func23, Tryd.ntmps23
  go_wp2_with fail
  rw [← hW0]
  clear hW0
  go_region_held3 (fun w' => w'.cell? ⟨w.heap.size, 0, none⟩ = some (.string p) ∧ w'.cell? ⟨w.heap.size, 1, none⟩ = some (.slice a l.length c) ∧ w'.cell? ⟨w.heap.size, 2, none⟩ = some (.slice ba b.length d) ∧ w'.cell? ⟨w.heap.size + 1, 0, none⟩ = some (.string p') ∧ w'.cell? ⟨w.heap.size + 1, 1, none⟩ = some (.slice a' l'.length c') ∧ w'.cell? ⟨w.heap.size + 1, 2, none⟩ = some (.slice ba' b'.length d'))
    (first
      | exact hkp.out _ (Below.refl _ _).drew
      | exact hkp.out _ (hg2.out.al _).below
      | exact hkp.out _ hg2.out.below
      | exact hkp.out _ hg1.out.below)
    (first
      | (go_at_call 53; refine (hor _ _ (hio.out _ _ rfl)).mono ?_; rintro e w3 ⟨rfl, rfl⟩)
      | (go_at_call 55; refine (hls _ (hT3.out.below hg1.out.below) (hT4.out.below hg1.out.below)).mono ?_; rintro e w2 ⟨rfl, hg20⟩; have hg2 := Lib.hid (hg1.out.trans hg20); clear hg20)
      | (go_at_call 54; refine (hcs _ (hT1.out.below (Below.refl _ _).drew) (hT2.out.below (Below.refl _ _).drew)).mono ?_; rintro e w1 ⟨rfl, hg10⟩; have hg1 := Lib.hid ((Grw.refl W0).drew.trans hg10); clear hg10))
  go_wp2_with fail
  go_ret
  exact ⟨rfl, (hG0.out.trans hg2.out).al _⟩
end Go.Proofs.YtoklbofobcloaaaDoor
