/- Normal: lists of terms compared; atoms. -/
import Derived.Test.YtoklbofobcloaaaDoorNmE
import Derived.Deep.RegionHeld3
namespace Go.Proofs.YtoklbofobcloaaaDoor
open Go.RowKit Go.Sort
theorem cmpF_step {α : Type} {f : α → α → Int} {l m : List α} {k : Nat} {x y : α} (h1 : l[k]? = some x) (h2 : m[k]? = some y) : cmpF f (l.drop k) (m.drop k) = thn (f x y) (cmpF f (l.drop (k + 1)) (m.drop (k + 1))) := by
  obtain ⟨a1, b1⟩ := List.getElem?_eq_some_iff.1 h1
  obtain ⟨a2, b2⟩ := List.getElem?_eq_some_iff.1 h2
  rw [List.drop_eq_getElem_cons a1, List.drop_eq_getElem_cons a2, b1, b2]
  rfl
theorem cmpF_end {α : Type} {f : α → α → Int} {l m : List α} {k : Nat} (h1 : l.length ≤ k) (h2 : m.length ≤ k) : cmpF f (l.drop k) (m.drop k) = 0 := by
  rw [List.drop_of_length_le h1, List.drop_of_length_le h2]; rfl
set_option maxHeartbeats 2000000 in
set_option maxRecDepth 100000 in
theorem nm_cfT (a a' : Option Addr) (l l' : List Tm) (c c' N : Nat) (w : World) (h1 : Terms w a l) (h2 : Terms w a' l') (hN : l.length = N) (hN2 : l'.length = N) :
    Calls Tryd.prog 88 #[.slice a N c, .slice a' N c', .func (.func 42) #[] #[]] w fun e w' => e = .returned (.int .i64 (cmpF cmpT l l')) ∧ Grw w w' := by
  have hlen : N ≤ 1048576 := hN ▸ h1.len
  obtain ⟨R, hR⟩ : ∃ R, Hid (cmpF cmpT l l' = R) := ⟨_, Lib.hid rfl⟩
  rw [hR.out]
  replace h1 := Lib.hid h1
  replace h2 := Lib.hid h2
  replace hN := Lib.hid hN
  replace hN2 := Lib.hid hN2
  go_enter Tryd.func88, Tryd.ntmps88
  go_wp2
  go_loopw [13, 7, 8, 9, 10] (fun i _ _ _ _ wr => ∃ k : Nat, k ≤ N ∧ i = .int .i64 k ∧ Hid (Grw w wr) ∧ Hid (R = cmpF cmpT (l.drop k) (l'.drop k))) (fun i _ _ _ _ _ => N - (intOf i).toNat)
  case atStart => exact ⟨0, Nat.zero_le _, rfl, Lib.hid (Grw.refl _), Lib.hid hR.out.symm⟩
  case round =>
    obtain ⟨k, hk, rfl, hg, hr⟩ := hrel
    by_cases hlt : k < N
    · obtain ⟨x, e1⟩ : ∃ x, l[k]? = some x := ⟨_, List.getElem?_eq_getElem (by rw [hN.out]; exact hlt)⟩
      obtain ⟨y, e2⟩ : ∃ y, l'[k]? = some y := ⟨_, List.getElem?_eq_getElem (by rw [hN2.out]; exact hlt)⟩
      obtain ⟨p, rfl, hc1, hc2⟩ := (h1.out.below hg.out.below).cells k _ e1
      obtain ⟨q, rfl, hd1, hd2⟩ := (h2.out.below hg.out.below).cells k _ e2
      have hstep := cmpF_step (f := cmpT) e1 e2
      have hcall := nm_terms x y
      obtain ⟨xv, xs⟩ := x
      obtain ⟨yv, ys⟩ := y
      dsimp only at hc1 hc2 hd1 hd2 hcall
      generalize cmpT (xv, xs) (yv, ys) = z at hstep hcall
      have hq0 : (0 : Int) ≤ (k : Int) := Int.natCast_nonneg _
      have hq1 : (k : Int) < (N : Int) := by omega
      have hd3 : (wr.alloc (.cells #[.bool xv, .string xs] 33)).cell? (q.add (k * 2)) = some (.bool yv) := cell_below ((Below.refl _ _).al _) rfl hd1
      have hd4 : (wr.alloc (.cells #[.bool xv, .string xs] 33)).cell? ⟨(q.add (k * 2)).block, (q.add (k * 2)).off + 1, none⟩ = some (.string ys) := cell_below ((Below.refl _ _).al _) rfl hd2
      clear e1 e2 hd1 hd2
      by_cases hz : z = 0
      · subst hz
        have hr2 : Hid (R = cmpF cmpT (l.drop (k + 1)) (l'.drop (k + 1))) := Lib.hid (by rw [hr.out, hstep]; rfl)
        clear hstep
        go_wp2_with (go_at_call 42; refine (hcall _).mono ?_; rintro e w1 ⟨rfl, hw1⟩; replace hw1 := Lib.hid (((hg.out.al _).al _).trans hw1))
        go_roundw
        case rel => exact ⟨k + 1, by omega, by go_num, hw1, hr2⟩
        case measure => simp [intOf]; omega
      · have hr2 : Hid (R = z) := Lib.hid (by rw [hr.out, hstep]; exact if_neg hz)
        have hz2 : (z != 0) = true := by simp [hz]
        clear hstep hz
        go_wp2_with (go_at_call 42; refine (hcall _).mono ?_; rintro e w1 ⟨rfl, hw1⟩; replace hw1 := Lib.hid (((hg.out.al _).al _).trans hw1))
        go_ret
        exact ⟨by rw [hr2.out]; rfl, hw1.out⟩
    · have hr2 : Hid (R = 0) := Lib.hid (by rw [hr.out]; exact cmpF_end (by rw [hN.out]; omega) (by rw [hN2.out]; omega))
      have hke : k = N := by omega
      subst hke
      go_wp2
      go_ret
      exact ⟨by rw [hr2.out]; rfl, hg.out⟩
set_option maxHeartbeats 1000000 in
set_option maxRecDepth 100000 in
theorem nm_lsT (a a' : Option Addr) (l l' : List Tm) (c c' : Nat) (w : World) (h1 : Terms w a l) (h2 : Terms w a' l') :
    Calls Tryd.prog 70 #[.slice a l.length c, .slice a' l'.length c', .func (.func 42) #[] #[]] w fun e w' => e = .returned (.int .i64 (cmpLs cmpT l l')) ∧ Grw w w' := by
  have hcf := fun (e : l.length = l'.length) => nm_cfT a a' l l' c c' l'.length w h1 h2 e rfl
  have hn := nm_cmpI
  have hd : cmpLs cmpT l l' = thn (cmpN l.length l'.length) (cmpF cmpT l l') := rfl
  by_cases h : l.length = l'.length
  · have hz : cmpN (l.length : Int) (l'.length : Int) = 0 := (cmpN_ord.eq _ _).2 (by rw [h])
    have hd2 : cmpLs cmpT l l' = cmpF cmpT l l' := by rw [hd, hz]; rfl
    rw [hd2]
    replace hcf := hcf h
    clear hd hd2
    generalize cmpF cmpT l l' = R at hcf ⊢
    rw [h] at hz ⊢
    clear h h1 h2
    have hn0 := fun w => nm_cmpI (l'.length : Int) (l'.length : Int) w
    rw [hz] at hn0
    clear hz hn
    go_enter Tryd.func70, Tryd.ntmps70
    go_wp2_with (first
      | (go_at_call 88; refine hcf.mono ?_; rintro e w2 ⟨rfl, hg⟩; replace hg := Lib.hid hg)
      | (go_at_call 71; refine (hn0 _).mono ?_; rintro e w1 ⟨rfl, rfl⟩))
    go_ret
    exact ⟨rfl, hg.out⟩
  · have hz : cmpN (l.length : Int) (l'.length : Int) ≠ 0 := fun e => h (by have := (cmpN_ord.eq _ _).1 e; omega)
    have hd2 : cmpLs cmpT l l' = cmpN l.length l'.length := by rw [hd]; exact if_neg hz
    rw [hd2]
    clear hd hd2 hcf h h1 h2
    have hn0 := fun w => nm_cmpI (l.length : Int) (l'.length : Int) w
    generalize cmpN (l.length : Int) (l'.length : Int) = z at hz hn0 ⊢
    have hz2 : (z != 0) = true := by simp [hz]
    clear hz hn
    go_enter Tryd.func70, Tryd.ntmps70
    go_wp2_with (go_at_call 71; refine (hn0 _).mono ?_; rintro e w1 ⟨rfl, rfl⟩)
    go_ret
    exact ⟨rfl, Grw.refl _⟩
theorem two_atoms {w w1 : World} {a b x y : Value} {t u : TypeId} (hb : Below ((w.alloc (.cells #[a, b] t)).alloc (.cells #[x, y] u)).heap.size ((w.alloc (.cells #[a, b] t)).alloc (.cells #[x, y] u)) w1) :
    (w1.cell? ⟨w.heap.size, 0, none⟩ = some a ∧ w1.cell? ⟨w.heap.size, 1, none⟩ = some b) ∧ w1.cell? ⟨w.heap.size + 1, 0, none⟩ = some x ∧ w1.cell? ⟨w.heap.size + 1, 1, none⟩ = some y := by
  obtain ⟨h, h2, -⟩ := two_blocks hb
  exact ⟨h, by simp [World.cell?, h2], by simp [World.cell?, h2]⟩
theorem orr2 (a b : Int) : orr [a, b] = thn a b := by simp [orr, thn]; split <;> simp_all
set_option maxHeartbeats 1000000 in
set_option maxRecDepth 100000 in
theorem nm_atoms (p p' : ByteArray) (a a' : Option Addr) (l l' : List Tm) (c c' : Nat) (w : World) (h1 : Terms w a l) (h2 : Terms w a' l') :
    Calls Tryd.prog 54 #[.agg #[.string p, .slice a l.length c], .agg #[.string p', .slice a' l'.length c']] w fun e w' => e = .returned (.int .i64 (cmpA (p, l) (p', l'))) ∧ Grw w w' := by
  have hls := fun w h1 h2 => nm_lsT a a' l l' c c' w h1 h2
  have hcs := nm_cmpS p p'
  have hor : ∀ (x y : Int) (W : Nat) (w : World), Ints .i64 w (some ⟨W, 0, none⟩) [x, y] → Calls Tryd.prog 53 #[.slice (some ⟨W, 0, none⟩) 2 2] w fun e w' => e = .returned (.int .i64 (thn x y)) ∧ w = w' := fun x y W w h => by
    have := nm_Or (some ⟨W, 0, none⟩) [x, y] 2 w h
    rwa [orr2] at this
  have hd : cmpA (p, l) (p', l') = thn (cmpS p p') (cmpLs cmpT l l') := rfl
  rw [hd]
  have r1 : IntKind.i64.wrap (cmpS p p') = cmpS p p' := by rcases cmpS_ord.three p p' with h | h | h <;> rw [h] <;> decide
  have r2 : IntKind.i64.wrap (cmpLs cmpT l l') = cmpLs cmpT l l' := by rcases (cmpLs_ord cmpT_ord).three l l' with h | h | h <;> rw [h] <;> decide
  generalize cmpS p p' = x at hcs r1 ⊢
  generalize cmpLs cmpT l l' = y at hls r2 ⊢
  obtain ⟨W0, hW0⟩ : ∃ W0, W0 = (w.alloc (.cells #[.string p, .slice a l.length c] 24)).alloc (.cells #[.string p', .slice a' l'.length c'] 24) := ⟨_, rfl⟩
  have hkp : Hid (∀ w', Below W0.heap.size W0 w' → w'.cell? ⟨w.heap.size, 0, none⟩ = some (.string p) ∧ w'.cell? ⟨w.heap.size, 1, none⟩ = some (.slice a l.length c) ∧ w'.cell? ⟨w.heap.size + 1, 0, none⟩ = some (.string p') ∧ w'.cell? ⟨w.heap.size + 1, 1, none⟩ = some (.slice a' l'.length c')) := Lib.hid (by
    subst hW0; intro w' hb; obtain ⟨⟨q1, q2⟩, q3, q4⟩ := two_atoms hb; exact ⟨q1, q2, q3, q4⟩)
  have hG0 : Hid (Grw w W0) := Lib.hid (by subst hW0; exact grw_box2 _ _ _)
  obtain ⟨q1, q2, q3, q4⟩ := hkp.out W0 (Below.refl _ _)
  have hT1 := Lib.hid (h1.below hG0.out.below)
  have hT2 := Lib.hid (h2.below hG0.out.below)
  have hio := Lib.hid (fun (W : World) (n : Nat) (h : W.heap.size = n) => ints_litB .i64 W 3 [x, y] #[.int .i64 x, .int .i64 y] n h rfl (by simp) (by
    intro i hi
    match i, hi with
    | 0, _ => exact r1
    | 1, _ => exact r2))
  clear h1 h2 hd
  go_enter Tryd.func54, Tryd.ntmps54
  go_wp2_with fail
  rw [← hW0]
  clear hW0
  go_region_held3 (fun w' => w'.cell? ⟨w.heap.size, 0, none⟩ = some (.string p) ∧ w'.cell? ⟨w.heap.size, 1, none⟩ = some (.slice a l.length c) ∧ w'.cell? ⟨w.heap.size + 1, 0, none⟩ = some (.string p') ∧ w'.cell? ⟨w.heap.size + 1, 1, none⟩ = some (.slice a' l'.length c'))
    (first
      | exact hkp.out _ (Below.refl _ _).drew
      | exact hkp.out _ (hg2.out.al _).below
      | exact hkp.out _ hg2.out.below)
    (first
      | (go_at_call 53; refine (hor x y _ _ (hio.out _ _ rfl)).mono ?_; rintro e w3 ⟨rfl, rfl⟩)
      | (go_at_call 70; refine (hls _ (hT1.out.below (Below.refl _ _).drew) (hT2.out.below (Below.refl _ _).drew)).mono ?_; rintro e w2 ⟨rfl, hg20⟩; have hg2 := Lib.hid ((Grw.refl W0).drew.trans hg20); clear hg20)
      | (go_at_call 64; refine (hcs _).mono ?_; rintro e w1 ⟨rfl, rfl⟩))
  go_wp2_with fail
  go_ret
  exact ⟨rfl, (hG0.out.trans hg2.out).al _⟩
end Go.Proofs.YtoklbofobcloaaaDoor
