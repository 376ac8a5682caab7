/- Index: one step of a script, by its kinds. -/
import Derived.Test.YtjeeljolhcoeoaaMxN
import Derived.Deep.CutRange
import Derived.Deep.RegionHeld3
import Derived.BigQuiet
namespace Go.Proofs.Ytjeeljolhcoeoaa
open Go.RowKit Go.Shelf
theorem ix_round2 (k : Int) (w : World) : Calls Try.prog 53 #[.int .i64 k, .int .i64 2] w fun e w' => e = .returned (.int .i64 (k % 2)) ∧ w = w' := by
  go_enter Try.func53, Try.ntmps53
  go_wp2_with (go_at_call 63; refine (rRound _ _ _ (by decide) (by decide)).mono ?_; rintro e w' ⟨rfl, rfl⟩)
  go_ret
  exact ⟨rfl, rfl⟩
theorem ix_allB (T : Nat) (w : World) : Calls Try.prog 28 #[.pointer (some ⟨T, 0, none⟩)] w fun e w' => ∃ b, e = .returned (.func (.func 52) #[] #[.pointer (some ⟨b, 0, none⟩)]) ∧ Boxed w' b 43 (.pointer (some ⟨T, 0, none⟩)) ∧ Below w.heap.size w w' := by
  refine (ix_all _ w).mono ?_
  rintro e w' ⟨rfl, rfl⟩
  exact ⟨w.heap.size, rfl, Boxed.new _ _ _, (Below.refl _ w).al _⟩
theorem ix_layoutB (T : Nat) (w : World) : Calls Try.prog 24 #[.pointer (some ⟨T, 0, none⟩)] w fun e w' => ∃ b, e = .returned (.func (.func 51) #[] #[.pointer (some ⟨b, 0, none⟩)]) ∧ Boxed w' b 43 (.pointer (some ⟨T, 0, none⟩)) ∧ Below w.heap.size w w' := by
  refine (ix_layout _ w).mono ?_
  rintro e w' ⟨rfl, rfl⟩
  exact ⟨w.heap.size, rfl, Boxed.new _ _ _, (Below.refl _ w).al _⟩
/-- the cells of a world of two tables -/
def wcs (T0 T1 R0 R1 : Nat) (old ref : Value) : Array Value := #[.pointer (some ⟨T0, 0, none⟩), .pointer (some ⟨T1, 0, none⟩), .pointer (some ⟨R0, 0, none⟩), .pointer (some ⟨R1, 0, none⟩), old, ref]
/-- the step in its box -/
structure SB (w : World) (b : Nat) (K key value leave : Int) : Prop where
  c0 : w.cell? ⟨b, 0, none⟩ = some (.int .i64 K)
  c2 : w.cell? ⟨b, 2, none⟩ = some (.int .i64 key)
  c3 : w.cell? ⟨b, 3, none⟩ = some (.int .i64 value)
  c4 : w.cell? ⟨b, 4, none⟩ = some (.int .i64 leave)
  ty : isTy w b 72
theorem SB.kept {w w' : World} {b : Nat} {K key value leave : Int} {R : Nat → Prop} (h : SB w b K key value leave) (hk : KeptR R w w') (hn : ¬ R b) : SB w' b K key value leave := ⟨hk.cell h.c0 hn, hk.cell h.c2 hn, hk.cell h.c3 hn, hk.cell h.c4 hn, h.ty.kept hk hn⟩
theorem SB.below {w w' : World} {b : Nat} {K key value leave : Int} (h : SB w b K key value leave) (hb : Below w.heap.size w w') : SB w' b K key value leave := h.kept (R := fun _ => False) (below_kept hb) id
theorem SB.tab {w w' : World} {b : Nat} {K key value leave way : Int} {n : Nat} {x : JTab} (h : SB w b K key value leave) (hj : JT w way n x) (hk : KeptR (fun b => tabB x.T x.P x.es b ∨ w.heap.size ≤ b) w w') : SB w' b K key value leave :=
  h.kept hk (by
    rintro (e | e)
    · exact hj.box h.ty (by decide) (by decide) (by decide) (by decide) (by decide) (.inl e)
    · have := h.ty.lt; omega)
set_option maxHeartbeats 8000000 in
set_option maxRecDepth 100000 in
theorem st_small {w : World} {way : Int} {n : Nat} {x : JTab} (h : JT w way n x) (hn : n ≤ 2000000) {B T0 T1 R0 R1 : Nat} {old ref : Value} (hB : w.heap[B]? = some (.cells (wcs T0 T1 R0 R1 old ref) 68))
    (K On key value leave : Int) (hK : K ≠ 8) (hx : On % 2 = 0 ∧ x.T = T0 ∧ x.Rt = R0 ∨ On % 2 = 1 ∧ x.T = T1 ∧ x.Rt = R1) :
    Calls Try.prog 30 #[.pointer (some ⟨B, 0, none⟩), .agg #[.int .i64 K, .int .i64 On, .int .i64 key, .int .i64 value, .int .i64 leave]] w fun e w' => e = .returned (.bool true) ∧ ∃ y, JPost w w' way n x y := by
  have p0 : w.cell? ⟨B, 0, none⟩ = some (.pointer (some ⟨T0, 0, none⟩)) := cell_of_row _ _ _ _ _ _ hB
  have p1 : w.cell? ⟨B, 1, none⟩ = some (.pointer (some ⟨T1, 0, none⟩)) := cell_of_row _ _ _ _ _ _ hB
  have p2 : w.cell? ⟨B, 2, none⟩ = some (.pointer (some ⟨R0, 0, none⟩)) := cell_of_row _ _ _ _ _ _ hB
  have p3 : w.cell? ⟨B, 3, none⟩ = some (.pointer (some ⟨R1, 0, none⟩)) := cell_of_row _ _ _ _ _ _ hB
  have hw1 := (Below.refl w.heap.size w).al (.cells #[.int .i64 K, .int .i64 On, .int .i64 key, .int .i64 value, .int .i64 leave] 72)
  replace p0 := cell_below hw1 rfl p0
  replace p1 := cell_below hw1 rfl p1
  replace p2 := cell_below hw1 rfl p2
  replace p3 := cell_below hw1 rfl p3
  have hs1 : SB (w.alloc (.cells #[.int .i64 K, .int .i64 On, .int .i64 key, .int .i64 value, .int .i64 leave] 72)) w.heap.size K key value leave := by
    have e := heap_alloc_new w (.cells #[.int .i64 K, .int .i64 On, .int .i64 key, .int .i64 value, .int .i64 leave] 72)
    exact ⟨cell_of_row _ _ _ _ _ _ e, cell_of_row _ _ _ _ _ _ e, cell_of_row _ _ _ _ _ _ e, cell_of_row _ _ _ _ _ _ e, ⟨_, _, e⟩⟩
  obtain ⟨k, hk⟩ : ∃ k, On % 2 = k := ⟨_, rfl⟩
  rw [hk] at hx
  replace h := Lib.hid h
  replace hw1 := Lib.hid hw1
  replace hs1 := Lib.hid hs1
  go_enter Try.func30, Try.ntmps30
  go_upto_region 2 with (go_at_call 53; refine (ix_round2 _ _).mono ?_; rintro e w' ⟨rfl, rfl⟩; rw [hk]; replace hk := Lib.hid trivial)
  generalize w.alloc (.cells #[.int .i64 K, .int .i64 On, .int .i64 key, .int .i64 value, .int .i64 leave] 72) = W1 at p0 p1 p2 p3 hw1 hs1 ⊢
  obtain ⟨b3, hb3⟩ : ∃ b, w.heap.size = b := ⟨_, rfl⟩
  rw [hb3] at hw1 hs1 ⊢
  replace hb3 := Lib.hid hb3
  go_cut [6, 7] from 30 to 41 (fun v6 v7 wx => v6 = .pointer (some ⟨x.T, 0, none⟩) ∧ v7 = .pointer (some ⟨x.Rt, 0, none⟩) ∧ Hid (Below b3 w wx) ∧ Hid (SB wx b3 K key value leave))
  case first =>
    have hfinA : Hid (∀ m, Hid (Below b3 w (W1.drewN m)) ∧ Hid (SB (W1.drewN m) b3 K key value leave)) := Lib.hid fun m => ⟨Lib.hid (below_drewN hw1.out m), Lib.hid ⟨hs1.out.c0, hs1.out.c2, hs1.out.c3, hs1.out.c4, hs1.out.ty⟩⟩
    rcases hx with ⟨ho, rfl, rfl⟩ | ⟨ho, rfl, rfl⟩
    · subst ho
      go_wp2_with fail
      go_quiet (fail)
      go_wp2_with fail
      go_meet
      exact ⟨rfl, rfl, hfinA.out _⟩
    · subst ho
      go_wp2_with fail
      go_quiet (fail)
      go_wp2_with fail
      go_meet
      exact ⟨rfl, rfl, hfinA.out _⟩
  case rest =>
  obtain ⟨rfl, rfl, hbw, hs⟩ := hcut
  replace hbw := Lib.hid (show Below w.heap.size w wc by rw [hb3.out]; exact hbw.out)
  have c0 := hs.out.c0
  have c2 := hs.out.c2
  have c3 := hs.out.c3
  have c4 := hs.out.c4
  have hJ := Lib.hid (h.out.below hbw.out)
  have hJ0 := h
  clear h hB hs1 hw1 p0 p1 p2 p3 hx
  have hfin : Hid (∀ w', (∃ y, JPost wc w' way n x y) → ∃ y, JPost w w' way n x y) := Lib.hid fun w' hy => let ⟨y, h⟩ := hy; ⟨y, jp_front hJ0.out hbw.out h⟩
  have hsame : Hid (∀ w', Below wc.heap.size wc w' → ∃ y, JPost w w' way n x y) := Lib.hid fun w' hb => hfin.out w' ⟨x, jp_below hJ.out hb⟩
  have bb := Lib.hid (show ∀ W, Below wc.heap.size wc W → SB W b3 K key value leave from fun W hb => hs.out.below hb)
  have hn2 : n ≤ 2200000 := by omega
  have hle : ∀ W, Below wc.heap.size wc W → JT W way n x := fun W hb => hJ.out.below hb
  replace hle := Lib.hid hle
  clear hJ0 hbw
  by_cases k1 : K = 1
  · subst k1
    have hp := Lib.hid (jt_put hJ.out hn2 key value)
    clear hK hn hn2 hle hsame bb
    go_wp2_with (go_at_call 20; refine hp.out.mono ?_; rintro e w1 ⟨V, Bo, rfl, hk, hr⟩; have hs2 := hs.out.tab hJ.out hk; have d2 := hs2.c2; have d3 := hs2.c3; clear hs2 hk hp hJ hs)
    refine hr.out.mono ?_
    rintro e w2 ⟨rfl, hy⟩
    have hf := Lib.hid (hfin.out _ hy)
    have hVV : (V == V) = true := beq_self_eq_true V
    have hBB : (Bo == Bo) = true := beq_self_eq_true Bo
    clear hfin hy hr d2 d3
    go_wp2_with fail
    go_ret
    exact ⟨rfl, hf.out⟩
  by_cases k2 : K = 2
  · subst k2
    obtain ⟨V, Bo, hp⟩ := jt_get hJ.out key
    replace hp := Lib.hid hp
    have hVV : (V == V) = true := beq_self_eq_true V
    have hBB : (Bo == Bo) = true := beq_self_eq_true Bo
    clear hK k1 hfin hn hn2 hs
    go_wp2_with (go_at_call 27; refine (hp.out _ hJ.out).1.mono ?_; rintro e w1 ⟨rfl, hd⟩; have hb1 := Lib.hid (hd.below wc.heap.size); have d2 := (bb.out _ hb1.out).c2; clear hd hJ)
    refine (hp.out _ (hle.out _ hb1.out)).2.mono ?_
    rintro e w2 ⟨rfl, hd⟩
    have hf := Lib.hid (hsame.out _ (hb1.out.trans ((hd.below _).mono hb1.out.size)))
    clear hb1 hp hsame bb hle d2 hd
    go_wp2_with fail
    go_ret
    exact ⟨rfl, hf.out⟩
  by_cases k3 : K = 3
  · subst k3
    have hp := Lib.hid (jt_take hJ.out hn2 key)
    clear hK k1 k2 hn hn2 hle hsame bb
    go_wp2_with (go_at_call 21; refine hp.out.mono ?_; rintro e w1 ⟨V, Bo, rfl, hk, hr⟩; have hs2 := hs.out.tab hJ.out hk; have d2 := hs2.c2; have d3 := hs2.c3; clear hs2 hk hp hJ hs)
    refine hr.out.mono ?_
    rintro e w2 ⟨rfl, hy⟩
    have hf := Lib.hid (hfin.out _ hy)
    have hVV : (V == V) = true := beq_self_eq_true V
    have hBB : (Bo == Bo) = true := beq_self_eq_true Bo
    clear hfin hy hr d2 d3
    go_wp2_with fail
    go_ret
    exact ⟨rfl, hf.out⟩
  by_cases k4 : K = 4
  · subst k4
    obtain ⟨a, c, hv, -⟩ := own_sliceI hJ.out.rf.row
    have r1 := hJ.out.rf.c1
    have r2 := hJ.out.rf.c2
    rw [hv, allL_length] at r1
    have hL : Hid (∀ n, Calls Try.prog 23 #[.pointer (some ⟨x.T, 0, none⟩)] (wc.drewN n) fun e w' => e = .returned (.int .i64 x.es.length) ∧ ∃ m, w' = wc.drewN m) := Lib.hid fun n => (ix_len (hJ.out.ts.tab.below (below_drewN (Below.refl _ _) n))).mono fun e w' h => ⟨h.1, n, h.2.symm⟩
    have hS : Hid (∀ n, Calls Try.prog 22 #[.pointer (some ⟨x.T, 0, none⟩)] (wc.drewN n) fun e w' => e = .returned (.int .i64 x.sz) ∧ ∃ m, w' = wc.drewN m) := Lib.hid fun n => (ix_size (hJ.out.ts.tab.below (below_drewN (Below.refl _ _) n))).mono fun e w' h => ⟨h.1, n, h.2.symm⟩
    have e1 : ((x.es.length : Int) == (x.es.length : Int)) = true := beq_self_eq_true _
    have e2 : ((x.sz : Int) == (x.sz : Int)) = true := beq_self_eq_true _
    have hf := Lib.hid fun m => hsame.out _ (below_drewN (Below.refl _ wc) m)
    clear hv hK k1 k2 k3 hfin hn hn2 hs hsame bb hle hJ
    go_wp2_with fail
    go_quiet ((first
      | (go_at_call 23; with_reducible exact hL.out _)
      | (go_at_call 22; with_reducible exact hS.out _)))
    go_wp2_with fail
    go_ret
    exact ⟨rfl, hf.out _⟩
  by_cases k5 : K = 5
  · subst k5
    obtain ⟨V, Bo, hp⟩ := jt_place hJ.out hn2 key
    obtain ⟨U, hq⟩ := jt_probes hJ.out hn2 key
    replace hp := Lib.hid hp
    have hVV : (V == V) = true := beq_self_eq_true V
    have hUU : (U == U) = true := beq_self_eq_true U
    have hBB : (Bo == Bo) = true := beq_self_eq_true Bo
    clear hK k1 k2 k3 k4 hfin hn hn2 hs
    go_wp2_with (go_at_call 25; refine (hp.out _ hJ.out).1.mono ?_; rintro e w1 ⟨rfl, hd⟩; have hb1 := Lib.hid hd; have d2 := (bb.out _ hb1.out).c2; clear hd hJ)
    refine (hp.out _ (hle.out _ hb1.out)).2.mono ?_
    rintro e w2 ⟨rfl, hd⟩
    have hb2 := hb1.out.trans (hd.mono hb1.out.size)
    have hc2 : Hid (∀ v, Below wc.heap.size wc v → v.cell? ⟨b3, 2, none⟩ = some (.int .i64 key)) := Lib.hid fun v h => (bb.out v h).c2
    have q1 : Hid (∀ v, Below wc.heap.size wc v → Calls Try.prog 26 #[.pointer (some ⟨x.T, 0, none⟩), .int .i64 key] v fun e w' => e = .returned (.int .i64 U) ∧ Below wc.heap.size wc w') := Lib.hid fun v hv => (hq v (hle.out v hv)).1.mono fun e w' h => ⟨h.1, hv.trans (h.2.mono hv.size)⟩
    have q2 : Hid (∀ v, Below wc.heap.size wc v → Calls Try.prog 57 #[.pointer (some ⟨x.Rt, 0, none⟩), .int .i64 key] v fun e w' => e = .returned (.int .i64 U) ∧ Below wc.heap.size wc w') := Lib.hid fun v hv => (hq v (hle.out v hv)).2.mono fun e w' h => ⟨h.1, hv.trans (h.2.mono hv.size)⟩
    have d2n := hc2.out _ hb2
    have hf := Lib.hid fun v hv => hsame.out v hv
    clear hb1 hp hsame bb hle d2 hd hq
    go_wp2_with fail
    go_region_held3 (fun w' => w'.cell? ⟨b3, 2, none⟩ = some (.int .i64 key) ∧ Below wc.heap.size wc w')
      (first | (go_split_ands; have hbX := (‹Below wc.heap.size wc _›).drewN 1; exact ⟨hc2.out _ hbX, hbX⟩) | (have hbX := hb2; exact ⟨hc2.out _ hbX, hbX⟩) | (have hbX := hbc; exact ⟨hc2.out _ hbX, hbX⟩) | (have hbX := hb2.drewN 1; exact ⟨hc2.out _ hbX, hbX⟩))
      (first
        | (go_at_call 26; with_reducible refine (q1.out _ (by go_split_ands; assumption)).mono ?_; rintro e wn ⟨rfl, hbc⟩)
        | (go_at_call 57; with_reducible refine (q2.out _ (by go_split_ands; assumption)).mono ?_; rintro e wn ⟨rfl, hbc⟩))
    clear hc2 q1 q2 d2n hb2
    go_wp2_with fail
    go_ret
    exact ⟨rfl, hf.out _ hbc⟩
  by_cases k6 : K = 6
  · subst k6
    clear hK k1 k2 k3 k4 k5 hfin hn hs
    go_wp2_with (go_at_call 28; refine (ix_allB _ _).mono ?_; rintro e w1 ⟨Bt, rfl, hbt, hd⟩; have hc2 : Hid (∀ v, Below w1.heap.size w1 v → v.cell? ⟨b3, 4, none⟩ = some (.int .i64 leave)) := Lib.hid fun v h => (bb.out v (hd.trans (h.mono hd.size))).c4; have d2 := hc2.out _ (Below.refl _ _); replace hd := Lib.hid hd; replace hbt := Lib.hid hbt; clear hJ bb)
    have q1 : Hid (∀ v, Below w1.heap.size w1 v → Calls Try.prog 32 #[.pointer (some ⟨x.Rt, 0, none⟩)] v fun e w' => ∃ v1 v2, e = .returned (.agg #[v1, v2]) ∧ Hid (w'.ownsRow v.heap.size 3 1 v1 (allL x.es).length ((allL x.es).map fun x => .int .i64 x.1) ∧ w'.ownsRow v.heap.size 3 1 v2 (allL x.es).length ((allL x.es).map fun x => .int .i64 x.2)) ∧ Below w1.heap.size w1 w') := Lib.hid fun v hv => (jt_pairs (hle.out v (hd.out.trans (hv.mono hd.out.size))) hn2).mono fun e w' h => by
      obtain ⟨v1, v2, h1, h2, h3, h4⟩ := h
      exact ⟨v1, v2, h1, Lib.hid ⟨h2, h3⟩, hv.trans (h4.mono hv.size)⟩
    have q2 : Hid (∀ (lv : Int) v v1 v2 base, Below w1.heap.size w1 v → v.ownsRow base 3 1 v1 (allL x.es).length ((allL x.es).map fun x => .int .i64 x.1) → v.ownsRow base 3 1 v2 (allL x.es).length ((allL x.es).map fun x => .int .i64 x.2) →
        Calls Try.prog 31 #[.func (.func 52) #[] #[.pointer (some ⟨Bt, 0, none⟩)], .agg #[v1, v2], .int .i64 lv] v fun e w' => e = .returned (.bool true) ∧ Below w1.heap.size w1 w') :=
      Lib.hid fun lv v v1 v2 base hv o1 o2 => (jt_all_walk (hle.out v (hd.out.trans (hv.mono hd.out.size))) hn2 (bx_below hbt.out hv) lv o1 o2).mono fun e w' h => ⟨h.1, hv.trans (h.2.mono hv.size)⟩
    have hf := Lib.hid fun v hv => hsame.out v (hd.out.trans (Below.mono hv hd.out.size))
    have hb2 := Below.refl w1.heap.size w1
    go_wp2_with fail
    go_region_held3 (fun w' => w'.cell? ⟨b3, 4, none⟩ = some (.int .i64 leave) ∧ Below w1.heap.size w1 w')
      (first | (go_split_ands; have hbX := (‹Below w1.heap.size w1 _›).drewN 1; exact ⟨hc2.out _ hbX, hbX⟩) | (have hbX := hb2; exact ⟨hc2.out _ hbX, hbX⟩) | (have hbX := hbc; exact ⟨hc2.out _ hbX, hbX⟩) | (have hbX := hb2.drewN 1; exact ⟨hc2.out _ hbX, hbX⟩))
      (first
        | (go_at_call 32; with_reducible refine (q1.out _ (by go_split_ands; assumption)).mono ?_; rintro e wn ⟨v1, v2, rfl, hrow, hbc⟩)
        | (go_at_call 31; with_reducible refine (q2.out _ _ _ _ _ hbc hrow.out.1 hrow.out.2).mono ?_; rintro e wn ⟨rfl, hbc⟩))
    clear hc2 q1 q2 d2 hb2
    go_wp2_with fail
    go_ret
    exact ⟨rfl, hf.out _ hbc⟩
  by_cases k7 : K = 7
  · subst k7
    clear hK k1 k2 k3 k4 k5 k6 hfin hn hs
    go_wp2_with (go_at_call 24; refine (ix_layoutB _ _).mono ?_; rintro e w1 ⟨Bt, rfl, hbt, hd⟩; have hc2 : Hid (∀ v, Below w1.heap.size w1 v → v.cell? ⟨b3, 4, none⟩ = some (.int .i64 leave)) := Lib.hid fun v h => (bb.out v (hd.trans (h.mono hd.size))).c4; have d2 := hc2.out _ (Below.refl _ _); replace hd := Lib.hid hd; replace hbt := Lib.hid hbt; clear hJ bb)
    have q1 : Hid (∀ v, Below w1.heap.size w1 v → Calls Try.prog 33 #[.pointer (some ⟨x.Rt, 0, none⟩)] v fun e w' => ∃ v1 v2, e = .returned (.agg #[v1, v2]) ∧ Hid (w'.ownsRow v.heap.size 3 1 v1 (layL x.es x.pl x.sz).length ((layL x.es x.pl x.sz).map fun x => .int .i64 x.1) ∧ w'.ownsRow v.heap.size 3 1 v2 (layL x.es x.pl x.sz).length ((layL x.es x.pl x.sz).map fun x => .int .i64 x.2)) ∧ Below w1.heap.size w1 w') := Lib.hid fun v hv => (jt_laid (hle.out v (hd.out.trans (hv.mono hd.out.size))) hn2).mono fun e w' h => by
      obtain ⟨v1, v2, h1, h2, h3, h4⟩ := h
      exact ⟨v1, v2, h1, Lib.hid ⟨h2, h3⟩, hv.trans (h4.mono hv.size)⟩
    have q2 : Hid (∀ (lv : Int) v v1 v2 base, Below w1.heap.size w1 v → v.ownsRow base 3 1 v1 (layL x.es x.pl x.sz).length ((layL x.es x.pl x.sz).map fun x => .int .i64 x.1) → v.ownsRow base 3 1 v2 (layL x.es x.pl x.sz).length ((layL x.es x.pl x.sz).map fun x => .int .i64 x.2) →
        Calls Try.prog 31 #[.func (.func 51) #[] #[.pointer (some ⟨Bt, 0, none⟩)], .agg #[v1, v2], .int .i64 lv] v fun e w' => e = .returned (.bool true) ∧ Below w1.heap.size w1 w') :=
      Lib.hid fun lv v v1 v2 base hv o1 o2 => (jt_lay_walk (hle.out v (hd.out.trans (hv.mono hd.out.size))) hn2 (bx_below hbt.out hv) lv o1 o2).mono fun e w' h => ⟨h.1, hv.trans (h.2.mono hv.size)⟩
    have hf := Lib.hid fun v hv => hsame.out v (hd.out.trans (Below.mono hv hd.out.size))
    have hb2 := Below.refl w1.heap.size w1
    go_wp2_with fail
    go_region_held3 (fun w' => w'.cell? ⟨b3, 4, none⟩ = some (.int .i64 leave) ∧ Below w1.heap.size w1 w')
      (first | (go_split_ands; have hbX := (‹Below w1.heap.size w1 _›).drewN 1; exact ⟨hc2.out _ hbX, hbX⟩) | (have hbX := hb2; exact ⟨hc2.out _ hbX, hbX⟩) | (have hbX := hbc; exact ⟨hc2.out _ hbX, hbX⟩) | (have hbX := hb2.drewN 1; exact ⟨hc2.out _ hbX, hbX⟩))
      (first
        | (go_at_call 33; with_reducible refine (q1.out _ (by go_split_ands; assumption)).mono ?_; rintro e wn ⟨v1, v2, rfl, hrow, hbc⟩)
        | (go_at_call 31; with_reducible refine (q2.out _ _ _ _ _ hbc hrow.out.1 hrow.out.2).mono ?_; rintro e wn ⟨rfl, hbc⟩))
    clear hc2 q1 q2 d2 hb2
    go_wp2_with fail
    go_ret
    exact ⟨rfl, hf.out _ hbc⟩
  have e1 : (K == 1) = false := beq_eq_false_iff_ne.2 k1
  have e2 : (K == 2) = false := beq_eq_false_iff_ne.2 k2
  have e3 : (K == 3) = false := beq_eq_false_iff_ne.2 k3
  have e4 : (K == 4) = false := beq_eq_false_iff_ne.2 k4
  have e5 : (K == 5) = false := beq_eq_false_iff_ne.2 k5
  have e6 : (K == 6) = false := beq_eq_false_iff_ne.2 k6
  have e7 : (K == 7) = false := beq_eq_false_iff_ne.2 k7
  have e8 : (K == 8) = false := beq_eq_false_iff_ne.2 hK
  have hf := Lib.hid (hsame.out _ (Below.refl _ wc))
  clear hK k1 k2 k3 k4 k5 k6 k7 hfin hn hn2 hs hsame bb hle hJ
  go_wp2_with fail
  go_ret
  exact ⟨rfl, hf.out⟩
end Go.Proofs.Ytjeeljolhcoeoaa
