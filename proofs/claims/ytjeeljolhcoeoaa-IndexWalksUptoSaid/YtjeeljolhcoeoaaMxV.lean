/- Index: IndexWalks, the walk (printed by gen_mxv.py). -/
import Derived.Test.YtjeeljolhcoeoaaMxU
import Derived.Deep.RegionHeld3
import Derived.Deep.CutRange
import Derived.BigQuiet
namespace Go.Proofs.Ytjeeljolhcoeoaa
open Go.RowKit Go.Shelf
attribute [local go_sem] Oper.semAt_some eql_fn_h eql_nn_h eql_fn_s eql_nn_s eql_fn_i eql_nn_i
/-- the table and the document's one before the walks begin -/
structure PW (w0 W : World) (way : Int) (a : Option Addr) (cap n : Nat) (x : JTab) (N : Nat) : Prop where
  b5 : Boxed W w0.heap.size 60 (.slice a n cap)
  b6 : Boxed W (w0.heap.size + 1) 4 (.bool false)
  jt : JT W way N x
  ge : ∀ b, JB x b → w0.heap.size ≤ b
  bel : Below w0.heap.size w0 W
section
variable {w0 W W' : World} {way : Int} {a : Option Addr} {cap n N : Nat} {x y : JTab}
theorem PW.below (h : PW w0 W way a cap n x N) (hb : Below W.heap.size W W') : PW w0 W' way a cap n x N := ⟨bx_below h.b5 hb, bx_below h.b6 hb, h.jt.below hb, h.ge, h.bel.trans (hb.mono h.bel.size)⟩
theorem PW.step (h : PW w0 W way a cap n x N) (hp : JPost W W' way N x y) : PW w0 W' way a cap n y (N + 1) :=
  ⟨bx_kept h.b5 hp.kept (h.jt.box (bx_ty h.b5) (by decide) (by decide) (by decide) (by decide) (by decide)), bx_kept h.b6 hp.kept (h.jt.box (bx_ty h.b6) (by decide) (by decide) (by decide) (by decide) (by decide)), hp.jt, fun b hb => by
    rcases hp.new b hb with e | e
    · exact h.ge b e
    · exact Nat.le_trans h.bel.size e, keptR_belowK h.bel hp.kept h.ge h.bel.size⟩
end
section
variable {c : WalkC} {W wp : World} {x : JTab} {m N : Nat} {a1 a2 : Option Addr} {c1 c2 : Nat} {L : List (Int × Int)} {es0 : List Ent} {M : List Nat}
theorem n14 (h : IW c W x m N) {a : Option Addr} {n cap : Nat} {xs : List Value} (o : wp.ownsRow W.heap.size 3 1 (.slice a n cap) n xs) {b17 : Nat} (hb : b17 < W.heap.size ∨ wp.heap.size ≤ b17) : ∀ g, (Value.slice a n cap).ownBlock = some g → g ≠ c.b14 ∧ g ≠ b17 := fun g e => by
  have h1 := o.lt g e
  have h2 := h.b14.lt
  omega
theorem ws_start (h : IW c W x m N) (hb : Below W.heap.size W wp) (o1 : wp.ownsRow W.heap.size 3 1 (.slice a1 L.length c1) L.length (L.map fun x => .int .i64 x.1)) (o2 : wp.ownsRow W.heap.size 3 1 (.slice a2 L.length c2) L.length (L.map fun x => .int .i64 x.2))
    (he : ∀ e, e ∈ es0 → isTy W e.b 104) (hM : ∀ D, D ∈ M → isDef W D) :
    WS c ((wp.alloc (.cells #[.slice a1 L.length c1, .slice a2 L.length c2] 75)).alloc (.cells #[.int .i64 0] 3)) x m N wp.heap.size (wp.heap.size + 1) (.slice a1 L.length c1) (.slice a2 L.length c2) L 0 es0 M := by
  have g : Below wp.heap.size wp ((wp.alloc (.cells #[.slice a1 L.length c1, .slice a2 L.length c2] 75)).alloc (.cells #[.int .i64 0] 3)) := ((Below.refl _ wp).al _).al _
  have g2 := hb.trans (g.mono hb.size)
  have hs := hb.size
  have e2 := Boxed.new (wp.alloc (.cells #[.slice a1 L.length c1, .slice a2 L.length c2] 75)) 3 (.int .i64 0)
  rw [World.size_alloc] at e2
  have h14 := h.b14.lt
  exact ⟨h.kept (R := fun _ => False) (below_kept g2) (fun _ _ _ _ => id) (fun _ _ _ => id) (bx_below h.b14 g2) (fun _ h => h.elim), ⟨al_heap _ (heap_alloc_new wp _), e2, own_below (own_base o1 (Nat.zero_le _)) g, own_below (own_base o2 (Nat.zero_le _)) g, n14 h o1 (.inr (by omega)), n14 h o2 (.inr (by omega)), by omega⟩,
    fun e hh => (he e hh).below g2, fun D hD => (g2.block _ (Array.getElem?_eq_some_iff.1 (hM D hD)).1).trans (hM D hD)⟩
theorem ws_next {b17 i : Nat} (h : IW c W x m N) (h17 : Boxed W b17 3 (.int .i64 i)) (hlt : c.b14 < b17) (hb : Below W.heap.size W wp) (o1 : wp.ownsRow W.heap.size 3 1 (.slice a1 L.length c1) L.length (L.map fun x => .int .i64 x.1)) (o2 : wp.ownsRow W.heap.size 3 1 (.slice a2 L.length c2) L.length (L.map fun x => .int .i64 x.2))
    (he : ∀ e, e ∈ es0 → isTy W e.b 104) (hM : ∀ D, D ∈ M → isDef W D) :
    WS c ((wp.alloc (.cells #[.slice a1 L.length c1, .slice a2 L.length c2] 75)).setCell ⟨b17, 0, none⟩ (.int .i64 0)) x m N wp.heap.size b17 (.slice a1 L.length c1) (.slice a2 L.length c2) L 0 es0 M := by
  have g : Below wp.heap.size wp (wp.alloc (.cells #[.slice a1 L.length c1, .slice a2 L.length c2] 75)) := (Below.refl _ wp).al _
  have g2 := hb.trans (g.mono hb.size)
  have hs := hb.size
  have hW : WS c (wp.alloc (.cells #[.slice a1 L.length c1, .slice a2 L.length c2] 75)) x m N wp.heap.size b17 (.slice a1 L.length c1) (.slice a2 L.length c2) L i es0 M :=
    ⟨h.kept (R := fun _ => False) (below_kept g2) (fun _ _ _ _ => id) (fun _ _ _ => id) (bx_below h.b14 g2) (fun _ h => h.elim), ⟨heap_alloc_new wp _, bx_below h17 g2, own_below (own_base o1 (Nat.zero_le _)) g, own_below (own_base o2 (Nat.zero_le _)) g, n14 h o1 (.inl h17.lt), n14 h o2 (.inl h17.lt), hlt⟩,
      fun e hh => (he e hh).below g2, fun D hD => (g2.block _ (Array.getElem?_eq_some_iff.1 (hM D hD)).1).trans (hM D hD)⟩
  exact hW.setN 0
end
set_option maxHeartbeats 16000000 in
set_option maxRecDepth 100000 in
theorem law_IndexWalks (way : Int) (a1 : Option Addr) (cap1 : Nat) (a : Option Addr) (cap : Nat) (xs1 : List Int) (ss : List StepD) (w : World) (hx1 : Ints .i64 w a1 xs1) (hx : Steps w a ss) (hl : xs1.length + ss.length ≤ 1048576) :
    Calls Try.prog 7 #[.int .i64 way, .slice a1 xs1.length cap1, .slice a ss.length cap] w fun e w' => e = .returned (.bool true) ∧ Below w.heap.size w w' := by
  refine callsIn_wide.1 (callsIn_of_wp_marks (n := 9) Try.func7 rfl trivial ?_ rfl)
  simp only [Try.ntmps7, List.size_toArray, List.length_cons, List.length_nil, Nat.reduceAdd, Nat.reduceSub, Array.replicate_succ, Array.replicate_zero, List.push_toArray, List.append_toArray, List.nil_append, List.cons_append]
  refine wpIn_wide.2 ?_
  replace hx1 := Lib.hid hx1
  replace hx := Lib.hid hx
  have hkl : xs1.length ≤ 1048576 := by omega
  replace hl := Lib.hid hl
  obtain ⟨b5, hb5⟩ : ∃ b, w.heap.size = b := ⟨_, rfl⟩
  have h0 : Hid (Boxed ((w.alloc (.cells #[.slice a ss.length cap] 60)).alloc (.cells #[.bool false] 4)) b5 60 (.slice a ss.length cap) ∧ Boxed ((w.alloc (.cells #[.slice a ss.length cap] 60)).alloc (.cells #[.bool false] 4)) (b5 + 1) 4 (.bool false) ∧
      Below w.heap.size w ((w.alloc (.cells #[.slice a ss.length cap] 60)).alloc (.cells #[.bool false] 4)) ∧ b5 + 2 ≤ ((w.alloc (.cells #[.slice a ss.length cap] 60)).alloc (.cells #[.bool false] 4)).heap.size) := Lib.hid (by
    rw [← hb5]
    have e1 := Boxed.new w 60 (.slice a ss.length cap)
    have e2 := Boxed.new (w.alloc (.cells #[.slice a ss.length cap] 60)) 4 (.bool false)
    rw [World.size_alloc] at e2
    exact ⟨e1.alloc _, e2, ((Below.refl _ w).al _).al _, by simp⟩)
  go_wp2_with fail
  generalize (w.alloc (.cells #[.slice a ss.length cap] 60)).alloc (.cells #[.bool false] 4) = W1 at h0 ⊢
  replace hb5 := Lib.hid hb5
  refine (ix_hashesB way W1).mono ?_
  rintro e wa ⟨hb, rfl, hge1, bx1, gr1⟩
  go_wp2_with fail
  refine (ix_samesB way wa).mono ?_
  rintro e wb ⟨sb, rfl, hge2, bx2, gr2⟩
  replace bx1 := bx_gr bx1 gr2
  go_wp2_with fail
  refine (ix_new bx1 bx2).mono ?_
  rintro e wn ⟨T, P, rfl, hT, hP, ht, gr3⟩
  have hs1 := Below.size gr1
  have hs2 := Below.size gr2
  have gw : Hid (Below W1.heap.size W1 wn) := Lib.hid (Below.trans gr1 ((Below.mono gr2 hs1).trans (gr3.mono (Nat.le_trans hs1 hs2))))
  replace hT : Hid (W1.heap.size ≤ T) := Lib.hid (Nat.le_trans (Nat.le_trans hs1 hs2) hT)
  replace hP : Hid (W1.heap.size ≤ P) := Lib.hid (Nat.le_trans (Nat.le_trans hs1 hs2) hP)
  replace ht := Lib.hid ht
  clear bx1 bx2 hs1 hs2 gr1 gr2 gr3 hge1 hge2
  go_wp2_with fail
  refine (rf_NewB way wn).mono ?_
  rintro e wq ⟨Rt, rfl, hge, hr, hb4⟩
  have hPW : Hid (PW w wq way a cap ss.length ⟨T, P, hb, sb, 8, [], fun _ => none, Rt, .slice none 0 0⟩ 0) := Lib.hid (by
    obtain ⟨e1, e2, e3, e4⟩ := h0.out
    have g1 := gw.out
    have g2 : Below W1.heap.size W1 wq := g1.trans (hb4.mono g1.size)
    have hts : TS wn T P hb sb way 8 [] (fun _ => none) := ⟨ht.out, Can.nil 8, fun i _ hi => by simp at hi, by simp, 0, rfl⟩
    have hb5' := hb5.out
    refine ⟨by rw [hb5']; exact bx_below e1 g2, by rw [hb5']; exact bx_below e2 g2, ⟨hts.below hb4, hr.low (Nat.zero_le _), Nat.le_refl _, by show 3 * 8 ≤ 8 * (0 + 3); decide⟩, ?_, e3.trans (g2.mono e3.size)⟩
    have q1 := hT.out
    have q2 := hP.out
    have q3 := g1.size
    rintro b ((e | e | ⟨e, he, _⟩) | (e | e))
    · have e : b = T := e
      omega
    · have e : b = P := e
      omega
    · cases he
    · have e : b = Rt := e
      omega
    · cases e)
  have hxT : Hid ((⟨T, P, hb, sb, 8, [], fun _ => none, Rt, .slice none 0 0⟩ : JTab).T = T ∧ (⟨T, P, hb, sb, 8, [], fun _ => none, Rt, .slice none 0 0⟩ : JTab).Rt = Rt) := Lib.hid ⟨rfl, rfl⟩
  generalize (⟨T, P, hb, sb, 8, [], fun _ => none, Rt, .slice none 0 0⟩ : JTab) = x0 at hPW hxT
  clear h0 hT hP ht gw hge hr hb4
  go_wp2_with fail
  go_loopw [10] (fun i wr => ∃ k : Nat, k ≤ xs1.length ∧ i = .int .i64 k ∧ ∃ x, Hid (x.T = T ∧ x.Rt = Rt) ∧ Hid (PW w wr way a cap ss.length x k)) (fun i _ => xs1.length - (intOf i).toNat)
  case atStart => exact ⟨0, Nat.zero_le _, rfl, x0, hxT, hPW⟩
  case round =>
    clear hPW hxT
    obtain ⟨k, hk, rfl, x, hxT, hPW⟩ := hrel
    by_cases hlt : k < xs1.length
    · obtain ⟨b, off, rfl, hc⟩ := hx1.out.cells k hlt
      have hcw := cell_below hPW.out.bel rfl hc
      obtain ⟨eT, eR⟩ := hxT.out
      have hp := Lib.hid (jt_put hPW.out.jt (by omega) (nth xs1 k) k)
      rw [eT, eR] at hp
      have hKB : Hid (∀ w1, KeptR (fun b => tabB x.T x.P x.es b ∨ wr.heap.size ≤ b) wr w1 → w1.cell? ⟨b, off + k, none⟩ = some (.int .i64 (nth xs1 k))) := Lib.hid fun w1 h1 => by
        have hs := hPW.out.bel.size
        refine cell_below (keptR_belowK hPW.out.bel h1 (fun b hb => ?_) hs) rfl hc
        rcases hb with e | e
        · exact hPW.out.ge b (.inl e)
        · omega
      rw [eT] at hKB
      clear eT eR
      go_wp2_with fail
      with_reducible refine hp.out.mono ?_
      rintro e w1 ⟨V, Bo, rfl, hkk, hr⟩
      have hc1 := hKB.out w1 hkk
      clear hkk hp hKB hcw hc
      go_wp2_with fail
      with_reducible refine hr.out.mono ?_
      rintro e w2 ⟨rfl, y, hy⟩
      have hPW2 := Lib.hid (hPW.out.step hy)
      have hxT2 : Hid (y.T = T ∧ y.Rt = Rt) := Lib.hid ⟨hy.hT.trans hxT.out.1, hy.hR.trans hxT.out.2⟩
      clear hc1 hr hy hPW hxT
      go_wp2_with fail
      go_roundw
      case rel => exact ⟨k + 1, by omega, by go_num, y, hxT2, hPW2⟩
      case measure => simp [intOf]; omega
    · obtain rfl : k = xs1.length := by omega
      clear hx1
      go_wp2_with fail
      refine (ix_allB T wr).mono ?_
      rintro e wc ⟨BA, rfl, hbA, hd1⟩
      go_wp2_with fail
      refine (ix_layoutB T wc).mono ?_
      rintro e wd ⟨BL, rfl, hbL, hd2⟩
      have hPW2 := Lib.hid ((hPW.out.below hd1).below hd2)
      have hAL : Hid (Boxed wd BA 43 (.pointer (some ⟨T, 0, none⟩)) ∧ Boxed wd BL 43 (.pointer (some ⟨T, 0, none⟩))) := Lib.hid ⟨bx_below hbA hd2, hbL⟩
      clear hbA hbL hd1 hd2 hPW
      obtain ⟨Bw, hBw⟩ : ∃ b, wd.heap.size = b := ⟨_, rfl⟩
      go_wp2_with fail
      have hIW : Hid (IW ⟨w, way, a, cap, ss, BA, BL, Bw, Bw + 1, Bw + 1 + 1, T, Rt⟩ (((wd.alloc (.cells #[.pointer (some ⟨T, 0, none⟩), .pointer (some ⟨T, 0, none⟩), .pointer (some ⟨Rt, 0, none⟩), .pointer (some ⟨Rt, 0, none⟩), .slice none 0 0, .slice none 0 0] 68)).alloc (.cells #[.pointer (some ⟨Bw, 0, none⟩)] 61)).alloc (.cells #[.int .i64 0] 3)) x 0 xs1.length) := Lib.hid (by
        rw [← hBw]
        have e1 := heap_alloc_new wd (.cells #[.pointer (some ⟨T, 0, none⟩), .pointer (some ⟨T, 0, none⟩), .pointer (some ⟨Rt, 0, none⟩), .pointer (some ⟨Rt, 0, none⟩), .slice none 0 0, .slice none 0 0] 68)
        have hl1 := (Below.refl wd.heap.size wd).al (.cells #[.pointer (some ⟨T, 0, none⟩), .pointer (some ⟨T, 0, none⟩), .pointer (some ⟨Rt, 0, none⟩), .pointer (some ⟨Rt, 0, none⟩), .slice none 0 0, .slice none 0 0] 68)
        have hz1 := World.size_alloc wd (.cells #[.pointer (some ⟨T, 0, none⟩), .pointer (some ⟨T, 0, none⟩), .pointer (some ⟨Rt, 0, none⟩), .pointer (some ⟨Rt, 0, none⟩), .slice none 0 0, .slice none 0 0] 68)
        generalize wd.alloc (.cells #[.pointer (some ⟨T, 0, none⟩), .pointer (some ⟨T, 0, none⟩), .pointer (some ⟨Rt, 0, none⟩), .pointer (some ⟨Rt, 0, none⟩), .slice none 0 0, .slice none 0 0] 68) = A1 at e1 hl1 hz1 ⊢
        have e2 := Boxed.new A1 61 (.pointer (some ⟨wd.heap.size, 0, none⟩))
        have hl2 := hl1.al (.cells #[.pointer (some ⟨wd.heap.size, 0, none⟩)] 61)
        have hz2 := World.size_alloc A1 (.cells #[.pointer (some ⟨wd.heap.size, 0, none⟩)] 61)
        have e3 := al_heap (.cells #[.pointer (some ⟨wd.heap.size, 0, none⟩)] 61) e1
        rw [hz1] at e2
        generalize A1.alloc (.cells #[.pointer (some ⟨wd.heap.size, 0, none⟩)] 61) = A2 at e2 hl2 hz2 e3 ⊢
        have e4 := Boxed.new A2 3 (.int .i64 0)
        have hl3 := hl2.al (.cells #[.int .i64 0] 3)
        rw [hz2, hz1] at e4
        have hP := hPW2.out.below hl3
        refine ⟨hP.b5, hP.b6, bx_below hAL.out.1 hl3, bx_below hAL.out.2 hl3, al_heap _ e3, e2.alloc _, e4, hP.jt, hxT.out.1, hxT.out.2, hP.ge, ?_, ?_, ?_, hP.bel⟩
        · show w.heap.size ≤ wd.heap.size + 1 + 1
          have := hPW2.out.bel.size; omega
        · show x.hb < wd.heap.size + 1 + 1
          have := hPW2.out.jt.ts.tab.hH.lt; omega
        · show x.sb < wd.heap.size + 1 + 1
          have := hPW2.out.jt.ts.tab.hS.lt; omega)
      generalize ((wd.alloc (.cells #[.pointer (some ⟨T, 0, none⟩), .pointer (some ⟨T, 0, none⟩), .pointer (some ⟨Rt, 0, none⟩), .pointer (some ⟨Rt, 0, none⟩), .slice none 0 0, .slice none 0 0] 68)).alloc (.cells #[.pointer (some ⟨Bw, 0, none⟩)] 61)).alloc (.cells #[.int .i64 0] 3) = V0 at hIW ⊢
      clear hPW2 hAL hxT hBw
      obtain ⟨b13, hb13⟩ : ∃ b, Bw + 1 = b := ⟨_, rfl⟩
      rw [hb13] at hIW ⊢
      obtain ⟨b14, hb14⟩ : ∃ b, b13 + 1 = b := ⟨_, rfl⟩
      rw [hb14] at hIW ⊢
      obtain ⟨b6, hb6⟩ : ∃ b, b5 + 1 = b := ⟨_, rfl⟩
      rw [hb6]
      have hb56 : Hid (w.heap.size = b5 ∧ w.heap.size + 1 = b6) := Lib.hid ⟨hb5.out, by have := hb5.out; omega⟩
      clear hb13 hb14 hb6
      obtain ⟨C, hC⟩ : ∃ C : WalkC, C = ⟨w, way, a, cap, ss, BA, BL, Bw, b13, b14, T, Rt⟩ := ⟨_, rfl⟩
      have hl0 := hl.out
      refine wp_loop_rounds 3 ?_
      rw [rounds_succ]
      have hpr := Lib.hid (jt_pairs hIW.out.jt (by omega))
      have hst0 := Lib.hid (show x.Rt = Rt by have := hIW.out.xR; subst hC; exact this)
      rw [hst0.out] at hpr
      obtain ⟨L0, hL0⟩ : ∃ L, allL x.es = L := ⟨_, rfl⟩
      rw [hL0] at hpr
      have hL0b : L0.length ≤ 8388608 := by rw [← hL0, allL_length]; exact (hIW.out.jt.w8 (by omega)).2.2.2
      replace hL0 := Lib.hid hL0
      clear hst0
      go_wp2_with fail
      with_reducible refine hpr.out.mono ?_
      rintro e wp ⟨v1, v2, rfl, o1, o2, hbp⟩
      clear hpr
      obtain ⟨u1, d1, rfl, -⟩ := own_sliceI o1
      obtain ⟨u2, d2, rfl, -⟩ := own_sliceI o2
      have hS0 : Hid (WS C ((wp.alloc (.cells #[.slice u1 L0.length d1, .slice u2 L0.length d2] 75)).alloc (.cells #[.int .i64 0] 3)) x 0 (xs1.length + min 0 ss.length) wp.heap.size (wp.heap.size + 1) (.slice u1 L0.length d1) (.slice u2 L0.length d2) L0 0 [] []) := Lib.hid (ws_start (by rw [hC, Nat.zero_min]; exact hIW.out) hbp o1 o2 (fun e he => by cases he) (fun D hD => by cases hD))
      obtain ⟨b16, hb16⟩ : ∃ b, wp.heap.size = b := ⟨_, rfl⟩
      rw [hb16] at hS0
      clear o1 o2 hbp hIW
      go_wp2_with fail
      clear hb16
      generalize (wp.alloc (.cells #[.slice u1 L0.length d1, .slice u2 L0.length d2] 75)).alloc (.cells #[.int .i64 0] 3) = V0 at hS0 ⊢
      obtain ⟨b17, hb17⟩ : ∃ b, b16 + 1 = b := ⟨_, rfl⟩
      rw [hb17] at hS0 ⊢
      clear hb17
      have hst : Hid (SeqStopsK Fence.wide 8 Try.prog 52 #[.pointer (some ⟨BA, 0, none⟩)] (fun x : Int × Int => #[.int .i64 x.1, .int .i64 x.2]) KpA (fun xs => xs = L0) (fun pre => pre <+: L0) L0.length V0) := Lib.hid (by
        have h8 := hS0.out.iw.jt.w8 (by simp; omega)
        have hA := hS0.out.iw.bA
        have hT := hS0.out.iw.xT
        subst hC
        have := all_stops 8 V0 hS0.out.iw.jt.ts.tab (by omega) BA hA.lt (by rw [show x.T = T from hT]; exact hA.cell)
        rw [hL0.out] at this
        exact this)
      -- range 0
      refine name_frame ?_
      intro tm htm
      refine range_wide (P := Try.prog) (tm := tm) (ds := _) (gf := 52) (lb := #[.pointer (some ⟨BA, 0, none⟩)]) (by rw [htm]; rfl) (enters_of Try.func52 (by kernel_rfl) rfl)
        hst.out KpA.trans (fun W l o o' _ h hc _ => KpA.put W l o o' h hc) (fun _ => rfl)
        (fun pre W => ∃ m y, WS C W y m (xs1.length + min m ss.length) b16 b17 (.slice u1 L0.length d1) (.slice u2 L0.length d2) L0 pre.length [] [] ∧ pre <+: L0 ∧ m ≤ 0 + pre.length)
        (fun c pre W => c = .ret ∧ ¬ pre <+: L0)
        (fun pre W1 W2 row hs hg hr => by
          obtain ⟨m, y, h1, h2⟩ := hs
          exact ⟨m, y, h1.own (fun D hD => (Array.getElem?_eq_some_iff.1 (hS0.out.md D hD)).1) (by have := hS0.out.iw.bel.size; subst hC; exact this) hg hr, h2⟩)
        (fun c pre W1 W2 row hs hg hr => hs)
        ⟨0, x, hS0.out, List.nil_prefix, by simp⟩
        (fun _ _ _ => True) (fun _ _ _ _ _ _ _ _ _ => trivial)
        (fun x _ tm => ((((tm.setIfInBounds 84 (.int .i64 x.1)).setIfInBounds 85 (.int .i64 x.2)).setIfInBounds 18 (.int .i64 x.1)).setIfInBounds 19 (.int .i64 x.2)))
        ?assign0 ?body0 ?done0 ?stop0
      case assign0 =>
        rintro l pre x V K hi hK
        rw [htm] at hK ⊢
        gi_wp2
        exact hK 0 V ((KeepsOthers.refl V).from _) (KpA.refl _) hi trivial
      case body0 =>
        as_aux_lemma =>
        rintro l pre z b V hlo hr ⟨m, y, hS, hpre, hm⟩ _ hlt
        rw [htm]
        obtain ⟨g1, f1, he1, -⟩ := own_shape hS.rw.o1 (by omega)
        obtain ⟨g2, f2, he2, -⟩ := own_shape hS.rw.o2 (by omega)
        injection he1 with he1 _ hf1
        injection he2 with he2 _ hf2
        subst he1 hf1 he2 hf2
        obtain ⟨kv, hkv⟩ : ∃ kv, L0[pre.length] = kv := ⟨_, rfl⟩
        have k1 : V.cell? ⟨g1, pre.length, none⟩ = some (.int .i64 kv.1) := by
          have := hS.rw.o1.cells (g := g1) rfl pre.length (Value.int .i64 kv.1) (by simp [hlt, hkv])
          simpa [addr_add] using this
        have k2 : V.cell? ⟨g2, pre.length, none⟩ = some (.int .i64 kv.2) := by
          have := hS.rw.o2.cells (g := g2) rfl pre.length (Value.int .i64 kv.2) (by simp [hlt, hkv])
          simpa [addr_add] using this
        have c160 : V.cell? ⟨b16, 0, none⟩ = some (.slice (some ⟨g1, 0, none⟩) L0.length d1) := cell_of_row _ _ _ _ _ _ hS.rw.h16
        have c161 : V.cell? ⟨b16, 1, none⟩ = some (.slice (some ⟨g2, 0, none⟩) L0.length d2) := cell_of_row _ _ _ _ _ _ hS.rw.h16
        have cn := hS.rw.h17.cell
        have fn := hS.rw.h17.frozen
        have cR : V.cell? ⟨b6, 0, none⟩ = some (.bool false) := by rw [← hb56.out.2]; subst hC; exact hS.iw.b6.cell
        have fR : V.frozen? ⟨b6, 0, none⟩ = false := by rw [← hb56.out.2]; subst hC; exact hS.iw.b6.frozen
        have hge : decide ((L0.length : Int) ≤ (pre.length : Int)) = false := decide_eq_false (by omega)
        have hpb : pre.length < 16777216 := by omega
        have hwn : IntKind.i64.wrap ((pre.length : Int) + 1) = (pre.length : Int) + 1 := IntWalk.i64_in _ (by omega)
        have ecast : (((pre.length + 1 : Nat)) : Int) = (pre.length : Int) + 1 := by omega
        have hS2 := hS.setN (pre.length + 1)
        rw [ecast] at hS2
        have hko2 : Hid (KeepsOthers V (V.setCell ⟨b17, 0, none⟩ (.int .i64 ((pre.length : Int) + 1)))) := Lib.hid (KeepsOthers.setCell _ _ _)
        have hkp2 : Hid (KpA V (V.setCell ⟨b17, 0, none⟩ (.int .i64 ((pre.length : Int) + 1)))) := Lib.hid (by skip; exact kpa_setI hS.rw.h17)
        replace hS2 := Lib.hid hS2
        obtain ⟨x1, x2⟩ := z
        have hpx : pre ++ [(x1, x2)] <+: L0 → (x1, x2) = kv := fun h => by
          obtain ⟨t, ht⟩ := h
          rw [← hkv]
          simp [← ht]
        have hpk : pre ++ [kv] <+: L0 := by
          obtain ⟨t, ht⟩ := hpre
          cases t with
          | nil => simp at ht; subst ht; omega
          | cons y t =>
            have : y = kv := by rw [← hkv]; simp [← ht]
            exact ⟨t, by rw [← this, ← ht]; simp⟩
        obtain ⟨y1, y2⟩ := kv
        dsimp only at *
        replace hpx := Lib.hid hpx
        replace hpk := Lib.hid hpk
        replace hm := Lib.hid hm
        have hmb : m < 134217728 := by have := hm.out; omega
        clear hkv hS
        simp only [List.setIfInBounds_toArray, List.set_cons_succ, List.set_cons_zero]
        by_cases h1 : x1 = y1
        · have n1 : (x1 != y1) = false := by simp [h1]
          by_cases h2 : x2 = y2
          · have n2 : (x2 != y2) = false := by simp [h2]
            have hpz : Hid (pre ++ [(x1, x2)] <+: L0) := Lib.hid (by rw [h1, h2]; exact hpk.out)
            clear h1 h2 cR fR hpx hpk
            gi_wp2
            clear c160 c161 cn fn k1 k2 hge hwn n1 n2
            generalize V.setCell ⟨b17, 0, none⟩ (.int .i64 ((pre.length : Int) + 1)) = VX at hS2 hko2 hkp2 ⊢
            have hwm : IntKind.i64.wrap ((m : Int) + 1) = (m : Int) + 1 := IntWalk.i64_in _ (by omega)
            have c14 : VX.cell? ⟨b14, 0, none⟩ = some (.int .i64 m) := by have := hS2.out.iw.b14.cell; subst hC; exact this
            have c5 : VX.cell? ⟨b5, 0, none⟩ = some (.slice a ss.length cap) := by have := hS2.out.iw.b5.cell; rw [← hb56.out.1]; subst hC; exact this
            have hend : Hid (∀ VY y N, KeepsOthers VX VY → KpA VX VY → WS C VY y m N b16 b17 (.slice (some ⟨g1, 0, none⟩) L0.length d1) (.slice (some ⟨g2, 0, none⟩) L0.length d2) L0 (pre.length + 1) [] [] → N ≤ xs1.length + min (m + 1) ss.length →
                VY.cell? ⟨b14, 0, none⟩ = some (.int .i64 m) ∧ VY.frozen? ⟨b14, 0, none⟩ = false ∧ Hid (KeepsFrom V0.heap.size V (VY.setCell ⟨b14, 0, none⟩ (.int .i64 ((m : Int) + 1))) ∧ KpA V (VY.setCell ⟨b14, 0, none⟩ (.int .i64 ((m : Int) + 1))) ∧ ∃ m2 y2, WS C (VY.setCell ⟨b14, 0, none⟩ (.int .i64 ((m : Int) + 1))) y2 m2 (xs1.length + min m2 ss.length) b16 b17 (.slice (some ⟨g1, 0, none⟩) L0.length d1) (.slice (some ⟨g2, 0, none⟩) L0.length d2) L0 (pre ++ [(x1, x2)]).length [] [] ∧ pre ++ [(x1, x2)] <+: L0 ∧ m2 ≤ 0 + (pre ++ [(x1, x2)]).length)) := Lib.hid fun VY y N k1 k2 h hN => by
              have hb14 : Boxed VY b14 3 (.int .i64 m) := by have := h.iw.b14; subst hC; exact this
              refine ⟨hb14.cell, hb14.frozen, Lib.hid ⟨((hko2.out.trans k1).trans (KeepsOthers.setCell _ _ _)).from _, KpA.trans (KpA.trans hkp2.out k2) (by skip; exact kpa_setI hb14), m + 1, y, ?_, hpz.out, by rw [List.length_append, List.length_singleton]; have := hm.out; omega⟩⟩
              have := (h.more hN).setAt (m + 1)
              rw [List.length_append]
              subst hC
              exact this
            by_cases hml : m < ss.length
            · obtain ⟨bs, off, rfl, q0, q1, q2, q3, q4⟩ := hx.out.cells m hml
              have hcb : Below w.heap.size w VX := by have := hS2.out.iw.bel; subst hC; exact this
              replace q0 := (hcb.cell (cell_lt q0)).trans q0
              replace q1 := (hcb.cell (cell_lt q1)).trans q1
              replace q2 := (hcb.cell (cell_lt q2)).trans q2
              replace q3 := (hcb.cell (cell_lt q3)).trans q3
              replace q4 := (hcb.cell (cell_lt q4)).trans q4
              obtain ⟨sK, hsK⟩ : ∃ k, ss[m].K = k := ⟨_, rfl⟩
              obtain ⟨sOn, hsOn⟩ : ∃ k, ss[m].On = k := ⟨_, rfl⟩
              obtain ⟨sk, hsk⟩ : ∃ k, ss[m].key = k := ⟨_, rfl⟩
              obtain ⟨sv, hsv⟩ : ∃ k, ss[m].value = k := ⟨_, rfl⟩
              obtain ⟨sl, hsl⟩ : ∃ k, ss[m].leave = k := ⟨_, rfl⟩
              rw [hsK] at q0
              rw [hsOn] at q1
              rw [hsk] at q2
              rw [hsv] at q3
              rw [hsl] at q4
              clear hsK hsOn hsk hsv hsl hcb
              have hltb : decide ((m : Int) < (ss.length : Int)) = true := decide_eq_true (by omega)
              have hltn : decide (m < ss.length) = true := decide_eq_true hml
              by_cases hK8 : sK = 8
              · have hne : (sK != 8) = false := by simp [hK8]
                replace hK8 := Lib.hid hK8
                refine wpIn_region_quiet_round (by kernel_rfl) (by kernel_rfl) (by kernel_rfl) ?_
                repeat (first | go_big_quiet_step (fail) | quiet_step (fail))
                refine wpQuiet_nil ?_
                rintro _ ⟨nq, rfl⟩
                have hdr : Below VX.heap.size VX (VX.drewN nq) := below_drewN (Below.refl _ _) _
                have hS3 := hS2.out.below hdr
                obtain ⟨c14', f14', hE⟩ := hend.out (VX.drewN nq) y _ (ko_gr hdr) (KpA.below hdr) hS3 (by omega)
                clear c14 c5
                gi_wp2
                exact hE.out
              · have hne : (sK != 8) = true := by simp [hK8]
                have hdr : Below VX.heap.size VX VX.drew := below_drewN (Below.refl _ _) 1
                have hSd := hS2.out.below hdr
                have hcall : Hid (Calls Try.prog 30 #[.pointer (some ⟨Bw, 0, none⟩), .agg #[.int .i64 sK, .int .i64 sOn, .int .i64 sk, .int .i64 sv, .int .i64 sl]] VX.drew fun e w' => e = .returned (.bool true) ∧
                    ∃ y2, Hid (WS C w' y2 m (xs1.length + min m ss.length + 1) b16 b17 (.slice (some ⟨g1, 0, none⟩) L0.length d1) (.slice (some ⟨g2, 0, none⟩) L0.length d2) L0 (pre.length + 1) [] []) ∧ Hid (KeepsOthers VX w') ∧ Hid (KpA VX w')) := Lib.hid (by
                  have hT := hSd.iw.xT
                  have hR := hSd.iw.xR
                  subst hC
                  refine (st_small hSd.iw.jt (by omega) hSd.iw.hB sK sOn sk sv sl hK8 (by
                    rcases (show sOn % 2 = 0 ∨ sOn % 2 = 1 by omega) with h | h
                    · exact .inl ⟨h, hT, hR⟩
                    · exact .inr ⟨h, hT, hR⟩)).mono ?_
                  rintro e w' ⟨rfl, y2, hp⟩
                  exact ⟨rfl, y2, Lib.hid (hSd.step hp), Lib.hid ((ko_gr hdr).trans hp.ko), Lib.hid ((KpA.below hdr).trans hp.kpa)⟩)
                have c13 : VX.cell? ⟨b13, 0, none⟩ = some (.pointer (some ⟨Bw, 0, none⟩)) := by have := hS2.out.iw.b13.cell; subst hC; exact this
                replace hK8 := Lib.hid hK8
                clear hdr hSd
                refine region_still_round 18 (by kernel_rfl) (by kernel_rfl) (by kernel_rfl) ?_
                simp only [List.take_succ_cons, List.take_zero, List.drop_succ_cons, List.drop_zero]
                repeat still_step
                refine wpStill_nil ?_
                go_wp2_with (go_at_call 30; with_reducible refine hcall.out.mono ?_; rintro e w4 ⟨rfl, y2, hS4, hko4, hkp4⟩)
                refine NP.normal ?_
                obtain ⟨c14', f14', hE⟩ := hend.out w4 y2 _ hko4.out hkp4.out hS4.out (by omega)
                clear c14 c5 c13 q0 q1 q2 q3 q4
                gi_wp2
                exact hE.out
            · have hltb : decide ((m : Int) < (ss.length : Int)) = false := decide_eq_false (by omega)
              have hltn : decide (m < ss.length) = false := decide_eq_false hml
              replace hml := Lib.hid hml
              refine wpIn_region_quiet_round (by kernel_rfl) (by kernel_rfl) (by kernel_rfl) ?_
              repeat (first | go_big_quiet_step (fail) | quiet_step (fail))
              refine wpQuiet_nil ?_
              rintro _ ⟨nq, rfl⟩
              have hdr : Below VX.heap.size VX (VX.drewN nq) := below_drewN (Below.refl _ _) _
              have hS3 := hS2.out.below hdr
              obtain ⟨c14', f14', hE⟩ := hend.out (VX.drewN nq) y _ (ko_gr hdr) (KpA.below hdr) hS3 (by omega)
              clear c14 c5
              gi_wp2
              exact hE.out
          · have n2 : (x2 != y2) = true := by simp [h2]
            have hxk : Hid (¬ pre ++ [(x1, x2)] <+: L0) := Lib.hid (fun h => by have := hpx.out h; injection this with _ e; exact h2 e)
            clear h1 h2 fn
            gi_wp2
            exact ⟨(KeepsOthers.setCell V _ _).from _, rfl, hxk.out⟩
        · have n1 : (x1 != y1) = true := by simp [h1]
          have hxk : Hid (¬ pre ++ [(x1, x2)] <+: L0) := Lib.hid (fun h => by have := hpx.out h; injection this with e _; exact h1 e)
          clear h1 fn
          gi_wp2
          exact ⟨(KeepsOthers.setCell V _ _).from _, rfl, hxk.out⟩
      case stop0 =>
        rintro D c pre V hDl hsp ⟨rfl, hno⟩ hD
        exact absurd hsp hno
      case done0 =>
      rintro D0 pre V hDl0 hxs ⟨m, x, hS, hpre, hm⟩ hD0
      subst hxs
      rw [htm]
      replace hS := Lib.hid hS
      have cn := hS.out.rw.h17.cell
      have c160 : V.cell? ⟨b16, 0, none⟩ = some (.slice u1 pre.length d1) := cell_of_row _ _ _ _ _ _ hS.out.rw.h16
      have hne : ((pre.length : Int) != (pre.length : Int)) = false := by simp
      have hpr := Lib.hid (jt_laid hS.out.iw.jt (by omega))
      have hxR := Lib.hid (show x.Rt = Rt by have := hS.out.iw.xR; subst hC; exact this)
      rw [hxR.out] at hpr
      obtain ⟨L1, hL1⟩ : ∃ L, layL x.es x.pl x.sz = L := ⟨_, rfl⟩
      rw [hL1] at hpr
      have hL1b : L1.length ≤ 16777216 := by rw [← hL1]; have := layL_length x.es x.pl x.sz; have := (hS.out.iw.jt.w8 (by omega)).2.1; omega
      replace hL1 := Lib.hid hL1
      clear hxR hpre hst
      have hD0w : Hid (w.heap.size ≤ D0) := Lib.hid (by have h1 := hS0.out.iw.bel.size; subst hC; exact Nat.le_trans h1 hDl0)
      clear hS0
      go_wp2_with fail
      with_reducible refine hpr.out.mono ?_
      rintro e wp ⟨v1, v2, rfl, o1, o2, hbp⟩
      clear hpr cn c160 hne
      have hmn : m ≤ 16777216 := by omega
      replace hm := hmn
      clear hmn
      obtain ⟨p1, r1, rfl, -⟩ := own_sliceI o1
      obtain ⟨p2, r2, rfl, -⟩ := own_sliceI o2
      have hS1 : Hid (WS C ((wp.alloc (.cells #[.slice p1 L1.length r1, .slice p2 L1.length r2] 75)).setCell ⟨b17, 0, none⟩ (.int .i64 0)) x m (xs1.length + min m ss.length) wp.heap.size b17 (.slice p1 L1.length r1) (.slice p2 L1.length r2) L1 0 x.es [D0]) := Lib.hid (ws_next hS.out.iw hS.out.rw.h17 hS.out.rw.lt hbp o1 o2 (fun e he => by
        obtain ⟨i, hi, rfl⟩ := List.getElem_of_mem he
        exact ⟨_, _, hS.out.iw.jt.ts.tab.hE i hi⟩) (fun D hD => by
        rcases List.mem_cons.1 hD with rfl | hD
        · exact hD0
        · exact hS.out.md D hD))
      have bnp := (bx_below hS.out.rw.h17 hbp).alloc (.cells #[.slice p1 L1.length r1, .slice p2 L1.length r2] 75)
      have cna := bnp.cell
      have fna := bnp.frozen
      obtain ⟨b20, hb20⟩ : ∃ b, wp.heap.size = b := ⟨_, rfl⟩
      rw [hb20] at hS1
      clear o1 o2 hbp bnp hS hD0 hDl0
      go_wp2_with fail
      clear hb20 cna fna
      generalize (wp.alloc (.cells #[.slice p1 L1.length r1, .slice p2 L1.length r2] 75)).setCell ⟨b17, 0, none⟩ (.int .i64 0) = V1 at hS1 ⊢
      have hst : Hid (SeqStopsK Fence.wide 8 Try.prog 51 #[.pointer (some ⟨BL, 0, none⟩)] (fun x : Int × Int => #[.int .i64 x.1, .int .i64 x.2]) (KpL T x.es) (fun xs => xs = L1) (fun pre => pre <+: L1) L1.length V1) := Lib.hid (by
        have h8 := hS1.out.iw.jt.w8 (by omega)
        have hA := hS1.out.iw.bL
        have hT := hS1.out.iw.xT
        subst hC
        have := lay_stops 8 V1 hS1.out.iw.jt.ts.tab (by omega) BL hA.lt (by rw [show x.T = T from hT]; exact hA.cell)
        rw [hL1.out, show x.T = T from hT] at this
        exact this)
      have hTl : T < V1.heap.size := by
        have h1 := (Array.getElem?_eq_some_iff.1 hS1.out.iw.jt.ts.tab.hT).1
        have hT := hS1.out.iw.xT
        subst hC
        rw [show x.T = T from hT] at h1
        exact h1
      -- range 1
      refine name_frame ?_
      intro tm htm
      refine range_wide (P := Try.prog) (tm := tm) (ds := _) (gf := 51) (lb := #[.pointer (some ⟨BL, 0, none⟩)]) (by rw [htm]; rfl) (enters_of Try.func51 (by kernel_rfl) rfl)
        hst.out KpL.trans (fun W l o o' hl h hc _ => KpL.put (B0 := V1.heap.size) hTl W l o o' hl h hc) (fun _ => rfl)
        (fun pre W => ∃ m y, WS C W y m (xs1.length + min m ss.length) b20 b17 (.slice p1 L1.length r1) (.slice p2 L1.length r2) L1 pre.length x.es [D0] ∧ pre <+: L1 ∧ m ≤ 16777216 + pre.length)
        (fun c pre W => c = .ret ∧ ¬ pre <+: L1)
        (fun pre W1 W2 row hs hg hr => by
          obtain ⟨m, y, h1, h2⟩ := hs
          exact ⟨m, y, h1.own (fun D hD => (Array.getElem?_eq_some_iff.1 (hS1.out.md D hD)).1) (by have := hS1.out.iw.bel.size; subst hC; exact this) hg hr, h2⟩)
        (fun c pre W1 W2 row hs hg hr => hs)
        ⟨m, x, hS1.out, List.nil_prefix, by simp; exact hm⟩
        (fun _ _ _ => True) (fun _ _ _ _ _ _ _ _ _ => trivial)
        (fun x _ tm => ((((tm.setIfInBounds 142 (.int .i64 x.1)).setIfInBounds 143 (.int .i64 x.2)).setIfInBounds 21 (.int .i64 x.1)).setIfInBounds 22 (.int .i64 x.2)))
        ?assign1 ?body1 ?done1 ?stop1
      case assign1 =>
        rintro l pre x V K hi hK
        rw [htm] at hK ⊢
        gi_wp2
        exact hK 0 V ((KeepsOthers.refl V).from _) (KpL.refl _ _ _) hi trivial
      case body1 =>
        as_aux_lemma =>
        rintro l pre z b V hlo hr ⟨m, y, hS, hpre, hm⟩ _ hlt
        rw [htm]
        obtain ⟨g1, f1, he1, -⟩ := own_shape hS.rw.o1 (by omega)
        obtain ⟨g2, f2, he2, -⟩ := own_shape hS.rw.o2 (by omega)
        injection he1 with he1 _ hf1
        injection he2 with he2 _ hf2
        subst he1 hf1 he2 hf2
        obtain ⟨kv, hkv⟩ : ∃ kv, L1[pre.length] = kv := ⟨_, rfl⟩
        have k1 : V.cell? ⟨g1, pre.length, none⟩ = some (.int .i64 kv.1) := by
          have := hS.rw.o1.cells (g := g1) rfl pre.length (Value.int .i64 kv.1) (by simp [hlt, hkv])
          simpa [addr_add] using this
        have k2 : V.cell? ⟨g2, pre.length, none⟩ = some (.int .i64 kv.2) := by
          have := hS.rw.o2.cells (g := g2) rfl pre.length (Value.int .i64 kv.2) (by simp [hlt, hkv])
          simpa [addr_add] using this
        have c160 : V.cell? ⟨b20, 0, none⟩ = some (.slice (some ⟨g1, 0, none⟩) L1.length r1) := cell_of_row _ _ _ _ _ _ hS.rw.h16
        have c161 : V.cell? ⟨b20, 1, none⟩ = some (.slice (some ⟨g2, 0, none⟩) L1.length r2) := cell_of_row _ _ _ _ _ _ hS.rw.h16
        have cn := hS.rw.h17.cell
        have fn := hS.rw.h17.frozen
        have cR : V.cell? ⟨b6, 0, none⟩ = some (.bool false) := by rw [← hb56.out.2]; subst hC; exact hS.iw.b6.cell
        have fR : V.frozen? ⟨b6, 0, none⟩ = false := by rw [← hb56.out.2]; subst hC; exact hS.iw.b6.frozen
        have hge : decide ((L1.length : Int) ≤ (pre.length : Int)) = false := decide_eq_false (by omega)
        have hpb : pre.length < 16777216 := by omega
        have hwn : IntKind.i64.wrap ((pre.length : Int) + 1) = (pre.length : Int) + 1 := IntWalk.i64_in _ (by omega)
        have ecast : (((pre.length + 1 : Nat)) : Int) = (pre.length : Int) + 1 := by omega
        have hS2 := hS.setN (pre.length + 1)
        rw [ecast] at hS2
        have hko2 : Hid (KeepsOthers V (V.setCell ⟨b17, 0, none⟩ (.int .i64 ((pre.length : Int) + 1)))) := Lib.hid (KeepsOthers.setCell _ _ _)
        have hkp2 : Hid (KpL T x.es V (V.setCell ⟨b17, 0, none⟩ (.int .i64 ((pre.length : Int) + 1)))) := Lib.hid (by subst hC; exact kpl_setI hS hS.rw.h17)
        replace hS2 := Lib.hid hS2
        obtain ⟨x1, x2⟩ := z
        have hpx : pre ++ [(x1, x2)] <+: L1 → (x1, x2) = kv := fun h => by
          obtain ⟨t, ht⟩ := h
          rw [← hkv]
          simp [← ht]
        have hpk : pre ++ [kv] <+: L1 := by
          obtain ⟨t, ht⟩ := hpre
          cases t with
          | nil => simp at ht; subst ht; omega
          | cons y t =>
            have : y = kv := by rw [← hkv]; simp [← ht]
            exact ⟨t, by rw [← this, ← ht]; simp⟩
        obtain ⟨y1, y2⟩ := kv
        dsimp only at *
        replace hpx := Lib.hid hpx
        replace hpk := Lib.hid hpk
        replace hm := Lib.hid hm
        have hmb : m < 134217728 := by have := hm.out; omega
        clear hkv hS
        simp only [List.setIfInBounds_toArray, List.set_cons_succ, List.set_cons_zero]
        by_cases h1 : x1 = y1
        · have n1 : (x1 != y1) = false := by simp [h1]
          by_cases h2 : x2 = y2
          · have n2 : (x2 != y2) = false := by simp [h2]
            have hpz : Hid (pre ++ [(x1, x2)] <+: L1) := Lib.hid (by rw [h1, h2]; exact hpk.out)
            clear h1 h2 cR fR hpx hpk
            gi_wp2
            clear c160 c161 cn fn k1 k2 hge hwn n1 n2
            generalize V.setCell ⟨b17, 0, none⟩ (.int .i64 ((pre.length : Int) + 1)) = VX at hS2 hko2 hkp2 ⊢
            have hwm : IntKind.i64.wrap ((m : Int) + 1) = (m : Int) + 1 := IntWalk.i64_in _ (by omega)
            have c14 : VX.cell? ⟨b14, 0, none⟩ = some (.int .i64 m) := by have := hS2.out.iw.b14.cell; subst hC; exact this
            have c5 : VX.cell? ⟨b5, 0, none⟩ = some (.slice a ss.length cap) := by have := hS2.out.iw.b5.cell; rw [← hb56.out.1]; subst hC; exact this
            have hend : Hid (∀ VY y N, KeepsOthers VX VY → KpL T x.es VX VY → WS C VY y m N b20 b17 (.slice (some ⟨g1, 0, none⟩) L1.length r1) (.slice (some ⟨g2, 0, none⟩) L1.length r2) L1 (pre.length + 1) x.es [D0] → N ≤ xs1.length + min (m + 1) ss.length →
                VY.cell? ⟨b14, 0, none⟩ = some (.int .i64 m) ∧ VY.frozen? ⟨b14, 0, none⟩ = false ∧ Hid (KeepsFrom V1.heap.size V (VY.setCell ⟨b14, 0, none⟩ (.int .i64 ((m : Int) + 1))) ∧ KpL T x.es V (VY.setCell ⟨b14, 0, none⟩ (.int .i64 ((m : Int) + 1))) ∧ ∃ m2 y2, WS C (VY.setCell ⟨b14, 0, none⟩ (.int .i64 ((m : Int) + 1))) y2 m2 (xs1.length + min m2 ss.length) b20 b17 (.slice (some ⟨g1, 0, none⟩) L1.length r1) (.slice (some ⟨g2, 0, none⟩) L1.length r2) L1 (pre ++ [(x1, x2)]).length x.es [D0] ∧ pre ++ [(x1, x2)] <+: L1 ∧ m2 ≤ 16777216 + (pre ++ [(x1, x2)]).length)) := Lib.hid fun VY y N k1 k2 h hN => by
              have hb14 : Boxed VY b14 3 (.int .i64 m) := by have := h.iw.b14; subst hC; exact this
              refine ⟨hb14.cell, hb14.frozen, Lib.hid ⟨((hko2.out.trans k1).trans (KeepsOthers.setCell _ _ _)).from _, KpL.trans (KpL.trans hkp2.out k2) (by subst hC; exact kpl_setI h hb14), m + 1, y, ?_, hpz.out, by rw [List.length_append, List.length_singleton]; have := hm.out; omega⟩⟩
              have := (h.more hN).setAt (m + 1)
              rw [List.length_append]
              subst hC
              exact this
            by_cases hml : m < ss.length
            · obtain ⟨bs, off, rfl, q0, q1, q2, q3, q4⟩ := hx.out.cells m hml
              have hcb : Below w.heap.size w VX := by have := hS2.out.iw.bel; subst hC; exact this
              replace q0 := (hcb.cell (cell_lt q0)).trans q0
              replace q1 := (hcb.cell (cell_lt q1)).trans q1
              replace q2 := (hcb.cell (cell_lt q2)).trans q2
              replace q3 := (hcb.cell (cell_lt q3)).trans q3
              replace q4 := (hcb.cell (cell_lt q4)).trans q4
              obtain ⟨sK, hsK⟩ : ∃ k, ss[m].K = k := ⟨_, rfl⟩
              obtain ⟨sOn, hsOn⟩ : ∃ k, ss[m].On = k := ⟨_, rfl⟩
              obtain ⟨sk, hsk⟩ : ∃ k, ss[m].key = k := ⟨_, rfl⟩
              obtain ⟨sv, hsv⟩ : ∃ k, ss[m].value = k := ⟨_, rfl⟩
              obtain ⟨sl, hsl⟩ : ∃ k, ss[m].leave = k := ⟨_, rfl⟩
              rw [hsK] at q0
              rw [hsOn] at q1
              rw [hsk] at q2
              rw [hsv] at q3
              rw [hsl] at q4
              clear hsK hsOn hsk hsv hsl hcb
              have hltb : decide ((m : Int) < (ss.length : Int)) = true := decide_eq_true (by omega)
              have hltn : decide (m < ss.length) = true := decide_eq_true hml
              by_cases hK8 : sK = 8
              · have hne : (sK != 8) = false := by simp [hK8]
                replace hK8 := Lib.hid hK8
                refine wpIn_region_quiet_round (by kernel_rfl) (by kernel_rfl) (by kernel_rfl) ?_
                repeat (first | go_big_quiet_step (fail) | quiet_step (fail))
                refine wpQuiet_nil ?_
                rintro _ ⟨nq, rfl⟩
                have hdr : Below VX.heap.size VX (VX.drewN nq) := below_drewN (Below.refl _ _) _
                have hS3 := hS2.out.below hdr
                obtain ⟨c14', f14', hE⟩ := hend.out (VX.drewN nq) y _ (ko_gr hdr) (by subst hC; exact kpl_bel hS2.out hdr) hS3 (by omega)
                clear c14 c5
                gi_wp2
                exact hE.out
              · have hne : (sK != 8) = true := by simp [hK8]
                have hdr : Below VX.heap.size VX VX.drew := below_drewN (Below.refl _ _) 1
                have hSd := hS2.out.below hdr
                have hcall : Hid (Calls Try.prog 30 #[.pointer (some ⟨Bw, 0, none⟩), .agg #[.int .i64 sK, .int .i64 sOn, .int .i64 sk, .int .i64 sv, .int .i64 sl]] VX.drew fun e w' => e = .returned (.bool true) ∧
                    ∃ y2, Hid (WS C w' y2 m (xs1.length + min m ss.length + 1) b20 b17 (.slice (some ⟨g1, 0, none⟩) L1.length r1) (.slice (some ⟨g2, 0, none⟩) L1.length r2) L1 (pre.length + 1) x.es [D0]) ∧ Hid (KeepsOthers VX w') ∧ Hid (KpL T x.es VX w')) := Lib.hid (by
                  have hT := hSd.iw.xT
                  have hR := hSd.iw.xR
                  subst hC
                  refine (st_small hSd.iw.jt (by omega) hSd.iw.hB sK sOn sk sv sl hK8 (by
                    rcases (show sOn % 2 = 0 ∨ sOn % 2 = 1 by omega) with h | h
                    · exact .inl ⟨h, hT, hR⟩
                    · exact .inr ⟨h, hT, hR⟩)).mono ?_
                  rintro e w' ⟨rfl, y2, hp⟩
                  exact ⟨rfl, y2, Lib.hid (hSd.step hp), Lib.hid ((ko_gr hdr).trans hp.ko), Lib.hid (KpL.trans (kpl_bel hS2.out hdr) (kpl_step hSd hp))⟩)
                have c13 : VX.cell? ⟨b13, 0, none⟩ = some (.pointer (some ⟨Bw, 0, none⟩)) := by have := hS2.out.iw.b13.cell; subst hC; exact this
                replace hK8 := Lib.hid hK8
                clear hdr hSd
                refine region_still_round 18 (by kernel_rfl) (by kernel_rfl) (by kernel_rfl) ?_
                simp only [List.take_succ_cons, List.take_zero, List.drop_succ_cons, List.drop_zero]
                repeat still_step
                refine wpStill_nil ?_
                go_wp2_with (go_at_call 30; with_reducible refine hcall.out.mono ?_; rintro e w4 ⟨rfl, y2, hS4, hko4, hkp4⟩)
                refine NP.normal ?_
                obtain ⟨c14', f14', hE⟩ := hend.out w4 y2 _ hko4.out hkp4.out hS4.out (by omega)
                clear c14 c5 c13 q0 q1 q2 q3 q4
                gi_wp2
                exact hE.out
            · have hltb : decide ((m : Int) < (ss.length : Int)) = false := decide_eq_false (by omega)
              have hltn : decide (m < ss.length) = false := decide_eq_false hml
              replace hml := Lib.hid hml
              refine wpIn_region_quiet_round (by kernel_rfl) (by kernel_rfl) (by kernel_rfl) ?_
              repeat (first | go_big_quiet_step (fail) | quiet_step (fail))
              refine wpQuiet_nil ?_
              rintro _ ⟨nq, rfl⟩
              have hdr : Below VX.heap.size VX (VX.drewN nq) := below_drewN (Below.refl _ _) _
              have hS3 := hS2.out.below hdr
              obtain ⟨c14', f14', hE⟩ := hend.out (VX.drewN nq) y _ (ko_gr hdr) (by subst hC; exact kpl_bel hS2.out hdr) hS3 (by omega)
              clear c14 c5
              gi_wp2
              exact hE.out
          · have n2 : (x2 != y2) = true := by simp [h2]
            have hxk : Hid (¬ pre ++ [(x1, x2)] <+: L1) := Lib.hid (fun h => by have := hpx.out h; injection this with _ e; exact h2 e)
            clear h1 h2 fn
            gi_wp2
            exact ⟨(KeepsOthers.setCell V _ _).from _, rfl, hxk.out⟩
        · have n1 : (x1 != y1) = true := by simp [h1]
          have hxk : Hid (¬ pre ++ [(x1, x2)] <+: L1) := Lib.hid (fun h => by have := hpx.out h; injection this with e _; exact h1 e)
          clear h1 fn
          gi_wp2
          exact ⟨(KeepsOthers.setCell V _ _).from _, rfl, hxk.out⟩
      case stop1 =>
        rintro D c pre V hDl hsp ⟨rfl, hno⟩ hD
        exact absurd hsp hno
      case done1 =>
      rintro D1 pre V hDl1 hxs ⟨m, x, hS, hpre, hm⟩ hD1
      subst hxs
      rw [htm]
      replace hS := Lib.hid hS
      have cn := hS.out.rw.h17.cell
      have c160 : V.cell? ⟨b20, 0, none⟩ = some (.slice p1 pre.length r1) := cell_of_row _ _ _ _ _ _ hS.out.rw.h16
      have hne : ((pre.length : Int) != (pre.length : Int)) = false := by simp
      have hpr := Lib.hid (jt_pairs hS.out.iw.jt (by omega))
      have hxR := Lib.hid (show x.Rt = Rt by have := hS.out.iw.xR; subst hC; exact this)
      rw [hxR.out] at hpr
      obtain ⟨L2, hL2⟩ : ∃ L, allL x.es = L := ⟨_, rfl⟩
      rw [hL2] at hpr
      have hL2b : L2.length ≤ 8388608 := by rw [← hL2, allL_length]; exact (hS.out.iw.jt.w8 (by omega)).2.2.2
      replace hL2 := Lib.hid hL2
      clear hxR hpre hst hTl
      have hDD1 : Hid (D0 < D1) := Lib.hid (Nat.lt_of_lt_of_le (Array.getElem?_eq_some_iff.1 (hS1.out.md D0 (by simp))).1 hDl1)
      clear hS1
      go_wp2_with fail
      rw [rounds_succ]
      go_wp2_with fail
      with_reducible refine hpr.out.mono ?_
      rintro e wp ⟨v1, v2, rfl, o1, o2, hbp⟩
      clear hpr cn c160 hne
      have hmn : m ≤ 33554432 := by omega
      replace hm := hmn
      clear hmn
      obtain ⟨u1, d1, rfl, -⟩ := own_sliceI o1
      obtain ⟨u2, d2, rfl, -⟩ := own_sliceI o2
      have hS2 : Hid (WS C ((wp.alloc (.cells #[.slice u1 L2.length d1, .slice u2 L2.length d2] 75)).alloc (.cells #[.int .i64 0] 3)) x m (xs1.length + min m ss.length) wp.heap.size (wp.heap.size + 1) (.slice u1 L2.length d1) (.slice u2 L2.length d2) L2 0 [] [D1, D0]) := Lib.hid (ws_start hS.out.iw hbp o1 o2 (fun e he => by cases he) (fun D hD => by
        rcases List.mem_cons.1 hD with rfl | hD
        · exact hD1
        · exact hS.out.md D hD))
      obtain ⟨b16, hb16⟩ : ∃ b, wp.heap.size = b := ⟨_, rfl⟩
      rw [hb16] at hS2
      clear o1 o2 hbp hS hD1 hDl1
      go_wp2_with fail
      clear hb16
      generalize (wp.alloc (.cells #[.slice u1 L2.length d1, .slice u2 L2.length d2] 75)).alloc (.cells #[.int .i64 0] 3) = V2 at hS2 ⊢
      obtain ⟨b17, hb17⟩ : ∃ b, b16 + 1 = b := ⟨_, rfl⟩
      rw [hb17] at hS2 ⊢
      clear hb17
      have hst : Hid (SeqStopsK Fence.wide 8 Try.prog 52 #[.pointer (some ⟨BA, 0, none⟩)] (fun x : Int × Int => #[.int .i64 x.1, .int .i64 x.2]) KpA (fun xs => xs = L2) (fun pre => pre <+: L2) L2.length V2) := Lib.hid (by
        have h8 := hS2.out.iw.jt.w8 (by omega)
        have hA := hS2.out.iw.bA
        have hT := hS2.out.iw.xT
        subst hC
        have := all_stops 8 V2 hS2.out.iw.jt.ts.tab (by omega) BA hA.lt (by rw [show x.T = T from hT]; exact hA.cell)
        rw [hL2.out] at this
        exact this)
      -- range 2
      refine name_frame ?_
      intro tm htm
      refine range_wide (P := Try.prog) (tm := tm) (ds := _) (gf := 52) (lb := #[.pointer (some ⟨BA, 0, none⟩)]) (by rw [htm]; rfl) (enters_of Try.func52 (by kernel_rfl) rfl)
        hst.out KpA.trans (fun W l o o' _ h hc _ => KpA.put W l o o' h hc) (fun _ => rfl)
        (fun pre W => ∃ m y, WS C W y m (xs1.length + min m ss.length) b16 b17 (.slice u1 L2.length d1) (.slice u2 L2.length d2) L2 pre.length [] [D1, D0] ∧ pre <+: L2 ∧ m ≤ 33554432 + pre.length)
        (fun c pre W => c = .ret ∧ ¬ pre <+: L2)
        (fun pre W1 W2 row hs hg hr => by
          obtain ⟨m, y, h1, h2⟩ := hs
          exact ⟨m, y, h1.own (fun D hD => (Array.getElem?_eq_some_iff.1 (hS2.out.md D hD)).1) (by have := hS2.out.iw.bel.size; subst hC; exact this) hg hr, h2⟩)
        (fun c pre W1 W2 row hs hg hr => hs)
        ⟨m, x, hS2.out, List.nil_prefix, by simp; exact hm⟩
        (fun _ _ _ => True) (fun _ _ _ _ _ _ _ _ _ => trivial)
        (fun x _ tm => ((((tm.setIfInBounds 84 (.int .i64 x.1)).setIfInBounds 85 (.int .i64 x.2)).setIfInBounds 18 (.int .i64 x.1)).setIfInBounds 19 (.int .i64 x.2)))
        ?assign2 ?body2 ?done2 ?stop2
      case assign2 =>
        rintro l pre x V K hi hK
        rw [htm] at hK ⊢
        gi_wp2
        exact hK 0 V ((KeepsOthers.refl V).from _) (KpA.refl _) hi trivial
      case body2 =>
        as_aux_lemma =>
        rintro l pre z b V hlo hr ⟨m, y, hS, hpre, hm⟩ _ hlt
        rw [htm]
        obtain ⟨g1, f1, he1, -⟩ := own_shape hS.rw.o1 (by omega)
        obtain ⟨g2, f2, he2, -⟩ := own_shape hS.rw.o2 (by omega)
        injection he1 with he1 _ hf1
        injection he2 with he2 _ hf2
        subst he1 hf1 he2 hf2
        obtain ⟨kv, hkv⟩ : ∃ kv, L2[pre.length] = kv := ⟨_, rfl⟩
        have k1 : V.cell? ⟨g1, pre.length, none⟩ = some (.int .i64 kv.1) := by
          have := hS.rw.o1.cells (g := g1) rfl pre.length (Value.int .i64 kv.1) (by simp [hlt, hkv])
          simpa [addr_add] using this
        have k2 : V.cell? ⟨g2, pre.length, none⟩ = some (.int .i64 kv.2) := by
          have := hS.rw.o2.cells (g := g2) rfl pre.length (Value.int .i64 kv.2) (by simp [hlt, hkv])
          simpa [addr_add] using this
        have c160 : V.cell? ⟨b16, 0, none⟩ = some (.slice (some ⟨g1, 0, none⟩) L2.length d1) := cell_of_row _ _ _ _ _ _ hS.rw.h16
        have c161 : V.cell? ⟨b16, 1, none⟩ = some (.slice (some ⟨g2, 0, none⟩) L2.length d2) := cell_of_row _ _ _ _ _ _ hS.rw.h16
        have cn := hS.rw.h17.cell
        have fn := hS.rw.h17.frozen
        have cR : V.cell? ⟨b6, 0, none⟩ = some (.bool false) := by rw [← hb56.out.2]; subst hC; exact hS.iw.b6.cell
        have fR : V.frozen? ⟨b6, 0, none⟩ = false := by rw [← hb56.out.2]; subst hC; exact hS.iw.b6.frozen
        have hge : decide ((L2.length : Int) ≤ (pre.length : Int)) = false := decide_eq_false (by omega)
        have hpb : pre.length < 16777216 := by omega
        have hwn : IntKind.i64.wrap ((pre.length : Int) + 1) = (pre.length : Int) + 1 := IntWalk.i64_in _ (by omega)
        have ecast : (((pre.length + 1 : Nat)) : Int) = (pre.length : Int) + 1 := by omega
        have hS2 := hS.setN (pre.length + 1)
        rw [ecast] at hS2
        have hko2 : Hid (KeepsOthers V (V.setCell ⟨b17, 0, none⟩ (.int .i64 ((pre.length : Int) + 1)))) := Lib.hid (KeepsOthers.setCell _ _ _)
        have hkp2 : Hid (KpA V (V.setCell ⟨b17, 0, none⟩ (.int .i64 ((pre.length : Int) + 1)))) := Lib.hid (by skip; exact kpa_setI hS.rw.h17)
        replace hS2 := Lib.hid hS2
        obtain ⟨x1, x2⟩ := z
        have hpx : pre ++ [(x1, x2)] <+: L2 → (x1, x2) = kv := fun h => by
          obtain ⟨t, ht⟩ := h
          rw [← hkv]
          simp [← ht]
        have hpk : pre ++ [kv] <+: L2 := by
          obtain ⟨t, ht⟩ := hpre
          cases t with
          | nil => simp at ht; subst ht; omega
          | cons y t =>
            have : y = kv := by rw [← hkv]; simp [← ht]
            exact ⟨t, by rw [← this, ← ht]; simp⟩
        obtain ⟨y1, y2⟩ := kv
        dsimp only at *
        replace hpx := Lib.hid hpx
        replace hpk := Lib.hid hpk
        replace hm := Lib.hid hm
        have hmb : m < 134217728 := by have := hm.out; omega
        clear hkv hS
        simp only [List.setIfInBounds_toArray, List.set_cons_succ, List.set_cons_zero]
        by_cases h1 : x1 = y1
        · have n1 : (x1 != y1) = false := by simp [h1]
          by_cases h2 : x2 = y2
          · have n2 : (x2 != y2) = false := by simp [h2]
            have hpz : Hid (pre ++ [(x1, x2)] <+: L2) := Lib.hid (by rw [h1, h2]; exact hpk.out)
            clear h1 h2 cR fR hpx hpk
            gi_wp2
            clear c160 c161 cn fn k1 k2 hge hwn n1 n2
            generalize V.setCell ⟨b17, 0, none⟩ (.int .i64 ((pre.length : Int) + 1)) = VX at hS2 hko2 hkp2 ⊢
            have hwm : IntKind.i64.wrap ((m : Int) + 1) = (m : Int) + 1 := IntWalk.i64_in _ (by omega)
            have c14 : VX.cell? ⟨b14, 0, none⟩ = some (.int .i64 m) := by have := hS2.out.iw.b14.cell; subst hC; exact this
            have c5 : VX.cell? ⟨b5, 0, none⟩ = some (.slice a ss.length cap) := by have := hS2.out.iw.b5.cell; rw [← hb56.out.1]; subst hC; exact this
            have hend : Hid (∀ VY y N, KeepsOthers VX VY → KpA VX VY → WS C VY y m N b16 b17 (.slice (some ⟨g1, 0, none⟩) L2.length d1) (.slice (some ⟨g2, 0, none⟩) L2.length d2) L2 (pre.length + 1) [] [D1, D0] → N ≤ xs1.length + min (m + 1) ss.length →
                VY.cell? ⟨b14, 0, none⟩ = some (.int .i64 m) ∧ VY.frozen? ⟨b14, 0, none⟩ = false ∧ Hid (KeepsFrom V2.heap.size V (VY.setCell ⟨b14, 0, none⟩ (.int .i64 ((m : Int) + 1))) ∧ KpA V (VY.setCell ⟨b14, 0, none⟩ (.int .i64 ((m : Int) + 1))) ∧ ∃ m2 y2, WS C (VY.setCell ⟨b14, 0, none⟩ (.int .i64 ((m : Int) + 1))) y2 m2 (xs1.length + min m2 ss.length) b16 b17 (.slice (some ⟨g1, 0, none⟩) L2.length d1) (.slice (some ⟨g2, 0, none⟩) L2.length d2) L2 (pre ++ [(x1, x2)]).length [] [D1, D0] ∧ pre ++ [(x1, x2)] <+: L2 ∧ m2 ≤ 33554432 + (pre ++ [(x1, x2)]).length)) := Lib.hid fun VY y N k1 k2 h hN => by
              have hb14 : Boxed VY b14 3 (.int .i64 m) := by have := h.iw.b14; subst hC; exact this
              refine ⟨hb14.cell, hb14.frozen, Lib.hid ⟨((hko2.out.trans k1).trans (KeepsOthers.setCell _ _ _)).from _, KpA.trans (KpA.trans hkp2.out k2) (by skip; exact kpa_setI hb14), m + 1, y, ?_, hpz.out, by rw [List.length_append, List.length_singleton]; have := hm.out; omega⟩⟩
              have := (h.more hN).setAt (m + 1)
              rw [List.length_append]
              subst hC
              exact this
            by_cases hml : m < ss.length
            · obtain ⟨bs, off, rfl, q0, q1, q2, q3, q4⟩ := hx.out.cells m hml
              have hcb : Below w.heap.size w VX := by have := hS2.out.iw.bel; subst hC; exact this
              replace q0 := (hcb.cell (cell_lt q0)).trans q0
              replace q1 := (hcb.cell (cell_lt q1)).trans q1
              replace q2 := (hcb.cell (cell_lt q2)).trans q2
              replace q3 := (hcb.cell (cell_lt q3)).trans q3
              replace q4 := (hcb.cell (cell_lt q4)).trans q4
              obtain ⟨sK, hsK⟩ : ∃ k, ss[m].K = k := ⟨_, rfl⟩
              obtain ⟨sOn, hsOn⟩ : ∃ k, ss[m].On = k := ⟨_, rfl⟩
              obtain ⟨sk, hsk⟩ : ∃ k, ss[m].key = k := ⟨_, rfl⟩
              obtain ⟨sv, hsv⟩ : ∃ k, ss[m].value = k := ⟨_, rfl⟩
              obtain ⟨sl, hsl⟩ : ∃ k, ss[m].leave = k := ⟨_, rfl⟩
              rw [hsK] at q0
              rw [hsOn] at q1
              rw [hsk] at q2
              rw [hsv] at q3
              rw [hsl] at q4
              clear hsK hsOn hsk hsv hsl hcb
              have hltb : decide ((m : Int) < (ss.length : Int)) = true := decide_eq_true (by omega)
              have hltn : decide (m < ss.length) = true := decide_eq_true hml
              by_cases hK8 : sK = 8
              · have hne : (sK != 8) = false := by simp [hK8]
                replace hK8 := Lib.hid hK8
                refine wpIn_region_quiet_round (by kernel_rfl) (by kernel_rfl) (by kernel_rfl) ?_
                repeat (first | go_big_quiet_step (fail) | quiet_step (fail))
                refine wpQuiet_nil ?_
                rintro _ ⟨nq, rfl⟩
                have hdr : Below VX.heap.size VX (VX.drewN nq) := below_drewN (Below.refl _ _) _
                have hS3 := hS2.out.below hdr
                obtain ⟨c14', f14', hE⟩ := hend.out (VX.drewN nq) y _ (ko_gr hdr) (KpA.below hdr) hS3 (by omega)
                clear c14 c5
                gi_wp2
                exact hE.out
              · have hne : (sK != 8) = true := by simp [hK8]
                have hdr : Below VX.heap.size VX VX.drew := below_drewN (Below.refl _ _) 1
                have hSd := hS2.out.below hdr
                have hcall : Hid (Calls Try.prog 30 #[.pointer (some ⟨Bw, 0, none⟩), .agg #[.int .i64 sK, .int .i64 sOn, .int .i64 sk, .int .i64 sv, .int .i64 sl]] VX.drew fun e w' => e = .returned (.bool true) ∧
                    ∃ y2, Hid (WS C w' y2 m (xs1.length + min m ss.length + 1) b16 b17 (.slice (some ⟨g1, 0, none⟩) L2.length d1) (.slice (some ⟨g2, 0, none⟩) L2.length d2) L2 (pre.length + 1) [] [D1, D0]) ∧ Hid (KeepsOthers VX w') ∧ Hid (KpA VX w')) := Lib.hid (by
                  have hT := hSd.iw.xT
                  have hR := hSd.iw.xR
                  subst hC
                  refine (st_small hSd.iw.jt (by omega) hSd.iw.hB sK sOn sk sv sl hK8 (by
                    rcases (show sOn % 2 = 0 ∨ sOn % 2 = 1 by omega) with h | h
                    · exact .inl ⟨h, hT, hR⟩
                    · exact .inr ⟨h, hT, hR⟩)).mono ?_
                  rintro e w' ⟨rfl, y2, hp⟩
                  exact ⟨rfl, y2, Lib.hid (hSd.step hp), Lib.hid ((ko_gr hdr).trans hp.ko), Lib.hid ((KpA.below hdr).trans hp.kpa)⟩)
                have c13 : VX.cell? ⟨b13, 0, none⟩ = some (.pointer (some ⟨Bw, 0, none⟩)) := by have := hS2.out.iw.b13.cell; subst hC; exact this
                replace hK8 := Lib.hid hK8
                clear hdr hSd
                refine region_still_round 18 (by kernel_rfl) (by kernel_rfl) (by kernel_rfl) ?_
                simp only [List.take_succ_cons, List.take_zero, List.drop_succ_cons, List.drop_zero]
                repeat still_step
                refine wpStill_nil ?_
                go_wp2_with (go_at_call 30; with_reducible refine hcall.out.mono ?_; rintro e w4 ⟨rfl, y2, hS4, hko4, hkp4⟩)
                refine NP.normal ?_
                obtain ⟨c14', f14', hE⟩ := hend.out w4 y2 _ hko4.out hkp4.out hS4.out (by omega)
                clear c14 c5 c13 q0 q1 q2 q3 q4
                gi_wp2
                exact hE.out
            · have hltb : decide ((m : Int) < (ss.length : Int)) = false := decide_eq_false (by omega)
              have hltn : decide (m < ss.length) = false := decide_eq_false hml
              replace hml := Lib.hid hml
              refine wpIn_region_quiet_round (by kernel_rfl) (by kernel_rfl) (by kernel_rfl) ?_
              repeat (first | go_big_quiet_step (fail) | quiet_step (fail))
              refine wpQuiet_nil ?_
              rintro _ ⟨nq, rfl⟩
              have hdr : Below VX.heap.size VX (VX.drewN nq) := below_drewN (Below.refl _ _) _
              have hS3 := hS2.out.below hdr
              obtain ⟨c14', f14', hE⟩ := hend.out (VX.drewN nq) y _ (ko_gr hdr) (KpA.below hdr) hS3 (by omega)
              clear c14 c5
              gi_wp2
              exact hE.out
          · have n2 : (x2 != y2) = true := by simp [h2]
            have hxk : Hid (¬ pre ++ [(x1, x2)] <+: L2) := Lib.hid (fun h => by have := hpx.out h; injection this with _ e; exact h2 e)
            clear h1 h2 fn
            gi_wp2
            exact ⟨(KeepsOthers.setCell V _ _).from _, rfl, hxk.out⟩
        · have n1 : (x1 != y1) = true := by simp [h1]
          have hxk : Hid (¬ pre ++ [(x1, x2)] <+: L2) := Lib.hid (fun h => by have := hpx.out h; injection this with e _; exact h1 e)
          clear h1 fn
          gi_wp2
          exact ⟨(KeepsOthers.setCell V _ _).from _, rfl, hxk.out⟩
      case stop2 =>
        rintro D c pre V hDl hsp ⟨rfl, hno⟩ hD
        exact absurd hsp hno
      case done2 =>
      rintro D2 pre V hDl2 hxs ⟨m, x, hS, hpre, hm⟩ hD2
      subst hxs
      rw [htm]
      replace hS := Lib.hid hS
      have cn := hS.out.rw.h17.cell
      have c160 : V.cell? ⟨b16, 0, none⟩ = some (.slice u1 pre.length d1) := cell_of_row _ _ _ _ _ _ hS.out.rw.h16
      have hne : ((pre.length : Int) != (pre.length : Int)) = false := by simp
      have hpr := Lib.hid (jt_laid hS.out.iw.jt (by omega))
      have hxR := Lib.hid (show x.Rt = Rt by have := hS.out.iw.xR; subst hC; exact this)
      rw [hxR.out] at hpr
      obtain ⟨L3, hL3⟩ : ∃ L, layL x.es x.pl x.sz = L := ⟨_, rfl⟩
      rw [hL3] at hpr
      have hL3b : L3.length ≤ 16777216 := by rw [← hL3]; have := layL_length x.es x.pl x.sz; have := (hS.out.iw.jt.w8 (by omega)).2.1; omega
      replace hL3 := Lib.hid hL3
      clear hxR hpre hst
      have hDD2 : Hid (D0 < D2 ∧ D1 < D2) := Lib.hid ⟨Nat.lt_of_lt_of_le (Array.getElem?_eq_some_iff.1 (hS2.out.md D0 (by simp))).1 hDl2, Nat.lt_of_lt_of_le (Array.getElem?_eq_some_iff.1 (hS2.out.md D1 (by simp))).1 hDl2⟩
      clear hS2
      go_wp2_with fail
      with_reducible refine hpr.out.mono ?_
      rintro e wp ⟨v1, v2, rfl, o1, o2, hbp⟩
      clear hpr cn c160 hne
      have hmn : m ≤ 50331648 := by omega
      replace hm := hmn
      clear hmn
      obtain ⟨p1, r1, rfl, -⟩ := own_sliceI o1
      obtain ⟨p2, r2, rfl, -⟩ := own_sliceI o2
      have hS3 : Hid (WS C ((wp.alloc (.cells #[.slice p1 L3.length r1, .slice p2 L3.length r2] 75)).setCell ⟨b17, 0, none⟩ (.int .i64 0)) x m (xs1.length + min m ss.length) wp.heap.size b17 (.slice p1 L3.length r1) (.slice p2 L3.length r2) L3 0 x.es [D2, D1, D0]) := Lib.hid (ws_next hS.out.iw hS.out.rw.h17 hS.out.rw.lt hbp o1 o2 (fun e he => by
        obtain ⟨i, hi, rfl⟩ := List.getElem_of_mem he
        exact ⟨_, _, hS.out.iw.jt.ts.tab.hE i hi⟩) (fun D hD => by
        rcases List.mem_cons.1 hD with rfl | hD
        · exact hD2
        · exact hS.out.md D hD))
      have bnp := (bx_below hS.out.rw.h17 hbp).alloc (.cells #[.slice p1 L3.length r1, .slice p2 L3.length r2] 75)
      have cna := bnp.cell
      have fna := bnp.frozen
      obtain ⟨b20, hb20⟩ : ∃ b, wp.heap.size = b := ⟨_, rfl⟩
      rw [hb20] at hS3
      clear o1 o2 hbp bnp hS hD2 hDl2
      go_wp2_with fail
      clear hb20 cna fna
      generalize (wp.alloc (.cells #[.slice p1 L3.length r1, .slice p2 L3.length r2] 75)).setCell ⟨b17, 0, none⟩ (.int .i64 0) = V3 at hS3 ⊢
      have hst : Hid (SeqStopsK Fence.wide 8 Try.prog 51 #[.pointer (some ⟨BL, 0, none⟩)] (fun x : Int × Int => #[.int .i64 x.1, .int .i64 x.2]) (KpL T x.es) (fun xs => xs = L3) (fun pre => pre <+: L3) L3.length V3) := Lib.hid (by
        have h8 := hS3.out.iw.jt.w8 (by omega)
        have hA := hS3.out.iw.bL
        have hT := hS3.out.iw.xT
        subst hC
        have := lay_stops 8 V3 hS3.out.iw.jt.ts.tab (by omega) BL hA.lt (by rw [show x.T = T from hT]; exact hA.cell)
        rw [hL3.out, show x.T = T from hT] at this
        exact this)
      have hTl : T < V3.heap.size := by
        have h1 := (Array.getElem?_eq_some_iff.1 hS3.out.iw.jt.ts.tab.hT).1
        have hT := hS3.out.iw.xT
        subst hC
        rw [show x.T = T from hT] at h1
        exact h1
      -- range 3
      refine name_frame ?_
      intro tm htm
      refine range_wide (P := Try.prog) (tm := tm) (ds := _) (gf := 51) (lb := #[.pointer (some ⟨BL, 0, none⟩)]) (by rw [htm]; rfl) (enters_of Try.func51 (by kernel_rfl) rfl)
        hst.out KpL.trans (fun W l o o' hl h hc _ => KpL.put (B0 := V3.heap.size) hTl W l o o' hl h hc) (fun _ => rfl)
        (fun pre W => ∃ m y, WS C W y m (xs1.length + min m ss.length) b20 b17 (.slice p1 L3.length r1) (.slice p2 L3.length r2) L3 pre.length x.es [D2, D1, D0] ∧ pre <+: L3 ∧ m ≤ 50331648 + pre.length)
        (fun c pre W => c = .ret ∧ ¬ pre <+: L3)
        (fun pre W1 W2 row hs hg hr => by
          obtain ⟨m, y, h1, h2⟩ := hs
          exact ⟨m, y, h1.own (fun D hD => (Array.getElem?_eq_some_iff.1 (hS3.out.md D hD)).1) (by have := hS3.out.iw.bel.size; subst hC; exact this) hg hr, h2⟩)
        (fun c pre W1 W2 row hs hg hr => hs)
        ⟨m, x, hS3.out, List.nil_prefix, by simp; exact hm⟩
        (fun _ _ _ => True) (fun _ _ _ _ _ _ _ _ _ => trivial)
        (fun x _ tm => ((((tm.setIfInBounds 142 (.int .i64 x.1)).setIfInBounds 143 (.int .i64 x.2)).setIfInBounds 21 (.int .i64 x.1)).setIfInBounds 22 (.int .i64 x.2)))
        ?assign3 ?body3 ?done3 ?stop3
      case assign3 =>
        rintro l pre x V K hi hK
        rw [htm] at hK ⊢
        gi_wp2
        exact hK 0 V ((KeepsOthers.refl V).from _) (KpL.refl _ _ _) hi trivial
      case body3 =>
        as_aux_lemma =>
        rintro l pre z b V hlo hr ⟨m, y, hS, hpre, hm⟩ _ hlt
        rw [htm]
        obtain ⟨g1, f1, he1, -⟩ := own_shape hS.rw.o1 (by omega)
        obtain ⟨g2, f2, he2, -⟩ := own_shape hS.rw.o2 (by omega)
        injection he1 with he1 _ hf1
        injection he2 with he2 _ hf2
        subst he1 hf1 he2 hf2
        obtain ⟨kv, hkv⟩ : ∃ kv, L3[pre.length] = kv := ⟨_, rfl⟩
        have k1 : V.cell? ⟨g1, pre.length, none⟩ = some (.int .i64 kv.1) := by
          have := hS.rw.o1.cells (g := g1) rfl pre.length (Value.int .i64 kv.1) (by simp [hlt, hkv])
          simpa [addr_add] using this
        have k2 : V.cell? ⟨g2, pre.length, none⟩ = some (.int .i64 kv.2) := by
          have := hS.rw.o2.cells (g := g2) rfl pre.length (Value.int .i64 kv.2) (by simp [hlt, hkv])
          simpa [addr_add] using this
        have c160 : V.cell? ⟨b20, 0, none⟩ = some (.slice (some ⟨g1, 0, none⟩) L3.length r1) := cell_of_row _ _ _ _ _ _ hS.rw.h16
        have c161 : V.cell? ⟨b20, 1, none⟩ = some (.slice (some ⟨g2, 0, none⟩) L3.length r2) := cell_of_row _ _ _ _ _ _ hS.rw.h16
        have cn := hS.rw.h17.cell
        have fn := hS.rw.h17.frozen
        have cR : V.cell? ⟨b6, 0, none⟩ = some (.bool false) := by rw [← hb56.out.2]; subst hC; exact hS.iw.b6.cell
        have fR : V.frozen? ⟨b6, 0, none⟩ = false := by rw [← hb56.out.2]; subst hC; exact hS.iw.b6.frozen
        have hge : decide ((L3.length : Int) ≤ (pre.length : Int)) = false := decide_eq_false (by omega)
        have hpb : pre.length < 16777216 := by omega
        have hwn : IntKind.i64.wrap ((pre.length : Int) + 1) = (pre.length : Int) + 1 := IntWalk.i64_in _ (by omega)
        have ecast : (((pre.length + 1 : Nat)) : Int) = (pre.length : Int) + 1 := by omega
        have hS2 := hS.setN (pre.length + 1)
        rw [ecast] at hS2
        have hko2 : Hid (KeepsOthers V (V.setCell ⟨b17, 0, none⟩ (.int .i64 ((pre.length : Int) + 1)))) := Lib.hid (KeepsOthers.setCell _ _ _)
        have hkp2 : Hid (KpL T x.es V (V.setCell ⟨b17, 0, none⟩ (.int .i64 ((pre.length : Int) + 1)))) := Lib.hid (by subst hC; exact kpl_setI hS hS.rw.h17)
        replace hS2 := Lib.hid hS2
        obtain ⟨x1, x2⟩ := z
        have hpx : pre ++ [(x1, x2)] <+: L3 → (x1, x2) = kv := fun h => by
          obtain ⟨t, ht⟩ := h
          rw [← hkv]
          simp [← ht]
        have hpk : pre ++ [kv] <+: L3 := by
          obtain ⟨t, ht⟩ := hpre
          cases t with
          | nil => simp at ht; subst ht; omega
          | cons y t =>
            have : y = kv := by rw [← hkv]; simp [← ht]
            exact ⟨t, by rw [← this, ← ht]; simp⟩
        obtain ⟨y1, y2⟩ := kv
        dsimp only at *
        replace hpx := Lib.hid hpx
        replace hpk := Lib.hid hpk
        replace hm := Lib.hid hm
        have hmb : m < 134217728 := by have := hm.out; omega
        clear hkv hS
        simp only [List.setIfInBounds_toArray, List.set_cons_succ, List.set_cons_zero]
        by_cases h1 : x1 = y1
        · have n1 : (x1 != y1) = false := by simp [h1]
          by_cases h2 : x2 = y2
          · have n2 : (x2 != y2) = false := by simp [h2]
            have hpz : Hid (pre ++ [(x1, x2)] <+: L3) := Lib.hid (by rw [h1, h2]; exact hpk.out)
            clear h1 h2 cR fR hpx hpk
            gi_wp2
            clear c160 c161 cn fn k1 k2 hge hwn n1 n2
            generalize V.setCell ⟨b17, 0, none⟩ (.int .i64 ((pre.length : Int) + 1)) = VX at hS2 hko2 hkp2 ⊢
            have hwm : IntKind.i64.wrap ((m : Int) + 1) = (m : Int) + 1 := IntWalk.i64_in _ (by omega)
            have c14 : VX.cell? ⟨b14, 0, none⟩ = some (.int .i64 m) := by have := hS2.out.iw.b14.cell; subst hC; exact this
            have c5 : VX.cell? ⟨b5, 0, none⟩ = some (.slice a ss.length cap) := by have := hS2.out.iw.b5.cell; rw [← hb56.out.1]; subst hC; exact this
            have hend : Hid (∀ VY y N, KeepsOthers VX VY → KpL T x.es VX VY → WS C VY y m N b20 b17 (.slice (some ⟨g1, 0, none⟩) L3.length r1) (.slice (some ⟨g2, 0, none⟩) L3.length r2) L3 (pre.length + 1) x.es [D2, D1, D0] → N ≤ xs1.length + min (m + 1) ss.length →
                VY.cell? ⟨b14, 0, none⟩ = some (.int .i64 m) ∧ VY.frozen? ⟨b14, 0, none⟩ = false ∧ Hid (KeepsFrom V3.heap.size V (VY.setCell ⟨b14, 0, none⟩ (.int .i64 ((m : Int) + 1))) ∧ KpL T x.es V (VY.setCell ⟨b14, 0, none⟩ (.int .i64 ((m : Int) + 1))) ∧ ∃ m2 y2, WS C (VY.setCell ⟨b14, 0, none⟩ (.int .i64 ((m : Int) + 1))) y2 m2 (xs1.length + min m2 ss.length) b20 b17 (.slice (some ⟨g1, 0, none⟩) L3.length r1) (.slice (some ⟨g2, 0, none⟩) L3.length r2) L3 (pre ++ [(x1, x2)]).length x.es [D2, D1, D0] ∧ pre ++ [(x1, x2)] <+: L3 ∧ m2 ≤ 50331648 + (pre ++ [(x1, x2)]).length)) := Lib.hid fun VY y N k1 k2 h hN => by
              have hb14 : Boxed VY b14 3 (.int .i64 m) := by have := h.iw.b14; subst hC; exact this
              refine ⟨hb14.cell, hb14.frozen, Lib.hid ⟨((hko2.out.trans k1).trans (KeepsOthers.setCell _ _ _)).from _, KpL.trans (KpL.trans hkp2.out k2) (by subst hC; exact kpl_setI h hb14), m + 1, y, ?_, hpz.out, by rw [List.length_append, List.length_singleton]; have := hm.out; omega⟩⟩
              have := (h.more hN).setAt (m + 1)
              rw [List.length_append]
              subst hC
              exact this
            by_cases hml : m < ss.length
            · obtain ⟨bs, off, rfl, q0, q1, q2, q3, q4⟩ := hx.out.cells m hml
              have hcb : Below w.heap.size w VX := by have := hS2.out.iw.bel; subst hC; exact this
              replace q0 := (hcb.cell (cell_lt q0)).trans q0
              replace q1 := (hcb.cell (cell_lt q1)).trans q1
              replace q2 := (hcb.cell (cell_lt q2)).trans q2
              replace q3 := (hcb.cell (cell_lt q3)).trans q3
              replace q4 := (hcb.cell (cell_lt q4)).trans q4
              obtain ⟨sK, hsK⟩ : ∃ k, ss[m].K = k := ⟨_, rfl⟩
              obtain ⟨sOn, hsOn⟩ : ∃ k, ss[m].On = k := ⟨_, rfl⟩
              obtain ⟨sk, hsk⟩ : ∃ k, ss[m].key = k := ⟨_, rfl⟩
              obtain ⟨sv, hsv⟩ : ∃ k, ss[m].value = k := ⟨_, rfl⟩
              obtain ⟨sl, hsl⟩ : ∃ k, ss[m].leave = k := ⟨_, rfl⟩
              rw [hsK] at q0
              rw [hsOn] at q1
              rw [hsk] at q2
              rw [hsv] at q3
              rw [hsl] at q4
              clear hsK hsOn hsk hsv hsl hcb
              have hltb : decide ((m : Int) < (ss.length : Int)) = true := decide_eq_true (by omega)
              have hltn : decide (m < ss.length) = true := decide_eq_true hml
              by_cases hK8 : sK = 8
              · have hne : (sK != 8) = false := by simp [hK8]
                replace hK8 := Lib.hid hK8
                refine wpIn_region_quiet_round (by kernel_rfl) (by kernel_rfl) (by kernel_rfl) ?_
                repeat (first | go_big_quiet_step (fail) | quiet_step (fail))
                refine wpQuiet_nil ?_
                rintro _ ⟨nq, rfl⟩
                have hdr : Below VX.heap.size VX (VX.drewN nq) := below_drewN (Below.refl _ _) _
                have hS3 := hS2.out.below hdr
                obtain ⟨c14', f14', hE⟩ := hend.out (VX.drewN nq) y _ (ko_gr hdr) (by subst hC; exact kpl_bel hS2.out hdr) hS3 (by omega)
                clear c14 c5
                gi_wp2
                exact hE.out
              · have hne : (sK != 8) = true := by simp [hK8]
                have hdr : Below VX.heap.size VX VX.drew := below_drewN (Below.refl _ _) 1
                have hSd := hS2.out.below hdr
                have hcall : Hid (Calls Try.prog 30 #[.pointer (some ⟨Bw, 0, none⟩), .agg #[.int .i64 sK, .int .i64 sOn, .int .i64 sk, .int .i64 sv, .int .i64 sl]] VX.drew fun e w' => e = .returned (.bool true) ∧
                    ∃ y2, Hid (WS C w' y2 m (xs1.length + min m ss.length + 1) b20 b17 (.slice (some ⟨g1, 0, none⟩) L3.length r1) (.slice (some ⟨g2, 0, none⟩) L3.length r2) L3 (pre.length + 1) x.es [D2, D1, D0]) ∧ Hid (KeepsOthers VX w') ∧ Hid (KpL T x.es VX w')) := Lib.hid (by
                  have hT := hSd.iw.xT
                  have hR := hSd.iw.xR
                  subst hC
                  refine (st_small hSd.iw.jt (by omega) hSd.iw.hB sK sOn sk sv sl hK8 (by
                    rcases (show sOn % 2 = 0 ∨ sOn % 2 = 1 by omega) with h | h
                    · exact .inl ⟨h, hT, hR⟩
                    · exact .inr ⟨h, hT, hR⟩)).mono ?_
                  rintro e w' ⟨rfl, y2, hp⟩
                  exact ⟨rfl, y2, Lib.hid (hSd.step hp), Lib.hid ((ko_gr hdr).trans hp.ko), Lib.hid (KpL.trans (kpl_bel hS2.out hdr) (kpl_step hSd hp))⟩)
                have c13 : VX.cell? ⟨b13, 0, none⟩ = some (.pointer (some ⟨Bw, 0, none⟩)) := by have := hS2.out.iw.b13.cell; subst hC; exact this
                replace hK8 := Lib.hid hK8
                clear hdr hSd
                refine region_still_round 18 (by kernel_rfl) (by kernel_rfl) (by kernel_rfl) ?_
                simp only [List.take_succ_cons, List.take_zero, List.drop_succ_cons, List.drop_zero]
                repeat still_step
                refine wpStill_nil ?_
                go_wp2_with (go_at_call 30; with_reducible refine hcall.out.mono ?_; rintro e w4 ⟨rfl, y2, hS4, hko4, hkp4⟩)
                refine NP.normal ?_
                obtain ⟨c14', f14', hE⟩ := hend.out w4 y2 _ hko4.out hkp4.out hS4.out (by omega)
                clear c14 c5 c13 q0 q1 q2 q3 q4
                gi_wp2
                exact hE.out
            · have hltb : decide ((m : Int) < (ss.length : Int)) = false := decide_eq_false (by omega)
              have hltn : decide (m < ss.length) = false := decide_eq_false hml
              replace hml := Lib.hid hml
              refine wpIn_region_quiet_round (by kernel_rfl) (by kernel_rfl) (by kernel_rfl) ?_
              repeat (first | go_big_quiet_step (fail) | quiet_step (fail))
              refine wpQuiet_nil ?_
              rintro _ ⟨nq, rfl⟩
              have hdr : Below VX.heap.size VX (VX.drewN nq) := below_drewN (Below.refl _ _) _
              have hS3 := hS2.out.below hdr
              obtain ⟨c14', f14', hE⟩ := hend.out (VX.drewN nq) y _ (ko_gr hdr) (by subst hC; exact kpl_bel hS2.out hdr) hS3 (by omega)
              clear c14 c5
              gi_wp2
              exact hE.out
          · have n2 : (x2 != y2) = true := by simp [h2]
            have hxk : Hid (¬ pre ++ [(x1, x2)] <+: L3) := Lib.hid (fun h => by have := hpx.out h; injection this with _ e; exact h2 e)
            clear h1 h2 fn
            gi_wp2
            exact ⟨(KeepsOthers.setCell V _ _).from _, rfl, hxk.out⟩
        · have n1 : (x1 != y1) = true := by simp [h1]
          have hxk : Hid (¬ pre ++ [(x1, x2)] <+: L3) := Lib.hid (fun h => by have := hpx.out h; injection this with e _; exact h1 e)
          clear h1 fn
          gi_wp2
          exact ⟨(KeepsOthers.setCell V _ _).from _, rfl, hxk.out⟩
      case stop3 =>
        rintro D c pre V hDl hsp ⟨rfl, hno⟩ hD
        exact absurd hsp hno
      case done3 =>
      rintro D3 pre V hDl3 hxs ⟨m, x, hS, hpre, hm⟩ hD3
      subst hxs
      rw [htm]
      have cn := hS.rw.h17.cell
      have c160 : V.cell? ⟨b20, 0, none⟩ = some (.slice p1 pre.length r1) := cell_of_row _ _ _ _ _ _ hS.rw.h16
      have hne : ((pre.length : Int) != (pre.length : Int)) = false := by simp
      have m0 := hS.md D0 (by simp)
      have m1 := hS.md D1 (by simp)
      have m2 := hS.md D2 (by simp)
      have hDD3 : D0 < D3 ∧ D1 < D3 ∧ D2 < D3 := ⟨Nat.lt_of_lt_of_le (Array.getElem?_eq_some_iff.1 (hS3.out.md D0 (by simp))).1 hDl3, Nat.lt_of_lt_of_le (Array.getElem?_eq_some_iff.1 (hS3.out.md D1 (by simp))).1 hDl3, Nat.lt_of_lt_of_le (Array.getElem?_eq_some_iff.1 (hS3.out.md D2 (by simp))).1 hDl3⟩
      obtain ⟨e02, e12⟩ := hDD2.out
      have e01 := hDD1.out
      obtain ⟨e03, e13, e23⟩ := hDD3
      have ew := hD0w.out
      have bel := hS.iw.bel
      have b6b := hS.iw.b6
      subst hC
      replace bel : Below w.heap.size w V := bel
      replace b6b : Boxed V (w.heap.size + 1) 4 (.bool false) := b6b
      rw [hb56.out.2] at b6b
      have hb6w : w.heap.size ≤ b6 := by have := hb56.out.2; omega
      replace e01 := Lib.hid e01
      replace e02 := Lib.hid e02
      replace e12 := Lib.hid e12
      replace e03 := Lib.hid e03
      replace e13 := Lib.hid e13
      replace e23 := Lib.hid e23
      replace ew := Lib.hid ew
      replace hb6w := Lib.hid hb6w
      have hD3' : isDef V D3 := hD3
      clear hS hS3 hst hpre hTl hDD1 hDD2 hD0w hm hD3
      go_wp2_with fail
      rw [rounds_succ]
      go_wp2_with fail
      refine (ix_known V).mono ?_
      rintro e w9 ⟨rfl, hb9⟩
      have b9 := bx_below b6b hb9
      have bel9 := bel.trans (hb9.mono bel.size)
      have md : ∀ D, isDef V D → isDef w9 D := fun D h => (hb9.block _ (Array.getElem?_eq_some_iff.1 h).1).trans h
      replace m0 := md D0 m0
      replace m1 := md D1 m1
      replace m2 := md D2 m2
      have m3 := md D3 hD3'
      clear cn c160 hne b6b bel hb9 md hD3'
      have cR := b9.cell
      have fR := b9.frozen
      have h0 : Hid ((w9.setCell ⟨b6, 0, none⟩ (.bool true)).heap[D0]? = some (.deferred (some []))) := Lib.hid (set_def m0 b9)
      have h1 : Hid ((w9.setCell ⟨b6, 0, none⟩ (.bool true)).heap[D1]? = some (.deferred (some []))) := Lib.hid (set_def m1 b9)
      have h2 : Hid ((w9.setCell ⟨b6, 0, none⟩ (.bool true)).heap[D2]? = some (.deferred (some []))) := Lib.hid (set_def m2 b9)
      have h3 : Hid ((w9.setCell ⟨b6, 0, none⟩ (.bool true)).heap[D3]? = some (.deferred (some []))) := Lib.hid (set_def m3 b9)
      have b10 := Lib.hid (b9.set (.bool true))
      have bel10 : Hid (Below w.heap.size w (w9.setCell ⟨b6, 0, none⟩ (.bool true))) := Lib.hid (bel9.setCell (p := ⟨b6, 0, none⟩) hb6w.out _)
      clear m0 m1 m2 m3 b9 bel9
      go_wp2_with fail
      generalize w9.setCell ⟨b6, 0, none⟩ (.bool true) = w10 at h0 h1 h2 h3 b10 bel10 ⊢
      refine ⟨by simp, .inl ⟨D3, _, rfl, run_takeDeferred h3.out, ?_⟩⟩
      have i2 : (w10.putObj D3 (.deferred none)).heap[D2]? = some (.deferred (some [])) := by rw [World.putObj_heap_other (by have := e23.out; omega)]; exact h2.out
      have i1 : (w10.putObj D3 (.deferred none)).heap[D1]? = some (.deferred (some [])) := by rw [World.putObj_heap_other (by have := e13.out; omega)]; exact h1.out
      have i0 : (w10.putObj D3 (.deferred none)).heap[D0]? = some (.deferred (some [])) := by rw [World.putObj_heap_other (by have := e03.out; omega)]; exact h0.out
      have c3 := put_box (o := .deferred none) b10.out h3.out
      have k3 := bel10.out.trans (belowK_b (w := w) (Nat.le_refl _) w10 D3 _ (.deferred none) (by have := e03.out; have := ew.out; omega) h3.out rfl rfl)
      generalize w10.putObj D3 (.deferred none) = w11 at i0 i1 i2 c3 k3 ⊢
      refine ⟨by simp, .inl ⟨D2, _, rfl, run_takeDeferred i2, ?_⟩⟩
      have j1 : (w11.putObj D2 (.deferred none)).heap[D1]? = some (.deferred (some [])) := by rw [World.putObj_heap_other (by have := e12.out; omega)]; exact i1
      have j0 : (w11.putObj D2 (.deferred none)).heap[D0]? = some (.deferred (some [])) := by rw [World.putObj_heap_other (by have := e02.out; omega)]; exact i0
      have c2 := put_box (o := .deferred none) c3 i2
      have k2 := k3.trans (belowK_b (w := w) (Nat.le_refl _) w11 D2 _ (.deferred none) (by have := e02.out; have := ew.out; omega) i2 rfl rfl)
      generalize w11.putObj D2 (.deferred none) = w12 at j0 j1 c2 k2 ⊢
      refine ⟨by simp, .inl ⟨D1, _, rfl, run_takeDeferred j1, ?_⟩⟩
      have l0 : (w12.putObj D1 (.deferred none)).heap[D0]? = some (.deferred (some [])) := by rw [World.putObj_heap_other (by have := e01.out; omega)]; exact j0
      have c1 := put_box (o := .deferred none) c2 j1
      have k1 := k2.trans (belowK_b (w := w) (Nat.le_refl _) w12 D1 _ (.deferred none) (by have := e01.out; have := ew.out; omega) j1 rfl rfl)
      generalize w12.putObj D1 (.deferred none) = w13 at l0 c1 k1 ⊢
      refine ⟨by simp, .inl ⟨D0, _, rfl, run_takeDeferred l0, ?_⟩⟩
      have c0 := put_box (o := .deferred none) c1 l0
      have k0 := k1.trans (belowK_b (w := w) (Nat.le_refl _) w13 D0 _ (.deferred none) (by have := ew.out; omega) l0 rfl rfl)
      exact ⟨.bool true, results_bool rfl Try.underlying4 _ _ _ _ rfl c0.cell, rfl, k0⟩



end Go.Proofs.Ytjeeljolhcoeoaa
