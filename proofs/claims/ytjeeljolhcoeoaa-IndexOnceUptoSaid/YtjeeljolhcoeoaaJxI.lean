/- IndexOnce: the law walked. -/
import Derived.Test.YtjeeljolhcoeoaaJxH
import Derived.Test.YtjeeljolhcoeoaaIxH
import Derived.RangeFuncBox
import Derived.Maps.OwnIn
namespace Go.Proofs.Ytjeeljolhcoeoaa
open Go.RowKit Go.Shelf
attribute [local go_sem] Oper.semAt_some eql_fn_h eql_nn_h eql_fn_s eql_nn_s eql_fn_i eql_nn_i

theorem ko_below {A B : World} (h : Below A.heap.size A B) : KeepsOthers A B := ⟨h.size, fun j _ e _ => (h.block j (Array.getElem?_eq_some_iff.1 e).1).trans e⟩
/-- stops a fenced walk at a goal -/
theorem stopHere {p : Prop} (h : p ∧ True) : p := h.1
set_option maxRecDepth 100000 in
set_option maxHeartbeats 8000000 in
theorem law_IndexOnce (way : Int) (a1 a2 : Option Addr) (q1 q2 : Nat) (xs1 xs2 : List Int) (w : World) (hx1 : Ints .i64 w a1 xs1) (hx2 : Ints .i64 w a2 xs2) (hl1 : xs1.length ≤ 1048576) (hl2 : xs2.length ≤ 1048576) :
    Calls Try.prog 5 #[.int .i64 way, .slice a1 xs1.length q1, .slice a2 xs2.length q2] w fun e w' => e = .returned (.bool true) ∧ Below w.heap.size w w' := by
  refine callsIn_wide.1 (callsIn_of_wp_marks (n := 9) Try.func5 rfl trivial ?_ rfl)
  simp only [Try.ntmps5, List.size_toArray, List.length_cons, List.length_nil, Nat.reduceAdd, Nat.reduceSub, Array.replicate_succ, Array.replicate_zero, List.push_toArray, List.append_toArray, List.nil_append, List.cons_append]
  refine wpIn_wide.2 ?_
  have bR := Boxed.new w 4 (.bool false)
  have hb0 := (Below.refl w.heap.size w).al (.cells #[.bool false] 4)
  have hs0 := World.size_alloc w (.cells #[.bool false] 4)
  go_wp2_with fail
  generalize w.alloc (.cells #[.bool false] 4) = W0 at bR hb0 hs0 ⊢
  refine (ix_hashes way W0).mono ?_
  rintro e w1 ⟨rfl, hw1⟩
  rw [hs0]
  have bh : Boxed w1 (w.heap.size + 1) 3 (.int .i64 way) := by rw [hw1, ← hs0]; exact Boxed.new _ _ _
  have hb1 : Below W0.heap.size W0 w1 := by rw [hw1]; exact (Below.refl _ _).al _
  have hs1 : w1.heap.size = w.heap.size + 2 := by rw [hw1, World.size_alloc]; omega
  clear hw1
  go_wp2_with fail
  refine (ix_sames way w1).mono ?_
  rintro e w2 ⟨rfl, hw2⟩
  rw [hs1]
  have bs : Boxed w2 (w.heap.size + 2) 3 (.int .i64 way) := by rw [hw2, ← hs1]; exact Boxed.new _ _ _
  have hb2 : Below w1.heap.size w1 w2 := by rw [hw2]; exact (Below.refl _ _).al _
  have hs2 : w2.heap.size = w.heap.size + 3 := by rw [hw2, World.size_alloc]; omega
  clear hw2
  go_wp2_with fail
  refine (ix_new (bx_below bh hb2) bs).mono ?_
  rintro e w3 ⟨T, P, rfl, hT, hP, tt, hb3⟩
  rw [hs2] at hT hP
  have hb03 := Lib.hid ((hb0.trans (hb1.mono (by omega))).trans ((hb2.mono (by omega)).trans (hb3.mono (by omega))))
  replace bR := Lib.hid (bx_below (bx_below (bx_below bR hb1) hb2) hb3)
  have hs3 := Lib.hid hb3.size
  replace tt := Lib.hid tt
  clear bh bs hb0 hb1 hb2 hb3 hs0 hs1
  go_wp2_with fail
  refine (ix_hashes way w3).mono ?_
  rintro e w4 ⟨rfl, hw4⟩
  have bh : Boxed w4 w3.heap.size 3 (.int .i64 way) := by rw [hw4]; exact Boxed.new _ _ _
  have hb4 : Below w3.heap.size w3 w4 := by rw [hw4]; exact (Below.refl _ _).al _
  have hs4 : w4.heap.size = w3.heap.size + 1 := by rw [hw4, World.size_alloc]
  clear hw4
  go_wp2_with fail
  refine (ix_sames way w4).mono ?_
  rintro e w5 ⟨rfl, hw5⟩
  rw [hs4]
  have bs : Boxed w5 (w3.heap.size + 1) 3 (.int .i64 way) := by rw [hw5, ← hs4]; exact Boxed.new _ _ _
  have hb5 : Below w4.heap.size w4 w5 := by rw [hw5]; exact (Below.refl _ _).al _
  have hs5 : w5.heap.size = w3.heap.size + 2 := by rw [hw5, World.size_alloc]; omega
  clear hw5
  go_wp2_with fail
  refine (ix_new (bx_below bh hb5) bs).mono ?_
  rintro e w6 ⟨Tu, Pu, rfl, hTu, hPu, tu, hb6⟩
  rw [hs5] at hTu hPu
  have hb7 := (Below.refl w6.heap.size w6).alloc (Nat.le_refl _) (.cells #[.pointer (some ⟨Tu, 0, none⟩)] 43)
  have bU := Boxed.new w6 43 (.pointer (some ⟨Tu, 0, none⟩))
  have hs7 := World.size_alloc w6 (.cells #[.pointer (some ⟨Tu, 0, none⟩)] 43)
  go_wp2_with fail
  have hOA : Hid (OA w (w6.alloc (.cells #[.pointer (some ⟨Tu, 0, none⟩)] 43)) w.heap.size w3.heap.size w6.heap.size T P Tu Pu way 8 [] (fun _ => none) a1 a2 xs1 xs2) := Lib.hid (by
    have hb36 := hb4.trans ((hb5.mono (by omega)).trans (hb6.mono (by omega)))
    have hb37 := hb36.trans (hb7.mono hb36.size)
    have hTl := (Array.getElem?_eq_some_iff.1 tt.out.hT).1
    have hPl := (Array.getElem?_eq_some_iff.1 tt.out.hP).1
    have hTul := (Array.getElem?_eq_some_iff.1 tu.hT).1
    have hPul := (Array.getElem?_eq_some_iff.1 tu.hP).1
    have h3 := hs3.out
    have h6 := hb6.size
    have hb07 := hb03.out.trans (hb37.mono (by omega))
    refine ⟨⟨⟨tt.out.below hb37, Can.nil 8, fun i _ hi => by simp at hi, by simp, 0, rfl⟩, .inl ⟨hT, hTl⟩, .inl ⟨hP, hPl⟩, fun e he => by cases he⟩, ⟨⟨tu.below hb7, Can.nil 8, fun i _ hi => by simp at hi, by simp, 0, rfl⟩, ⟨hTu, hTul⟩, ⟨hPu, hPul⟩, fun e he => by cases he⟩, bx_below bR.out hb37, bU, hx1.below hb07, hx2.below hb07, hx1.lo, hx2.lo, hb07, by omega, by omega, by omega⟩)
  clear bh bs hb4 hb5 hb6 hb7 hs4 hs5 tt tu bU bR hb03 hs3 hs7
  generalize w6.alloc (.cells #[.pointer (some ⟨Tu, 0, none⟩)] 43) = W7 at hOA ⊢
  generalize w3.heap.size = b0 at hOA ⊢
  generalize w6.heap.size = c1 at hOA ⊢
  go_loopw [11] (fun i wr => ∃ k : Nat, k ≤ xs1.length ∧ i = .int .i64 k ∧ ∃ P sz es pl, es.length ≤ k ∧ Hid (OA w wr w.heap.size b0 c1 T P Tu Pu way sz es pl a1 a2 xs1 xs2)) (fun i _ => xs1.length - (intOf i).toNat)
  case atStart => exact ⟨0, Nat.zero_le _, rfl, P, 8, [], _, Nat.le_refl _, hOA⟩
  case round =>
    clear hOA
    obtain ⟨k, hk, rfl, P, sz, es, pl, hle, hA⟩ := hrel
    by_cases hlt : k < xs1.length
    · obtain ⟨b, off, rfl, hc⟩ := hA.out.i1.cells k hlt
      go_wp2_with fail
      refine (tu_put1 hA.out.tt (fun b h => .inr (by have := hA.out.bU.lt; omega)) _ _ (by omega)).mono ?_
      rintro e w1 ⟨⟨x1, x2, x3, rfl⟩, P', sz', es', pl', h1, h2, h3⟩
      have hA1 := Lib.hid (hA.out.kept h2 h1)
      clear h1 h2 hA hc
      go_wp2_with fail
      go_roundw
      case rel => exact ⟨k + 1, by omega, by go_num, P', sz', es', pl', by omega, hA1⟩
      case measure => simp [intOf]; omega
    · obtain rfl : k = xs1.length := by omega
      go_wp2_with fail
      go_loopw [12] (fun i wr => ∃ k : Nat, k ≤ xs2.length ∧ i = .int .i64 k ∧ ∃ P sz es pl, es.length ≤ xs1.length ∧ Hid (OA w wr w.heap.size b0 c1 T P Tu Pu way sz es pl a1 a2 xs1 xs2)) (fun i _ => xs2.length - (intOf i).toNat)
      case atStart => exact ⟨0, Nat.zero_le _, rfl, P, sz, es, pl, hle, hA⟩
      case round =>
        clear hA hle
        obtain ⟨k, hk, rfl, P, sz, es, pl, hle, hA⟩ := hrel
        by_cases hlt : k < xs2.length
        · obtain ⟨b, off, rfl, hc⟩ := hA.out.i2.cells k hlt
          go_wp2_with fail
          refine (tu_take1 hA.out.tt _ (by omega)).mono ?_
          rintro e w1 ⟨⟨x1, x2, rfl⟩, es', pl', h1, h2, h3⟩
          have hA1 := Lib.hid (hA.out.kept h2 h1)
          clear h1 h2 hA hc
          go_wp2_with fail
          go_roundw
          case rel => exact ⟨k + 1, by omega, by go_num, P, sz, es', pl', by omega, hA1⟩
          case measure => simp [intOf]; omega
        · obtain rfl : k = xs2.length := by omega
          go_wp2_with fail
          refine (ix_all _ _).mono ?_
          rintro e w8 ⟨rfl, hw8⟩
          obtain ⟨Bt, hBt⟩ : ∃ Bt, wr.heap.size = Bt := ⟨_, rfl⟩
          rw [hBt]
          have bx8 : Boxed w8 Bt 43 (.pointer (some ⟨T, 0, none⟩)) := by rw [hw8, ← hBt]; exact Boxed.new _ _ _
          have hb8 : Below wr.heap.size wr w8 := by rw [hw8]; exact (Below.refl _ _).al _
          have hA8 := hA.out.below hb8
          have hB8 := Lib.hid hA8.ob
          have hU8 := Lib.hid (TU.kind (R2 := RU b0 c1 w8.heap.size) hA8.tu fun b hb h => .inl h)
          clear hA hb8 hw8 hBt hA8
          go_wp2_with fail
          refine name_frame ?_
          intro tm htm
          have o8 := hB8.out.hs
          refine range_wide (P := Try.prog) (tm := tm) (ds := []) (gf := 52) (lb := #[.pointer (some ⟨Bt, 0, none⟩)]) (by rw [htm]; rfl) (enters_of Try.func52 (by kernel_rfl) rfl)
            (all_stops 8 w8 hB8.out.tt.ts.tab (by omega) Bt bx8.lt bx8.cell) KpA.trans (fun W l o o' _ h hc _ => KpA.put W l o o' h hc) (fun _ => rfl)
            (fun pre W => OB w W w.heap.size b0 c1 w8.heap.size T P Tu way sz es pl ∧ ∃ P2 sz2 es2 pl2, TU (RU b0 c1 w8.heap.size) W Tu P2 b0 (b0 + 1) way sz2 es2 pl2 ∧ OU way es es2 sz2 pre)
            (fun _ _ _ => False)
            (fun pre A B row hs hg hr => by
              obtain ⟨h1, P2, sz2, es2, pl2, h2, h3⟩ := hs
              exact ⟨h1.own o8 hg hr, P2, sz2, es2, pl2, h2.own hg (fun r e => (hr r e).2), h3⟩)
            (fun c pre A B row hs hg hr => hs)
            ⟨hB8.out, Pu, 8, [], _, hU8.out, OU.nil _ _⟩
            (fun _ _ _ => True) (fun _ _ _ _ _ _ _ _ _ => trivial)
            (fun x _ tm => ((((tm.setIfInBounds 83 (.int .i64 x.1)).setIfInBounds 84 (.int .i64 x.2)).setIfInBounds 14 (.int .i64 x.1)).setIfInBounds 15 (.int .i64 x.2)))
            ?assignA ?bodyA ?doneA ?stopA
          case assignA =>
            rintro l pre x W K hi hK
            rw [htm] at hK ⊢
            gi_wp2
            exact hK 0 W ((ko_below (Below.refl _ W)).from _) (KpA.refl _) hi trivial
          case bodyA =>
            rintro l pre x b W hl hr ⟨hB, P2, sz2, es2, pl2, hU, hO⟩ _ hlt
            rw [htm]
            have cU := hB.bU.cell
            replace hB := Lib.hid hB
            replace hU := Lib.hid hU
            simp only [List.setIfInBounds_toArray, List.set_cons_succ, List.set_cons_zero]
            gi_wp2
            have hle2 : es2.length ≤ 1048576 := by have := hO.len; simp [allL] at hlt; omega
            refine ⟨trivial, CallsIn.inRound l (callsIn_wide.2 ((tu_put hU.out (fun b h => .inr (Nat.le_trans hB.out.hd h)) x.1 x.2 (by omega)).mono ?_))⟩
            rintro e w1 (⟨i, hi, hm, rfl, h1, h2, h3, _, h4⟩ | ⟨hno, rfl, b3, P3, pl3, _, h1, h2, h3, _, h4⟩)
            · have hB1 := Lib.hid (hB.out.kept h2)
              have hO1 := Lib.hid (hO.there hB.out.tt.ts.na i hi hm)
              have hkf := Lib.hid (h4.from w8.heap.size)
              clear h2 h4 hB hU cU hO
              gi_wp2
              exact ⟨hkf.out, h3, hB1.out, _, _, _, _, h1, hO1.out⟩
            · have hB1 := Lib.hid (hB.out.kept h2)
              have hO1 := Lib.hid (hO.more b3 (hashF way x.1) (x := x))
              have hkf := Lib.hid (h4.from w8.heap.size)
              clear h2 h4 hB hU cU hO
              gi_wp2
              exact ⟨hkf.out, h3, hB1.out, _, _, _, _, h1, hO1.out⟩
          case doneA =>
            rintro D1 pre W hDl hxs ⟨hB, P2, sz2, es2, pl2, hU, hO⟩ hK
            subst hxs
            obtain ⟨el, ez, eL⟩ := once_end hB.tt.ts hU.ts hO
            have hz2 : sz2 ≤ 4194304 := by have := hO.fits; omega
            rw [htm]
            have cU := hB.bU.cell
            have cR := hB.bR.cell
            have fR := hB.bR.frozen
            have hne : ((es2.length : Int) != (es.length : Int)) = false := by rw [el]; simp
            have hgt : decide ((sz : Int) < (sz2 : Int)) = false := decide_eq_false (by omega)
            replace hB := Lib.hid hB
            replace hU := Lib.hid hU
            replace eL := Lib.hid eL
            clear hO
            go_wp2_with fail
            refine (ix_len hU.out.ts.tab).mono ?_
            rintro e w' ⟨rfl, rfl⟩
            go_wp2_with fail
            refine (ix_len hB.out.tt.ts.tab).mono ?_
            rintro e w' ⟨rfl, rfl⟩
            go_wp2_with fail
            refine (ix_size hU.out.ts.tab).mono ?_
            rintro e w' ⟨rfl, rfl⟩
            go_wp2_with fail
            refine (ix_size hB.out.tt.ts.tab).mono ?_
            rintro e w' ⟨rfl, rfl⟩
            go_wp2_with fail
            refine (ix_size hU.out.ts.tab).mono ?_
            rintro e w' ⟨rfl, rfl⟩
            go_wp2_with fail
            refine (ix_size hB.out.tt.ts.tab).mono ?_
            rintro e w' ⟨rfl, rfl⟩
            by_cases hlt : sz2 < sz
            · have hle3 : decide ((sz2 : Int) < (sz : Int)) = true := decide_eq_true (by omega)
              clear cU fR cR
              go_wp2_with fail
              refine (ix_known _).mono ?_
              rintro e w9 ⟨rfl, hb9⟩
              have hB9 := hB.out.below hb9
              have hK9 := (hb9.block _ (Array.getElem?_eq_some_iff.1 hK).1).trans hK
              have cR := hB9.bR.cell
              have fR := hB9.bR.frozen
              clear hB hU hb9 hK
              go_wp2_with fail
              have bR1 := hB9.bR.set (.bool true)
              have hb1 := hB9.bel.setCell (p := ⟨w.heap.size, 0, none⟩) (Nat.le_refl _) (.bool true)
              have hK1 := set_def (u := .bool true) hK9 hB9.bR
              have bR2 := put_box (o := .deferred none) bR1 hK1
              have hb2 := hb1.trans (belowK_b (w := w) (Nat.le_refl _) _ D1 _ (.deferred none) (Nat.le_trans o8 hDl) hK1 rfl rfl)
              clear hB9 hK9 cR fR
              generalize w9.setCell ⟨w.heap.size, 0, none⟩ (.bool true) = w10 at bR1 hb1 hK1 bR2 hb2 ⊢
              refine ⟨by simp, .inl ⟨D1, _, rfl, run_takeDeferred hK1, ?_⟩⟩
              exact ⟨.bool true, results_bool rfl Try.underlying4 _ _ _ _ rfl bR2.cell, rfl, hb2⟩
            · obtain rfl : sz2 = sz := by omega
              replace eL := Lib.hid (eL.out rfl)
              have hle3 : decide ((sz2 : Int) < (sz2 : Int)) = false := decide_eq_false (by omega)
              clear cU fR cR
              replace hK := Lib.hid hK
              go_wp2_with fail
              obtain ⟨B1, hB1⟩ : ∃ B1, W.heap.size = B1 := ⟨_, rfl⟩
              have hdB : w8.heap.size ≤ B1 := by rw [← hB1]; exact hB.out.hd
              have hTw : Hid (Below B1 W ((W.alloc (.cells #[.slice none 0 0] 28)).alloc (.cells #[.slice none 0 0] 28)) ∧ Two B1 ((W.alloc (.cells #[.slice none 0 0] 28)).alloc (.cells #[.slice none 0 0] 28)) []) := Lib.hid (by
                rw [← hB1]
                have h1 := (Boxed.new W 28 (.slice none 0 0)).alloc (.cells #[.slice none 0 0] 28)
                have h2 := Boxed.new (W.alloc (.cells #[.slice none 0 0] 28)) 28 (.slice none 0 0)
                rw [World.size_alloc] at h2
                exact ⟨((Below.refl _ W).al _).al _, _, _, h1, h2, World.ownsRow_nil _ _ _ _, World.ownsRow_nil _ _ _ _, fun b hb => by cases hb⟩)
              have hsz1 : ((W.alloc (.cells #[.slice none 0 0] 28)).alloc (.cells #[.slice none 0 0] 28)).heap.size = B1 + 2 := by simp [hB1]
              rw [hB1]
              generalize (W.alloc (.cells #[.slice none 0 0] 28)).alloc (.cells #[.slice none 0 0] 28) = W9 at hTw hsz1 ⊢
              refine (ix_layout _ _).mono ?_
              rintro e w10 ⟨rfl, hw10⟩
              rw [hsz1]
              have bx10 : Boxed w10 (B1 + 2) 43 (.pointer (some ⟨T, 0, none⟩)) := by rw [hw10, ← hsz1]; exact Boxed.new _ _ _
              have hb10 : Below W9.heap.size W9 w10 := by rw [hw10]; exact (Below.refl _ _).al _
              have hTw10 : Hid (Below B1 W w10 ∧ Two B1 w10 []) := Lib.hid ⟨hTw.out.1.trans (hb10.mono (by omega)), hTw.out.2.below hb10⟩
              have hs10 : B1 + 2 ≤ w10.heap.size := by have := hb10.size; omega
              clear hw10 hb10 hTw hsz1
              have hbW : ∀ X, Below B1 W X → Below W.heap.size W X := fun X h => by rw [hB1]; exact h
              go_wp2_with fail
              refine name_frame ?_
              intro tm2 htm2
              refine range_wide (P := Try.prog) (tm := tm2) (gf := 51) (lb := #[.pointer (some ⟨B1 + 2, 0, none⟩)]) (by rw [htm2]; rfl) (enters_of Try.func51 (by kernel_rfl) rfl)
                (lay_stops 8 w10 (hB.out.below (hbW _ hTw10.out.1)).tt.ts.tab (by omega) (B1 + 2) bx10.lt bx10.cell) KpL.trans (fun W l o o' hl h hc _ => KpL.put (B0 := w10.heap.size) (by have := hB.out.lo.1; omega) W l o o' hl h hc) (fun _ => rfl)
                (fun pre X => Below B1 W X ∧ Two B1 X pre ∧ B1 + 2 ≤ X.heap.size)
                (fun _ _ _ => False)
                (fun pre A B row hs hg hr => ⟨hs.1.grown hg (by have := hs.2.2; omega) (fun k e => by have := (hr k e).1; omega), hs.2.1.own hg (fun r e => (hr r e).2), Nat.le_trans hs.2.2 hg.size⟩)
                (fun c pre A B row hs hg hr => hs)
                ⟨hTw10.out.1, hTw10.out.2, hs10⟩
                (fun _ _ _ => True) (fun _ _ _ _ _ _ _ _ _ => trivial)
                (fun x _ tm => ((((tm.setIfInBounds 109 (.int .i64 x.1)).setIfInBounds 110 (.int .i64 x.2)).setIfInBounds 18 (.int .i64 x.1)).setIfInBounds 19 (.int .i64 x.2)))
                ?assignB ?bodyB ?doneB ?stopB
              case assignB =>
                rintro l pre x X K hi hK
                rw [htm2] at hK ⊢
                gi_wp2
                exact hK 0 X ((ko_below (Below.refl _ X)).from _) (KpL.refl _ _ _) hi trivial
              case bodyB =>
                rintro l pre x b X hl hr ⟨hbX, hT2, hsX⟩ _ hlt
                rw [htm2]
                obtain ⟨v1, v2, x1, x2, o1, o2, hne2⟩ := hT2
                have cv1 := x1.cell
                have fv1 := x1.frozen
                have hpl : pre.length ≤ 4194304 := by have := layL_len es pl sz2; omega
                obtain ⟨i0, hi, hz0, hz1, hz3⟩ := info_parts infoInt
                simp only [List.setIfInBounds_toArray, List.set_cons_succ, List.set_cons_zero]
                gi_wp2_with (gi_at_builtin; refine stopHere ?_)
                refine ⟨?_, trivial⟩
                refine wpListIn_append_own_at _ rfl (.tmp 111) (.tmp 113) 28 rfl B1 3 i0 _ 1 8 Try.underlying28 hi hz0 hz1 hz3 rfl (by decide) v1 pre.length _ rfl (o1.alloc _) ⟨X.heap.size, 0, none⟩ 1 1 [.int .i64 x.1] rfl rfl (World.news_of_block (cs := #[.int .i64 x.1]) (t := 3) (fr := (0, 0)) (heap_alloc_new X _)) (by simp [Value.oneCell']) (by unfold maxLen; omega) (by omega) (by simp; omega) ?_
                intro v1' wa hown1 hgrow1 hnil1 hat1
                obtain ⟨g1, cap1, rfl⟩ := ownsRow_succ hown1
                obtain ⟨r1, r2, r3, r4, r5, r6, r7, r8, r9⟩ := row_more (tmp := .cells #[.int .i64 x.1] 3) (Ba := B1) (Bb := B1 + 1) (by omega) (Nat.le_refl _) (by omega) x1 x2 o1 o2 hne2 hown1 hgrow1 (by simpa using hat1)
                have ca := r1.cell
                have fa := r1.frozen
                have cb := r4.cell
                have hsY : B1 + 2 ≤ (wa.setCell ⟨B1, 0, none⟩ (.slice (some ⟨g1, 0, none⟩) (pre.length + 1) cap1)).heap.size := Nat.le_trans hsX r8.size
                clear hown1 hgrow1 hnil1 hat1 x1 x2 o1 o2 hne2 cv1 fv1
                replace r9 := Lib.hid r9
                gi_wp2_with (gi_at_builtin; refine stopHere ?_)
                clear ca fa cb
                have hYs : wa.heap.size = (wa.setCell ⟨B1, 0, none⟩ (.slice (some ⟨g1, 0, none⟩) (pre.length + 1) cap1)).heap.size := (World.size_setCell ..).symm
                try rw [hYs]
                generalize wa.setCell ⟨B1, 0, none⟩ (.slice (some ⟨g1, 0, none⟩) (pre.length + 1) cap1) = Y at r2 r3 r4 r5 r7 r8 r9 hsY hYs ⊢
                clear hYs
                refine ⟨?_, trivial⟩
                refine wpListIn_append_own_at _ rfl (.tmp 115) (.tmp 117) 28 rfl B1 3 i0 _ 1 8 Try.underlying28 hi hz0 hz1 hz3 rfl (by decide) v2 pre.length _ rfl (r5.alloc _) ⟨Y.heap.size, 0, none⟩ 1 1 [.int .i64 x.2] rfl rfl (World.news_of_block (cs := #[.int .i64 x.2]) (t := 3) (fr := (0, 0)) (heap_alloc_new Y _)) (by simp [Value.oneCell']) (by unfold maxLen; omega) (by omega) (by simp; omega) ?_
                intro v2' wb hown2 hgrow2 hnil2 hat2
                obtain ⟨g2, cap2, rfl⟩ := ownsRow_succ hown2
                obtain ⟨s1, s2, s3, s4, s5, s6, s7, s8, s9⟩ := row_more (tmp := .cells #[.int .i64 x.2] 3) (Ba := B1 + 1) (Bb := B1) (by omega) (Nat.le_succ _) (by omega) r4 r2 r5 r3 (fun b h1 h2 => r6 b h2 h1) hown2 hgrow2 (by simpa using hat2)
                have ca := s1.cell
                have fa := s1.frozen
                have hfin : Hid (KeepsFrom w10.heap.size X (wb.setCell ⟨B1 + 1, 0, none⟩ (.slice (some ⟨g2, 0, none⟩) (pre.length + 1) cap2)) ∧ KpL T es X (wb.setCell ⟨B1 + 1, 0, none⟩ (.slice (some ⟨g2, 0, none⟩) (pre.length + 1) cap2)) ∧ Below B1 W (wb.setCell ⟨B1 + 1, 0, none⟩ (.slice (some ⟨g2, 0, none⟩) (pre.length + 1) cap2)) ∧ Two B1 (wb.setCell ⟨B1 + 1, 0, none⟩ (.slice (some ⟨g2, 0, none⟩) (pre.length + 1) cap2)) (pre ++ [x]) ∧ B1 + 2 ≤ (wb.setCell ⟨B1 + 1, 0, none⟩ (.slice (some ⟨g2, 0, none⟩) (pre.length + 1) cap2)).heap.size) := Lib.hid (by
                  obtain ⟨t1, t2, t3⟩ := hB.out.lo
                  refine ⟨(r7.trans s7).from _, (r9.out T es (by omega) fun e he => by have := t3 e he; omega).trans (s9 T es (by omega) fun e he => by have := t3 e he; omega), hbX.trans (r8.trans s8), ⟨_, _, s4, s2, ?_, ?_, fun b h1 h2 => s6 b h2 h1⟩, Nat.le_trans hsY s8.size⟩
                  · rw [List.length_append, List.map_append]; exact s5
                  · rw [List.length_append, List.map_append]; exact s3)
                clear hown2 hgrow2 hnil2 hat2 r2 r3 r4 r5 r6 r7 r8 r9 s2 s3 s4 s5 s6 s7 s8 s9 hbX hsX hsY
                gi_wp2
                exact hfin.out
              case doneB =>
                rintro D2 L X hDl2 hxs ⟨hbX, hT2, hsX⟩ hK2
                rw [htm2]
                obtain ⟨Bz, hBz⟩ : ∃ Bz, X.heap.size = Bz := ⟨_, rfl⟩
                have hbWX := hbW _ hbX
                replace hB := Lib.hid (hB.out.below hbWX)
                replace hU := Lib.hid (hU.out.below hbWX)
                have hD1 : D1 < B1 := by rw [← hB1]; exact (Array.getElem?_eq_some_iff.1 hK.out).1
                have hD2 : D2 < Bz := by rw [← hBz]; exact (Array.getElem?_eq_some_iff.1 hK2).1
                replace hK := Lib.hid ((hbX.block _ hD1).trans hK.out)
                replace hK2 := Lib.hid hK2
                obtain ⟨v1, v2, x1, x2, o1, o2, -⟩ := hT2
                have cU := hB.out.bU.cell
                have hsu : TU _ _ _ _ _ _ _ _ _ _ := hU.out
                clear hbWX hbW hTw10 bx10 hB1 hbX
                have hal := (Below.refl X.heap.size X).alloc (Nat.le_refl _) (.cells #[.int .i64 0] 3)
                have cU2 := (bx_below hB.out.bU hal).cell
                go_wp2_with fail
                have bN := Boxed.new X 3 (.int .i64 0)
                have hsN := World.size_alloc X (.cells #[.int .i64 0] 3)
                clear cU cU2
                rw [hBz] at bN hsN hal
                try rw [hBz]
                generalize X.alloc (.cells #[.int .i64 0] 3) = W11 at bN hsN hal ⊢
                refine (ix_layout _ _).mono ?_
                rintro e w12 ⟨rfl, hw12⟩
                rw [hsN]
                have bx12 : Boxed w12 (Bz + 1) 43 (.pointer (some ⟨Tu, 0, none⟩)) := by rw [hw12, ← hsN]; exact Boxed.new _ _ _
                have hb12 : Below W11.heap.size W11 w12 := by rw [hw12]; exact (Below.refl _ _).al _
                have hbz : Hid (Below Bz X w12) := Lib.hid (hal.trans (hb12.mono (by omega)))
                have bN12 := Lib.hid (bx_below bN hb12)
                have hs12 : Bz + 2 ≤ w12.heap.size := by rw [hw12, World.size_alloc]; omega
                clear hw12 hb12 hal bN hsN
                have hbW : ∀ Y, Below Bz X Y → Below X.heap.size X Y := fun Y h => by rw [hBz]; exact h
                have hLl : L.length ≤ 4194304 := by rw [hxs]; exact Nat.le_trans (layL_len es pl sz2) hz2
                have hTuz : Tu < Bz := by rw [← hBz]; exact (Array.getElem?_eq_some_iff.1 hU.out.ts.tab.hT).1
                have hEz : ∀ e, e ∈ es2 → e.b < Bz := fun e he => by
                  obtain ⟨i, hi, rfl⟩ := List.getElem_of_mem he
                  rw [← hBz]; exact hU.out.ts.tab.ltE i hi
                have hs0 : w.heap.size ≤ Bz := by rw [← hBz]; exact hB.out.hs
                have y1 := x1.lt
                have y2 := x2.lt
                rw [hBz] at y1 y2
                have hall : layL es2 pl2 sz2 = L := eL.out.trans hxs.symm
                replace hall := Lib.hid hall
                clear hxs eL hsu
                go_wp2_with fail
                refine name_frame ?_
                intro tm3 htm3
                refine range_wide (P := Try.prog) (tm := tm3) (gf := 51) (lb := #[.pointer (some ⟨Bz + 1, 0, none⟩)]) (by rw [htm3]; rfl) (enters_of Try.func51 (by kernel_rfl) rfl)
                  (lay_stops 8 w12 (hU.out.below (hbW _ hbz.out)).ts.tab (by omega) (Bz + 1) bx12.lt bx12.cell) KpL.trans (fun W l o o' hl h hc _ => KpL.put (B0 := w12.heap.size) (by omega) W l o o' hl h hc) (fun _ => rfl)
                  (fun pre Y => Below Bz X Y ∧ Boxed Y Bz 3 (.int .i64 (pre.length : Nat)) ∧ pre <+: L ∧ Bz + 2 ≤ Y.heap.size)
                  (fun c pre _ => c = .ret ∧ ¬ pre <+: L)
                  (fun pre A B row hs hg hr => ⟨hs.1.grown hg (by have := hs.2.2.2; omega) (fun k e => by have := (hr k e).1; omega), bx_own hs.2.1 hg (fun r e => (hr r e).2), hs.2.2.1, Nat.le_trans hs.2.2.2 hg.size⟩)
                  (fun c pre A B row hs hg hr => hs)
                  ⟨hbz.out, bN12.out, List.nil_prefix, hs12⟩
                  (fun _ _ _ => True) (fun _ _ _ _ _ _ _ _ _ => trivial)
                  (fun x _ tm => ((((tm.setIfInBounds 121 (.int .i64 x.1)).setIfInBounds 122 (.int .i64 x.2)).setIfInBounds 21 (.int .i64 x.1)).setIfInBounds 22 (.int .i64 x.2)))
                  ?assignC ?bodyC ?doneC ?stopC
                case assignC =>
                  rintro l pre x Y K hi hK
                  rw [htm3] at hK ⊢
                  gi_wp2
                  exact hK 0 Y ((ko_below (Below.refl _ Y)).from _) (KpL.refl _ _ _) hi trivial
                case bodyC =>
                  rintro l pre x b Y hl hr ⟨hbY, bn, hpre, hsY⟩ _ hlt
                  rw [htm3]
                  rw [hall.out] at hlt
                  obtain ⟨g1, cap1, rfl, -⟩ := own_shape o1 (by omega)
                  obtain ⟨g2, cap2, rfl, -⟩ := own_shape o2 (by omega)
                  obtain ⟨kv, hkv⟩ : ∃ kv, L[pre.length] = kv := ⟨_, rfl⟩
                  have k1 : X.cell? ⟨g1, pre.length, none⟩ = some (.int .i64 kv.1) := by
                    have := o1.cells (g := g1) rfl pre.length (Value.int .i64 kv.1) (by simp [hlt, hkv])
                    simpa [addr_add] using this
                  have k2 : X.cell? ⟨g2, pre.length, none⟩ = some (.int .i64 kv.2) := by
                    have := o2.cells (g := g2) rfl pre.length (Value.int .i64 kv.2) (by simp [hlt, hkv])
                    simpa [addr_add] using this
                  replace k1 := (hbY.cell (p := ⟨g1, pre.length, none⟩) (by rw [← hBz]; exact cell_lt k1)).trans k1
                  replace k2 := (hbY.cell (p := ⟨g2, pre.length, none⟩) (by rw [← hBz]; exact cell_lt k2)).trans k2
                  have c16 := (hbY.cell (p := ⟨B1, 0, none⟩) y1).trans x1.cell
                  have c17 := (hbY.cell (p := ⟨B1 + 1, 0, none⟩) y2).trans x2.cell
                  have cn := bn.cell
                  have fn := bn.frozen
                  have hge : decide ((L.length : Int) ≤ (pre.length : Int)) = false := decide_eq_false (by omega)
                  have hwn : IntKind.i64.wrap ((pre.length : Int) + 1) = (pre.length : Int) + 1 := IntWalk.i64_in _ (by omega)
                  have bRY : Boxed Y w.heap.size 4 (.bool false) := (hbY.block _ (by rw [← hBz]; exact hB.out.bR.lt)).trans hB.out.bR
                  have cR := bRY.cell
                  have fR := bRY.frozen
                  have hset : ∀ u, Hid (KeepsFrom w12.heap.size Y (Y.setCell ⟨Bz, 0, none⟩ u) ∧ KpL Tu es2 Y (Y.setCell ⟨Bz, 0, none⟩ u) ∧ Below Bz X (Y.setCell ⟨Bz, 0, none⟩ u)) := fun u => by
                    refine Lib.hid ⟨(KeepsOthers.setCell Y ⟨Bz, 0, none⟩ u).from _, ?_, hbY.setCell (p := ⟨Bz, 0, none⟩) (Nat.le_refl _) u⟩
                    refine kpl_of (R := fun b => b = Bz) (B1 := Bz) hTuz hEz ((Below.refl Bz Y).setCell (p := ⟨Bz, 0, none⟩) (Nat.le_refl _) u) ((KeptR.refl _ Y).set (.inl rfl)) ?_
                    rintro b rfl
                    exact ⟨_, _, _, bn, by decide⟩
                  have hsz2 : Hid (Bz + 2 ≤ (Y.setCell ⟨Bz, 0, none⟩ (.int .i64 ((pre.length : Int) + 1))).heap.size) := Lib.hid (by rw [World.size_setCell]; exact hsY)
                  have bn2 := Lib.hid (bn.set (.int .i64 ((pre.length : Int) + 1)))
                  simp only [List.setIfInBounds_toArray, List.set_cons_succ, List.set_cons_zero]
                  have hpx : pre ++ [x] <+: L → x = kv := fun h => by
                    obtain ⟨t, ht⟩ := h
                    rw [← hkv]
                    simp [← ht]
                  have hpk : pre ++ [kv] <+: L := by
                    obtain ⟨t, ht⟩ := hpre
                    cases t with
                    | nil => simp at ht; subst ht; omega
                    | cons y t =>
                      have : y = kv := by rw [← hkv]; simp [← ht]
                      exact ⟨t, by rw [← this, ← ht]; simp⟩
                  replace hpx := Lib.hid hpx
                  replace hpk := Lib.hid hpk
                  clear hkv
                  by_cases h1 : x.1 = kv.1
                  · have n1 : (x.1 != kv.1) = false := by simp [h1]
                    by_cases h2 : x.2 = kv.2
                    · have n2 : (x.2 != kv.2) = false := by simp [h2]
                      have hxk : Hid (x = kv) := Lib.hid (Prod.ext h1 h2)
                      clear h1 h2 cR fR
                      gi_wp2
                      obtain ⟨t1, t2, t3⟩ := (hset (.int .i64 ((pre.length : Int) + 1))).out
                      exact ⟨t1, t2, t3, by rw [List.length_append]; exact bn2.out, by rw [hxk.out]; exact hpk.out, hsz2.out⟩
                    · have n2 : (x.2 != kv.2) = true := by simp [h2]
                      have hxk : Hid (x ≠ kv) := Lib.hid (fun e => h2 (by rw [e]))
                      clear h1 h2 fn
                      gi_wp2
                      exact ⟨(KeepsOthers.setCell Y _ _).from _, rfl, fun h => hxk.out (hpx.out h)⟩
                  · have n1 : (x.1 != kv.1) = true := by simp [h1]
                    have hxk : Hid (x ≠ kv) := Lib.hid (fun e => h1 (by rw [e]))
                    clear h1 fn
                    gi_wp2
                    exact ⟨(KeepsOthers.setCell Y _ _).from _, rfl, fun h => hxk.out (hpx.out h)⟩
                case doneC =>
                  rintro D3 M Y hDl3 hxs ⟨hbY, bn, hpre, hsY⟩ hK3
                  rw [hall.out] at hxs
                  subst hxs
                  rw [htm3]
                  obtain ⟨va, ca, rfl, -⟩ := own_sliceI o1
                  have c16 := (hbY.cell (p := ⟨B1, 0, none⟩) y1).trans x1.cell
                  have cn := bn.cell
                  have heq : ((M.length : Int) == (M.length : Int)) = true := by simp
                  have bRY : Hid (Boxed Y w.heap.size 4 (.bool false)) := Lib.hid ((hbY.block _ (by rw [← hBz]; exact hB.out.bR.lt)).trans hB.out.bR)
                  have hbw : Hid (Below w.heap.size w Y) := Lib.hid (hB.out.bel.trans (hbY.mono hs0))
                  have hKa := Lib.hid ((hbY.block _ (by rw [← hBz]; exact (Array.getElem?_eq_some_iff.1 hK.out).1)).trans hK.out)
                  have hKb := Lib.hid ((hbY.block _ hD2).trans hK2.out)
                  have hw0 : w.heap.size ≤ Y.heap.size := hbw.out.size
                  replace hK3 := Lib.hid hK3
                  clear hpre o1 o2 x1 x2
                  go_wp2_with fail
                  refine (ix_known _).mono ?_
                  rintro e w13 ⟨rfl, hb13⟩
                  have bR1 := bx_below bRY.out hb13
                  have hb1 := hbw.out.trans (hb13.mono hw0)
                  have hKa1 := (hb13.block _ (Array.getElem?_eq_some_iff.1 hKa.out).1).trans hKa.out
                  have hKb1 := (hb13.block _ (Array.getElem?_eq_some_iff.1 hKb.out).1).trans hKb.out
                  have hKc1 := (hb13.block _ (Array.getElem?_eq_some_iff.1 hK3.out).1).trans hK3.out
                  have cR := bR1.cell
                  have fR := bR1.frozen
                  clear hKa hKb hK3 hb13 cn c16
                  go_wp2_with fail
                  have bR2 := bR1.set (.bool true)
                  have hb2 := hb1.setCell (p := ⟨w.heap.size, 0, none⟩) (Nat.le_refl _) (.bool true)
                  have hKa2 := set_def (u := .bool true) hKa1 bR1
                  have hKb2 := set_def (u := .bool true) hKb1 bR1
                  have hKc2 := set_def (u := .bool true) hKc1 bR1
                  clear cR fR bR1 hb1 hKa1 hKb1 hKc1
                  generalize w13.setCell ⟨w.heap.size, 0, none⟩ (.bool true) = w14 at bR2 hb2 hKa2 hKb2 hKc2 ⊢
                  refine ⟨by simp, .inl ⟨D3, _, rfl, run_takeDeferred hKc2, ?_⟩⟩
                  have hKb3 : (w14.putObj D3 (.deferred none)).heap[D2]? = some (.deferred (some [])) := by rw [World.putObj_heap_other (by omega)]; exact hKb2
                  refine ⟨by simp, .inl ⟨D2, _, rfl, run_takeDeferred hKb3, ?_⟩⟩
                  have hKa3 : ((w14.putObj D3 (.deferred none)).putObj D2 (.deferred none)).heap[D1]? = some (.deferred (some [])) := by rw [World.putObj_heap_other (by omega), World.putObj_heap_other (by omega)]; exact hKa2
                  refine ⟨by simp, .inl ⟨D1, _, rfl, run_takeDeferred hKa3, ?_⟩⟩
                  have bR3 := put_box (o := .deferred none) (put_box (o := .deferred none) (put_box (o := .deferred none) bR2 hKc2) hKb3) hKa3
                  have hb3 := ((hb2.trans (belowK_b (w := w) (Nat.le_refl _) w14 D3 _ (.deferred none) (by omega) hKc2 rfl rfl)).trans (belowK_b (w := w) (Nat.le_refl _) _ D2 _ (.deferred none) (by omega) hKb3 rfl rfl)).trans (belowK_b (w := w) (Nat.le_refl _) _ D1 _ (.deferred none) (by omega) hKa3 rfl rfl)
                  exact ⟨.bool true, results_bool rfl Try.underlying4 _ _ _ _ rfl bR3.cell, rfl, hb3⟩
                case stopC =>
                  rintro D c pre Y _ hsp ⟨_, hno⟩ _
                  rw [hall.out] at hsp
                  exact absurd hsp hno
              case stopB => exact fun D c pre W _ _ h _ => h.elim
          case stopA => exact fun D c pre W _ _ h _ => h.elim
end Go.Proofs.Ytjeeljolhcoeoaa
