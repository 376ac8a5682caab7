/- Print: is a program in form, in the document. (gen_pif.py) -/
import Derived.Test.YtclioihichcpiaaDoorJoQ
import Derived.Test.YtclioihichcpiaaDoorJoN
import Derived.Deep.QuietTactic
import Derived.BigQuiet
import Derived.Test.YtclioihichcpiaaDoorJoG
import Derived.Deep.RegionHeld3
namespace Go.Proofs.YtclioihichcpiaaDoor
open Go.RowKit Go.Shelf Lx
theorem rk_named (p : ByteArray) (n : Int) (w : World) (hp : p.size ≤ 1048576) :
    Calls Tryd.prog 50 #[.string p, .int .i64 n] w fun e w' => e = .returned (.bool (decOk p n)) ∧ w = w' := by
  have hn := fun w => rp_Name p w (by omega)
  unfold decOk
  cases hb : nameB (bl p) with
  | false =>
    rw [hb] at hn
    rw [Bool.false_and]
    clear hb
    go_enter Tryd.func50, Tryd.ntmps50
    go_wp2_with (go_at_call 67; refine (hn _).mono ?_; rintro e w1 ⟨rfl, rfl⟩)
    go_ret
    exact ⟨rfl, rfl⟩
  | true =>
    rw [hb] at hn
    rw [Bool.true_and]
    clear hb
    by_cases h0 : 0 ≤ n
    · have d0 : decide (0 ≤ n) = true := decide_eq_true h0
      have hR : Hid (decide (0 ≤ n ∧ n ≤ 16) = decide (n ≤ 16)) := Lib.hid (by
        by_cases h1 : n ≤ 16
        · rw [decide_eq_true h1, decide_eq_true ⟨h0, h1⟩]
        · rw [decide_eq_false h1, decide_eq_false (fun h => h1 h.2)])
      go_enter Tryd.func50, Tryd.ntmps50
      go_wp2_with (go_at_call 67; refine (hn _).mono ?_; rintro e w1 ⟨rfl, rfl⟩)
      go_ret
      exact ⟨by rw [hR.out]; rfl, rfl⟩
    · have d0 : decide (0 ≤ n) = false := decide_eq_false h0
      have hR : Hid (decide (0 ≤ n ∧ n ≤ 16) = false) := Lib.hid (decide_eq_false (fun h => h0 h.1))
      go_enter Tryd.func50, Tryd.ntmps50
      go_wp2_with (go_at_call 67; refine (hn _).mono ?_; rintro e w1 ⟨rfl, rfl⟩)
      go_ret
      exact ⟨by rw [hR.out]; rfl, rfl⟩
theorem all_take {α : Type _} {f : α → Bool} {l : List α} {k : Nat} (hlt : k < l.length) (h : (l.take k).all f = true) (hx : f l[k] = true) : (l.take (k + 1)).all f = true := by
  rw [List.take_succ_eq_append_getElem hlt, List.all_append, h]; simp [hx]
theorem all_not {α : Type _} {f : α → Bool} {l : List α} {k : Nat} (hlt : k < l.length) (hx : f l[k] = false) : l.all f = false := by
  rw [List.all_eq_false]; exact ⟨l[k], List.getElem_mem hlt, by simp [hx]⟩
/-- a program's box and a spot's -/
structure FB (w W : World) (u v : Array Value) : Prop where
  bel : Below w.heap.size w W
  b0 : W.heap[w.heap.size]? = some (.cells u 26)
  b1 : W.heap[w.heap.size + 1]? = some (.cells v 82)
theorem FB.start (w : World) (u v : Array Value) : FB w ((w.alloc (.cells u 26)).alloc (.cells v 82)) u v :=
  have h := @k_two w _ (.cells u 26) (.cells v 82) (Below.refl _ _)
  ⟨h.1, h.2.1, h.2.2⟩
theorem FB.lt {w W : World} {u v : Array Value} (h : FB w W u v) : w.heap.size + 1 < W.heap.size := (Array.getElem?_eq_some_iff.1 h.b1).1
theorem FB.below {w W W' : World} {u v : Array Value} (h : FB w W u v) (hb : Below W.heap.size W W') : FB w W' u v :=
  ⟨h.bel.trans (hb.mono h.bel.size), (hb.block _ (by have := h.lt; omega)).trans h.b0, (hb.block _ h.lt).trans h.b1⟩
theorem FB.cells {w W : World} {a b c x y z : Value} (h : FB w W #[a, b, c] #[x, y, z]) : (W.cell? ⟨w.heap.size, 0, none⟩ = some a ∧ W.cell? ⟨w.heap.size, 1, none⟩ = some b ∧ W.cell? ⟨w.heap.size, 2, none⟩ = some c) ∧ (W.cell? ⟨w.heap.size + 1, 0, none⟩ = some x ∧ W.cell? ⟨w.heap.size + 1, 1, none⟩ = some y ∧ W.cell? ⟨w.heap.size + 1, 2, none⟩ = some z) ∧ W.frozen? ⟨w.heap.size + 1, 0, none⟩ = false ∧ W.frozen? ⟨w.heap.size + 1, 1, none⟩ = false ∧ W.frozen? ⟨w.heap.size + 1, 2, none⟩ = false := by
  have h1 := h.b0
  have h2 := h.b1
  exact ⟨⟨by simp [World.cell?, h1], by simp [World.cell?, h1], by simp [World.cell?, h1]⟩, ⟨by simp [World.cell?, h2], by simp [World.cell?, h2], by simp [World.cell?, h2]⟩, by simp [World.frozen?, h2], by simp [World.frozen?, h2], by simp [World.frozen?, h2]⟩
theorem FB.put {w W : World} {u : Array Value} {x y z a b c : Value} (h : FB w W u #[x, y, z]) : FB w (((W.setCell ⟨w.heap.size + 1, 0, none⟩ a).setCell ⟨w.heap.size + 1, 1, none⟩ b).setCell ⟨w.heap.size + 1, 2, none⟩ c).drew u #[a, b, c] := by
  have hg : w.heap.size ≤ w.heap.size + 1 := by omega
  refine ⟨(((h.bel.setCell (p := ⟨w.heap.size + 1, 0, none⟩) hg a).setCell (p := ⟨w.heap.size + 1, 1, none⟩) hg b).setCell (p := ⟨w.heap.size + 1, 2, none⟩) hg c).drew, ?_, ?_⟩
  · have hne : w.heap.size ≠ w.heap.size + 1 := by omega
    exact (set_neP _ hne).trans ((set_neP _ hne).trans ((set_neP _ hne).trans h.b0))
  · exact Go.heap_setCell_same _ _ _ _ _ _ (Go.heap_setCell_same _ _ _ _ _ _ (Go.heap_setCell_same _ _ _ _ _ _ h.b1))
theorem FB.put0 {w W : World} {u : Array Value} {x y z a b c : Value} (h : FB w W u #[x, y, z]) : FB w (((W.setCell ⟨w.heap.size + 1, 0, none⟩ a).setCell ⟨w.heap.size + 1, 1, none⟩ b).setCell ⟨w.heap.size + 1, 2, none⟩ c) u #[a, b, c] := by
  have hg : w.heap.size ≤ w.heap.size + 1 := by omega
  refine ⟨((h.bel.setCell (p := ⟨w.heap.size + 1, 0, none⟩) hg a).setCell (p := ⟨w.heap.size + 1, 1, none⟩) hg b).setCell (p := ⟨w.heap.size + 1, 2, none⟩) hg c, ?_, ?_⟩
  · have hne : w.heap.size ≠ w.heap.size + 1 := by omega
    exact (set_neP _ hne).trans ((set_neP _ hne).trans ((set_neP _ hne).trans h.b0))
  · exact Go.heap_setCell_same _ _ _ _ _ _ (Go.heap_setCell_same _ _ _ _ _ _ (Go.heap_setCell_same _ _ _ _ _ _ h.b1))
theorem sizeSpot : (Tryd.prog.info? 82).map (fun i => i.size) = some 3 := by kernel_rfl
set_option maxHeartbeats 8000000 in
set_option maxRecDepth 100000 in
theorem rk_form (I : List InpD) (O : List OutD) (R : List Rul) (a0 a1 a2 : Option Addr) (c0 c1 c2 : Nat) (w : World) (hI : Inps w a0 I) (hO : Outs w a1 O) (hR : Ruls w a2 R) :
    Calls Tryd.prog 29 #[.agg #[.slice a0 I.length c0, .slice a1 O.length c1, .slice a2 R.length c2]] w fun e w' => ∃ a b : Int, e = .returned (.tuple #[.agg #[.int .i64 a, .int .i64 b, .string ⟨#[]⟩], .bool (!progOk I O R)]) ∧ Below w.heap.size w w' := by
  have hlI := hI.len
  have hlO := hO.len
  have hlR := hR.len
  obtain ⟨PB, hPB⟩ : ∃ b, progOk I O R = b := ⟨_, rfl⟩
  rw [hPB]
  replace hPB := Lib.hid hPB
  go_enter Tryd.func29, Tryd.ntmps29
  go_wp2_with fail
  have hF0 : Hid (FB w ((w.alloc (.cells #[.slice a0 I.length c0, .slice a1 O.length c1, .slice a2 R.length c2] 26)).alloc (.cells #[.int .i64 0, .int .i64 0, .string ⟨#[]⟩] 82)) #[.slice a0 I.length c0, .slice a1 O.length c1, .slice a2 R.length c2] #[.int .i64 0, .int .i64 0, .string ⟨#[]⟩]) := Lib.hid (FB.start _ _ _)
  generalize (w.alloc (.cells #[.slice a0 I.length c0, .slice a1 O.length c1, .slice a2 R.length c2] 26)).alloc (.cells #[.int .i64 0, .int .i64 0, .string ⟨#[]⟩] 82) = W0 at hF0 ⊢
  go_loopw [4] (fun i wr => ∃ (k : Nat), k ≤ I.length ∧ i = .int .i64 k ∧ Hid ((I.take k).all inpOk = true) ∧ Hid (FB w wr #[.slice a0 I.length c0, .slice a1 O.length c1, .slice a2 R.length c2] #[.int .i64 0, .int .i64 0, .string ⟨#[]⟩])) (fun i _ => I.length - (intOf i).toNat)
  case atStart => exact ⟨0, Nat.zero_le _, rfl, Lib.hid rfl, hF0⟩
  case round =>
    clear hF0
    obtain ⟨k, hk, rfl, hok, hF⟩ := hrel
    obtain ⟨⟨x0, x1, x2⟩, -⟩ := hF.out.cells
    by_cases hlt : k < I.length
    · obtain ⟨p, rfl, hd0, hd1, hd2⟩ := (hI.below hF.out.bel).cells k I[k] (List.getElem?_eq_getElem hlt)
      obtain ⟨hz1, hz2⟩ := hI.size I[k] (List.getElem_mem hlt)
      have hnx := Lib.hid (fun h => all_take (f := inpOk) hlt hok.out h)
      have hno := Lib.hid (fun h => all_not (f := inpOk) hlt h)
      have hN : Hid (∀ n, Calls Tryd.prog 50 #[.string I[k].1, .int .i64 I[k].2.1] (wr.drewN n) fun e w' => e = .returned (.bool (decOk I[k].1 I[k].2.1)) ∧ ∃ m, w' = wr.drewN m) := Lib.hid fun n => (rk_named _ _ _ hz1).mono fun e w' h => ⟨h.1, n, h.2.symm⟩
      have hC : Hid (∀ n, Calls Tryd.prog 51 #[.string I[k].2.2] (wr.drewN n) fun e w' => e = .returned (.bool (decide (I[k].2.2.size ≤ 1024))) ∧ ∃ m, w' = wr.drewN m) := Lib.hid fun n => (rk_constant _ _).mono fun e w' h => ⟨by rw [h.1, bl_length], n, h.2.symm⟩
      have hio : inpOk I[k] = (decOk I[k].1 I[k].2.1 && decide (I[k].2.2.size ≤ 1024)) := rfl
      replace hio := Lib.hid hio
      generalize I[k] = x at hd0 hd1 hd2 hN hC hnx hno hio
      obtain ⟨xp, xn, xf⟩ := x
      dsimp only at hd0 hd1 hd2 hN hC
      generalize decOk xp xn = D at hN hio
      generalize decide (xf.size ≤ 1024) = E at hC hio
      clear hz1 hz2
      have hq0 : (0 : Int) ≤ (k : Int) := Int.natCast_nonneg _
      have hq1 : (k : Int) < (I.length : Int) := by omega
      cases D with
      | false =>
        have hBad : Hid (true = !PB) := Lib.hid (by
          rw [← hPB.out]; unfold progOk okI; rw [hno.out (by rw [hio.out]; rfl)]; rfl)
        go_wp2_with fail
        go_quiet ((first
          | (go_at_call 50; with_reducible exact hN.out _)
          | (go_at_call 51; with_reducible exact hC.out _)))
        have hX := Lib.hid (hF.out.below (below_drewN (Below.refl wr.heap.size wr) nq))
        generalize wr.drewN nq = X at hX ⊢
        obtain ⟨⟨x0, x1, x2⟩, ⟨y0, y1, y2⟩, z0, z1, z2⟩ := hX.out.cells
        go_wp2_with fail
        have hE := Lib.hid (hX.out.put0 (a := .int .i64 1) (b := .int .i64 k) (c := .string ⟨#[]⟩))
        go_wp2_with fail
        refine bodyPost_ret (results_cell2 rfl _ _ (w.heap.size + 1) 82 _ (0, 0) _ rfl hE.out.b1 Tryd.underlying82 rfl sizeSpot (.bool true) rfl) rfl ?_
        exact ⟨_, _, by first | (rw [← hBad.out]; done) | (rw [← hBad.out]; rfl), hE.out.bel⟩
      | true =>
        cases E with
        | false =>
          have hBad : Hid (true = !PB) := Lib.hid (by
            rw [← hPB.out]; unfold progOk okI; rw [hno.out (by rw [hio.out]; rfl)]; rfl)
          go_wp2_with fail
          go_quiet ((first
            | (go_at_call 50; with_reducible exact hN.out _)
            | (go_at_call 51; with_reducible exact hC.out _)))
          have hX := Lib.hid (hF.out.below (below_drewN (Below.refl wr.heap.size wr) nq))
          generalize wr.drewN nq = X at hX ⊢
          obtain ⟨⟨x0, x1, x2⟩, ⟨y0, y1, y2⟩, z0, z1, z2⟩ := hX.out.cells
          go_wp2_with fail
          have hE := Lib.hid (hX.out.put0 (a := .int .i64 1) (b := .int .i64 k) (c := .string ⟨#[]⟩))
          go_wp2_with fail
          refine bodyPost_ret (results_cell2 rfl _ _ (w.heap.size + 1) 82 _ (0, 0) _ rfl hE.out.b1 Tryd.underlying82 rfl sizeSpot (.bool true) rfl) rfl ?_
          exact ⟨_, _, by first | (rw [← hBad.out]; done) | (rw [← hBad.out]; rfl), hE.out.bel⟩
        | true =>
          go_wp2_with fail
          go_quiet ((first
            | (go_at_call 50; with_reducible exact hN.out _)
            | (go_at_call 51; with_reducible exact hC.out _)))
          have hX := Lib.hid (hF.out.below (below_drewN (Below.refl wr.heap.size wr) nq))
          generalize wr.drewN nq = X at hX ⊢
          obtain ⟨⟨x0, x1, x2⟩, ⟨y0, y1, y2⟩, z0, z1, z2⟩ := hX.out.cells
          go_wp2_with fail
          go_roundw
          case rel => exact ⟨k + 1, by omega, by go_num, Lib.hid (hnx.out (by rw [hio.out]; rfl)), hX⟩
          case measure => simp [intOf]; omega
    · have hke : k = I.length := by omega
      subst hke
      rw [List.take_length] at hok
      have hI0 := hok
      have hF0 := hF
      clear hok hF hlt hk x0 x1 x2
      obtain ⟨⟨x0, x1, x2⟩, -⟩ := hF0.out.cells
      go_wp2_with fail
      clear x0 x1 x2
      go_loopw [5] (fun i wr => ∃ (k : Nat), k ≤ O.length ∧ i = .int .i64 k ∧ Hid ((O.take k).all (fun x => decOk x.1 x.2) = true) ∧ Hid (FB w wr #[.slice a0 I.length c0, .slice a1 O.length c1, .slice a2 R.length c2] #[.int .i64 0, .int .i64 0, .string ⟨#[]⟩])) (fun i _ => O.length - (intOf i).toNat)
      case atStart => exact ⟨0, Nat.zero_le _, rfl, Lib.hid rfl, hF0⟩
      case round =>
        clear hF0
        obtain ⟨k, hk, rfl, hok, hF⟩ := hrel
        obtain ⟨⟨x0, x1, x2⟩, -⟩ := hF.out.cells
        by_cases hlt : k < O.length
        · obtain ⟨p, rfl, hd0, hd1⟩ := (hO.below hF.out.bel).cells k O[k] (List.getElem?_eq_getElem hlt)
          have hz1 := hO.size O[k] (List.getElem_mem hlt)
          have hnx := Lib.hid (fun h => all_take (f := fun x : OutD => decOk x.1 x.2) hlt hok.out h)
          have hno := Lib.hid (fun h => all_not (f := fun x : OutD => decOk x.1 x.2) hlt h)
          have hN : Hid (∀ n, Calls Tryd.prog 50 #[.string O[k].1, .int .i64 O[k].2] (wr.drewN n) fun e w' => e = .returned (.bool (decOk O[k].1 O[k].2)) ∧ ∃ m, w' = wr.drewN m) := Lib.hid fun n => (rk_named _ _ _ hz1).mono fun e w' h => ⟨h.1, n, h.2.symm⟩
          generalize O[k] = x at hd0 hd1 hN hnx hno
          obtain ⟨xp, xn⟩ := x
          dsimp only at hd0 hd1 hN hnx hno
          generalize decOk xp xn = D at hN hnx hno
          clear hz1
          have hq0 : (0 : Int) ≤ (k : Int) := Int.natCast_nonneg _
          have hq1 : (k : Int) < (O.length : Int) := by omega
          cases D with
          | false =>
            have hBad : Hid (true = !PB) := Lib.hid (by
              rw [← hPB.out]; unfold progOk okO; rw [hno.out (by trivial)]; simp)
            go_wp2_with fail
            go_quiet ((go_at_call 50; with_reducible exact hN.out _))
            have hX := Lib.hid (hF.out.below (below_drewN (Below.refl wr.heap.size wr) nq))
            generalize wr.drewN nq = X at hX ⊢
            obtain ⟨⟨x0, x1, x2⟩, ⟨y0, y1, y2⟩, z0, z1, z2⟩ := hX.out.cells
            go_wp2_with fail
            have hE := Lib.hid (hX.out.put0 (a := .int .i64 2) (b := .int .i64 k) (c := .string ⟨#[]⟩))
            go_wp2_with fail
            refine bodyPost_ret (results_cell2 rfl _ _ (w.heap.size + 1) 82 _ (0, 0) _ rfl hE.out.b1 Tryd.underlying82 rfl sizeSpot (.bool true) rfl) rfl ?_
            exact ⟨_, _, by first | (rw [← hBad.out]; done) | (rw [← hBad.out]; rfl), hE.out.bel⟩
          | true =>
            go_wp2_with fail
            go_quiet ((go_at_call 50; with_reducible exact hN.out _))
            have hX := Lib.hid (hF.out.below (below_drewN (Below.refl wr.heap.size wr) nq))
            generalize wr.drewN nq = X at hX ⊢
            obtain ⟨⟨x0, x1, x2⟩, ⟨y0, y1, y2⟩, z0, z1, z2⟩ := hX.out.cells
            go_wp2_with fail
            go_roundw
            case rel => exact ⟨k + 1, by omega, by go_num, Lib.hid (hnx.out (by trivial)), hX⟩
            case measure => simp [intOf]; omega
        · have hke : k = O.length := by omega
          subst hke
          rw [List.take_length] at hok
          have hO0 := hok
          have hF0 := hF
          clear hok hF hlt hk x0 x1 x2
          obtain ⟨⟨x0, x1, x2⟩, -⟩ := hF0.out.cells
          go_wp2_with fail
          clear x0 x1 x2
          go_loopw [6] (fun i wr => ∃ (k : Nat), k ≤ R.length ∧ i = .int .i64 k ∧ Hid ((R.take k).all ruleOk = true) ∧ Hid (FB w wr #[.slice a0 I.length c0, .slice a1 O.length c1, .slice a2 R.length c2] #[.int .i64 0, .int .i64 0, .string ⟨#[]⟩])) (fun i _ => R.length - (intOf i).toNat)
          case atStart => exact ⟨0, Nat.zero_le _, rfl, Lib.hid rfl, hF0⟩
          case round =>
            clear hF0
            obtain ⟨k, hk, rfl, hok, hF⟩ := hrel
            obtain ⟨⟨x0, x1, x2⟩, -⟩ := hF.out.cells
            by_cases hlt : k < R.length
            · obtain ⟨p, ad, acap, bd, bcap, rfl, hd0, hd1, hd2, hat, hbt⟩ := (hR.below hF.out.bel).cells k R[k] (List.getElem?_eq_getElem hlt)
              have hz1 := (hR.size R[k] (List.getElem_mem hlt)).1
              have hnx := Lib.hid (fun h => all_take (f := ruleOk) hlt hok.out h)
              have hno := Lib.hid (fun h => all_not (f := ruleOk) hlt h)
              generalize R[k] = x at hd0 hd1 hd2 hat hbt hz1 hnx hno
              have hN := fun w h1 h2 => rk_Rule x.h ad x.a acap bd x.b bcap w hz1 h1 h2
              have hrr : (⟨x.h, x.a, x.b⟩ : Rul) = x := rfl
              rw [hrr] at hN
              clear hrr hz1
              generalize ruleOk x = D at hN hnx hno
              obtain ⟨xh, xa, xb⟩ := x
              dsimp only at hd0 hd1 hd2 hN hat hbt
              have hq0 : (0 : Int) ≤ (k : Int) := Int.natCast_nonneg _
              have hq1 : (k : Int) < (R.length : Int) := by omega
              cases D with
              | false =>
                have hBad : Hid (true = !PB) := Lib.hid (by
                  rw [← hPB.out]; unfold progOk okR; rw [hno.out (by trivial)]; simp)
                go_wp2_with (go_at_call 52; refine (hN _ hat hbt).mono ?_; rintro e w2 ⟨rfl, hb2⟩; have hX := Lib.hid (hF.out.below hb2); clear hb2; obtain ⟨⟨x0, x1, x2⟩, ⟨y0, y1, y2⟩, z0, z1, z2⟩ := hX.out.cells)
                go_wp2_with fail
                have hE := Lib.hid (hX.out.put0 (a := .int .i64 3) (b := .int .i64 k) (c := .string ⟨#[]⟩))
                go_wp2_with fail
                refine bodyPost_ret (results_cell2 rfl _ _ (w.heap.size + 1) 82 _ (0, 0) _ rfl hE.out.b1 Tryd.underlying82 rfl sizeSpot (.bool true) rfl) rfl ?_
                exact ⟨_, _, by first | (rw [← hBad.out]; done) | (rw [← hBad.out]; rfl), hE.out.bel⟩
              | true =>
                go_wp2_with (go_at_call 52; refine (hN _ hat hbt).mono ?_; rintro e w2 ⟨rfl, hb2⟩; have hX := Lib.hid (hF.out.below hb2); clear hb2)
                go_roundw
                case rel => exact ⟨k + 1, by omega, by go_num, Lib.hid (hnx.out (by trivial)), hX⟩
                case measure => simp [intOf]; omega
            · have hke : k = R.length := by omega
              subst hke
              rw [List.take_length] at hok
              have hBad : Hid (false = !PB) := Lib.hid (by
                rw [← hPB.out]; unfold progOk okI okO okR; rw [hI0.out, hO0.out, hok.out]; rfl)
              obtain ⟨-, ⟨y0, y1, y2⟩, z0, z1, z2⟩ := hF.out.cells
              go_wp2_with fail
              have hE := Lib.hid (hF.out.put0 (a := .int .i64 0) (b := .int .i64 0) (c := .string ⟨#[]⟩))
              go_wp2_with fail
              refine bodyPost_ret (results_cell2 rfl _ _ (w.heap.size + 1) 82 _ (0, 0) _ rfl hE.out.b1 Tryd.underlying82 rfl sizeSpot (.bool false) rfl) rfl ?_
              exact ⟨_, _, by first | (rw [← hBad.out]; done) | (rw [← hBad.out]; rfl), hE.out.bel⟩
set_option maxHeartbeats 8000000 in
set_option maxRecDepth 100000 in
theorem rk_Formed (I : List InpD) (O : List OutD) (R : List Rul) (a0 a1 a2 : Option Addr) (c0 c1 c2 : Nat) (w : World) (hI : Inps w a0 I) (hO : Outs w a1 O) (hR : Ruls w a2 R) :
    Calls Tryd.prog 11 #[.agg #[.slice a0 I.length c0, .slice a1 O.length c1, .slice a2 R.length c2]] w fun e w' => e = .returned (.bool (progOk I O R)) ∧ Below w.heap.size w w' := by
  have hf := fun w h1 h2 h3 => rk_form I O R a0 a1 a2 c0 c1 c2 w h1 h2 h3
  generalize progOk I O R = b at hf ⊢
  go_enter Tryd.func11, Tryd.ntmps11
  go_wp2_with (go_at_call 29; refine (hf _ ((hI.new _)) ((hO.new _)) ((hR.new _))).mono ?_; rintro e w2 ⟨x, y, rfl, hb2⟩; replace hb2 := Lib.hid hb2)
  go_ret
  exact ⟨rfl, (one_cell hb2.out).al _⟩
end Go.Proofs.YtclioihichcpiaaDoor


/- Print: the document's small numbers. -/
namespace Go.Proofs.YtclioihichcpiaaDoor
open Go.RowKit Go.Shelf Lx
theorem small_own (w : World) (c : UInt8) : (w.alloc (.cells #[u8v c] 5)).ownsRow w.heap.size 5 1 (.slice (some ⟨w.heap.size, 0, none⟩) 1 1) 1 ([c].map u8v) :=
  ⟨rfl, .inr ⟨_, 1, _, rfl, Nat.le_refl _, heap_alloc_new _ _, by decide, by unfold maxLen; omega, rfl, rfl⟩⟩
set_option maxHeartbeats 1000000 in
set_option maxRecDepth 100000 in
theorem rs_small9 (n : Int) (h0 : 0 ≤ n) (h1 : n < 10) (w : World) : Calls Tryd.prog 14 #[.int .i64 n] w fun e w' => e = .returned (.string (mk (arL n))) ∧ Below w.heap.size w w' := by
  have hown := small_own w (byteI (48 + n))
  have hu : u8v (byteI (48 + n)) = .int .u8 (48 + n) := u8v_byteI _ (by omega) (by omega)
  have hconv := run_string_own (P := Tryd.prog) Tryd.underlying65 Tryd.underlying5 Tryd.underlying9 hown
  rw [hu] at hconv
  have hr : [byteI (48 + n)] = arL n := by unfold arL; rw [if_pos h1]
  rw [hr] at hconv
  have d0 : decide (n < 10) = true := decide_eq_true h1
  have w1 : IntKind.i64.wrap (48 + n) = 48 + n := IntWalk.i64_in _ (by omega)
  have w2 : IntKind.u8.wrap (48 + n) = 48 + n := by
    show (48 + n) % 256 = _
    omega
  generalize mk (arL n) = S at hconv ⊢
  clear hown hu hr
  go_enter Tryd.func14, Tryd.ntmps14
  go_wp2_with fail
  go_ret
  exact ⟨rfl, (Below.refl _ _).al _⟩
set_option maxHeartbeats 1000000 in
set_option maxRecDepth 100000 in
theorem rs_small (n : Int) (h0 : 0 ≤ n) (h1 : n ≤ 16) (w : World) : Calls Tryd.prog 14 #[.int .i64 n] w fun e w' => e = .returned (.string (mk (arL n))) ∧ Below w.heap.size w w' := by
  by_cases h9 : n < 10
  · exact rs_small9 n h0 h9 w
  · have hs := fun w => rs_small9 (n - 10) (by omega) (by omega) w
    have hr : Hid (ByteArray.mk #[49] ++ mk (arL (n - 10)) = mk (arL n)) := Lib.hid (ba_ext (by
      rw [bl_app]
      have e1 : bl (mk (arL (n - 10))) = arL (n - 10) := bl_mk _
      have e2 : bl (mk (arL n)) = arL n := bl_mk _
      rw [e1, e2]
      unfold arL
      rw [if_pos (by omega), if_neg h9, show 48 + (n - 10) = 38 + n from by omega]
      rfl))
    have hz : (mk (arL (n - 10))).size ≤ 2 := arL_len _
    have w1 : IntKind.i64.wrap (n - 10) = n - 10 := IntWalk.i64_in _ (by omega)
    have d0 : decide (n < 10) = false := decide_eq_false h9
    generalize mk (arL (n - 10)) = S at hs hr hz
    generalize mk (arL n) = T at hr ⊢
    go_enter Tryd.func14, Tryd.ntmps14
    go_wp2_with (go_at_call 14; refine (hs _).mono ?_; rintro e w2 ⟨rfl, hb2⟩; replace hb2 := Lib.hid hb2)
    go_ret
    rw [hr.out]
    exact ⟨rfl, hb2.out⟩
end Go.Proofs.YtclioihichcpiaaDoor


/- Print: a program, in the document. (gen_pik.py) -/
namespace Go.Proofs.YtclioihichcpiaaDoor
open Go.RowKit Go.Shelf Lx
/-- what is written of a program's statements, so far -/
def soI (I : List InpD) (k : Nat) : ByteArray := mk (progL ((I.take k).map prI))
def soO (I : List InpD) (O : List OutD) (k : Nat) : ByteArray := mk (progL (I.map prI) ++ progL ((O.take k).map prO))
def soR (I : List InpD) (O : List OutD) (R : List Rul) (k : Nat) : ByteArray := mk (progL (I.map prI) ++ (progL (O.map prO) ++ progL ((R.take k).map .rule)))
theorem mk_app (a b : Bs) : mk (a ++ b) = mk a ++ mk b := ba_ext (by rw [bl_app]; have h1 : bl (mk (a ++ b)) = a ++ b := bl_mk _; have h2 : bl (mk a) = a := bl_mk _; have h3 : bl (mk b) = b := bl_mk _; rw [h1, h2, h3])
theorem mk_size (l : Bs) : (mk l).size = l.length := by simp [mk, ByteArray.size]
theorem progL_one (x : Pr) : progL [x] = prL x ++ [10] := by simp [progL]
theorem so_all (I : List InpD) (O : List OutD) (R : List Rul) : soR I O R R.length = mk (progL (prsOf I O R)) ∧ soO I O 0 = soI I I.length ∧ soR I O R 0 = soO I O O.length := by
  unfold soR soO soI prsOf
  refine ⟨by rw [List.take_length, progL_app, progL_app], ?_, ?_⟩
  · rw [List.take_length]; simp [progL]
  · rw [List.take_length]; simp [progL]
theorem soI_step {I : List InpD} {k : Nat} (hk : k < I.length) : soI I (k + 1) = soI I k ++ ⟨#[105, 110, 112, 117, 116, 32]⟩ ++ I[k].1 ++ ⟨#[47]⟩ ++ mk (arL I[k].2.1) ++ ⟨#[32]⟩ ++ mk (quoteL (bl I[k].2.2)) ++ ⟨#[46, 10]⟩ := ba_ext (by
  unfold soI
  rw [List.take_succ_eq_append_getElem hk, List.map_append, progL_app]
  have e : progL ([I[k]].map prI) = prL (prI I[k]) ++ [10] := progL_one _
  rw [e]
  simp only [bl_app]
  have h1 : ∀ l, bl (mk l) = l := bl_mk
  rw [h1, h1, h1, h1]
  simp [prL, prI, sInput, bl])
theorem soO_step {I : List InpD} {O : List OutD} {k : Nat} (hk : k < O.length) : soO I O (k + 1) = soO I O k ++ ⟨#[111, 117, 116, 112, 117, 116, 32]⟩ ++ O[k].1 ++ ⟨#[47]⟩ ++ mk (arL O[k].2) ++ ⟨#[46, 10]⟩ := ba_ext (by
  unfold soO
  rw [List.take_succ_eq_append_getElem hk, List.map_append, progL_app]
  have e : progL ([O[k]].map prO) = prL (prO O[k]) ++ [10] := progL_one _
  rw [e]
  simp only [bl_app]
  have h1 : ∀ l, bl (mk l) = l := bl_mk
  rw [h1, h1, h1]
  simp [prL, prO, sOutput, bl])
theorem soR_step {I : List InpD} {O : List OutD} {R : List Rul} {k : Nat} (hk : k < R.length) : soR I O R (k + 1) = soR I O R k ++ ruleL R[k] ++ ⟨#[10]⟩ := ba_ext (by
  unfold soR
  rw [List.take_succ_eq_append_getElem hk, List.map_append, progL_app]
  have e : progL ([R[k]].map Pr.rule) = bl (ruleL R[k]) ++ [10] := progL_one _
  rw [e]
  simp only [bl_app]
  have h1 : ∀ l, bl (mk l) = l := bl_mk
  rw [h1, h1]
  simp [bl])
theorem so_size {I : List InpD} {O : List OutD} {R : List Rul} (h : (progL (prsOf I O R)).length ≤ 4194304) : (∀ k, (soI I k).size ≤ 4194304) ∧ (∀ k, (soO I O k).size ≤ 4194304) ∧ ∀ k, (soR I O R k).size ≤ 4194304 := by
  unfold prsOf at h
  rw [progL_app, progL_app, List.length_append, List.length_append] at h
  refine ⟨fun k => ?_, fun k => ?_, fun k => ?_⟩
  · have e : progL (I.map prI) = progL ((I.take k).map prI) ++ progL ((I.drop k).map prI) := by rw [← progL_app, ← List.map_append, List.take_append_drop]
    rw [e, List.length_append] at h
    unfold soI
    rw [mk_size]; omega
  · have e : progL (O.map prO) = progL ((O.take k).map prO) ++ progL ((O.drop k).map prO) := by rw [← progL_app, ← List.map_append, List.take_append_drop]
    rw [e, List.length_append] at h
    unfold soO
    rw [mk_size, List.length_append]; omega
  · have e : progL (R.map Pr.rule) = progL ((R.take k).map .rule) ++ progL ((R.drop k).map .rule) := by rw [← progL_app, ← List.map_append, List.take_append_drop]
    rw [e, List.length_append] at h
    unfold soR
    rw [mk_size, List.length_append, List.length_append]; omega
set_option maxHeartbeats 8000000 in
set_option maxRecDepth 100000 in
theorem rq_Program_no (I : List InpD) (O : List OutD) (R : List Rul) (a0 a1 a2 : Option Addr) (c0 c1 c2 : Nat) (w : World) (hI : Inps w a0 I) (hO : Outs w a1 O) (hR : Ruls w a2 R) (ho : progOk I O R = false) :
    Calls Tryd.prog 6 #[.agg #[.slice a0 I.length c0, .slice a1 O.length c1, .slice a2 R.length c2]] w fun e w' => e = .returned (.tuple #[.string (progS I O R), .int .i64 (progE I O R)]) ∧ Below w.heap.size w w' := by
  have hS : Hid (progS I O R = ⟨#[]⟩ ∧ progE I O R = 2) := Lib.hid (by unfold progS progE; rw [ho]; exact ⟨rfl, rfl⟩)
  have hf := fun w h1 h2 h3 => rk_Formed I O R a0 a1 a2 c0 c1 c2 w h1 h2 h3
  rw [ho] at hf
  clear ho
  generalize progS I O R = PS at hS ⊢
  generalize progE I O R = PE at hS ⊢
  go_enter Tryd.func6, Tryd.ntmps6
  go_wp2_with (go_at_call 11; refine (hf _ (hI.new _) (hO.new _) (hR.new _)).mono ?_; rintro e w1 ⟨rfl, h1⟩; have hB1 := Lib.hid ((B3.start w #[.slice a0 I.length c0, .slice a1 O.length c1, .slice a2 R.length c2] 26).below h1); clear h1; obtain ⟨x0, x1, x2⟩ := hB1.out.cells)
  go_ret2
  rw [hS.out.1, hS.out.2]
  exact ⟨rfl, hB1.out.bel⟩
set_option maxHeartbeats 8000000 in
set_option maxRecDepth 100000 in
theorem rq_Program_yes (I : List InpD) (O : List OutD) (R : List Rul) (a0 a1 a2 : Option Addr) (c0 c1 c2 : Nat) (w : World) (hI : Inps w a0 I) (hO : Outs w a1 O) (hR : Ruls w a2 R) (ho : progOk I O R = true) (hW : progWt I O R ≤ 1048576) :
    Calls Tryd.prog 6 #[.agg #[.slice a0 I.length c0, .slice a1 O.length c1, .slice a2 R.length c2]] w fun e w' => e = .returned (.tuple #[.string (progS I O R), .int .i64 (progE I O R)]) ∧ Below w.heap.size w w' := by
  have hS : Hid (progS I O R = mk (progL (prsOf I O R)) ∧ progE I O R = 0) := Lib.hid (by unfold progS progE; rw [ho]; exact ⟨rfl, rfl⟩)
  have hf := fun w h1 h2 h3 => rk_Formed I O R a0 a1 a2 c0 c1 c2 w h1 h2 h3
  rw [ho] at hf
  have hz := prog_len ho
  obtain ⟨hsI, hsO, hsR⟩ := so_size (I := I) (O := O) (R := R) (by omega)
  have ho2 := ho
  unfold progOk at ho2
  rw [Bool.and_eq_true, Bool.and_eq_true] at ho2
  obtain ⟨hoI, hoO, hoR⟩ := ho2
  clear ho hz hW
  generalize progS I O R = PS at hS ⊢
  generalize progE I O R = PE at hS ⊢
  have hlI := hI.len
  have hlO := hO.len
  have hlR := hR.len
  go_enter Tryd.func6, Tryd.ntmps6
  go_wp2_with (go_at_call 11; refine (hf _ (hI.new _) (hO.new _) (hR.new _)).mono ?_; rintro e w1 ⟨rfl, h1⟩; have hB1 := Lib.hid ((B3.start w #[.slice a0 I.length c0, .slice a1 O.length c1, .slice a2 R.length c2] 26).below h1); clear h1; obtain ⟨x0, x1, x2⟩ := hB1.out.cells)
  rw [show (ByteArray.mk #[]) = soI I 0 from rfl]
  go_loopw [5, 6] (fun s i wr => ∃ (k : Nat), k ≤ I.length ∧ i = .int .i64 k ∧ s = .string (soI I k) ∧ Hid (B3 w wr #[.slice a0 I.length c0, .slice a1 O.length c1, .slice a2 R.length c2] 26)) (fun _ i _ => I.length - (intOf i).toNat)
  case atStart => exact ⟨0, Nat.zero_le _, rfl, rfl, hB1⟩
  case round =>
    clear hB1
    obtain ⟨k, hk, rfl, rfl, hB⟩ := hrel
    obtain ⟨x0, x1, x2⟩ := hB.out.cells
    by_cases hlt : k < I.length
    · obtain ⟨p, rfl, hd0, hd1, hd2⟩ := (hI.below hB.out.bel).cells k I[k] (List.getElem?_eq_getElem hlt)
      obtain ⟨hy1, hy2⟩ := hI.size I[k] (List.getElem_mem hlt)
      have hst := Lib.hid (soI_step hlt)
      have hss := hsI k
      have hok : inpOk I[k] = true := List.all_eq_true.1 hoI _ (List.getElem_mem hlt)
      generalize I[k] = x at hd0 hd1 hd2 hy1 hy2 hst hok
      obtain ⟨xp, xn, xf⟩ := x
      dsimp only at hd0 hd1 hd2 hy1 hy2
      have hok2 : decOk xp xn = true ∧ xf.size ≤ 1024 := by
        unfold inpOk at hok
        rw [Bool.and_eq_true] at hok
        exact ⟨hok.1, of_decide_eq_true hok.2⟩
      have hn : 0 ≤ xn ∧ xn ≤ 16 := by
        have h := hok2.1
        unfold decOk at h
        rw [Bool.and_eq_true] at h
        exact of_decide_eq_true h.2
      have hsm := fun w => rs_small xn hn.1 hn.2 w
      have hq := fun w => rq_Quote xf w (by omega)
      have ha := arL_len xn
      have hqz : (mk (quoteL (bl xf))).size ≤ 4098 := by
        have h2 := quote_len (bl xf)
        have h3 := (escs_len (bl xf)).2
        rw [bl_length] at h3
        rw [mk_size]
        omega
      clear hok hok2 hn
      dsimp only at hst
      generalize mk (arL xn) = A at hsm ha hst
      generalize mk (quoteL (bl xf)) = Q at hq hqz hst
      generalize soI I k = S at hss hst ⊢
      have hq0 : (0 : Int) ≤ (k : Int) := Int.natCast_nonneg _
      have hq1 : (k : Int) < (I.length : Int) := by omega
      have hz0 : ¬ 9223372036854775807 < S.size + 6 := by omega
      have hz1 : ¬ 9223372036854775807 < S.size + 6 + xp.size := by omega
      have hz2 : ¬ 9223372036854775807 < S.size + 6 + xp.size + 1 := by omega
      have hz3 : ¬ 9223372036854775807 < S.size + 6 + xp.size + 1 + A.size := by omega
      have hz4 : ¬ 9223372036854775807 < S.size + 6 + xp.size + 1 + A.size + 1 := by omega
      have hz5 : ¬ 9223372036854775807 < S.size + 6 + xp.size + 1 + A.size + 1 + Q.size := by omega
      have hz6 : ¬ 9223372036854775807 < S.size + 6 + xp.size + 1 + A.size + 1 + Q.size + 2 := by omega
      have hkeep : Hid (∀ w', Below wr.heap.size wr w' → w'.cell? ⟨w.heap.size, 0, none⟩ = some (.slice (some p) I.length c0) ∧ w'.cell? (p.add (k * 3)) = some (.string xp) ∧ w'.cell? ⟨(p.add (k * 3)).block, (p.add (k * 3)).off + 1, none⟩ = some (.int .i64 xn) ∧ w'.cell? ⟨(p.add (k * 3)).block, (p.add (k * 3)).off + 2, none⟩ = some (.string xf)) := Lib.hid fun w' hb => ⟨cell_below hb rfl x0, cell_below hb rfl hd0, cell_below hb rfl hd1, cell_below hb rfl hd2⟩
      go_wp2_with fail
      go_region_held3 (fun w' => w'.cell? ⟨w.heap.size, 0, none⟩ = some (.slice (some p) I.length c0) ∧ w'.cell? (p.add (k * 3)) = some (.string xp) ∧ w'.cell? ⟨(p.add (k * 3)).block, (p.add (k * 3)).off + 1, none⟩ = some (.int .i64 xn) ∧ w'.cell? ⟨(p.add (k * 3)).block, (p.add (k * 3)).off + 2, none⟩ = some (.string xf))
        (first
          | exact hkeep.out _ (Below.refl _ _).drew
          | exact hkeep.out _ hb3.out
          | exact hkeep.out _ hb2.out)
        (first
          | (go_at_call 15; refine (hq _).mono ?_; rintro e w3 ⟨rfl, h3⟩
             have hb3 := Lib.hid (hb2.out.trans (h3.mono hb2.out.size))
             clear h3)
          | (go_at_call 14; refine (hsm _).mono ?_; rintro e w2 ⟨rfl, h2⟩
             have hb2 := Lib.hid ((Below.refl wr.heap.size wr).drew.trans h2)
             clear h2))
      have hBn := Lib.hid (hB.out.below hb3.out)
      go_wp2_with fail
      go_roundw
      case rel => exact ⟨k + 1, by omega, by go_num, by rw [hst.out], hBn⟩
      case measure => simp [intOf]; omega
    · have hke : k = I.length := by omega
      subst hke
      have hB1 := hB
      go_wp2_with fail
      clear x0 x1 x2 hB hlt hk
      rw [← (so_all I O R).2.1]
      go_loopw [5, 7] (fun s i wr => ∃ (k : Nat), k ≤ O.length ∧ i = .int .i64 k ∧ s = .string (soO I O k) ∧ Hid (B3 w wr #[.slice a0 I.length c0, .slice a1 O.length c1, .slice a2 R.length c2] 26)) (fun _ i _ => O.length - (intOf i).toNat)
      case atStart => exact ⟨0, Nat.zero_le _, rfl, rfl, hB1⟩
      case round =>
        clear hB1
        obtain ⟨k, hk, rfl, rfl, hB⟩ := hrel
        obtain ⟨x0, x1, x2⟩ := hB.out.cells
        by_cases hlt : k < O.length
        · obtain ⟨p, rfl, hd0, hd1⟩ := (hO.below hB.out.bel).cells k O[k] (List.getElem?_eq_getElem hlt)
          have hy1 := hO.size O[k] (List.getElem_mem hlt)
          have hst := Lib.hid (soO_step (I := I) hlt)
          have hss := hsO k
          have hok : decOk O[k].1 O[k].2 = true := List.all_eq_true.1 hoO _ (List.getElem_mem hlt)
          generalize O[k] = x at hd0 hd1 hy1 hst hok
          obtain ⟨xp, xn⟩ := x
          dsimp only at hd0 hd1 hy1 hok
          have hn : 0 ≤ xn ∧ xn ≤ 16 := by
            unfold decOk at hok
            rw [Bool.and_eq_true] at hok
            exact of_decide_eq_true hok.2
          have hsm := fun w => rs_small xn hn.1 hn.2 w
          have ha := arL_len xn
          clear hok hn
          dsimp only at hst
          generalize mk (arL xn) = A at hsm ha hst
          generalize soO I O k = S at hss hst ⊢
          have hq0 : (0 : Int) ≤ (k : Int) := Int.natCast_nonneg _
          have hq1 : (k : Int) < (O.length : Int) := by omega
          have hz0 : ¬ 9223372036854775807 < S.size + 7 := by omega
          have hz1 : ¬ 9223372036854775807 < S.size + 7 + xp.size := by omega
          have hz2 : ¬ 9223372036854775807 < S.size + 7 + xp.size + 1 := by omega
          have hz3 : ¬ 9223372036854775807 < S.size + 7 + xp.size + 1 + A.size := by omega
          have hz4 : ¬ 9223372036854775807 < S.size + 7 + xp.size + 1 + A.size + 2 := by omega
          have hkeep : Hid (∀ w', Below wr.heap.size wr w' → w'.cell? ⟨w.heap.size, 1, none⟩ = some (.slice (some p) O.length c1) ∧ w'.cell? (p.add (k * 2)) = some (.string xp) ∧ w'.cell? ⟨(p.add (k * 2)).block, (p.add (k * 2)).off + 1, none⟩ = some (.int .i64 xn)) := Lib.hid fun w' hb => ⟨cell_below hb rfl x1, cell_below hb rfl hd0, cell_below hb rfl hd1⟩
          go_wp2_with fail
          go_region_held3 (fun w' => w'.cell? ⟨w.heap.size, 1, none⟩ = some (.slice (some p) O.length c1) ∧ w'.cell? (p.add (k * 2)) = some (.string xp) ∧ w'.cell? ⟨(p.add (k * 2)).block, (p.add (k * 2)).off + 1, none⟩ = some (.int .i64 xn))
            (first
              | exact hkeep.out _ (Below.refl _ _).drew
              | exact hkeep.out _ hb2.out)
            (first
              | (go_at_call 14; refine (hsm _).mono ?_; rintro e w2 ⟨rfl, h2⟩
                 have hb2 := Lib.hid ((Below.refl wr.heap.size wr).drew.trans h2)
                 clear h2))
          have hBn := Lib.hid (hB.out.below hb2.out)
          go_wp2_with fail
          go_roundw
          case rel => exact ⟨k + 1, by omega, by go_num, by rw [hst.out], hBn⟩
          case measure => simp [intOf]; omega
        · have hke : k = O.length := by omega
          subst hke
          have hB1 := hB
          go_wp2_with fail
          clear x0 x1 x2 hB hlt hk
          rw [← (so_all I O R).2.2]
          go_loopw [5, 8] (fun s i wr => ∃ (k : Nat), k ≤ R.length ∧ i = .int .i64 k ∧ s = .string (soR I O R k) ∧ Hid (B3 w wr #[.slice a0 I.length c0, .slice a1 O.length c1, .slice a2 R.length c2] 26)) (fun _ i _ => R.length - (intOf i).toNat)
          case atStart => exact ⟨0, Nat.zero_le _, rfl, rfl, hB1⟩
          case round =>
            clear hB1
            obtain ⟨k, hk, rfl, rfl, hB⟩ := hrel
            obtain ⟨x0, x1, x2⟩ := hB.out.cells
            by_cases hlt : k < R.length
            · obtain ⟨p, ad, acap, bd, bcap, rfl, hd0, hd1, hd2, hat, hbt⟩ := (hR.below hB.out.bel).cells k R[k] (List.getElem?_eq_getElem hlt)
              obtain ⟨hy1, hy2⟩ := hR.size R[k] (List.getElem_mem hlt)
              have hst := Lib.hid (soR_step (I := I) (O := O) hlt)
              have hss := hsR k
              have hok : ruleOk R[k] = true := List.all_eq_true.1 hoR _ (List.getElem_mem hlt)
              generalize R[k] = x at hd0 hd1 hd2 hat hbt hy1 hy2 hst hok
              have hru := fun w h1 h2 => rq_rule x.h ad x.a acap bd x.b bcap w hy1 h1 h2 hok
              have hxx : (⟨x.h, x.a, x.b⟩ : Rul) = x := rfl
              rw [hxx] at hru
              have hlz := rule_len hok
              rw [bl_length] at hlz
              have hlz2 : (ruleL x).size ≤ 4194304 := by omega
              clear hok hxx hy1 hy2 hlz
              generalize ruleL x = Q at hru hlz2 hst
              obtain ⟨xh, xa, xb⟩ := x
              dsimp only at hd0 hd1 hd2 hat hbt hru
              generalize soR I O R k = S at hss hst ⊢
              have hq0 : (0 : Int) ≤ (k : Int) := Int.natCast_nonneg _
              have hq1 : (k : Int) < (R.length : Int) := by omega
              have hz0 : ¬ 9223372036854775807 < S.size + Q.size := by omega
              have hz1 : ¬ 9223372036854775807 < S.size + Q.size + 1 := by omega
              go_wp2_with (go_at_call 16; refine (hru _ hat hbt).mono ?_; rintro e w2 ⟨rfl, hb2⟩; have hBn := Lib.hid (hB.out.below hb2); clear hb2)
              go_roundw
              case rel => exact ⟨k + 1, by omega, by go_num, by rw [hst.out], hBn⟩
              case measure => simp [intOf]; omega
            · have hke : k = R.length := by omega
              subst hke
              go_wp2_with fail
              go_ret2
              rw [hS.out.1, hS.out.2, ← (so_all I O R).1]
              exact ⟨rfl, hB.out.bel⟩
theorem rq_Program (I : List InpD) (O : List OutD) (R : List Rul) (a0 a1 a2 : Option Addr) (c0 c1 c2 : Nat) (w : World) (hI : Inps w a0 I) (hO : Outs w a1 O) (hR : Ruls w a2 R) (hW : progWt I O R ≤ 1048576) :
    Calls Tryd.prog 6 #[.agg #[.slice a0 I.length c0, .slice a1 O.length c1, .slice a2 R.length c2]] w fun e w' => e = .returned (.tuple #[.string (progS I O R), .int .i64 (progE I O R)]) ∧ Below w.heap.size w w' := by
  cases ho : progOk I O R with
  | true => exact rq_Program_yes I O R a0 a1 a2 c0 c1 c2 w hI hO hR ho hW
  | false => exact rq_Program_no I O R a0 a1 a2 c0 c1 c2 w hI hO hR ho
end Go.Proofs.YtclioihichcpiaaDoor
