/- Print: is a program in form, in the document. (gen_pif.py) -/
import Derived.Test.YtclioihichcpiaaDoorJoQ
import Derived.Test.YtclioihichcpiaaDoorJoN
import Derived.Deep.QuietTactic
import Derived.BigQuiet
import Derived.Test.YtclioihichcpiaaDoorJoG
import Derived.Deep.RegionHeld3
set_option maxHeartbeats 8000000
set_option maxRecDepth 100000
namespace Go.Proofs.YtclioihichcpiaaDoor
open Go.RowKit Go.Shelf Lx
theorem rk_named (p : ByteArray) (n : Int) (w : World) (hp : p.size ≤ 1048576) :
    Calls Tryd.prog 50 #[.string p,.int .i64 n] w fun e w' => e = .returned (.bool (decOk p n)) ∧ w = w' := by
 have hn := fun w => rp_Name p w (by omega);unfold decOk
 cases hb : nameB (bl p) with
 | false =>
  rw [hb] at hn;rw [Bool.false_and];clear hb;go_enter Tryd.func50,Tryd.ntmps50
  go_wp2_with (go_at_call 67;refine (hn _).mono ?_;rintro e w1 ⟨rfl,rfl⟩)
  go_ret;exact ⟨rfl,rfl⟩
 | true =>
  rw [hb] at hn;rw [Bool.true_and];clear hb
  by_cases h0 : 0 ≤ n
  · have d0 : decide (0 ≤ n) = true := decide_eq_true h0
    have hR : Hid (decide (0 ≤ n ∧ n ≤ 16) = decide (n ≤ 16)) := Lib.hid (by
     by_cases h1 : n ≤ 16
     · rw [decide_eq_true h1,decide_eq_true ⟨h0,h1⟩]
     · rw [decide_eq_false h1,decide_eq_false (fun h => h1 h.2)])
    go_enter Tryd.func50,Tryd.ntmps50
    go_wp2_with (go_at_call 67;refine (hn _).mono ?_;rintro e w1 ⟨rfl,rfl⟩)
    go_ret;exact ⟨by rw [hR.out];rfl,rfl⟩
  · have d0 : decide (0 ≤ n) = false := decide_eq_false h0;have hR : Hid (decide (0 ≤ n ∧ n ≤ 16) = false) := Lib.hid (decide_eq_false (fun h => h0 h.1));go_enter Tryd.func50,Tryd.ntmps50
    go_wp2_with (go_at_call 67;refine (hn _).mono ?_;rintro e w1 ⟨rfl,rfl⟩)
    go_ret;exact ⟨by rw [hR.out];rfl,rfl⟩
theorem all_take {α : Type _} {f : α → Bool} {l : List α} {k : Nat} (hlt : k < l.length) (h : (l.take k).all f = true) (hx : f l[k] = true) : (l.take (k + 1)).all f = true := by
 rw [List.take_succ_eq_append_getElem hlt,List.all_append,h];simp [hx]
theorem all_not {α : Type _} {f : α → Bool} {l : List α} {k : Nat} (hlt : k < l.length) (hx : f l[k] = false) : l.all f = false := by
 rw [List.all_eq_false];exact ⟨l[k],List.getElem_mem hlt,by simp [hx]⟩
/-- a program's box and a spot's -/
structure FB (w W : World) (u v : Array Value) : Prop where
  bel : Below w.heap.size w W
  b0 : W.heap[w.heap.size]? = some (.cells u 26)
  b1 : W.heap[w.heap.size + 1]? = some (.cells v 82)
theorem FB.start (w : World) (u v : Array Value) : FB w ((w.alloc (.cells u 26)).alloc (.cells v 82)) u v :=
  have h := @k_two w _ (.cells u 26) (.cells v 82) (Below.refl _ _)
  ⟨h.1,h.2.1,h.2.2⟩
theorem FB.lt {w W : World} {u v : Array Value} (h : FB w W u v) : w.heap.size + 1 < W.heap.size := (Array.getElem?_eq_some_iff.1 h.b1).1
theorem FB.below {w W W' : World} {u v : Array Value} (h : FB w W u v) (hb : Below W.heap.size W W') : FB w W' u v :=
  ⟨h.bel.trans (hb.mono h.bel.size),(hb.block _ (by have := h.lt;omega)).trans h.b0,(hb.block _ h.lt).trans h.b1⟩
theorem FB.cells {w W : World} {a b c x y z : Value} (h : FB w W #[a,b,c] #[x,y,z]) : (W.cell? ⟨w.heap.size,0,none⟩ = some a ∧ W.cell? ⟨w.heap.size,1,none⟩ = some b ∧ W.cell? ⟨w.heap.size,2,none⟩ = some c) ∧ (W.cell? ⟨w.heap.size + 1,0,none⟩ = some x ∧ W.cell? ⟨w.heap.size + 1,1,none⟩ = some y ∧ W.cell? ⟨w.heap.size + 1,2,none⟩ = some z) ∧ W.frozen? ⟨w.heap.size + 1,0,none⟩ = false ∧ W.frozen? ⟨w.heap.size + 1,1,none⟩ = false ∧ W.frozen? ⟨w.heap.size + 1,2,none⟩ = false := by
 have h1 := h.b0;have h2 := h.b1;exact ⟨⟨by simp [World.cell?,h1],by simp [World.cell?,h1],by simp [World.cell?,h1]⟩,⟨by simp [World.cell?,h2],by simp [World.cell?,h2],by simp [World.cell?,h2]⟩,by simp [World.frozen?,h2],by simp [World.frozen?,h2],by simp [World.frozen?,h2]⟩
theorem FB.put {w W : World} {u : Array Value} {x y z a b c : Value} (h : FB w W u #[x,y,z]) : FB w (((W.setCell ⟨w.heap.size + 1,0,none⟩ a).setCell ⟨w.heap.size + 1,1,none⟩ b).setCell ⟨w.heap.size + 1,2,none⟩ c).drew u #[a,b,c] := by
 have hg : w.heap.size ≤ w.heap.size + 1 := by omega
 refine ⟨(((h.bel.setCell (p := ⟨w.heap.size + 1,0,none⟩) hg a).setCell (p := ⟨w.heap.size + 1,1,none⟩) hg b).setCell (p := ⟨w.heap.size + 1,2,none⟩) hg c).drew,?_,?_⟩
 · have hne : w.heap.size ≠ w.heap.size + 1 := by omega
   exact (set_neP _ hne).trans ((set_neP _ hne).trans ((set_neP _ hne).trans h.b0))
 · exact Go.heap_setCell_same _ _ _ _ _ _ (Go.heap_setCell_same _ _ _ _ _ _ (Go.heap_setCell_same _ _ _ _ _ _ h.b1))
theorem FB.put0 {w W : World} {u : Array Value} {x y z a b c : Value} (h : FB w W u #[x,y,z]) : FB w (((W.setCell ⟨w.heap.size + 1,0,none⟩ a).setCell ⟨w.heap.size + 1,1,none⟩ b).setCell ⟨w.heap.size + 1,2,none⟩ c) u #[a,b,c] := by
 have hg : w.heap.size ≤ w.heap.size + 1 := by omega
 refine ⟨((h.bel.setCell (p := ⟨w.heap.size + 1,0,none⟩) hg a).setCell (p := ⟨w.heap.size + 1,1,none⟩) hg b).setCell (p := ⟨w.heap.size + 1,2,none⟩) hg c,?_,?_⟩
 · have hne : w.heap.size ≠ w.heap.size + 1 := by omega
   exact (set_neP _ hne).trans ((set_neP _ hne).trans ((set_neP _ hne).trans h.b0))
 · exact Go.heap_setCell_same _ _ _ _ _ _ (Go.heap_setCell_same _ _ _ _ _ _ (Go.heap_setCell_same _ _ _ _ _ _ h.b1))
theorem sizeSpot : (Tryd.prog.info? 82).map (fun i => i.size) = some 3 := by kernel_rfl
theorem rk_form (I : List InpD) (O : List OutD) (R : List Rul) (a0 a1 a2 : Option Addr) (c0 c1 c2 : Nat) (w : World) (hI : Inps w a0 I) (hO : Outs w a1 O) (hR : Ruls w a2 R) :
    Calls Tryd.prog 29 #[.agg #[.slice a0 I.length c0,.slice a1 O.length c1,.slice a2 R.length c2]] w fun e w' => ∃ a b : Int,e = .returned (.tuple #[.agg #[.int .i64 a,.int .i64 b,.string ⟨#[]⟩],.bool (!progOk I O R)]) ∧ Below w.heap.size w w' := by
 have hlI := hI.len;have hlO := hO.len;have hlR := hR.len;obtain ⟨PB,hPB⟩ : ∃ b,progOk I O R = b := ⟨_,rfl⟩;rw [hPB];replace hPB := Lib.hid hPB;go_enter Tryd.func29,Tryd.ntmps29;go_wp2_with fail
 have hF0 : Hid (FB w ((w.alloc (.cells #[.slice a0 I.length c0,.slice a1 O.length c1,.slice a2 R.length c2] 26)).alloc (.cells #[.int .i64 0,.int .i64 0,.string ⟨#[]⟩] 82)) #[.slice a0 I.length c0,.slice a1 O.length c1,.slice a2 R.length c2] #[.int .i64 0,.int .i64 0,.string ⟨#[]⟩]) := Lib.hid (FB.start _ _ _)
 generalize (w.alloc (.cells #[.slice a0 I.length c0,.slice a1 O.length c1,.slice a2 R.length c2] 26)).alloc (.cells #[.int .i64 0,.int .i64 0,.string ⟨#[]⟩] 82) = W0 at hF0 ⊢
 go_loopw [4] (fun i wr => ∃ (k : Nat),k ≤ I.length ∧ i = .int .i64 k ∧ Hid ((I.take k).all inpOk = true) ∧ Hid (FB w wr #[.slice a0 I.length c0,.slice a1 O.length c1,.slice a2 R.length c2] #[.int .i64 0,.int .i64 0,.string ⟨#[]⟩])) (fun i _ => I.length - (intOf i).toNat)
 case atStart => exact ⟨0,Nat.zero_le _,rfl,Lib.hid rfl,hF0⟩
 case round =>
  clear hF0;obtain ⟨k,hk,rfl,hok,hF⟩ := hrel;obtain ⟨⟨x0,x1,x2⟩,-⟩ := hF.out.cells
  by_cases hlt : k < I.length
  · obtain ⟨p,rfl,hd0,hd1,hd2⟩ := (hI.below hF.out.bel).cells k I[k] (List.getElem?_eq_getElem hlt);obtain ⟨hz1,hz2⟩ := hI.size I[k] (List.getElem_mem hlt);have hnx := Lib.hid (fun h => all_take (f := inpOk) hlt hok.out h);have hno := Lib.hid (fun h => all_not (f := inpOk) hlt h)
    have hN : Hid (∀ n,Calls Tryd.prog 50 #[.string I[k].1,.int .i64 I[k].2.1] (wr.drewN n) fun e w' => e = .returned (.bool (decOk I[k].1 I[k].2.1)) ∧ ∃ m,w' = wr.drewN m) := Lib.hid fun n => (rk_named _ _ _ hz1).mono fun e w' h => ⟨h.1,n,h.2.symm⟩
    have hC : Hid (∀ n,Calls Tryd.prog 51 #[.string I[k].2.2] (wr.drewN n) fun e w' => e = .returned (.bool (decide (I[k].2.2.size ≤ 1024))) ∧ ∃ m,w' = wr.drewN m) := Lib.hid fun n => (rk_constant _ _).mono fun e w' h => ⟨by rw [h.1,bl_length],n,h.2.symm⟩;have hio : inpOk I[k] = (decOk I[k].1 I[k].2.1 && decide (I[k].2.2.size ≤ 1024)) := rfl;replace hio := Lib.hid hio
    generalize I[k] = x at hd0 hd1 hd2 hN hC hnx hno hio;obtain ⟨xp,xn,xf⟩ := x;dsimp only at hd0 hd1 hd2 hN hC;generalize decOk xp xn = D at hN hio;generalize decide (xf.size ≤ 1024) = E at hC hio;clear hz1 hz2;have hq0 : (0 : Int) ≤ (k : Int) := Int.natCast_nonneg _;have hq1 : (k : Int) < (I.length : Int) := by omega
    cases D with
    | false =>
     have hBad : Hid (true = !PB) := Lib.hid (by
      rw [← hPB.out];unfold progOk okI;rw [hno.out (by rw [hio.out];rfl)];rfl)
     go_wp2_with fail
     go_quiet ((first
       | (go_at_call 50;with_reducible exact hN.out _)
       | (go_at_call 51;with_reducible exact hC.out _)))
     have hX := Lib.hid (hF.out.below (below_drewN (Below.refl wr.heap.size wr) nq));generalize wr.drewN nq = X at hX ⊢;obtain ⟨⟨x0,x1,x2⟩,⟨y0,y1,y2⟩,z0,z1,z2⟩ := hX.out.cells;go_wp2_with fail;have hE := Lib.hid (hX.out.put0 (a := .int .i64 1) (b := .int .i64 k) (c := .string ⟨#[]⟩));go_wp2_with fail
     refine bodyPost_ret (results_cell2 rfl _ _ (w.heap.size + 1) 82 _ (0,0) _ rfl hE.out.b1 Tryd.underlying82 rfl sizeSpot (.bool true) rfl) rfl ?_;exact ⟨_,_,by first | (rw [← hBad.out];done) | (rw [← hBad.out];rfl),hE.out.bel⟩
    | true =>
     cases E with
     | false =>
      have hBad : Hid (true = !PB) := Lib.hid (by
       rw [← hPB.out];unfold progOk okI;rw [hno.out (by rw [hio.out];rfl)];rfl)
      go_wp2_with fail
      go_quiet ((first
        | (go_at_call 50;with_reducible exact hN.out _)
        | (go_at_call 51;with_reducible exact hC.out _)))
      have hX := Lib.hid (hF.out.below (below_drewN (Below.refl wr.heap.size wr) nq));generalize wr.drewN nq = X at hX ⊢;obtain ⟨⟨x0,x1,x2⟩,⟨y0,y1,y2⟩,z0,z1,z2⟩ := hX.out.cells;go_wp2_with fail;have hE := Lib.hid (hX.out.put0 (a := .int .i64 1) (b := .int .i64 k) (c := .string ⟨#[]⟩));go_wp2_with fail
      refine bodyPost_ret (results_cell2 rfl _ _ (w.heap.size + 1) 82 _ (0,0) _ rfl hE.out.b1 Tryd.underlying82 rfl sizeSpot (.bool true) rfl) rfl ?_;exact ⟨_,_,by first | (rw [← hBad.out];done) | (rw [← hBad.out];rfl),hE.out.bel⟩
     | true =>
      go_wp2_with fail
      go_quiet ((first
        | (go_at_call 50;with_reducible exact hN.out _)
        | (go_at_call 51;with_reducible exact hC.out _)))
      have hX := Lib.hid (hF.out.below (below_drewN (Below.refl wr.heap.size wr) nq));generalize wr.drewN nq = X at hX ⊢;obtain ⟨⟨x0,x1,x2⟩,⟨y0,y1,y2⟩,z0,z1,z2⟩ := hX.out.cells;go_wp2_with fail;go_roundw
      case rel => exact ⟨k + 1,by omega,by go_num,Lib.hid (hnx.out (by rw [hio.out];rfl)),hX⟩
      case measure => simp [intOf];omega
  · have hke : k = I.length := by omega
    subst hke;rw [List.take_length] at hok;have hI0 := hok;have hF0 := hF;clear hok hF hlt hk x0 x1 x2;obtain ⟨⟨x0,x1,x2⟩,-⟩ := hF0.out.cells;go_wp2_with fail;clear x0 x1 x2
    go_loopw [5] (fun i wr => ∃ (k : Nat),k ≤ O.length ∧ i = .int .i64 k ∧ Hid ((O.take k).all (fun x => decOk x.1 x.2) = true) ∧ Hid (FB w wr #[.slice a0 I.length c0,.slice a1 O.length c1,.slice a2 R.length c2] #[.int .i64 0,.int .i64 0,.string ⟨#[]⟩])) (fun i _ => O.length - (intOf i).toNat)
    case atStart => exact ⟨0,Nat.zero_le _,rfl,Lib.hid rfl,hF0⟩
    case round =>
     clear hF0;obtain ⟨k,hk,rfl,hok,hF⟩ := hrel;obtain ⟨⟨x0,x1,x2⟩,-⟩ := hF.out.cells
     by_cases hlt : k < O.length
     · obtain ⟨p,rfl,hd0,hd1⟩ := (hO.below hF.out.bel).cells k O[k] (List.getElem?_eq_getElem hlt);have hz1 := hO.size O[k] (List.getElem_mem hlt);have hnx := Lib.hid (fun h => all_take (f := fun x : OutD => decOk x.1 x.2) hlt hok.out h);have hno := Lib.hid (fun h => all_not (f := fun x : OutD => decOk x.1 x.2) hlt h)
       have hN : Hid (∀ n,Calls Tryd.prog 50 #[.string O[k].1,.int .i64 O[k].2] (wr.drewN n) fun e w' => e = .returned (.bool (decOk O[k].1 O[k].2)) ∧ ∃ m,w' = wr.drewN m) := Lib.hid fun n => (rk_named _ _ _ hz1).mono fun e w' h => ⟨h.1,n,h.2.symm⟩;generalize O[k] = x at hd0 hd1 hN hnx hno;obtain ⟨xp,xn⟩ := x;dsimp only at hd0 hd1 hN hnx hno;generalize decOk xp xn = D at hN hnx hno
       clear hz1;have hq0 : (0 : Int) ≤ (k : Int) := Int.natCast_nonneg _;have hq1 : (k : Int) < (O.length : Int) := by omega
       cases D with
       | false =>
        have hBad : Hid (true = !PB) := Lib.hid (by
         rw [← hPB.out];unfold progOk okO;rw [hno.out (by trivial)];simp)
        go_wp2_with fail;go_quiet ((go_at_call 50;with_reducible exact hN.out _));have hX := Lib.hid (hF.out.below (below_drewN (Below.refl wr.heap.size wr) nq));generalize wr.drewN nq = X at hX ⊢;obtain ⟨⟨x0,x1,x2⟩,⟨y0,y1,y2⟩,z0,z1,z2⟩ := hX.out.cells;go_wp2_with fail;have hE := Lib.hid (hX.out.put0 (a := .int .i64 2) (b := .int .i64 k) (c := .string ⟨#[]⟩));go_wp2_with fail
        refine bodyPost_ret (results_cell2 rfl _ _ (w.heap.size + 1) 82 _ (0,0) _ rfl hE.out.b1 Tryd.underlying82 rfl sizeSpot (.bool true) rfl) rfl ?_;exact ⟨_,_,by first | (rw [← hBad.out];done) | (rw [← hBad.out];rfl),hE.out.bel⟩
       | true =>
        go_wp2_with fail;go_quiet ((go_at_call 50;with_reducible exact hN.out _));have hX := Lib.hid (hF.out.below (below_drewN (Below.refl wr.heap.size wr) nq));generalize wr.drewN nq = X at hX ⊢;obtain ⟨⟨x0,x1,x2⟩,⟨y0,y1,y2⟩,z0,z1,z2⟩ := hX.out.cells;go_wp2_with fail;go_roundw
        case rel => exact ⟨k + 1,by omega,by go_num,Lib.hid (hnx.out (by trivial)),hX⟩
        case measure => simp [intOf];omega
     · have hke : k = O.length := by omega
       subst hke;rw [List.take_length] at hok;have hO0 := hok;have hF0 := hF;clear hok hF hlt hk x0 x1 x2;obtain ⟨⟨x0,x1,x2⟩,-⟩ := hF0.out.cells;go_wp2_with fail;clear x0 x1 x2
       go_loopw [6] (fun i wr => ∃ (k : Nat),k ≤ R.length ∧ i = .int .i64 k ∧ Hid ((R.take k).all ruleOk = true) ∧ Hid (FB w wr #[.slice a0 I.length c0,.slice a1 O.length c1,.slice a2 R.length c2] #[.int .i64 0,.int .i64 0,.string ⟨#[]⟩])) (fun i _ => R.length - (intOf i).toNat)
       case atStart => exact ⟨0,Nat.zero_le _,rfl,Lib.hid rfl,hF0⟩
       case round =>
        clear hF0;obtain ⟨k,hk,rfl,hok,hF⟩ := hrel;obtain ⟨⟨x0,x1,x2⟩,-⟩ := hF.out.cells
        by_cases hlt : k < R.length
        · obtain ⟨p,ad,acap,bd,bcap,rfl,hd0,hd1,hd2,hat,hbt⟩ := (hR.below hF.out.bel).cells k R[k] (List.getElem?_eq_getElem hlt);have hz1 := (hR.size R[k] (List.getElem_mem hlt)).1;have hnx := Lib.hid (fun h => all_take (f := ruleOk) hlt hok.out h);have hno := Lib.hid (fun h => all_not (f := ruleOk) hlt h);generalize R[k] = x at hd0 hd1 hd2 hat hbt hz1 hnx hno
          have hN := fun w h1 h2 => rk_Rule x.h ad x.a acap bd x.b bcap w hz1 h1 h2;have hrr : (⟨x.h,x.a,x.b⟩ : Rul) = x := rfl;rw [hrr] at hN;clear hrr hz1;generalize ruleOk x = D at hN hnx hno;obtain ⟨xh,xa,xb⟩ := x;dsimp only at hd0 hd1 hd2 hN hat hbt;have hq0 : (0 : Int) ≤ (k : Int) := Int.natCast_nonneg _;have hq1 : (k : Int) < (R.length : Int) := by omega
          cases D with
          | false =>
           have hBad : Hid (true = !PB) := Lib.hid (by
            rw [← hPB.out];unfold progOk okR;rw [hno.out (by trivial)];simp)
           go_wp2_with (go_at_call 52;refine (hN _ hat hbt).mono ?_;rintro e w2 ⟨rfl,hb2⟩;have hX := Lib.hid (hF.out.below hb2);clear hb2;obtain ⟨⟨x0,x1,x2⟩,⟨y0,y1,y2⟩,z0,z1,z2⟩ := hX.out.cells)
           go_wp2_with fail;have hE := Lib.hid (hX.out.put0 (a := .int .i64 3) (b := .int .i64 k) (c := .string ⟨#[]⟩));go_wp2_with fail;refine bodyPost_ret (results_cell2 rfl _ _ (w.heap.size + 1) 82 _ (0,0) _ rfl hE.out.b1 Tryd.underlying82 rfl sizeSpot (.bool true) rfl) rfl ?_;exact ⟨_,_,by first | (rw [← hBad.out];done) | (rw [← hBad.out];rfl),hE.out.bel⟩
          | true =>
           go_wp2_with (go_at_call 52;refine (hN _ hat hbt).mono ?_;rintro e w2 ⟨rfl,hb2⟩;have hX := Lib.hid (hF.out.below hb2);clear hb2)
           go_roundw
           case rel => exact ⟨k + 1,by omega,by go_num,Lib.hid (hnx.out (by trivial)),hX⟩
           case measure => simp [intOf];omega
        · have hke : k = R.length := by omega
          subst hke;rw [List.take_length] at hok
          have hBad : Hid (false = !PB) := Lib.hid (by
           rw [← hPB.out];unfold progOk okI okO okR;rw [hI0.out,hO0.out,hok.out];rfl)
          obtain ⟨-,⟨y0,y1,y2⟩,z0,z1,z2⟩ := hF.out.cells;go_wp2_with fail;have hE := Lib.hid (hF.out.put0 (a := .int .i64 0) (b := .int .i64 0) (c := .string ⟨#[]⟩));go_wp2_with fail;refine bodyPost_ret (results_cell2 rfl _ _ (w.heap.size + 1) 82 _ (0,0) _ rfl hE.out.b1 Tryd.underlying82 rfl sizeSpot (.bool false) rfl) rfl ?_
          exact ⟨_,_,by first | (rw [← hBad.out];done) | (rw [← hBad.out];rfl),hE.out.bel⟩
theorem rk_Formed (I : List InpD) (O : List OutD) (R : List Rul) (a0 a1 a2 : Option Addr) (c0 c1 c2 : Nat) (w : World) (hI : Inps w a0 I) (hO : Outs w a1 O) (hR : Ruls w a2 R) :
    Calls Tryd.prog 11 #[.agg #[.slice a0 I.length c0,.slice a1 O.length c1,.slice a2 R.length c2]] w fun e w' => e = .returned (.bool (progOk I O R)) ∧ Below w.heap.size w w' := by
 have hf := fun w h1 h2 h3 => rk_form I O R a0 a1 a2 c0 c1 c2 w h1 h2 h3;generalize progOk I O R = b at hf ⊢;go_enter Tryd.func11,Tryd.ntmps11
 go_wp2_with (go_at_call 29;refine (hf _ ((hI.new _)) ((hO.new _)) ((hR.new _))).mono ?_;rintro e w2 ⟨x,y,rfl,hb2⟩;replace hb2 := Lib.hid hb2)
 go_ret;exact ⟨rfl,(one_cell hb2.out).al _⟩
end Go.Proofs.YtclioihichcpiaaDoor
/- Print: the document's small numbers. -/
namespace Go.Proofs.YtclioihichcpiaaDoor
open Go.RowKit Go.Shelf Lx
end Go.Proofs.YtclioihichcpiaaDoor
/- Print: a program, in the document. (gen_pik.py) -/
namespace Go.Proofs.YtclioihichcpiaaDoor
open Go.RowKit Go.Shelf Lx
theorem so_mk_size (l : Bs) : (mk l).size = l.length := by simp [mk,ByteArray.size]
end Go.Proofs.YtclioihichcpiaaDoor
