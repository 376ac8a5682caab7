/- lex.next: signs. -/
import Derived.Test.YtmjincocmhadeaaDoorProg
import Derived.Test.YtmjincocmhadeaaDoorBase
import Derived.Test.YtmjincocmhadeaaDoorBytes
import Derived.Test.YtmjincocmhadeaaDoorLexSpec
import Derived.Test.YtmjincocmhadeaaDoorLexA
import Derived.Test.YtmjincocmhadeaaDoorLexB
import Derived.Test.YtmjincocmhadeaaDoorLexE
import Derived.Test.YtmjincocmhadeaaDoorLexG
import Derived.Test.YtmjincocmhadeaaDoorLexH
import Derived.Test.YtmjincocmhadeaaDoorLexI
namespace Go.Proofs.YtmjincocmhadeaaDoor
set_option maxHeartbeats 2000000
open Go.RowKit Lx
theorem lx_next_5ok (s : ByteArray) (a0 : Nat) (w : World) (hs : s.size ≤ 4194304) (hlt : a0 < s.size) (hc : bat s a0 = 58) (hlt1 : a0 + 1 < s.size) (hd : bat s (a0 + 1) = 45) :
    Calls Tryd.prog 55 #[.string s,.int .i64 a0] w (NPost s a0 w) := by
 have hidx := fun w => run_index_str (P := Tryd.prog) Tryd.underlying9 s a0 hlt w;have hi0 : (a0 : Int) < (s.size : Int) := by omega
 have hnx : Hid (nextT ((bl s).drop a0) a0 = (⟨13,[],a0,a0 + 2⟩,true)) := by
  show _ = _;rw [drop_bl s a0 hlt,drop_bl s (a0 + 1) hlt1];exact next_sign2 _ _ _ _ _ 45 (by show ¬ bat s a0 = 34;omega) (by show signI (bat s a0) = _;rw [hc];rfl) hd
 have g34 : (bat s a0 == 34) = false := by simp [hc]
 have g0 : (bat s a0 != 40) = true := by simp [hc]
 have ia0 := sg_i0;have ib0 := sg_a0;have g1 : (bat s a0 != 41) = true := by simp [hc]
 have ia1 := sg_i1;have ib1 := sg_a1;have g2 : (bat s a0 != 44) = true := by simp [hc]
 have ia2 := sg_i2;have ib2 := sg_a2;have g3 : (bat s a0 != 46) = true := by simp [hc]
 have ia3 := sg_i3;have ib3 := sg_a3;have g4 : (bat s a0 != 47) = true := by simp [hc]
 have ia4 := sg_i4;have ib4 := sg_a4;have g5 : (bat s a0 != 58) = false := by simp [hc]
 have ia5 := sg_i5;have ib5 := sg_a5;have ic := sg_b5;have hidx1 := fun w => run_index_str (P := Tryd.prog) Tryd.underlying9 s (a0 + 1) hlt1 w;rw [show ((a0 + 1 : Nat) : Int) = (a0 : Int) + 1 from by omega] at hidx1;have hi1 : (a0 : Int) + 1 < (s.size : Int) := by omega
 have v1 : IntKind.i64.wrap ((a0 : Int) + 1) = (a0 : Int) + 1 := IntWalk.i64_in _ (by omega);have ge : ((a0 : Int) + 1 == (s.size : Int)) = false := by rw [beq_eq_false_iff_ne];omega
 have gd : (bat s (a0 + 1) != 45) = false := by simp [hd]
 clear hd;clear hc;have hW : Hid ((w.alloc (.cells #[.int .i64 0,.string ⟨#[]⟩,.int .i64 0,.int .i64 0] 67)).heap[w.heap.size]? = some (.cells (tokCs 0 [] 0 0) 67)) := heap_alloc_new _ _;have hWb : Below w.heap.size w (w.alloc (.cells #[.int .i64 0,.string ⟨#[]⟩,.int .i64 0,.int .i64 0] 67)) := (Below.refl _ _).al _
 have hWs : w.heap.size < (w.alloc (.cells #[.int .i64 0,.string ⟨#[]⟩,.int .i64 0,.int .i64 0] 67)).heap.size := by simp
 go_enter Tryd.func55,Tryd.ntmps55;go_wp2_with fail;generalize w.alloc (.cells #[.int .i64 0,.string ⟨#[]⟩,.int .i64 0,.int .i64 0] 67) = W at hW hWb hWs ⊢;refine (lx_signs _).mono ?_;rintro e w2 ⟨rfl,hb2⟩;go_wp2_with fail;refine wp_loop_rounds 6 ?_;rw [rounds_succ];go_wp2_with fail;go_quiet (fail);go_wp2_with fail;rw [rounds_succ];go_wp2_with fail;go_quiet (fail)
 go_wp2_with fail;rw [rounds_succ];go_wp2_with fail;go_quiet (fail);go_wp2_with fail;rw [rounds_succ];go_wp2_with fail;go_quiet (fail);go_wp2_with fail;rw [rounds_succ];go_wp2_with fail;go_quiet (fail);go_wp2_with fail;rw [rounds_succ];go_wp2_with fail;go_quiet (fail)
 go_wp2_with (refine wpList_store_rowA rfl 67 (.tmp 11) (.tmp 48) rfl w2.heap.size (tokCs 13 [] a0 ((a0 : Int) + 1)) rfl rfl 67 (tokCs 0 [] 0 0) (heap_alloc_new _ _) sizeTok rfl (tokCs_one _ _ _ _) ?_)
 intro w3 hg3 hgr hsz;have hb3 : Below W.heap.size W w3 := ((hb2.drewN _).al _).grown hgr (by have := hb2.size;simp;omega) (by intro k hk;injection hk with hk;have := hb2.size;omega);have hcell : Hid (w3.heap[w.heap.size]? = some (.cells (tokCs 0 [] 0 0) 67)) := (hb3.block _ hWs).trans hW.out;have hg2 : W.heap.size ≤ w2.heap.size := hb2.size
 have hs3 : w2.heap.size < w3.heap.size := by have h := hsz.out;first | omega | (simp at h;omega)
 clear hgr hsz hb2;have hk3 : w3.cell? ⟨w2.heap.size,3,none⟩ = some (.int .i64 ((a0 : Int) + 1)) := cell_of_row _ _ _ _ _ _ hg3.out;have hf3 : w3.frozen? ⟨w2.heap.size,3,none⟩ = false := frozen_of_row _ _ _ _ _ hg3.out;go_wp2_with fail;go_quiet (fail)
 go_wp2_with (first
   | (refine wpList_load_row rfl 67 (.tmp 11) rfl w2.heap.size rfl 67 (tokCs 13 [] a0 ((a0 : Int) + 1 + 1)) (0,0) _ (heap_setCell_same _ _ _ _ _ _ hg3.out) Tryd.underlying67 rfl sizeTok ?_)
   | (refine wpList_store_rowA rfl 67 (.tmp 4) (.tmp 71) rfl w.heap.size (tokCs 13 [] a0 ((a0 : Int) + 1 + 1)) rfl rfl 67 (tokCs 0 [] 0 0) ((heap_setCell_other _ _ _ _ (by show w.heap.size ≠ w2.heap.size;omega)).trans hcell.out) sizeTok rfl (tokCs_one _ _ _ _) ?_))
 intro w4 hg4 hgr hsz;have hb4 : Below w.heap.size w w4 := ((hWb.trans ((hb3.drewN _).mono (by omega))).setCell (by show w.heap.size ≤ w2.heap.size;omega) _).grown hgr (by have := hb3.size;simp;omega) (by intro k hk;injection hk with hk;omega);clear hgr hsz;go_wp2_with fail
 refine bodyPost_ret (v := .tuple #[.agg (tokCs 13 [] a0 ((a0 : Int) + 1 + 1)),.bool true]) ?_ rfl (NPost.of hnx.out (by show tokCs _ _ _ _ = tokCs _ _ _ _;congr 1) hb4);exact results_cell2 rfl _ _ w.heap.size 67 _ (0,0) _ rfl hg4.out Tryd.underlying67 rfl sizeTok _ rfl
theorem lx_next_5no (s : ByteArray) (a0 : Nat) (w : World) (hs : s.size ≤ 4194304) (hlt : a0 < s.size) (hc : bat s a0 = 58) (hlt1 : a0 + 1 < s.size) (hd : ¬ bat s (a0 + 1) = 45) :
    Calls Tryd.prog 55 #[.string s,.int .i64 a0] w (NPost s a0 w) := by
 have hidx := fun w => run_index_str (P := Tryd.prog) Tryd.underlying9 s a0 hlt w;have hi0 : (a0 : Int) < (s.size : Int) := by omega
 have hnx : Hid (nextT ((bl s).drop a0) a0 = (⟨13,[],a0,a0 + 1⟩,false)) := by
  show _ = _;rw [drop_bl s a0 hlt,drop_bl s (a0 + 1) hlt1];exact next_sign2n _ _ _ _ 45 (by show ¬ bat s a0 = 34;omega) (by show signI (bat s a0) = _;rw [hc];rfl) (by show decide (bat s (a0 + 1) = 45) = false;exact decide_eq_false hd)
 have g34 : (bat s a0 == 34) = false := by simp [hc]
 have g0 : (bat s a0 != 40) = true := by simp [hc]
 have ia0 := sg_i0;have ib0 := sg_a0;have g1 : (bat s a0 != 41) = true := by simp [hc]
 have ia1 := sg_i1;have ib1 := sg_a1;have g2 : (bat s a0 != 44) = true := by simp [hc]
 have ia2 := sg_i2;have ib2 := sg_a2;have g3 : (bat s a0 != 46) = true := by simp [hc]
 have ia3 := sg_i3;have ib3 := sg_a3;have g4 : (bat s a0 != 47) = true := by simp [hc]
 have ia4 := sg_i4;have ib4 := sg_a4;have g5 : (bat s a0 != 58) = false := by simp [hc]
 have ia5 := sg_i5;have ib5 := sg_a5;have ic := sg_b5;have hidx1 := fun w => run_index_str (P := Tryd.prog) Tryd.underlying9 s (a0 + 1) hlt1 w;rw [show ((a0 + 1 : Nat) : Int) = (a0 : Int) + 1 from by omega] at hidx1;have hi1 : (a0 : Int) + 1 < (s.size : Int) := by omega
 have v1 : IntKind.i64.wrap ((a0 : Int) + 1) = (a0 : Int) + 1 := IntWalk.i64_in _ (by omega);have ge : ((a0 : Int) + 1 == (s.size : Int)) = false := by rw [beq_eq_false_iff_ne];omega
 have gd : (bat s (a0 + 1) != 45) = true := by simp [hd]
 clear hd;clear hc;have hW : Hid ((w.alloc (.cells #[.int .i64 0,.string ⟨#[]⟩,.int .i64 0,.int .i64 0] 67)).heap[w.heap.size]? = some (.cells (tokCs 0 [] 0 0) 67)) := heap_alloc_new _ _;have hWb : Below w.heap.size w (w.alloc (.cells #[.int .i64 0,.string ⟨#[]⟩,.int .i64 0,.int .i64 0] 67)) := (Below.refl _ _).al _
 have hWs : w.heap.size < (w.alloc (.cells #[.int .i64 0,.string ⟨#[]⟩,.int .i64 0,.int .i64 0] 67)).heap.size := by simp
 go_enter Tryd.func55,Tryd.ntmps55;go_wp2_with fail;generalize w.alloc (.cells #[.int .i64 0,.string ⟨#[]⟩,.int .i64 0,.int .i64 0] 67) = W at hW hWb hWs ⊢;refine (lx_signs _).mono ?_;rintro e w2 ⟨rfl,hb2⟩;go_wp2_with fail;refine wp_loop_rounds 6 ?_;rw [rounds_succ];go_wp2_with fail;go_quiet (fail);go_wp2_with fail;rw [rounds_succ];go_wp2_with fail;go_quiet (fail)
 go_wp2_with fail;rw [rounds_succ];go_wp2_with fail;go_quiet (fail);go_wp2_with fail;rw [rounds_succ];go_wp2_with fail;go_quiet (fail);go_wp2_with fail;rw [rounds_succ];go_wp2_with fail;go_quiet (fail);go_wp2_with fail;rw [rounds_succ];go_wp2_with fail;go_quiet (fail)
 go_wp2_with (refine wpList_store_rowA rfl 67 (.tmp 11) (.tmp 48) rfl w2.heap.size (tokCs 13 [] a0 ((a0 : Int) + 1)) rfl rfl 67 (tokCs 0 [] 0 0) (heap_alloc_new _ _) sizeTok rfl (tokCs_one _ _ _ _) ?_)
 intro w3 hg3 hgr hsz;have hb3 : Below W.heap.size W w3 := ((hb2.drewN _).al _).grown hgr (by have := hb2.size;simp;omega) (by intro k hk;injection hk with hk;have := hb2.size;omega);have hcell : Hid (w3.heap[w.heap.size]? = some (.cells (tokCs 0 [] 0 0) 67)) := (hb3.block _ hWs).trans hW.out;have hg2 : W.heap.size ≤ w2.heap.size := hb2.size
 have hs3 : w2.heap.size < w3.heap.size := by have h := hsz.out;first | omega | (simp at h;omega)
 clear hgr hsz hb2;go_wp2_with fail;go_quiet (fail)
 go_wp2_with (first
   | (refine wpList_load_row rfl 67 (.tmp 11) rfl w2.heap.size rfl 67 (tokCs 13 [] a0 ((a0 : Int) + 1)) (0,0) _ hg3.out Tryd.underlying67 rfl sizeTok ?_)
   | (refine wpList_store_rowA rfl 67 (.tmp 4) (.tmp 66) rfl w.heap.size (tokCs 13 [] a0 ((a0 : Int) + 1)) rfl rfl 67 (tokCs 0 [] 0 0) hcell.out sizeTok rfl (tokCs_one _ _ _ _) ?_))
 intro w4 hg4 hgr hsz;have hb4 : Below w.heap.size w w4 := (hWb.trans ((hb3.drewN _).mono (by omega))).grown hgr (by have := hb3.size;show w.heap.size ≤ w3.heap.size;omega) (by intro k hk;injection hk with hk;omega);clear hgr hsz;go_wp2_with fail;refine bodyPost_ret (v := .tuple #[.agg (tokCs 13 [] a0 ((a0 : Int) + 1)),.bool false]) ?_ rfl (NPost.of hnx.out rfl hb4)
 exact results_cell2 rfl _ _ w.heap.size 67 _ (0,0) _ rfl hg4.out Tryd.underlying67 rfl sizeTok _ rfl
theorem lx_next_5end (s : ByteArray) (a0 : Nat) (w : World) (hs : s.size ≤ 4194304) (hlt : a0 < s.size) (hc : bat s a0 = 58) (hlt1 : ¬ a0 + 1 < s.size) :
    Calls Tryd.prog 55 #[.string s,.int .i64 a0] w (NPost s a0 w) := by
 have hidx := fun w => run_index_str (P := Tryd.prog) Tryd.underlying9 s a0 hlt w;have hi0 : (a0 : Int) < (s.size : Int) := by omega
 have hnx : Hid (nextT ((bl s).drop a0) a0 = (⟨13,[],a0,a0 + 1⟩,false)) := by
  show _ = _;rw [drop_bl s a0 hlt,drop_bl_end s (a0 + 1) (by omega)];exact next_sign2n _ _ _ _ 45 (by show ¬ bat s a0 = 34;omega) (by show signI (bat s a0) = _;rw [hc];rfl) rfl
 have g34 : (bat s a0 == 34) = false := by simp [hc]
 have g0 : (bat s a0 != 40) = true := by simp [hc]
 have ia0 := sg_i0;have ib0 := sg_a0;have g1 : (bat s a0 != 41) = true := by simp [hc]
 have ia1 := sg_i1;have ib1 := sg_a1;have g2 : (bat s a0 != 44) = true := by simp [hc]
 have ia2 := sg_i2;have ib2 := sg_a2;have g3 : (bat s a0 != 46) = true := by simp [hc]
 have ia3 := sg_i3;have ib3 := sg_a3;have g4 : (bat s a0 != 47) = true := by simp [hc]
 have ia4 := sg_i4;have ib4 := sg_a4;have g5 : (bat s a0 != 58) = false := by simp [hc]
 have ia5 := sg_i5;have ib5 := sg_a5;have v1 : IntKind.i64.wrap ((a0 : Int) + 1) = (a0 : Int) + 1 := IntWalk.i64_in _ (by omega);have ge : ((a0 : Int) + 1 == (s.size : Int)) = true := by rw [beq_iff_eq];omega
 clear hc;have hW : Hid ((w.alloc (.cells #[.int .i64 0,.string ⟨#[]⟩,.int .i64 0,.int .i64 0] 67)).heap[w.heap.size]? = some (.cells (tokCs 0 [] 0 0) 67)) := heap_alloc_new _ _;have hWb : Below w.heap.size w (w.alloc (.cells #[.int .i64 0,.string ⟨#[]⟩,.int .i64 0,.int .i64 0] 67)) := (Below.refl _ _).al _
 have hWs : w.heap.size < (w.alloc (.cells #[.int .i64 0,.string ⟨#[]⟩,.int .i64 0,.int .i64 0] 67)).heap.size := by simp
 go_enter Tryd.func55,Tryd.ntmps55;go_wp2_with fail;generalize w.alloc (.cells #[.int .i64 0,.string ⟨#[]⟩,.int .i64 0,.int .i64 0] 67) = W at hW hWb hWs ⊢;refine (lx_signs _).mono ?_;rintro e w2 ⟨rfl,hb2⟩;go_wp2_with fail;refine wp_loop_rounds 6 ?_;rw [rounds_succ];go_wp2_with fail;go_quiet (fail);go_wp2_with fail;rw [rounds_succ];go_wp2_with fail;go_quiet (fail)
 go_wp2_with fail;rw [rounds_succ];go_wp2_with fail;go_quiet (fail);go_wp2_with fail;rw [rounds_succ];go_wp2_with fail;go_quiet (fail);go_wp2_with fail;rw [rounds_succ];go_wp2_with fail;go_quiet (fail);go_wp2_with fail;rw [rounds_succ];go_wp2_with fail;go_quiet (fail)
 go_wp2_with (refine wpList_store_rowA rfl 67 (.tmp 11) (.tmp 48) rfl w2.heap.size (tokCs 13 [] a0 ((a0 : Int) + 1)) rfl rfl 67 (tokCs 0 [] 0 0) (heap_alloc_new _ _) sizeTok rfl (tokCs_one _ _ _ _) ?_)
 intro w3 hg3 hgr hsz;have hb3 : Below W.heap.size W w3 := ((hb2.drewN _).al _).grown hgr (by have := hb2.size;simp;omega) (by intro k hk;injection hk with hk;have := hb2.size;omega);have hcell : Hid (w3.heap[w.heap.size]? = some (.cells (tokCs 0 [] 0 0) 67)) := (hb3.block _ hWs).trans hW.out;have hg2 : W.heap.size ≤ w2.heap.size := hb2.size
 have hs3 : w2.heap.size < w3.heap.size := by have h := hsz.out;first | omega | (simp at h;omega)
 clear hgr hsz hb2;go_wp2_with fail;go_quiet (fail)
 go_wp2_with (first
   | (refine wpList_load_row rfl 67 (.tmp 11) rfl w2.heap.size rfl 67 (tokCs 13 [] a0 ((a0 : Int) + 1)) (0,0) _ hg3.out Tryd.underlying67 rfl sizeTok ?_)
   | (refine wpList_store_rowA rfl 67 (.tmp 4) (.tmp 66) rfl w.heap.size (tokCs 13 [] a0 ((a0 : Int) + 1)) rfl rfl 67 (tokCs 0 [] 0 0) hcell.out sizeTok rfl (tokCs_one _ _ _ _) ?_))
 intro w4 hg4 hgr hsz;have hb4 : Below w.heap.size w w4 := (hWb.trans ((hb3.drewN _).mono (by omega))).grown hgr (by have := hb3.size;show w.heap.size ≤ w3.heap.size;omega) (by intro k hk;injection hk with hk;omega);clear hgr hsz;go_wp2_with fail;refine bodyPost_ret (v := .tuple #[.agg (tokCs 13 [] a0 ((a0 : Int) + 1)),.bool false]) ?_ rfl (NPost.of hnx.out rfl hb4)
 exact results_cell2 rfl _ _ w.heap.size 67 _ (0,0) _ rfl hg4.out Tryd.underlying67 rfl sizeTok _ rfl
theorem lx_next_6ok (s : ByteArray) (a0 : Nat) (w : World) (hs : s.size ≤ 4194304) (hlt : a0 < s.size) (hc : bat s a0 = 33) (hlt1 : a0 + 1 < s.size) (hd : bat s (a0 + 1) = 61) :
    Calls Tryd.prog 55 #[.string s,.int .i64 a0] w (NPost s a0 w) := by
 have hidx := fun w => run_index_str (P := Tryd.prog) Tryd.underlying9 s a0 hlt w;have hi0 : (a0 : Int) < (s.size : Int) := by omega
 have hnx : Hid (nextT ((bl s).drop a0) a0 = (⟨14,[],a0,a0 + 2⟩,true)) := by
  show _ = _;rw [drop_bl s a0 hlt,drop_bl s (a0 + 1) hlt1];exact next_sign2 _ _ _ _ _ 61 (by show ¬ bat s a0 = 34;omega) (by show signI (bat s a0) = _;rw [hc];rfl) hd
 have g34 : (bat s a0 == 34) = false := by simp [hc]
 have g0 : (bat s a0 != 40) = true := by simp [hc]
 have ia0 := sg_i0;have ib0 := sg_a0;have g1 : (bat s a0 != 41) = true := by simp [hc]
 have ia1 := sg_i1;have ib1 := sg_a1;have g2 : (bat s a0 != 44) = true := by simp [hc]
 have ia2 := sg_i2;have ib2 := sg_a2;have g3 : (bat s a0 != 46) = true := by simp [hc]
 have ia3 := sg_i3;have ib3 := sg_a3;have g4 : (bat s a0 != 47) = true := by simp [hc]
 have ia4 := sg_i4;have ib4 := sg_a4;have g5 : (bat s a0 != 58) = true := by simp [hc]
 have ia5 := sg_i5;have ib5 := sg_a5;have g6 : (bat s a0 != 33) = false := by simp [hc]
 have ia6 := sg_i6;have ib6 := sg_a6;have ic := sg_b6;have hidx1 := fun w => run_index_str (P := Tryd.prog) Tryd.underlying9 s (a0 + 1) hlt1 w;rw [show ((a0 + 1 : Nat) : Int) = (a0 : Int) + 1 from by omega] at hidx1;have hi1 : (a0 : Int) + 1 < (s.size : Int) := by omega
 have v1 : IntKind.i64.wrap ((a0 : Int) + 1) = (a0 : Int) + 1 := IntWalk.i64_in _ (by omega);have ge : ((a0 : Int) + 1 == (s.size : Int)) = false := by rw [beq_eq_false_iff_ne];omega
 have gd : (bat s (a0 + 1) != 61) = false := by simp [hd]
 clear hd;clear hc;have hW : Hid ((w.alloc (.cells #[.int .i64 0,.string ⟨#[]⟩,.int .i64 0,.int .i64 0] 67)).heap[w.heap.size]? = some (.cells (tokCs 0 [] 0 0) 67)) := heap_alloc_new _ _;have hWb : Below w.heap.size w (w.alloc (.cells #[.int .i64 0,.string ⟨#[]⟩,.int .i64 0,.int .i64 0] 67)) := (Below.refl _ _).al _
 have hWs : w.heap.size < (w.alloc (.cells #[.int .i64 0,.string ⟨#[]⟩,.int .i64 0,.int .i64 0] 67)).heap.size := by simp
 go_enter Tryd.func55,Tryd.ntmps55;go_wp2_with fail;generalize w.alloc (.cells #[.int .i64 0,.string ⟨#[]⟩,.int .i64 0,.int .i64 0] 67) = W at hW hWb hWs ⊢;refine (lx_signs _).mono ?_;rintro e w2 ⟨rfl,hb2⟩;go_wp2_with fail;refine wp_loop_rounds 7 ?_;rw [rounds_succ];go_wp2_with fail;go_quiet (fail);go_wp2_with fail;rw [rounds_succ];go_wp2_with fail;go_quiet (fail)
 go_wp2_with fail;rw [rounds_succ];go_wp2_with fail;go_quiet (fail);go_wp2_with fail;rw [rounds_succ];go_wp2_with fail;go_quiet (fail);go_wp2_with fail;rw [rounds_succ];go_wp2_with fail;go_quiet (fail);go_wp2_with fail;rw [rounds_succ];go_wp2_with fail;go_quiet (fail);go_wp2_with fail;rw [rounds_succ];go_wp2_with fail;go_quiet (fail)
 go_wp2_with (refine wpList_store_rowA rfl 67 (.tmp 11) (.tmp 48) rfl w2.heap.size (tokCs 14 [] a0 ((a0 : Int) + 1)) rfl rfl 67 (tokCs 0 [] 0 0) (heap_alloc_new _ _) sizeTok rfl (tokCs_one _ _ _ _) ?_)
 intro w3 hg3 hgr hsz;have hb3 : Below W.heap.size W w3 := ((hb2.drewN _).al _).grown hgr (by have := hb2.size;simp;omega) (by intro k hk;injection hk with hk;have := hb2.size;omega);have hcell : Hid (w3.heap[w.heap.size]? = some (.cells (tokCs 0 [] 0 0) 67)) := (hb3.block _ hWs).trans hW.out;have hg2 : W.heap.size ≤ w2.heap.size := hb2.size
 have hs3 : w2.heap.size < w3.heap.size := by have h := hsz.out;first | omega | (simp at h;omega)
 clear hgr hsz hb2;have hk3 : w3.cell? ⟨w2.heap.size,3,none⟩ = some (.int .i64 ((a0 : Int) + 1)) := cell_of_row _ _ _ _ _ _ hg3.out;have hf3 : w3.frozen? ⟨w2.heap.size,3,none⟩ = false := frozen_of_row _ _ _ _ _ hg3.out;go_wp2_with fail;go_quiet (fail)
 go_wp2_with (first
   | (refine wpList_load_row rfl 67 (.tmp 11) rfl w2.heap.size rfl 67 (tokCs 14 [] a0 ((a0 : Int) + 1 + 1)) (0,0) _ (heap_setCell_same _ _ _ _ _ _ hg3.out) Tryd.underlying67 rfl sizeTok ?_)
   | (refine wpList_store_rowA rfl 67 (.tmp 4) (.tmp 71) rfl w.heap.size (tokCs 14 [] a0 ((a0 : Int) + 1 + 1)) rfl rfl 67 (tokCs 0 [] 0 0) ((heap_setCell_other _ _ _ _ (by show w.heap.size ≠ w2.heap.size;omega)).trans hcell.out) sizeTok rfl (tokCs_one _ _ _ _) ?_))
 intro w4 hg4 hgr hsz;have hb4 : Below w.heap.size w w4 := ((hWb.trans ((hb3.drewN _).mono (by omega))).setCell (by show w.heap.size ≤ w2.heap.size;omega) _).grown hgr (by have := hb3.size;simp;omega) (by intro k hk;injection hk with hk;omega);clear hgr hsz;go_wp2_with fail
 refine bodyPost_ret (v := .tuple #[.agg (tokCs 14 [] a0 ((a0 : Int) + 1 + 1)),.bool true]) ?_ rfl (NPost.of hnx.out (by show tokCs _ _ _ _ = tokCs _ _ _ _;congr 1) hb4);exact results_cell2 rfl _ _ w.heap.size 67 _ (0,0) _ rfl hg4.out Tryd.underlying67 rfl sizeTok _ rfl
theorem lx_next_6no (s : ByteArray) (a0 : Nat) (w : World) (hs : s.size ≤ 4194304) (hlt : a0 < s.size) (hc : bat s a0 = 33) (hlt1 : a0 + 1 < s.size) (hd : ¬ bat s (a0 + 1) = 61) :
    Calls Tryd.prog 55 #[.string s,.int .i64 a0] w (NPost s a0 w) := by
 have hidx := fun w => run_index_str (P := Tryd.prog) Tryd.underlying9 s a0 hlt w;have hi0 : (a0 : Int) < (s.size : Int) := by omega
 have hnx : Hid (nextT ((bl s).drop a0) a0 = (⟨14,[],a0,a0 + 1⟩,false)) := by
  show _ = _;rw [drop_bl s a0 hlt,drop_bl s (a0 + 1) hlt1];exact next_sign2n _ _ _ _ 61 (by show ¬ bat s a0 = 34;omega) (by show signI (bat s a0) = _;rw [hc];rfl) (by show decide (bat s (a0 + 1) = 61) = false;exact decide_eq_false hd)
 have g34 : (bat s a0 == 34) = false := by simp [hc]
 have g0 : (bat s a0 != 40) = true := by simp [hc]
 have ia0 := sg_i0;have ib0 := sg_a0;have g1 : (bat s a0 != 41) = true := by simp [hc]
 have ia1 := sg_i1;have ib1 := sg_a1;have g2 : (bat s a0 != 44) = true := by simp [hc]
 have ia2 := sg_i2;have ib2 := sg_a2;have g3 : (bat s a0 != 46) = true := by simp [hc]
 have ia3 := sg_i3;have ib3 := sg_a3;have g4 : (bat s a0 != 47) = true := by simp [hc]
 have ia4 := sg_i4;have ib4 := sg_a4;have g5 : (bat s a0 != 58) = true := by simp [hc]
 have ia5 := sg_i5;have ib5 := sg_a5;have g6 : (bat s a0 != 33) = false := by simp [hc]
 have ia6 := sg_i6;have ib6 := sg_a6;have ic := sg_b6;have hidx1 := fun w => run_index_str (P := Tryd.prog) Tryd.underlying9 s (a0 + 1) hlt1 w;rw [show ((a0 + 1 : Nat) : Int) = (a0 : Int) + 1 from by omega] at hidx1;have hi1 : (a0 : Int) + 1 < (s.size : Int) := by omega
 have v1 : IntKind.i64.wrap ((a0 : Int) + 1) = (a0 : Int) + 1 := IntWalk.i64_in _ (by omega);have ge : ((a0 : Int) + 1 == (s.size : Int)) = false := by rw [beq_eq_false_iff_ne];omega
 have gd : (bat s (a0 + 1) != 61) = true := by simp [hd]
 clear hd;clear hc;have hW : Hid ((w.alloc (.cells #[.int .i64 0,.string ⟨#[]⟩,.int .i64 0,.int .i64 0] 67)).heap[w.heap.size]? = some (.cells (tokCs 0 [] 0 0) 67)) := heap_alloc_new _ _;have hWb : Below w.heap.size w (w.alloc (.cells #[.int .i64 0,.string ⟨#[]⟩,.int .i64 0,.int .i64 0] 67)) := (Below.refl _ _).al _
 have hWs : w.heap.size < (w.alloc (.cells #[.int .i64 0,.string ⟨#[]⟩,.int .i64 0,.int .i64 0] 67)).heap.size := by simp
 go_enter Tryd.func55,Tryd.ntmps55;go_wp2_with fail;generalize w.alloc (.cells #[.int .i64 0,.string ⟨#[]⟩,.int .i64 0,.int .i64 0] 67) = W at hW hWb hWs ⊢;refine (lx_signs _).mono ?_;rintro e w2 ⟨rfl,hb2⟩;go_wp2_with fail;refine wp_loop_rounds 7 ?_;rw [rounds_succ];go_wp2_with fail;go_quiet (fail);go_wp2_with fail;rw [rounds_succ];go_wp2_with fail;go_quiet (fail)
 go_wp2_with fail;rw [rounds_succ];go_wp2_with fail;go_quiet (fail);go_wp2_with fail;rw [rounds_succ];go_wp2_with fail;go_quiet (fail);go_wp2_with fail;rw [rounds_succ];go_wp2_with fail;go_quiet (fail);go_wp2_with fail;rw [rounds_succ];go_wp2_with fail;go_quiet (fail);go_wp2_with fail;rw [rounds_succ];go_wp2_with fail;go_quiet (fail)
 go_wp2_with (refine wpList_store_rowA rfl 67 (.tmp 11) (.tmp 48) rfl w2.heap.size (tokCs 14 [] a0 ((a0 : Int) + 1)) rfl rfl 67 (tokCs 0 [] 0 0) (heap_alloc_new _ _) sizeTok rfl (tokCs_one _ _ _ _) ?_)
 intro w3 hg3 hgr hsz;have hb3 : Below W.heap.size W w3 := ((hb2.drewN _).al _).grown hgr (by have := hb2.size;simp;omega) (by intro k hk;injection hk with hk;have := hb2.size;omega);have hcell : Hid (w3.heap[w.heap.size]? = some (.cells (tokCs 0 [] 0 0) 67)) := (hb3.block _ hWs).trans hW.out;have hg2 : W.heap.size ≤ w2.heap.size := hb2.size
 have hs3 : w2.heap.size < w3.heap.size := by have h := hsz.out;first | omega | (simp at h;omega)
 clear hgr hsz hb2;go_wp2_with fail;go_quiet (fail)
 go_wp2_with (first
   | (refine wpList_load_row rfl 67 (.tmp 11) rfl w2.heap.size rfl 67 (tokCs 14 [] a0 ((a0 : Int) + 1)) (0,0) _ hg3.out Tryd.underlying67 rfl sizeTok ?_)
   | (refine wpList_store_rowA rfl 67 (.tmp 4) (.tmp 66) rfl w.heap.size (tokCs 14 [] a0 ((a0 : Int) + 1)) rfl rfl 67 (tokCs 0 [] 0 0) hcell.out sizeTok rfl (tokCs_one _ _ _ _) ?_))
 intro w4 hg4 hgr hsz;have hb4 : Below w.heap.size w w4 := (hWb.trans ((hb3.drewN _).mono (by omega))).grown hgr (by have := hb3.size;show w.heap.size ≤ w3.heap.size;omega) (by intro k hk;injection hk with hk;omega);clear hgr hsz;go_wp2_with fail;refine bodyPost_ret (v := .tuple #[.agg (tokCs 14 [] a0 ((a0 : Int) + 1)),.bool false]) ?_ rfl (NPost.of hnx.out rfl hb4)
 exact results_cell2 rfl _ _ w.heap.size 67 _ (0,0) _ rfl hg4.out Tryd.underlying67 rfl sizeTok _ rfl
theorem lx_next_6end (s : ByteArray) (a0 : Nat) (w : World) (hs : s.size ≤ 4194304) (hlt : a0 < s.size) (hc : bat s a0 = 33) (hlt1 : ¬ a0 + 1 < s.size) :
    Calls Tryd.prog 55 #[.string s,.int .i64 a0] w (NPost s a0 w) := by
 have hidx := fun w => run_index_str (P := Tryd.prog) Tryd.underlying9 s a0 hlt w;have hi0 : (a0 : Int) < (s.size : Int) := by omega
 have hnx : Hid (nextT ((bl s).drop a0) a0 = (⟨14,[],a0,a0 + 1⟩,false)) := by
  show _ = _;rw [drop_bl s a0 hlt,drop_bl_end s (a0 + 1) (by omega)];exact next_sign2n _ _ _ _ 61 (by show ¬ bat s a0 = 34;omega) (by show signI (bat s a0) = _;rw [hc];rfl) rfl
 have g34 : (bat s a0 == 34) = false := by simp [hc]
 have g0 : (bat s a0 != 40) = true := by simp [hc]
 have ia0 := sg_i0;have ib0 := sg_a0;have g1 : (bat s a0 != 41) = true := by simp [hc]
 have ia1 := sg_i1;have ib1 := sg_a1;have g2 : (bat s a0 != 44) = true := by simp [hc]
 have ia2 := sg_i2;have ib2 := sg_a2;have g3 : (bat s a0 != 46) = true := by simp [hc]
 have ia3 := sg_i3;have ib3 := sg_a3;have g4 : (bat s a0 != 47) = true := by simp [hc]
 have ia4 := sg_i4;have ib4 := sg_a4;have g5 : (bat s a0 != 58) = true := by simp [hc]
 have ia5 := sg_i5;have ib5 := sg_a5;have g6 : (bat s a0 != 33) = false := by simp [hc]
 have ia6 := sg_i6;have ib6 := sg_a6;have v1 : IntKind.i64.wrap ((a0 : Int) + 1) = (a0 : Int) + 1 := IntWalk.i64_in _ (by omega);have ge : ((a0 : Int) + 1 == (s.size : Int)) = true := by rw [beq_iff_eq];omega
 clear hc;have hW : Hid ((w.alloc (.cells #[.int .i64 0,.string ⟨#[]⟩,.int .i64 0,.int .i64 0] 67)).heap[w.heap.size]? = some (.cells (tokCs 0 [] 0 0) 67)) := heap_alloc_new _ _;have hWb : Below w.heap.size w (w.alloc (.cells #[.int .i64 0,.string ⟨#[]⟩,.int .i64 0,.int .i64 0] 67)) := (Below.refl _ _).al _
 have hWs : w.heap.size < (w.alloc (.cells #[.int .i64 0,.string ⟨#[]⟩,.int .i64 0,.int .i64 0] 67)).heap.size := by simp
 go_enter Tryd.func55,Tryd.ntmps55;go_wp2_with fail;generalize w.alloc (.cells #[.int .i64 0,.string ⟨#[]⟩,.int .i64 0,.int .i64 0] 67) = W at hW hWb hWs ⊢;refine (lx_signs _).mono ?_;rintro e w2 ⟨rfl,hb2⟩;go_wp2_with fail;refine wp_loop_rounds 7 ?_;rw [rounds_succ];go_wp2_with fail;go_quiet (fail);go_wp2_with fail;rw [rounds_succ];go_wp2_with fail;go_quiet (fail)
 go_wp2_with fail;rw [rounds_succ];go_wp2_with fail;go_quiet (fail);go_wp2_with fail;rw [rounds_succ];go_wp2_with fail;go_quiet (fail);go_wp2_with fail;rw [rounds_succ];go_wp2_with fail;go_quiet (fail);go_wp2_with fail;rw [rounds_succ];go_wp2_with fail;go_quiet (fail);go_wp2_with fail;rw [rounds_succ];go_wp2_with fail;go_quiet (fail)
 go_wp2_with (refine wpList_store_rowA rfl 67 (.tmp 11) (.tmp 48) rfl w2.heap.size (tokCs 14 [] a0 ((a0 : Int) + 1)) rfl rfl 67 (tokCs 0 [] 0 0) (heap_alloc_new _ _) sizeTok rfl (tokCs_one _ _ _ _) ?_)
 intro w3 hg3 hgr hsz;have hb3 : Below W.heap.size W w3 := ((hb2.drewN _).al _).grown hgr (by have := hb2.size;simp;omega) (by intro k hk;injection hk with hk;have := hb2.size;omega);have hcell : Hid (w3.heap[w.heap.size]? = some (.cells (tokCs 0 [] 0 0) 67)) := (hb3.block _ hWs).trans hW.out;have hg2 : W.heap.size ≤ w2.heap.size := hb2.size
 have hs3 : w2.heap.size < w3.heap.size := by have h := hsz.out;first | omega | (simp at h;omega)
 clear hgr hsz hb2;go_wp2_with fail;go_quiet (fail)
 go_wp2_with (first
   | (refine wpList_load_row rfl 67 (.tmp 11) rfl w2.heap.size rfl 67 (tokCs 14 [] a0 ((a0 : Int) + 1)) (0,0) _ hg3.out Tryd.underlying67 rfl sizeTok ?_)
   | (refine wpList_store_rowA rfl 67 (.tmp 4) (.tmp 66) rfl w.heap.size (tokCs 14 [] a0 ((a0 : Int) + 1)) rfl rfl 67 (tokCs 0 [] 0 0) hcell.out sizeTok rfl (tokCs_one _ _ _ _) ?_))
 intro w4 hg4 hgr hsz;have hb4 : Below w.heap.size w w4 := (hWb.trans ((hb3.drewN _).mono (by omega))).grown hgr (by have := hb3.size;show w.heap.size ≤ w3.heap.size;omega) (by intro k hk;injection hk with hk;omega);clear hgr hsz;go_wp2_with fail;refine bodyPost_ret (v := .tuple #[.agg (tokCs 14 [] a0 ((a0 : Int) + 1)),.bool false]) ?_ rfl (NPost.of hnx.out rfl hb4)
 exact results_cell2 rfl _ _ w.heap.size 67 _ (0,0) _ rfl hg4.out Tryd.underlying67 rfl sizeTok _ rfl
end Go.Proofs.YtmjincocmhadeaaDoor
