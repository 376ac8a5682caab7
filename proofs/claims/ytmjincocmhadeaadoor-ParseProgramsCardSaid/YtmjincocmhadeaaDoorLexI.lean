/- lex.next: signs. -/
import Derived.Test.YtmjincocmhadeaaDoorProg
import Derived.Test.YtmjincocmhadeaaDoorBase
import Derived.Test.YtmjincocmhadeaaDoorBytes
import Derived.Test.YtmjincocmhadeaaDoorLexSpec
import Derived.Test.YtmjincocmhadeaaDoorLexA
import Derived.Test.YtmjincocmhadeaaDoorLexB
import Derived.Test.YtmjincocmhadeaaDoorLexE
import Derived.Test.YtmjincocmhadeaaDoorLexG
import Derived.Test.YtmjincocmhadeaaDoorLexH
namespace Go.Proofs.YtmjincocmhadeaaDoor
set_option maxHeartbeats 2000000
open Go.RowKit Lx
theorem sg_i0 (w : World) : (Instr.index 119 (.agg #[.string ⟨#[40]⟩,.string ⟨#[41]⟩,.string ⟨#[44]⟩,.string ⟨#[46]⟩,.string ⟨#[47]⟩,.string ⟨#[58,45]⟩,.string ⟨#[33,61]⟩]) (.int .i64 0)).run Tryd.prog w = .ok (.string ⟨#[40]⟩) w := by kernel_rfl
theorem sg_a0 (w : World) : (Instr.index 9 (.string ⟨#[40]⟩) (.int .i64 0)).run Tryd.prog w = .ok (.int .u8 40) w := by kernel_rfl
theorem sg_i1 (w : World) : (Instr.index 119 (.agg #[.string ⟨#[40]⟩,.string ⟨#[41]⟩,.string ⟨#[44]⟩,.string ⟨#[46]⟩,.string ⟨#[47]⟩,.string ⟨#[58,45]⟩,.string ⟨#[33,61]⟩]) (.int .i64 1)).run Tryd.prog w = .ok (.string ⟨#[41]⟩) w := by kernel_rfl
theorem sg_a1 (w : World) : (Instr.index 9 (.string ⟨#[41]⟩) (.int .i64 0)).run Tryd.prog w = .ok (.int .u8 41) w := by kernel_rfl
theorem sg_i2 (w : World) : (Instr.index 119 (.agg #[.string ⟨#[40]⟩,.string ⟨#[41]⟩,.string ⟨#[44]⟩,.string ⟨#[46]⟩,.string ⟨#[47]⟩,.string ⟨#[58,45]⟩,.string ⟨#[33,61]⟩]) (.int .i64 2)).run Tryd.prog w = .ok (.string ⟨#[44]⟩) w := by kernel_rfl
theorem sg_a2 (w : World) : (Instr.index 9 (.string ⟨#[44]⟩) (.int .i64 0)).run Tryd.prog w = .ok (.int .u8 44) w := by kernel_rfl
theorem sg_i3 (w : World) : (Instr.index 119 (.agg #[.string ⟨#[40]⟩,.string ⟨#[41]⟩,.string ⟨#[44]⟩,.string ⟨#[46]⟩,.string ⟨#[47]⟩,.string ⟨#[58,45]⟩,.string ⟨#[33,61]⟩]) (.int .i64 3)).run Tryd.prog w = .ok (.string ⟨#[46]⟩) w := by kernel_rfl
theorem sg_a3 (w : World) : (Instr.index 9 (.string ⟨#[46]⟩) (.int .i64 0)).run Tryd.prog w = .ok (.int .u8 46) w := by kernel_rfl
theorem sg_i4 (w : World) : (Instr.index 119 (.agg #[.string ⟨#[40]⟩,.string ⟨#[41]⟩,.string ⟨#[44]⟩,.string ⟨#[46]⟩,.string ⟨#[47]⟩,.string ⟨#[58,45]⟩,.string ⟨#[33,61]⟩]) (.int .i64 4)).run Tryd.prog w = .ok (.string ⟨#[47]⟩) w := by kernel_rfl
theorem sg_a4 (w : World) : (Instr.index 9 (.string ⟨#[47]⟩) (.int .i64 0)).run Tryd.prog w = .ok (.int .u8 47) w := by kernel_rfl
theorem sg_i5 (w : World) : (Instr.index 119 (.agg #[.string ⟨#[40]⟩,.string ⟨#[41]⟩,.string ⟨#[44]⟩,.string ⟨#[46]⟩,.string ⟨#[47]⟩,.string ⟨#[58,45]⟩,.string ⟨#[33,61]⟩]) (.int .i64 5)).run Tryd.prog w = .ok (.string ⟨#[58,45]⟩) w := by kernel_rfl
theorem sg_a5 (w : World) : (Instr.index 9 (.string ⟨#[58,45]⟩) (.int .i64 0)).run Tryd.prog w = .ok (.int .u8 58) w := by kernel_rfl
theorem sg_i6 (w : World) : (Instr.index 119 (.agg #[.string ⟨#[40]⟩,.string ⟨#[41]⟩,.string ⟨#[44]⟩,.string ⟨#[46]⟩,.string ⟨#[47]⟩,.string ⟨#[58,45]⟩,.string ⟨#[33,61]⟩]) (.int .i64 6)).run Tryd.prog w = .ok (.string ⟨#[33,61]⟩) w := by kernel_rfl
theorem sg_a6 (w : World) : (Instr.index 9 (.string ⟨#[33,61]⟩) (.int .i64 0)).run Tryd.prog w = .ok (.int .u8 33) w := by kernel_rfl
theorem sg_b5 (w : World) : (Instr.index 9 (.string ⟨#[58,45]⟩) (.int .i64 1)).run Tryd.prog w = .ok (.int .u8 45) w := by kernel_rfl
theorem sg_b6 (w : World) : (Instr.index 9 (.string ⟨#[33,61]⟩) (.int .i64 1)).run Tryd.prog w = .ok (.int .u8 61) w := by kernel_rfl
theorem lx_next_0 (s : ByteArray) (a0 : Nat) (w : World) (hs : s.size ≤ 4194304) (hlt : a0 < s.size) (hc : bat s a0 = 40) :
    Calls Tryd.prog 55 #[.string s,.int .i64 a0] w (NPost s a0 w) := by
 have hidx := fun w => run_index_str (P := Tryd.prog) Tryd.underlying9 s a0 hlt w;have hi0 : (a0 : Int) < (s.size : Int) := by omega
 have hnx : Hid (nextT ((bl s).drop a0) a0 = (⟨8,[],a0,a0 + 1⟩,true)) := by
  show _ = _;rw [drop_bl s a0 hlt];exact next_sign1 _ _ _ _ 0 (by show ¬ bat s a0 = 34;omega) (by show signI (bat s a0) = _;rw [hc];rfl)
 have g34 : (bat s a0 == 34) = false := by simp [hc]
 have g0 : (bat s a0 != 40) = false := by simp [hc]
 have ia0 := sg_i0;have ib0 := sg_a0;clear hc;have hW : Hid ((w.alloc (.cells #[.int .i64 0,.string ⟨#[]⟩,.int .i64 0,.int .i64 0] 67)).heap[w.heap.size]? = some (.cells (tokCs 0 [] 0 0) 67)) := heap_alloc_new _ _;have hWb : Below w.heap.size w (w.alloc (.cells #[.int .i64 0,.string ⟨#[]⟩,.int .i64 0,.int .i64 0] 67)) := (Below.refl _ _).al _
 have hWs : w.heap.size < (w.alloc (.cells #[.int .i64 0,.string ⟨#[]⟩,.int .i64 0,.int .i64 0] 67)).heap.size := by simp
 go_enter Tryd.func55,Tryd.ntmps55;go_wp2_with fail;generalize w.alloc (.cells #[.int .i64 0,.string ⟨#[]⟩,.int .i64 0,.int .i64 0] 67) = W at hW hWb hWs ⊢;refine (lx_signs _).mono ?_;rintro e w2 ⟨rfl,hb2⟩;go_wp2_with fail;refine wp_loop_rounds 1 ?_;rw [rounds_succ];go_wp2_with fail;go_quiet (fail)
 go_wp2_with (refine wpList_store_rowA rfl 67 (.tmp 11) (.tmp 48) rfl w2.heap.size (tokCs 8 [] a0 ((a0 : Int) + 1)) rfl rfl 67 (tokCs 0 [] 0 0) (heap_alloc_new _ _) sizeTok rfl (tokCs_one _ _ _ _) ?_)
 intro w3 hg3 hgr hsz;have hb3 : Below W.heap.size W w3 := ((hb2.drewN _).al _).grown hgr (by have := hb2.size;simp;omega) (by intro k hk;injection hk with hk;have := hb2.size;omega);have hcell : Hid (w3.heap[w.heap.size]? = some (.cells (tokCs 0 [] 0 0) 67)) := (hb3.block _ hWs).trans hW.out;have hg2 : W.heap.size ≤ w2.heap.size := hb2.size
 have hs3 : w2.heap.size < w3.heap.size := by have h := hsz.out;first | omega | (simp at h;omega)
 clear hgr hsz hb2
 go_wp2_with (first
   | (refine wpList_load_row rfl 67 (.tmp 11) rfl w2.heap.size rfl 67 (tokCs 8 [] a0 ((a0 : Int) + 1)) (0,0) _ hg3.out Tryd.underlying67 rfl sizeTok ?_)
   | (refine wpList_store_rowA rfl 67 (.tmp 4) (.tmp 71) rfl w.heap.size (tokCs 8 [] a0 ((a0 : Int) + 1)) rfl rfl 67 (tokCs 0 [] 0 0) hcell.out sizeTok rfl (tokCs_one _ _ _ _) ?_))
 intro w4 hg4 hgr hsz;have hb4 : Below w.heap.size w w4 := (hWb.trans (hb3.mono (by omega))).grown hgr (by have := hb3.size;simp;omega) (by intro k hk;injection hk with hk;omega);clear hgr hsz;go_wp2_with fail;refine bodyPost_ret (v := .tuple #[.agg (tokCs 8 [] a0 ((a0 : Int) + 1)),.bool true]) ?_ rfl (NPost.of hnx.out rfl hb4)
 exact results_cell2 rfl _ _ w.heap.size 67 _ (0,0) _ rfl hg4.out Tryd.underlying67 rfl sizeTok _ rfl
theorem lx_next_1 (s : ByteArray) (a0 : Nat) (w : World) (hs : s.size ≤ 4194304) (hlt : a0 < s.size) (hc : bat s a0 = 41) :
    Calls Tryd.prog 55 #[.string s,.int .i64 a0] w (NPost s a0 w) := by
 have hidx := fun w => run_index_str (P := Tryd.prog) Tryd.underlying9 s a0 hlt w;have hi0 : (a0 : Int) < (s.size : Int) := by omega
 have hnx : Hid (nextT ((bl s).drop a0) a0 = (⟨9,[],a0,a0 + 1⟩,true)) := by
  show _ = _;rw [drop_bl s a0 hlt];exact next_sign1 _ _ _ _ 0 (by show ¬ bat s a0 = 34;omega) (by show signI (bat s a0) = _;rw [hc];rfl)
 have g34 : (bat s a0 == 34) = false := by simp [hc]
 have g0 : (bat s a0 != 40) = true := by simp [hc]
 have ia0 := sg_i0;have ib0 := sg_a0;have g1 : (bat s a0 != 41) = false := by simp [hc]
 have ia1 := sg_i1;have ib1 := sg_a1;clear hc;have hW : Hid ((w.alloc (.cells #[.int .i64 0,.string ⟨#[]⟩,.int .i64 0,.int .i64 0] 67)).heap[w.heap.size]? = some (.cells (tokCs 0 [] 0 0) 67)) := heap_alloc_new _ _;have hWb : Below w.heap.size w (w.alloc (.cells #[.int .i64 0,.string ⟨#[]⟩,.int .i64 0,.int .i64 0] 67)) := (Below.refl _ _).al _
 have hWs : w.heap.size < (w.alloc (.cells #[.int .i64 0,.string ⟨#[]⟩,.int .i64 0,.int .i64 0] 67)).heap.size := by simp
 go_enter Tryd.func55,Tryd.ntmps55;go_wp2_with fail;generalize w.alloc (.cells #[.int .i64 0,.string ⟨#[]⟩,.int .i64 0,.int .i64 0] 67) = W at hW hWb hWs ⊢;refine (lx_signs _).mono ?_;rintro e w2 ⟨rfl,hb2⟩;go_wp2_with fail;refine wp_loop_rounds 2 ?_;rw [rounds_succ];go_wp2_with fail;go_quiet (fail);go_wp2_with fail;rw [rounds_succ];go_wp2_with fail;go_quiet (fail)
 go_wp2_with (refine wpList_store_rowA rfl 67 (.tmp 11) (.tmp 48) rfl w2.heap.size (tokCs 9 [] a0 ((a0 : Int) + 1)) rfl rfl 67 (tokCs 0 [] 0 0) (heap_alloc_new _ _) sizeTok rfl (tokCs_one _ _ _ _) ?_)
 intro w3 hg3 hgr hsz;have hb3 : Below W.heap.size W w3 := ((hb2.drewN _).al _).grown hgr (by have := hb2.size;simp;omega) (by intro k hk;injection hk with hk;have := hb2.size;omega);have hcell : Hid (w3.heap[w.heap.size]? = some (.cells (tokCs 0 [] 0 0) 67)) := (hb3.block _ hWs).trans hW.out;have hg2 : W.heap.size ≤ w2.heap.size := hb2.size
 have hs3 : w2.heap.size < w3.heap.size := by have h := hsz.out;first | omega | (simp at h;omega)
 clear hgr hsz hb2
 go_wp2_with (first
   | (refine wpList_load_row rfl 67 (.tmp 11) rfl w2.heap.size rfl 67 (tokCs 9 [] a0 ((a0 : Int) + 1)) (0,0) _ hg3.out Tryd.underlying67 rfl sizeTok ?_)
   | (refine wpList_store_rowA rfl 67 (.tmp 4) (.tmp 71) rfl w.heap.size (tokCs 9 [] a0 ((a0 : Int) + 1)) rfl rfl 67 (tokCs 0 [] 0 0) hcell.out sizeTok rfl (tokCs_one _ _ _ _) ?_))
 intro w4 hg4 hgr hsz;have hb4 : Below w.heap.size w w4 := (hWb.trans (hb3.mono (by omega))).grown hgr (by have := hb3.size;simp;omega) (by intro k hk;injection hk with hk;omega);clear hgr hsz;go_wp2_with fail;refine bodyPost_ret (v := .tuple #[.agg (tokCs 9 [] a0 ((a0 : Int) + 1)),.bool true]) ?_ rfl (NPost.of hnx.out rfl hb4)
 exact results_cell2 rfl _ _ w.heap.size 67 _ (0,0) _ rfl hg4.out Tryd.underlying67 rfl sizeTok _ rfl
theorem lx_next_2 (s : ByteArray) (a0 : Nat) (w : World) (hs : s.size ≤ 4194304) (hlt : a0 < s.size) (hc : bat s a0 = 44) :
    Calls Tryd.prog 55 #[.string s,.int .i64 a0] w (NPost s a0 w) := by
 have hidx := fun w => run_index_str (P := Tryd.prog) Tryd.underlying9 s a0 hlt w;have hi0 : (a0 : Int) < (s.size : Int) := by omega
 have hnx : Hid (nextT ((bl s).drop a0) a0 = (⟨10,[],a0,a0 + 1⟩,true)) := by
  show _ = _;rw [drop_bl s a0 hlt];exact next_sign1 _ _ _ _ 0 (by show ¬ bat s a0 = 34;omega) (by show signI (bat s a0) = _;rw [hc];rfl)
 have g34 : (bat s a0 == 34) = false := by simp [hc]
 have g0 : (bat s a0 != 40) = true := by simp [hc]
 have ia0 := sg_i0;have ib0 := sg_a0;have g1 : (bat s a0 != 41) = true := by simp [hc]
 have ia1 := sg_i1;have ib1 := sg_a1;have g2 : (bat s a0 != 44) = false := by simp [hc]
 have ia2 := sg_i2;have ib2 := sg_a2;clear hc;have hW : Hid ((w.alloc (.cells #[.int .i64 0,.string ⟨#[]⟩,.int .i64 0,.int .i64 0] 67)).heap[w.heap.size]? = some (.cells (tokCs 0 [] 0 0) 67)) := heap_alloc_new _ _;have hWb : Below w.heap.size w (w.alloc (.cells #[.int .i64 0,.string ⟨#[]⟩,.int .i64 0,.int .i64 0] 67)) := (Below.refl _ _).al _
 have hWs : w.heap.size < (w.alloc (.cells #[.int .i64 0,.string ⟨#[]⟩,.int .i64 0,.int .i64 0] 67)).heap.size := by simp
 go_enter Tryd.func55,Tryd.ntmps55;go_wp2_with fail;generalize w.alloc (.cells #[.int .i64 0,.string ⟨#[]⟩,.int .i64 0,.int .i64 0] 67) = W at hW hWb hWs ⊢;refine (lx_signs _).mono ?_;rintro e w2 ⟨rfl,hb2⟩;go_wp2_with fail;refine wp_loop_rounds 3 ?_;rw [rounds_succ];go_wp2_with fail;go_quiet (fail);go_wp2_with fail;rw [rounds_succ];go_wp2_with fail;go_quiet (fail)
 go_wp2_with fail;rw [rounds_succ];go_wp2_with fail;go_quiet (fail)
 go_wp2_with (refine wpList_store_rowA rfl 67 (.tmp 11) (.tmp 48) rfl w2.heap.size (tokCs 10 [] a0 ((a0 : Int) + 1)) rfl rfl 67 (tokCs 0 [] 0 0) (heap_alloc_new _ _) sizeTok rfl (tokCs_one _ _ _ _) ?_)
 intro w3 hg3 hgr hsz;have hb3 : Below W.heap.size W w3 := ((hb2.drewN _).al _).grown hgr (by have := hb2.size;simp;omega) (by intro k hk;injection hk with hk;have := hb2.size;omega);have hcell : Hid (w3.heap[w.heap.size]? = some (.cells (tokCs 0 [] 0 0) 67)) := (hb3.block _ hWs).trans hW.out;have hg2 : W.heap.size ≤ w2.heap.size := hb2.size
 have hs3 : w2.heap.size < w3.heap.size := by have h := hsz.out;first | omega | (simp at h;omega)
 clear hgr hsz hb2
 go_wp2_with (first
   | (refine wpList_load_row rfl 67 (.tmp 11) rfl w2.heap.size rfl 67 (tokCs 10 [] a0 ((a0 : Int) + 1)) (0,0) _ hg3.out Tryd.underlying67 rfl sizeTok ?_)
   | (refine wpList_store_rowA rfl 67 (.tmp 4) (.tmp 71) rfl w.heap.size (tokCs 10 [] a0 ((a0 : Int) + 1)) rfl rfl 67 (tokCs 0 [] 0 0) hcell.out sizeTok rfl (tokCs_one _ _ _ _) ?_))
 intro w4 hg4 hgr hsz;have hb4 : Below w.heap.size w w4 := (hWb.trans (hb3.mono (by omega))).grown hgr (by have := hb3.size;simp;omega) (by intro k hk;injection hk with hk;omega);clear hgr hsz;go_wp2_with fail;refine bodyPost_ret (v := .tuple #[.agg (tokCs 10 [] a0 ((a0 : Int) + 1)),.bool true]) ?_ rfl (NPost.of hnx.out rfl hb4)
 exact results_cell2 rfl _ _ w.heap.size 67 _ (0,0) _ rfl hg4.out Tryd.underlying67 rfl sizeTok _ rfl
theorem lx_next_3 (s : ByteArray) (a0 : Nat) (w : World) (hs : s.size ≤ 4194304) (hlt : a0 < s.size) (hc : bat s a0 = 46) :
    Calls Tryd.prog 55 #[.string s,.int .i64 a0] w (NPost s a0 w) := by
 have hidx := fun w => run_index_str (P := Tryd.prog) Tryd.underlying9 s a0 hlt w;have hi0 : (a0 : Int) < (s.size : Int) := by omega
 have hnx : Hid (nextT ((bl s).drop a0) a0 = (⟨11,[],a0,a0 + 1⟩,true)) := by
  show _ = _;rw [drop_bl s a0 hlt];exact next_sign1 _ _ _ _ 0 (by show ¬ bat s a0 = 34;omega) (by show signI (bat s a0) = _;rw [hc];rfl)
 have g34 : (bat s a0 == 34) = false := by simp [hc]
 have g0 : (bat s a0 != 40) = true := by simp [hc]
 have ia0 := sg_i0;have ib0 := sg_a0;have g1 : (bat s a0 != 41) = true := by simp [hc]
 have ia1 := sg_i1;have ib1 := sg_a1;have g2 : (bat s a0 != 44) = true := by simp [hc]
 have ia2 := sg_i2;have ib2 := sg_a2;have g3 : (bat s a0 != 46) = false := by simp [hc]
 have ia3 := sg_i3;have ib3 := sg_a3;clear hc;have hW : Hid ((w.alloc (.cells #[.int .i64 0,.string ⟨#[]⟩,.int .i64 0,.int .i64 0] 67)).heap[w.heap.size]? = some (.cells (tokCs 0 [] 0 0) 67)) := heap_alloc_new _ _;have hWb : Below w.heap.size w (w.alloc (.cells #[.int .i64 0,.string ⟨#[]⟩,.int .i64 0,.int .i64 0] 67)) := (Below.refl _ _).al _
 have hWs : w.heap.size < (w.alloc (.cells #[.int .i64 0,.string ⟨#[]⟩,.int .i64 0,.int .i64 0] 67)).heap.size := by simp
 go_enter Tryd.func55,Tryd.ntmps55;go_wp2_with fail;generalize w.alloc (.cells #[.int .i64 0,.string ⟨#[]⟩,.int .i64 0,.int .i64 0] 67) = W at hW hWb hWs ⊢;refine (lx_signs _).mono ?_;rintro e w2 ⟨rfl,hb2⟩;go_wp2_with fail;refine wp_loop_rounds 4 ?_;rw [rounds_succ];go_wp2_with fail;go_quiet (fail);go_wp2_with fail;rw [rounds_succ];go_wp2_with fail;go_quiet (fail)
 go_wp2_with fail;rw [rounds_succ];go_wp2_with fail;go_quiet (fail);go_wp2_with fail;rw [rounds_succ];go_wp2_with fail;go_quiet (fail)
 go_wp2_with (refine wpList_store_rowA rfl 67 (.tmp 11) (.tmp 48) rfl w2.heap.size (tokCs 11 [] a0 ((a0 : Int) + 1)) rfl rfl 67 (tokCs 0 [] 0 0) (heap_alloc_new _ _) sizeTok rfl (tokCs_one _ _ _ _) ?_)
 intro w3 hg3 hgr hsz;have hb3 : Below W.heap.size W w3 := ((hb2.drewN _).al _).grown hgr (by have := hb2.size;simp;omega) (by intro k hk;injection hk with hk;have := hb2.size;omega);have hcell : Hid (w3.heap[w.heap.size]? = some (.cells (tokCs 0 [] 0 0) 67)) := (hb3.block _ hWs).trans hW.out;have hg2 : W.heap.size ≤ w2.heap.size := hb2.size
 have hs3 : w2.heap.size < w3.heap.size := by have h := hsz.out;first | omega | (simp at h;omega)
 clear hgr hsz hb2
 go_wp2_with (first
   | (refine wpList_load_row rfl 67 (.tmp 11) rfl w2.heap.size rfl 67 (tokCs 11 [] a0 ((a0 : Int) + 1)) (0,0) _ hg3.out Tryd.underlying67 rfl sizeTok ?_)
   | (refine wpList_store_rowA rfl 67 (.tmp 4) (.tmp 71) rfl w.heap.size (tokCs 11 [] a0 ((a0 : Int) + 1)) rfl rfl 67 (tokCs 0 [] 0 0) hcell.out sizeTok rfl (tokCs_one _ _ _ _) ?_))
 intro w4 hg4 hgr hsz;have hb4 : Below w.heap.size w w4 := (hWb.trans (hb3.mono (by omega))).grown hgr (by have := hb3.size;simp;omega) (by intro k hk;injection hk with hk;omega);clear hgr hsz;go_wp2_with fail;refine bodyPost_ret (v := .tuple #[.agg (tokCs 11 [] a0 ((a0 : Int) + 1)),.bool true]) ?_ rfl (NPost.of hnx.out rfl hb4)
 exact results_cell2 rfl _ _ w.heap.size 67 _ (0,0) _ rfl hg4.out Tryd.underlying67 rfl sizeTok _ rfl
theorem lx_next_4 (s : ByteArray) (a0 : Nat) (w : World) (hs : s.size ≤ 4194304) (hlt : a0 < s.size) (hc : bat s a0 = 47) :
    Calls Tryd.prog 55 #[.string s,.int .i64 a0] w (NPost s a0 w) := by
 have hidx := fun w => run_index_str (P := Tryd.prog) Tryd.underlying9 s a0 hlt w;have hi0 : (a0 : Int) < (s.size : Int) := by omega
 have hnx : Hid (nextT ((bl s).drop a0) a0 = (⟨12,[],a0,a0 + 1⟩,true)) := by
  show _ = _;rw [drop_bl s a0 hlt];exact next_sign1 _ _ _ _ 0 (by show ¬ bat s a0 = 34;omega) (by show signI (bat s a0) = _;rw [hc];rfl)
 have g34 : (bat s a0 == 34) = false := by simp [hc]
 have g0 : (bat s a0 != 40) = true := by simp [hc]
 have ia0 := sg_i0;have ib0 := sg_a0;have g1 : (bat s a0 != 41) = true := by simp [hc]
 have ia1 := sg_i1;have ib1 := sg_a1;have g2 : (bat s a0 != 44) = true := by simp [hc]
 have ia2 := sg_i2;have ib2 := sg_a2;have g3 : (bat s a0 != 46) = true := by simp [hc]
 have ia3 := sg_i3;have ib3 := sg_a3;have g4 : (bat s a0 != 47) = false := by simp [hc]
 have ia4 := sg_i4;have ib4 := sg_a4;clear hc;have hW : Hid ((w.alloc (.cells #[.int .i64 0,.string ⟨#[]⟩,.int .i64 0,.int .i64 0] 67)).heap[w.heap.size]? = some (.cells (tokCs 0 [] 0 0) 67)) := heap_alloc_new _ _;have hWb : Below w.heap.size w (w.alloc (.cells #[.int .i64 0,.string ⟨#[]⟩,.int .i64 0,.int .i64 0] 67)) := (Below.refl _ _).al _
 have hWs : w.heap.size < (w.alloc (.cells #[.int .i64 0,.string ⟨#[]⟩,.int .i64 0,.int .i64 0] 67)).heap.size := by simp
 go_enter Tryd.func55,Tryd.ntmps55;go_wp2_with fail;generalize w.alloc (.cells #[.int .i64 0,.string ⟨#[]⟩,.int .i64 0,.int .i64 0] 67) = W at hW hWb hWs ⊢;refine (lx_signs _).mono ?_;rintro e w2 ⟨rfl,hb2⟩;go_wp2_with fail;refine wp_loop_rounds 5 ?_;rw [rounds_succ];go_wp2_with fail;go_quiet (fail);go_wp2_with fail;rw [rounds_succ];go_wp2_with fail;go_quiet (fail)
 go_wp2_with fail;rw [rounds_succ];go_wp2_with fail;go_quiet (fail);go_wp2_with fail;rw [rounds_succ];go_wp2_with fail;go_quiet (fail);go_wp2_with fail;rw [rounds_succ];go_wp2_with fail;go_quiet (fail)
 go_wp2_with (refine wpList_store_rowA rfl 67 (.tmp 11) (.tmp 48) rfl w2.heap.size (tokCs 12 [] a0 ((a0 : Int) + 1)) rfl rfl 67 (tokCs 0 [] 0 0) (heap_alloc_new _ _) sizeTok rfl (tokCs_one _ _ _ _) ?_)
 intro w3 hg3 hgr hsz;have hb3 : Below W.heap.size W w3 := ((hb2.drewN _).al _).grown hgr (by have := hb2.size;simp;omega) (by intro k hk;injection hk with hk;have := hb2.size;omega);have hcell : Hid (w3.heap[w.heap.size]? = some (.cells (tokCs 0 [] 0 0) 67)) := (hb3.block _ hWs).trans hW.out;have hg2 : W.heap.size ≤ w2.heap.size := hb2.size
 have hs3 : w2.heap.size < w3.heap.size := by have h := hsz.out;first | omega | (simp at h;omega)
 clear hgr hsz hb2
 go_wp2_with (first
   | (refine wpList_load_row rfl 67 (.tmp 11) rfl w2.heap.size rfl 67 (tokCs 12 [] a0 ((a0 : Int) + 1)) (0,0) _ hg3.out Tryd.underlying67 rfl sizeTok ?_)
   | (refine wpList_store_rowA rfl 67 (.tmp 4) (.tmp 71) rfl w.heap.size (tokCs 12 [] a0 ((a0 : Int) + 1)) rfl rfl 67 (tokCs 0 [] 0 0) hcell.out sizeTok rfl (tokCs_one _ _ _ _) ?_))
 intro w4 hg4 hgr hsz;have hb4 : Below w.heap.size w w4 := (hWb.trans (hb3.mono (by omega))).grown hgr (by have := hb3.size;simp;omega) (by intro k hk;injection hk with hk;omega);clear hgr hsz;go_wp2_with fail;refine bodyPost_ret (v := .tuple #[.agg (tokCs 12 [] a0 ((a0 : Int) + 1)),.bool true]) ?_ rfl (NPost.of hnx.out rfl hb4)
 exact results_cell2 rfl _ _ w.heap.size 67 _ (0,0) _ rfl hg4.out Tryd.underlying67 rfl sizeTok _ rfl
end Go.Proofs.YtmjincocmhadeaaDoor
