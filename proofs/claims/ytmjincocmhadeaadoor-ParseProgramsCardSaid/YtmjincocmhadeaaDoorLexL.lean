/- lex.next: words. -/
import Derived.Test.YtmjincocmhadeaaDoorProg
import Derived.Test.YtmjincocmhadeaaDoorBase
import Derived.Test.YtmjincocmhadeaaDoorBytes
import Derived.Test.YtmjincocmhadeaaDoorLexSpec
import Derived.Test.YtmjincocmhadeaaDoorLexA
import Derived.Test.YtmjincocmhadeaaDoorLexB
import Derived.Test.YtmjincocmhadeaaDoorLexC
import Derived.Test.YtmjincocmhadeaaDoorLexE
import Derived.Test.YtmjincocmhadeaaDoorLexG
import Derived.Test.YtmjincocmhadeaaDoorLexH
import Derived.Test.YtmjincocmhadeaaDoorLexI
import Derived.Test.YtmjincocmhadeaaDoorLexK
import Derived.Deep.RegionWith
import Derived.BigRegion
import Derived.Laws.NewBlocks
import Derived.Lib.Strings
namespace Go.Proofs.YtmjincocmhadeaaDoor
set_option maxHeartbeats 8000000
open Go.RowKit Lx
theorem lx_next_word_lo (s : ByteArray) (a0 : Nat) (w : World) (hs : s.size ≤ 4194304) (hlt : a0 < s.size) (h34 : ¬ bat s a0 = 34) (hsg : signI (bat s a0) = none) (hd : bat s a0 < 48) :
    Calls Tryd.prog 55 #[.string s,.int .i64 a0] w (NPost s a0 w) := by
 have hnb : digitB (bat s a0) = false := by unfold digitB;simp;omega
 have hidx := fun w => run_index_str (P := Tryd.prog) Tryd.underlying9 s a0 hlt w;have hi0 : (a0 : Int) < (s.size : Int) := by omega
 have hfd : firstB digitB ((bl s).drop a0) = false := by rw [drop_bl s a0 hlt];exact hnb
 have hnx : Hid (nextT ((bl s).drop a0) a0 = if kindI (((bl s).drop a0).take (wordN ((bl s).drop a0))) = 0 then (zeroTok,false)
     else (⟨kindI (((bl s).drop a0).take (wordN ((bl s).drop a0))),if reservedB (((bl s).drop a0).take (wordN ((bl s).drop a0))) then [] else ((bl s).drop a0).take (wordN ((bl s).drop a0)),a0,a0 + wordN ((bl s).drop a0)⟩,true)) := by
   show _ = _;rw [drop_bl s a0 hlt];exact next_word _ _ _ h34 hsg
 have hno : ¬ bat s a0 = 40 ∧ ¬ bat s a0 = 41 ∧ ¬ bat s a0 = 44 ∧ ¬ bat s a0 = 46 ∧ ¬ bat s a0 = 47 ∧ ¬ bat s a0 = 58 ∧ ¬ bat s a0 = 33 := by
  unfold signI at hsg;refine ⟨?_,?_,?_,?_,?_,?_,?_⟩ <;> (intro h;rw [h] at hsg;revert hsg;decide)
 have g34 : (bat s a0 == 34) = false := by rw [beq_eq_false_iff_ne];exact h34
 have g0 : (bat s a0 != 40) = true := by rw [bne_iff_ne];omega
 have ia0 := sg_i0;have ib0 := sg_a0;have g1 : (bat s a0 != 41) = true := by rw [bne_iff_ne];omega
 have ia1 := sg_i1;have ib1 := sg_a1;have g2 : (bat s a0 != 44) = true := by rw [bne_iff_ne];omega
 have ia2 := sg_i2;have ib2 := sg_a2;have g3 : (bat s a0 != 46) = true := by rw [bne_iff_ne];omega
 have ia3 := sg_i3;have ib3 := sg_a3;have g4 : (bat s a0 != 47) = true := by rw [bne_iff_ne];omega
 have ia4 := sg_i4;have ib4 := sg_a4;have g5 : (bat s a0 != 58) = true := by rw [bne_iff_ne];omega
 have ia5 := sg_i5;have ib5 := sg_a5;have g6 : (bat s a0 != 33) = true := by rw [bne_iff_ne];omega
 have ia6 := sg_i6;have ib6 := sg_a6;have hst := Lh (WAt.start hfd);clear hno hsg h34 hnb hfd;have hW : Hid ((w.alloc (.cells #[.int .i64 0,.string ⟨#[]⟩,.int .i64 0,.int .i64 0] 67)).heap[w.heap.size]? = some (.cells (tokCs 0 [] 0 0) 67)) := heap_alloc_new _ _
 have hWb : Below w.heap.size w (w.alloc (.cells #[.int .i64 0,.string ⟨#[]⟩,.int .i64 0,.int .i64 0] 67)) := (Below.refl _ _).al _;have hWs : w.heap.size < (w.alloc (.cells #[.int .i64 0,.string ⟨#[]⟩,.int .i64 0,.int .i64 0] 67)).heap.size := by simp
 have hd1 : bat s a0 < 48 := hd;go_enter Tryd.func55,Tryd.ntmps55;go_wp2_with fail;generalize w.alloc (.cells #[.int .i64 0,.string ⟨#[]⟩,.int .i64 0,.int .i64 0] 67) = W at hW hWb hWs ⊢;refine (lx_signs _).mono ?_;rintro e w2 ⟨rfl,hb2⟩;go_wp2_with fail;refine wp_loop_rounds 8 ?_;rw [rounds_succ];go_wp2_with fail;go_quiet (fail);go_wp2_with fail;rw [rounds_succ];go_wp2_with fail
 go_quiet (fail);go_wp2_with fail;rw [rounds_succ];go_wp2_with fail;go_quiet (fail);go_wp2_with fail;rw [rounds_succ];go_wp2_with fail;go_quiet (fail);go_wp2_with fail;rw [rounds_succ];go_wp2_with fail;go_quiet (fail);go_wp2_with fail;rw [rounds_succ];go_wp2_with fail;go_quiet (fail);go_wp2_with fail;rw [rounds_succ];go_wp2_with fail;go_quiet (fail);go_wp2_with fail
 rw [rounds_succ];go_wp2_with fail
 go_loopw [12] (fun m wr => ∃ k : Nat,a0 ≤ k ∧ k ≤ s.size ∧ k ≤ a0 + 64 ∧ m = .int .i64 k ∧ Hid (WAt s a0 false k) ∧ Drawn w2 wr) (fun m _ => s.size - (intOf m).toNat)
 case atStart => exact ⟨a0,by omega,by omega,by omega,rfl,hst,(by (repeat (refine Drawn.step ?_ _));exact Drawn.refl _)⟩
 case round =>
  obtain ⟨m,hm1,hm2,hm3,rfl,hm,⟨nd,rfl⟩⟩ := hrel
  by_cases hc1 : m < s.size
  · by_cases hc2 : m < a0 + 64
    · have hidm := fun w => run_index_str (P := Tryd.prog) Tryd.underlying9 s m hc1 w
      by_cases hl : letterB (bat s m) = true
      · have hm4 : Hid (WAt s a0 false (m + 1)) := hm.out.yes hc1 hc2 (by
          show (letterB (bat s m) && (!false || digitB (bat s m))) = true;rw [hl];rfl)
        clear hm
        go_wp2_with (go_at_call 68;refine (lx_word _ _).mono ?_;rintro e w' ⟨rfl,rfl⟩)
        go_roundw
        case rel => exact ⟨m + 1,by omega,by omega,by omega,by go_num,hm4,(by (repeat (refine Drawn.step ?_ _));exact Drawn.refl _)⟩
        case measure => simp [intOf];omega
      · replace hl : letterB (bat s m) = false := by simpa using hl
        have hend : Hid (m = a0 + wordN ((bl s).drop a0)) := hm.out.no hc1 hc2 (by
         show (letterB (bat s m) && (!false || digitB (bat s m))) = false;rw [hl];rfl)
        go_wp2_with (go_at_call 68;refine (lx_word _ _).mono ?_;rintro e w' ⟨rfl,rfl⟩)
        have hfin := Lh (word_fin s a0 m hend.out hnx.out);clear hend hnx hm hidx hst;have hx1 : (a0 : Int) ≤ (m : Int) := by omega
        have hx2 : (m : Int) ≤ (s.size : Int) := by omega
        have hxs : Hid ((s.extract a0 m).size ≤ 140737488355328) := by show _ ≤ _;rw [ByteArray.size_extract];omega
        have hda : ∀ (n : Nat) (o : Obj),(w2.drewN n).alloc o = (w2.alloc o).drewN n := fun _ _ => rfl;have hg2 : w.heap.size < w2.heap.size := by have := hb2.size;omega
        have hrow : Hid (((w2.alloc (.cells #[.int .i64 (kindI (bl (s.extract a0 m))),.string (s.extract a0 m),.int .i64 a0,.int .i64 m] 67)).drewN (nd + 1)).heap[w2.heap.size]? = some (.cells #[.int .i64 (kindI (bl (s.extract a0 m))),.string (s.extract a0 m),.int .i64 a0,.int .i64 m] 67)) := heap_alloc_new w2 _
        have hb3 : Below w.heap.size w ((w2.alloc (.cells #[.int .i64 (kindI (bl (s.extract a0 m))),.string (s.extract a0 m),.int .i64 a0,.int .i64 m] 67)).drewN (nd + 1)) := hWb.trans (((hb2.al _).drewN _).mono (by omega))
        have hcell : Hid (((w2.alloc (.cells #[.int .i64 (kindI (bl (s.extract a0 m))),.string (s.extract a0 m),.int .i64 a0,.int .i64 m] 67)).drewN (nd + 1)).heap[w.heap.size]? = some (.cells (tokCs 0 [] 0 0) 67)) := (((hb2.al _).drewN _).block _ hWs).trans hW.out
        have hs3 : w2.heap.size < ((w2.alloc (.cells #[.int .i64 (kindI (bl (s.extract a0 m))),.string (s.extract a0 m),.int .i64 a0,.int .i64 m] 67)).drewN (nd + 1)).heap.size := by simp
        go_region_with ((go_at_call 69;refine (lx_kindOf _ _ hxs.out).mono ?_;rintro e w' ⟨rfl,rfl⟩))
        all_goals
          clear hda;rw [chain4];generalize (w2.alloc (.cells #[.int .i64 (kindI (bl (s.extract a0 m))),.string (s.extract a0 m),.int .i64 a0,.int .i64 m] 67)).drewN (nd + 1) = w3 at hrow hb3 hcell hs3 ⊢;have k0 : w3.cell? ⟨w2.heap.size,0,none⟩ = some (.int .i64 (kindI (bl (s.extract a0 m)))) := cell_of_row _ _ _ _ _ _ hrow.out
          have k1 : w3.cell? ⟨w2.heap.size,1,none⟩ = some (.string (s.extract a0 m)) := cell_of_row _ _ _ _ _ _ hrow.out;have k2 : w3.cell? ⟨w2.heap.size,2,none⟩ = some (.int .i64 a0) := cell_of_row _ _ _ _ _ _ hrow.out;have k3 : w3.cell? ⟨w2.heap.size,3,none⟩ = some (.int .i64 m) := cell_of_row _ _ _ _ _ _ hrow.out
          have f1 : w3.frozen? ⟨w2.heap.size,1,none⟩ = false := frozen_of_row _ _ _ _ _ hrow.out
          by_cases hk0 : kindI (bl (s.extract a0 m)) = 0
          · have hke : (kindI (bl (s.extract a0 m)) == 0) = true := by simp [hk0]
            replace hfin := Lh (hfin.out.trans (if_pos hk0));clear hk0
            go_wp2_with (refine wpList_store_rowA rfl 67 (.tmp 4) (.tmp 127) rfl w.heap.size (tokCs 0 [] 0 0) rfl rfl 67 (tokCs 0 [] 0 0) hcell.out sizeTok rfl (tokCs_one _ _ _ _) ?_)
            intro w4 hg4 hgr hsz;have hb4 : Below w.heap.size w w4 := hb3.grown hgr (by omega) (by intro k hk;injection hk with hk;omega);clear hgr hsz;go_wp2_with fail;refine bodyPost_ret (v := .tuple #[.agg (tokCs 0 [] 0 0),.bool false]) ?_ rfl (NPost.of hfin.out rfl hb4);exact results_cell2 rfl _ _ w.heap.size 67 _ (0,0) _ rfl hg4.out Tryd.underlying67 rfl sizeTok _ rfl
          · have hke : (kindI (bl (s.extract a0 m)) == 0) = false := by simp [hk0]
            replace hfin := Lh (hfin.out.trans (if_neg hk0));clear hk0
            by_cases hr : reservedB (bl (s.extract a0 m)) = true
            · replace hr := Lh hr;have hrf : Hid (nextT ((bl s).drop a0) a0 = (⟨kindI (bl (s.extract a0 m)),[],a0,m⟩,true)) := by have h := hfin.out;rw [if_pos hr.out] at h;exact h
              clear hfin
              go_wp2_with (first
                | (go_at_call 70;refine (lx_Reserved _ _).mono ?_;rintro e w4 ⟨he,rfl⟩;rw [hr.out] at he;subst he)
                | (refine wpList_load_row rfl 67 (.tmp 14) rfl w2.heap.size rfl 67 #[.int .i64 (kindI (bl (s.extract a0 m))),.string ⟨#[]⟩,.int .i64 a0,.int .i64 m] (0,0) _ (heap_setCell_same _ _ _ _ _ _ hrow.out) Tryd.underlying67 rfl sizeTok ?_)
                | (refine wpList_store_rowA rfl 67 (.tmp 4) (.tmp 132) rfl w.heap.size #[.int .i64 (kindI (bl (s.extract a0 m))),.string ⟨#[]⟩,.int .i64 a0,.int .i64 m] rfl rfl 67 (tokCs 0 [] 0 0) ((heap_setCell_other _ _ _ _ (by show w.heap.size ≠ w2.heap.size;omega)).trans hcell.out) sizeTok rfl (tokCs_one _ [] _ _) ?_))
              intro w4 hg4 hgr hsz;have hb4 : Below w.heap.size w w4 := (hb3.setCell (by show w.heap.size ≤ w2.heap.size;omega) _).grown hgr (by simp;omega) (by intro k hk;injection hk with hk;omega);clear hgr hsz;go_wp2_with fail
              refine bodyPost_ret (v := .tuple #[.agg #[.int .i64 (kindI (bl (s.extract a0 m))),.string ⟨#[]⟩,.int .i64 a0,.int .i64 m],.bool true]) ?_ rfl (NPost.of hrf.out rfl hb4);exact results_cell2 rfl _ _ w.heap.size 67 _ (0,0) _ rfl hg4.out Tryd.underlying67 rfl sizeTok _ rfl
            · replace hr : Hid (reservedB (bl (s.extract a0 m)) = false) := Lh (by simpa using hr);have hrf : Hid (nextT ((bl s).drop a0) a0 = (⟨kindI (bl (s.extract a0 m)),bl (s.extract a0 m),a0,m⟩,true)) := by have h := hfin.out;rw [hr.out] at h;exact h
              clear hfin
              go_wp2_with (first
                | (go_at_call 70;refine (lx_Reserved _ _).mono ?_;rintro e w4 ⟨he,rfl⟩;rw [hr.out] at he;subst he)
                | (refine wpList_load_row rfl 67 (.tmp 14) rfl w2.heap.size rfl 67 #[.int .i64 (kindI (bl (s.extract a0 m))),.string (s.extract a0 m),.int .i64 a0,.int .i64 m] (0,0) _ hrow.out Tryd.underlying67 rfl sizeTok ?_)
                | (refine wpList_store_rowA rfl 67 (.tmp 4) (.tmp 132) rfl w.heap.size #[.int .i64 (kindI (bl (s.extract a0 m))),.string (s.extract a0 m),.int .i64 a0,.int .i64 m] rfl rfl 67 (tokCs 0 [] 0 0) hcell.out sizeTok rfl (by simp [Value.oneCell']) ?_))
              intro w4 hg4 hgr hsz;have hb4 : Below w.heap.size w w4 := hb3.grown hgr (by omega) (by intro k hk;injection hk with hk;omega);clear hgr hsz;go_wp2_with fail
              refine bodyPost_ret (v := .tuple #[.agg #[.int .i64 (kindI (bl (s.extract a0 m))),.string (s.extract a0 m),.int .i64 a0,.int .i64 m],.bool true]) ?_ rfl (NPost.of hrf.out (by show _ = tokCs _ (bl (s.extract a0 m)) _ _;unfold tokCs;rw [mk_bl]) hb4);exact results_cell2 rfl _ _ w.heap.size 67 _ (0,0) _ rfl hg4.out Tryd.underlying67 rfl sizeTok _ rfl
    · have hend : Hid (m = a0 + wordN ((bl s).drop a0)) := hm.out.stop (.inr (by omega));have hn2 : ¬ (m : Int) < (a0 : Int) + 64 := by omega
      go_wp2_with (go_at_call 68;refine (lx_word _ _).mono ?_;rintro e w' ⟨rfl,rfl⟩)
      have hfin := Lh (word_fin s a0 m hend.out hnx.out);clear hend hnx hm hidx hst;have hx1 : (a0 : Int) ≤ (m : Int) := by omega
      have hx2 : (m : Int) ≤ (s.size : Int) := by omega
      have hxs : Hid ((s.extract a0 m).size ≤ 140737488355328) := by show _ ≤ _;rw [ByteArray.size_extract];omega
      have hda : ∀ (n : Nat) (o : Obj),(w2.drewN n).alloc o = (w2.alloc o).drewN n := fun _ _ => rfl;have hg2 : w.heap.size < w2.heap.size := by have := hb2.size;omega
      have hrow : Hid (((w2.alloc (.cells #[.int .i64 (kindI (bl (s.extract a0 m))),.string (s.extract a0 m),.int .i64 a0,.int .i64 m] 67)).drewN (nd + 1)).heap[w2.heap.size]? = some (.cells #[.int .i64 (kindI (bl (s.extract a0 m))),.string (s.extract a0 m),.int .i64 a0,.int .i64 m] 67)) := heap_alloc_new w2 _
      have hb3 : Below w.heap.size w ((w2.alloc (.cells #[.int .i64 (kindI (bl (s.extract a0 m))),.string (s.extract a0 m),.int .i64 a0,.int .i64 m] 67)).drewN (nd + 1)) := hWb.trans (((hb2.al _).drewN _).mono (by omega))
      have hcell : Hid (((w2.alloc (.cells #[.int .i64 (kindI (bl (s.extract a0 m))),.string (s.extract a0 m),.int .i64 a0,.int .i64 m] 67)).drewN (nd + 1)).heap[w.heap.size]? = some (.cells (tokCs 0 [] 0 0) 67)) := (((hb2.al _).drewN _).block _ hWs).trans hW.out
      have hs3 : w2.heap.size < ((w2.alloc (.cells #[.int .i64 (kindI (bl (s.extract a0 m))),.string (s.extract a0 m),.int .i64 a0,.int .i64 m] 67)).drewN (nd + 1)).heap.size := by simp
      go_region_with ((go_at_call 69;refine (lx_kindOf _ _ hxs.out).mono ?_;rintro e w' ⟨rfl,rfl⟩))
      all_goals
        clear hda;rw [chain4];generalize (w2.alloc (.cells #[.int .i64 (kindI (bl (s.extract a0 m))),.string (s.extract a0 m),.int .i64 a0,.int .i64 m] 67)).drewN (nd + 1) = w3 at hrow hb3 hcell hs3 ⊢;have k0 : w3.cell? ⟨w2.heap.size,0,none⟩ = some (.int .i64 (kindI (bl (s.extract a0 m)))) := cell_of_row _ _ _ _ _ _ hrow.out
        have k1 : w3.cell? ⟨w2.heap.size,1,none⟩ = some (.string (s.extract a0 m)) := cell_of_row _ _ _ _ _ _ hrow.out;have k2 : w3.cell? ⟨w2.heap.size,2,none⟩ = some (.int .i64 a0) := cell_of_row _ _ _ _ _ _ hrow.out;have k3 : w3.cell? ⟨w2.heap.size,3,none⟩ = some (.int .i64 m) := cell_of_row _ _ _ _ _ _ hrow.out
        have f1 : w3.frozen? ⟨w2.heap.size,1,none⟩ = false := frozen_of_row _ _ _ _ _ hrow.out
        by_cases hk0 : kindI (bl (s.extract a0 m)) = 0
        · have hke : (kindI (bl (s.extract a0 m)) == 0) = true := by simp [hk0]
          replace hfin := Lh (hfin.out.trans (if_pos hk0));clear hk0
          go_wp2_with (refine wpList_store_rowA rfl 67 (.tmp 4) (.tmp 127) rfl w.heap.size (tokCs 0 [] 0 0) rfl rfl 67 (tokCs 0 [] 0 0) hcell.out sizeTok rfl (tokCs_one _ _ _ _) ?_)
          intro w4 hg4 hgr hsz;have hb4 : Below w.heap.size w w4 := hb3.grown hgr (by omega) (by intro k hk;injection hk with hk;omega);clear hgr hsz;go_wp2_with fail;refine bodyPost_ret (v := .tuple #[.agg (tokCs 0 [] 0 0),.bool false]) ?_ rfl (NPost.of hfin.out rfl hb4);exact results_cell2 rfl _ _ w.heap.size 67 _ (0,0) _ rfl hg4.out Tryd.underlying67 rfl sizeTok _ rfl
        · have hke : (kindI (bl (s.extract a0 m)) == 0) = false := by simp [hk0]
          replace hfin := Lh (hfin.out.trans (if_neg hk0));clear hk0
          by_cases hr : reservedB (bl (s.extract a0 m)) = true
          · replace hr := Lh hr;have hrf : Hid (nextT ((bl s).drop a0) a0 = (⟨kindI (bl (s.extract a0 m)),[],a0,m⟩,true)) := by have h := hfin.out;rw [if_pos hr.out] at h;exact h
            clear hfin
            go_wp2_with (first
              | (go_at_call 70;refine (lx_Reserved _ _).mono ?_;rintro e w4 ⟨he,rfl⟩;rw [hr.out] at he;subst he)
              | (refine wpList_load_row rfl 67 (.tmp 14) rfl w2.heap.size rfl 67 #[.int .i64 (kindI (bl (s.extract a0 m))),.string ⟨#[]⟩,.int .i64 a0,.int .i64 m] (0,0) _ (heap_setCell_same _ _ _ _ _ _ hrow.out) Tryd.underlying67 rfl sizeTok ?_)
              | (refine wpList_store_rowA rfl 67 (.tmp 4) (.tmp 132) rfl w.heap.size #[.int .i64 (kindI (bl (s.extract a0 m))),.string ⟨#[]⟩,.int .i64 a0,.int .i64 m] rfl rfl 67 (tokCs 0 [] 0 0) ((heap_setCell_other _ _ _ _ (by show w.heap.size ≠ w2.heap.size;omega)).trans hcell.out) sizeTok rfl (tokCs_one _ [] _ _) ?_))
            intro w4 hg4 hgr hsz;have hb4 : Below w.heap.size w w4 := (hb3.setCell (by show w.heap.size ≤ w2.heap.size;omega) _).grown hgr (by simp;omega) (by intro k hk;injection hk with hk;omega);clear hgr hsz;go_wp2_with fail
            refine bodyPost_ret (v := .tuple #[.agg #[.int .i64 (kindI (bl (s.extract a0 m))),.string ⟨#[]⟩,.int .i64 a0,.int .i64 m],.bool true]) ?_ rfl (NPost.of hrf.out rfl hb4);exact results_cell2 rfl _ _ w.heap.size 67 _ (0,0) _ rfl hg4.out Tryd.underlying67 rfl sizeTok _ rfl
          · replace hr : Hid (reservedB (bl (s.extract a0 m)) = false) := Lh (by simpa using hr);have hrf : Hid (nextT ((bl s).drop a0) a0 = (⟨kindI (bl (s.extract a0 m)),bl (s.extract a0 m),a0,m⟩,true)) := by have h := hfin.out;rw [hr.out] at h;exact h
            clear hfin
            go_wp2_with (first
              | (go_at_call 70;refine (lx_Reserved _ _).mono ?_;rintro e w4 ⟨he,rfl⟩;rw [hr.out] at he;subst he)
              | (refine wpList_load_row rfl 67 (.tmp 14) rfl w2.heap.size rfl 67 #[.int .i64 (kindI (bl (s.extract a0 m))),.string (s.extract a0 m),.int .i64 a0,.int .i64 m] (0,0) _ hrow.out Tryd.underlying67 rfl sizeTok ?_)
              | (refine wpList_store_rowA rfl 67 (.tmp 4) (.tmp 132) rfl w.heap.size #[.int .i64 (kindI (bl (s.extract a0 m))),.string (s.extract a0 m),.int .i64 a0,.int .i64 m] rfl rfl 67 (tokCs 0 [] 0 0) hcell.out sizeTok rfl (by simp [Value.oneCell']) ?_))
            intro w4 hg4 hgr hsz;have hb4 : Below w.heap.size w w4 := hb3.grown hgr (by omega) (by intro k hk;injection hk with hk;omega);clear hgr hsz;go_wp2_with fail
            refine bodyPost_ret (v := .tuple #[.agg #[.int .i64 (kindI (bl (s.extract a0 m))),.string (s.extract a0 m),.int .i64 a0,.int .i64 m],.bool true]) ?_ rfl (NPost.of hrf.out (by show _ = tokCs _ (bl (s.extract a0 m)) _ _;unfold tokCs;rw [mk_bl]) hb4);exact results_cell2 rfl _ _ w.heap.size 67 _ (0,0) _ rfl hg4.out Tryd.underlying67 rfl sizeTok _ rfl
  · have hend : Hid (m = a0 + wordN ((bl s).drop a0)) := hm.out.stop (.inl (by omega));have hn1 : ¬ (m : Int) < (s.size : Int) := by omega
    go_wp2_with (go_at_call 68;refine (lx_word _ _).mono ?_;rintro e w' ⟨rfl,rfl⟩)
    have hfin := Lh (word_fin s a0 m hend.out hnx.out);clear hend hnx hm hidx hst;have hx1 : (a0 : Int) ≤ (m : Int) := by omega
    have hx2 : (m : Int) ≤ (s.size : Int) := by omega
    have hxs : Hid ((s.extract a0 m).size ≤ 140737488355328) := by show _ ≤ _;rw [ByteArray.size_extract];omega
    have hda : ∀ (n : Nat) (o : Obj),(w2.drewN n).alloc o = (w2.alloc o).drewN n := fun _ _ => rfl;have hg2 : w.heap.size < w2.heap.size := by have := hb2.size;omega
    have hrow : Hid (((w2.alloc (.cells #[.int .i64 (kindI (bl (s.extract a0 m))),.string (s.extract a0 m),.int .i64 a0,.int .i64 m] 67)).drewN (nd + 1)).heap[w2.heap.size]? = some (.cells #[.int .i64 (kindI (bl (s.extract a0 m))),.string (s.extract a0 m),.int .i64 a0,.int .i64 m] 67)) := heap_alloc_new w2 _
    have hb3 : Below w.heap.size w ((w2.alloc (.cells #[.int .i64 (kindI (bl (s.extract a0 m))),.string (s.extract a0 m),.int .i64 a0,.int .i64 m] 67)).drewN (nd + 1)) := hWb.trans (((hb2.al _).drewN _).mono (by omega))
    have hcell : Hid (((w2.alloc (.cells #[.int .i64 (kindI (bl (s.extract a0 m))),.string (s.extract a0 m),.int .i64 a0,.int .i64 m] 67)).drewN (nd + 1)).heap[w.heap.size]? = some (.cells (tokCs 0 [] 0 0) 67)) := (((hb2.al _).drewN _).block _ hWs).trans hW.out
    have hs3 : w2.heap.size < ((w2.alloc (.cells #[.int .i64 (kindI (bl (s.extract a0 m))),.string (s.extract a0 m),.int .i64 a0,.int .i64 m] 67)).drewN (nd + 1)).heap.size := by simp
    go_region_with ((go_at_call 69;refine (lx_kindOf _ _ hxs.out).mono ?_;rintro e w' ⟨rfl,rfl⟩))
    all_goals
      clear hda;rw [chain4];generalize (w2.alloc (.cells #[.int .i64 (kindI (bl (s.extract a0 m))),.string (s.extract a0 m),.int .i64 a0,.int .i64 m] 67)).drewN (nd + 1) = w3 at hrow hb3 hcell hs3 ⊢;have k0 : w3.cell? ⟨w2.heap.size,0,none⟩ = some (.int .i64 (kindI (bl (s.extract a0 m)))) := cell_of_row _ _ _ _ _ _ hrow.out
      have k1 : w3.cell? ⟨w2.heap.size,1,none⟩ = some (.string (s.extract a0 m)) := cell_of_row _ _ _ _ _ _ hrow.out;have k2 : w3.cell? ⟨w2.heap.size,2,none⟩ = some (.int .i64 a0) := cell_of_row _ _ _ _ _ _ hrow.out;have k3 : w3.cell? ⟨w2.heap.size,3,none⟩ = some (.int .i64 m) := cell_of_row _ _ _ _ _ _ hrow.out
      have f1 : w3.frozen? ⟨w2.heap.size,1,none⟩ = false := frozen_of_row _ _ _ _ _ hrow.out
      by_cases hk0 : kindI (bl (s.extract a0 m)) = 0
      · have hke : (kindI (bl (s.extract a0 m)) == 0) = true := by simp [hk0]
        replace hfin := Lh (hfin.out.trans (if_pos hk0));clear hk0
        go_wp2_with (refine wpList_store_rowA rfl 67 (.tmp 4) (.tmp 127) rfl w.heap.size (tokCs 0 [] 0 0) rfl rfl 67 (tokCs 0 [] 0 0) hcell.out sizeTok rfl (tokCs_one _ _ _ _) ?_)
        intro w4 hg4 hgr hsz;have hb4 : Below w.heap.size w w4 := hb3.grown hgr (by omega) (by intro k hk;injection hk with hk;omega);clear hgr hsz;go_wp2_with fail;refine bodyPost_ret (v := .tuple #[.agg (tokCs 0 [] 0 0),.bool false]) ?_ rfl (NPost.of hfin.out rfl hb4);exact results_cell2 rfl _ _ w.heap.size 67 _ (0,0) _ rfl hg4.out Tryd.underlying67 rfl sizeTok _ rfl
      · have hke : (kindI (bl (s.extract a0 m)) == 0) = false := by simp [hk0]
        replace hfin := Lh (hfin.out.trans (if_neg hk0));clear hk0
        by_cases hr : reservedB (bl (s.extract a0 m)) = true
        · replace hr := Lh hr;have hrf : Hid (nextT ((bl s).drop a0) a0 = (⟨kindI (bl (s.extract a0 m)),[],a0,m⟩,true)) := by have h := hfin.out;rw [if_pos hr.out] at h;exact h
          clear hfin
          go_wp2_with (first
            | (go_at_call 70;refine (lx_Reserved _ _).mono ?_;rintro e w4 ⟨he,rfl⟩;rw [hr.out] at he;subst he)
            | (refine wpList_load_row rfl 67 (.tmp 14) rfl w2.heap.size rfl 67 #[.int .i64 (kindI (bl (s.extract a0 m))),.string ⟨#[]⟩,.int .i64 a0,.int .i64 m] (0,0) _ (heap_setCell_same _ _ _ _ _ _ hrow.out) Tryd.underlying67 rfl sizeTok ?_)
            | (refine wpList_store_rowA rfl 67 (.tmp 4) (.tmp 132) rfl w.heap.size #[.int .i64 (kindI (bl (s.extract a0 m))),.string ⟨#[]⟩,.int .i64 a0,.int .i64 m] rfl rfl 67 (tokCs 0 [] 0 0) ((heap_setCell_other _ _ _ _ (by show w.heap.size ≠ w2.heap.size;omega)).trans hcell.out) sizeTok rfl (tokCs_one _ [] _ _) ?_))
          intro w4 hg4 hgr hsz;have hb4 : Below w.heap.size w w4 := (hb3.setCell (by show w.heap.size ≤ w2.heap.size;omega) _).grown hgr (by simp;omega) (by intro k hk;injection hk with hk;omega);clear hgr hsz;go_wp2_with fail
          refine bodyPost_ret (v := .tuple #[.agg #[.int .i64 (kindI (bl (s.extract a0 m))),.string ⟨#[]⟩,.int .i64 a0,.int .i64 m],.bool true]) ?_ rfl (NPost.of hrf.out rfl hb4);exact results_cell2 rfl _ _ w.heap.size 67 _ (0,0) _ rfl hg4.out Tryd.underlying67 rfl sizeTok _ rfl
        · replace hr : Hid (reservedB (bl (s.extract a0 m)) = false) := Lh (by simpa using hr);have hrf : Hid (nextT ((bl s).drop a0) a0 = (⟨kindI (bl (s.extract a0 m)),bl (s.extract a0 m),a0,m⟩,true)) := by have h := hfin.out;rw [hr.out] at h;exact h
          clear hfin
          go_wp2_with (first
            | (go_at_call 70;refine (lx_Reserved _ _).mono ?_;rintro e w4 ⟨he,rfl⟩;rw [hr.out] at he;subst he)
            | (refine wpList_load_row rfl 67 (.tmp 14) rfl w2.heap.size rfl 67 #[.int .i64 (kindI (bl (s.extract a0 m))),.string (s.extract a0 m),.int .i64 a0,.int .i64 m] (0,0) _ hrow.out Tryd.underlying67 rfl sizeTok ?_)
            | (refine wpList_store_rowA rfl 67 (.tmp 4) (.tmp 132) rfl w.heap.size #[.int .i64 (kindI (bl (s.extract a0 m))),.string (s.extract a0 m),.int .i64 a0,.int .i64 m] rfl rfl 67 (tokCs 0 [] 0 0) hcell.out sizeTok rfl (by simp [Value.oneCell']) ?_))
          intro w4 hg4 hgr hsz;have hb4 : Below w.heap.size w w4 := hb3.grown hgr (by omega) (by intro k hk;injection hk with hk;omega);clear hgr hsz;go_wp2_with fail
          refine bodyPost_ret (v := .tuple #[.agg #[.int .i64 (kindI (bl (s.extract a0 m))),.string (s.extract a0 m),.int .i64 a0,.int .i64 m],.bool true]) ?_ rfl (NPost.of hrf.out (by show _ = tokCs _ (bl (s.extract a0 m)) _ _;unfold tokCs;rw [mk_bl]) hb4);exact results_cell2 rfl _ _ w.heap.size 67 _ (0,0) _ rfl hg4.out Tryd.underlying67 rfl sizeTok _ rfl
end Go.Proofs.YtmjincocmhadeaaDoor
