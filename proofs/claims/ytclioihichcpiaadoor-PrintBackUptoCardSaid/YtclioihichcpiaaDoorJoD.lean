/- lex.next: words. -/
import Derived.Test.YtclioihichcpiaaDoorProg
import Derived.Test.YtclioihichcpiaaDoorBase
import Derived.Test.YtclioihichcpiaaDoorBytes
import Derived.Test.YtclioihichcpiaaDoorJoA
import Derived.Test.YtclioihichcpiaaDoorJoB
import Derived.Test.YtclioihichcpiaaDoorJoC
import Derived.Deep.RegionWith
import Derived.BigRegion
import Derived.Laws.NewBlocks
import Derived.Lib.Strings
import Derived.OwnWalk
namespace Go.Proofs.YtclioihichcpiaaDoor
open Go.RowKit Lx

set_option maxHeartbeats 8000000 in
theorem lx_next_word_hi (s : ByteArray) (a0 : Nat) (w : World) (hs : s.size ≤ 4194304) (hlt : a0 < s.size) (h34 : ¬ bat s a0 = 34) (hsg : signI (bat s a0) = none) (hd : 57 < bat s a0) :
    Calls Tryd.prog 71 #[.string s, .int .i64 a0] w (NPost s a0 w) := by
  have hnb : digitB (bat s a0) = false := by unfold digitB; simp; omega
  have hidx := fun w => run_index_str (P := Tryd.prog) Tryd.underlying9 s a0 hlt w
  have hi0 : (a0 : Int) < (s.size : Int) := by omega
  have hfd : firstB digitB ((bl s).drop a0) = false := by rw [drop_bl s a0 hlt]; exact hnb
  have hnx : Hid (nextT ((bl s).drop a0) a0 = if kindI (((bl s).drop a0).take (wordN ((bl s).drop a0))) = 0 then (zeroTok, false)
      else (⟨kindI (((bl s).drop a0).take (wordN ((bl s).drop a0))), if reservedB (((bl s).drop a0).take (wordN ((bl s).drop a0))) then [] else ((bl s).drop a0).take (wordN ((bl s).drop a0)), a0, a0 + wordN ((bl s).drop a0)⟩, true)) := by
    show _ = _; rw [drop_bl s a0 hlt]; exact next_word _ _ _ h34 hsg
  have hno : ¬ bat s a0 = 40 ∧ ¬ bat s a0 = 41 ∧ ¬ bat s a0 = 44 ∧ ¬ bat s a0 = 46 ∧ ¬ bat s a0 = 47 ∧ ¬ bat s a0 = 58 ∧ ¬ bat s a0 = 33 := by
    unfold signI at hsg
    refine ⟨?_, ?_, ?_, ?_, ?_, ?_, ?_⟩ <;> (intro h; rw [h] at hsg; revert hsg; decide)
  have g34 : (bat s a0 == 34) = false := by rw [beq_eq_false_iff_ne]; exact h34
  have g0 : (bat s a0 != 40) = true := by rw [bne_iff_ne]; omega
  have ia0 := sg_i0
  have ib0 := sg_a0
  have g1 : (bat s a0 != 41) = true := by rw [bne_iff_ne]; omega
  have ia1 := sg_i1
  have ib1 := sg_a1
  have g2 : (bat s a0 != 44) = true := by rw [bne_iff_ne]; omega
  have ia2 := sg_i2
  have ib2 := sg_a2
  have g3 : (bat s a0 != 46) = true := by rw [bne_iff_ne]; omega
  have ia3 := sg_i3
  have ib3 := sg_a3
  have g4 : (bat s a0 != 47) = true := by rw [bne_iff_ne]; omega
  have ia4 := sg_i4
  have ib4 := sg_a4
  have g5 : (bat s a0 != 58) = true := by rw [bne_iff_ne]; omega
  have ia5 := sg_i5
  have ib5 := sg_a5
  have g6 : (bat s a0 != 33) = true := by rw [bne_iff_ne]; omega
  have ia6 := sg_i6
  have ib6 := sg_a6
  have hst := Lib.hid (WAt.start hfd)
  clear hno hsg h34 hnb hfd
  have hW : Hid ((w.alloc (.cells #[.int .i64 0, .string ⟨#[]⟩, .int .i64 0, .int .i64 0] 92)).heap[w.heap.size]? = some (.cells (tokCs 0 [] 0 0) 92)) := heap_alloc_new _ _
  have hWb : Below w.heap.size w (w.alloc (.cells #[.int .i64 0, .string ⟨#[]⟩, .int .i64 0, .int .i64 0] 92)) := (Below.refl _ _).al _
  have hWs : w.heap.size < (w.alloc (.cells #[.int .i64 0, .string ⟨#[]⟩, .int .i64 0, .int .i64 0] 92)).heap.size := by simp
  have hd1 : 57 < bat s a0 := hd
  have hd2 : 48 ≤ bat s a0 := by omega
  go_enter Tryd.func71, Tryd.ntmps71
  go_wp2_with fail
  generalize w.alloc (.cells #[.int .i64 0, .string ⟨#[]⟩, .int .i64 0, .int .i64 0] 92) = W at hW hWb hWs ⊢
  refine (lx_signs _).mono ?_
  rintro e w2 ⟨rfl, hb2⟩
  go_wp2_with fail
  refine wp_loop_rounds 8 ?_
  rw [rounds_succ]
  go_wp2_with fail
  go_quiet (fail)
  go_wp2_with fail
  rw [rounds_succ]
  go_wp2_with fail
  go_quiet (fail)
  go_wp2_with fail
  rw [rounds_succ]
  go_wp2_with fail
  go_quiet (fail)
  go_wp2_with fail
  rw [rounds_succ]
  go_wp2_with fail
  go_quiet (fail)
  go_wp2_with fail
  rw [rounds_succ]
  go_wp2_with fail
  go_quiet (fail)
  go_wp2_with fail
  rw [rounds_succ]
  go_wp2_with fail
  go_quiet (fail)
  go_wp2_with fail
  rw [rounds_succ]
  go_wp2_with fail
  go_quiet (fail)
  go_wp2_with fail
  rw [rounds_succ]
  go_wp2_with fail
  go_loopw [12] (fun m wr => ∃ k : Nat, a0 ≤ k ∧ k ≤ s.size ∧ k ≤ a0 + 64 ∧ m = .int .i64 k ∧ Hid (WAt s a0 false k) ∧ Drawn w2 wr) (fun m _ => s.size - (intOf m).toNat)
  case atStart => exact ⟨a0, by omega, by omega, by omega, rfl, hst, (by (repeat (refine Drawn.step ?_ _)); exact Drawn.refl _)⟩
  case round =>
    obtain ⟨m, hm1, hm2, hm3, rfl, hm, ⟨nd, rfl⟩⟩ := hrel
    by_cases hc1 : m < s.size
    · by_cases hc2 : m < a0 + 64
      · have hidm := fun w => run_index_str (P := Tryd.prog) Tryd.underlying9 s m hc1 w
        by_cases hl : letterB (bat s m) = true
        · have hm4 : Hid (WAt s a0 false (m + 1)) := hm.out.yes hc1 hc2 (by
            show (letterB (bat s m) && (!false || digitB (bat s m))) = true
            rw [hl]; rfl)
          clear hm
          go_wp2_with (go_at_call 79; refine (lx_word _ _).mono ?_; rintro e w' ⟨rfl, rfl⟩)
          go_roundw
          case rel => exact ⟨m + 1, by omega, by omega, by omega, by go_num, hm4, (by (repeat (refine Drawn.step ?_ _)); exact Drawn.refl _)⟩
          case measure => simp [intOf]; omega
        · replace hl : letterB (bat s m) = false := by simpa using hl
          have hend : Hid (m = a0 + wordN ((bl s).drop a0)) := hm.out.no hc1 hc2 (by
            show (letterB (bat s m) && (!false || digitB (bat s m))) = false
            rw [hl]; rfl)
          go_wp2_with (go_at_call 79; refine (lx_word _ _).mono ?_; rintro e w' ⟨rfl, rfl⟩)
          have hfin := Lib.hid (word_fin s a0 m hend.out hnx.out)
          clear hend hnx hm hidx hst
          have hx1 : (a0 : Int) ≤ (m : Int) := by omega
          have hx2 : (m : Int) ≤ (s.size : Int) := by omega
          have hxs : Hid ((s.extract a0 m).size ≤ 140737488355328) := by show _ ≤ _; rw [ByteArray.size_extract]; omega
          have hda : ∀ (n : Nat) (o : Obj), (w2.drewN n).alloc o = (w2.alloc o).drewN n := fun _ _ => rfl
          have hg2 : w.heap.size < w2.heap.size := by have := hb2.size; omega
          have hrow : Hid (((w2.alloc (.cells #[.int .i64 (kindI (bl (s.extract a0 m))), .string (s.extract a0 m), .int .i64 a0, .int .i64 m] 92)).drewN (nd + 1)).heap[w2.heap.size]? = some (.cells #[.int .i64 (kindI (bl (s.extract a0 m))), .string (s.extract a0 m), .int .i64 a0, .int .i64 m] 92)) := heap_alloc_new w2 _
          have hb3 : Below w.heap.size w ((w2.alloc (.cells #[.int .i64 (kindI (bl (s.extract a0 m))), .string (s.extract a0 m), .int .i64 a0, .int .i64 m] 92)).drewN (nd + 1)) := hWb.trans (((hb2.al _).drewN _).mono (by omega))
          have hcell : Hid (((w2.alloc (.cells #[.int .i64 (kindI (bl (s.extract a0 m))), .string (s.extract a0 m), .int .i64 a0, .int .i64 m] 92)).drewN (nd + 1)).heap[w.heap.size]? = some (.cells (tokCs 0 [] 0 0) 92)) := (((hb2.al _).drewN _).block _ hWs).trans hW.out
          have hs3 : w2.heap.size < ((w2.alloc (.cells #[.int .i64 (kindI (bl (s.extract a0 m))), .string (s.extract a0 m), .int .i64 a0, .int .i64 m] 92)).drewN (nd + 1)).heap.size := by simp
          go_region_with ((go_at_call 62; refine (lx_kindOf _ _ hxs.out).mono ?_; rintro e w' ⟨rfl, rfl⟩))
          all_goals
            clear hda
            rw [chain4]
            generalize (w2.alloc (.cells #[.int .i64 (kindI (bl (s.extract a0 m))), .string (s.extract a0 m), .int .i64 a0, .int .i64 m] 92)).drewN (nd + 1) = w3 at hrow hb3 hcell hs3 ⊢
            have k0 : w3.cell? ⟨w2.heap.size, 0, none⟩ = some (.int .i64 (kindI (bl (s.extract a0 m)))) := cell_of_row _ _ _ _ _ _ hrow.out
            have k1 : w3.cell? ⟨w2.heap.size, 1, none⟩ = some (.string (s.extract a0 m)) := cell_of_row _ _ _ _ _ _ hrow.out
            have k2 : w3.cell? ⟨w2.heap.size, 2, none⟩ = some (.int .i64 a0) := cell_of_row _ _ _ _ _ _ hrow.out
            have k3 : w3.cell? ⟨w2.heap.size, 3, none⟩ = some (.int .i64 m) := cell_of_row _ _ _ _ _ _ hrow.out
            have f1 : w3.frozen? ⟨w2.heap.size, 1, none⟩ = false := frozen_of_row _ _ _ _ _ hrow.out
            by_cases hk0 : kindI (bl (s.extract a0 m)) = 0
            · have hke : (kindI (bl (s.extract a0 m)) == 0) = true := by simp [hk0]
              replace hfin := Lib.hid (hfin.out.trans (if_pos hk0))
              clear hk0
              go_wp2_with (refine wpList_store_rowA rfl 92 (.tmp 4) (.tmp 127) rfl w.heap.size (tokCs 0 [] 0 0) rfl rfl 92 (tokCs 0 [] 0 0) hcell.out sizeTok rfl (tokCs_one _ _ _ _) ?_)
              intro w4 hg4 hgr hsz
              have hb4 : Below w.heap.size w w4 := hb3.grown hgr (by omega) (by intro k hk; injection hk with hk; omega)
              clear hgr hsz
              go_wp2_with fail
              refine bodyPost_ret (v := .tuple #[.agg (tokCs 0 [] 0 0), .bool false]) ?_ rfl (NPost.of hfin.out rfl hb4)
              exact results_cell2 rfl _ _ w.heap.size 92 _ (0, 0) _ rfl hg4.out Tryd.underlying92 rfl sizeTok _ rfl
            · have hke : (kindI (bl (s.extract a0 m)) == 0) = false := by simp [hk0]
              replace hfin := Lib.hid (hfin.out.trans (if_neg hk0))
              clear hk0
              by_cases hr : reservedB (bl (s.extract a0 m)) = true
              · replace hr := Lib.hid hr
                have hrf : Hid (nextT ((bl s).drop a0) a0 = (⟨kindI (bl (s.extract a0 m)), [], a0, m⟩, true)) := by have h := hfin.out; rw [if_pos hr.out] at h; exact h
                clear hfin
                go_wp2_with (first
                  | (go_at_call 88; refine (lx_Reserved _ _).mono ?_; rintro e w4 ⟨he, rfl⟩; rw [hr.out] at he; subst he)
                  | (refine wpList_load_row rfl 92 (.tmp 14) rfl w2.heap.size rfl 92 #[.int .i64 (kindI (bl (s.extract a0 m))), .string ⟨#[]⟩, .int .i64 a0, .int .i64 m] (0, 0) _ (heap_setCell_same _ _ _ _ _ _ hrow.out) Tryd.underlying92 rfl sizeTok ?_)
                  | (refine wpList_store_rowA rfl 92 (.tmp 4) (.tmp 132) rfl w.heap.size #[.int .i64 (kindI (bl (s.extract a0 m))), .string ⟨#[]⟩, .int .i64 a0, .int .i64 m] rfl rfl 92 (tokCs 0 [] 0 0) ((heap_setCell_other _ _ _ _ (by show w.heap.size ≠ w2.heap.size; omega)).trans hcell.out) sizeTok rfl (tokCs_one _ [] _ _) ?_))
                intro w4 hg4 hgr hsz
                have hb4 : Below w.heap.size w w4 := (hb3.setCell (by show w.heap.size ≤ w2.heap.size; omega) _).grown hgr (by simp; omega) (by intro k hk; injection hk with hk; omega)
                clear hgr hsz
                go_wp2_with fail
                refine bodyPost_ret (v := .tuple #[.agg #[.int .i64 (kindI (bl (s.extract a0 m))), .string ⟨#[]⟩, .int .i64 a0, .int .i64 m], .bool true]) ?_ rfl (NPost.of hrf.out rfl hb4)
                exact results_cell2 rfl _ _ w.heap.size 92 _ (0, 0) _ rfl hg4.out Tryd.underlying92 rfl sizeTok _ rfl
              · replace hr : Hid (reservedB (bl (s.extract a0 m)) = false) := Lib.hid (by simpa using hr)
                have hrf : Hid (nextT ((bl s).drop a0) a0 = (⟨kindI (bl (s.extract a0 m)), bl (s.extract a0 m), a0, m⟩, true)) := by have h := hfin.out; rw [hr.out] at h; exact h
                clear hfin
                go_wp2_with (first
                  | (go_at_call 88; refine (lx_Reserved _ _).mono ?_; rintro e w4 ⟨he, rfl⟩; rw [hr.out] at he; subst he)
                  | (refine wpList_load_row rfl 92 (.tmp 14) rfl w2.heap.size rfl 92 #[.int .i64 (kindI (bl (s.extract a0 m))), .string (s.extract a0 m), .int .i64 a0, .int .i64 m] (0, 0) _ hrow.out Tryd.underlying92 rfl sizeTok ?_)
                  | (refine wpList_store_rowA rfl 92 (.tmp 4) (.tmp 132) rfl w.heap.size #[.int .i64 (kindI (bl (s.extract a0 m))), .string (s.extract a0 m), .int .i64 a0, .int .i64 m] rfl rfl 92 (tokCs 0 [] 0 0) hcell.out sizeTok rfl (by simp [Value.oneCell']) ?_))
                intro w4 hg4 hgr hsz
                have hb4 : Below w.heap.size w w4 := hb3.grown hgr (by omega) (by intro k hk; injection hk with hk; omega)
                clear hgr hsz
                go_wp2_with fail
                refine bodyPost_ret (v := .tuple #[.agg #[.int .i64 (kindI (bl (s.extract a0 m))), .string (s.extract a0 m), .int .i64 a0, .int .i64 m], .bool true]) ?_ rfl (NPost.of hrf.out (by show _ = tokCs _ (bl (s.extract a0 m)) _ _; unfold tokCs; rw [mk_bl]) hb4)
                exact results_cell2 rfl _ _ w.heap.size 92 _ (0, 0) _ rfl hg4.out Tryd.underlying92 rfl sizeTok _ rfl
      · have hend : Hid (m = a0 + wordN ((bl s).drop a0)) := hm.out.stop (.inr (by omega))
        have hn2 : ¬ (m : Int) < (a0 : Int) + 64 := by omega
        go_wp2_with (go_at_call 79; refine (lx_word _ _).mono ?_; rintro e w' ⟨rfl, rfl⟩)
        have hfin := Lib.hid (word_fin s a0 m hend.out hnx.out)
        clear hend hnx hm hidx hst
        have hx1 : (a0 : Int) ≤ (m : Int) := by omega
        have hx2 : (m : Int) ≤ (s.size : Int) := by omega
        have hxs : Hid ((s.extract a0 m).size ≤ 140737488355328) := by show _ ≤ _; rw [ByteArray.size_extract]; omega
        have hda : ∀ (n : Nat) (o : Obj), (w2.drewN n).alloc o = (w2.alloc o).drewN n := fun _ _ => rfl
        have hg2 : w.heap.size < w2.heap.size := by have := hb2.size; omega
        have hrow : Hid (((w2.alloc (.cells #[.int .i64 (kindI (bl (s.extract a0 m))), .string (s.extract a0 m), .int .i64 a0, .int .i64 m] 92)).drewN (nd + 1)).heap[w2.heap.size]? = some (.cells #[.int .i64 (kindI (bl (s.extract a0 m))), .string (s.extract a0 m), .int .i64 a0, .int .i64 m] 92)) := heap_alloc_new w2 _
        have hb3 : Below w.heap.size w ((w2.alloc (.cells #[.int .i64 (kindI (bl (s.extract a0 m))), .string (s.extract a0 m), .int .i64 a0, .int .i64 m] 92)).drewN (nd + 1)) := hWb.trans (((hb2.al _).drewN _).mono (by omega))
        have hcell : Hid (((w2.alloc (.cells #[.int .i64 (kindI (bl (s.extract a0 m))), .string (s.extract a0 m), .int .i64 a0, .int .i64 m] 92)).drewN (nd + 1)).heap[w.heap.size]? = some (.cells (tokCs 0 [] 0 0) 92)) := (((hb2.al _).drewN _).block _ hWs).trans hW.out
        have hs3 : w2.heap.size < ((w2.alloc (.cells #[.int .i64 (kindI (bl (s.extract a0 m))), .string (s.extract a0 m), .int .i64 a0, .int .i64 m] 92)).drewN (nd + 1)).heap.size := by simp
        go_region_with ((go_at_call 62; refine (lx_kindOf _ _ hxs.out).mono ?_; rintro e w' ⟨rfl, rfl⟩))
        all_goals
          clear hda
          rw [chain4]
          generalize (w2.alloc (.cells #[.int .i64 (kindI (bl (s.extract a0 m))), .string (s.extract a0 m), .int .i64 a0, .int .i64 m] 92)).drewN (nd + 1) = w3 at hrow hb3 hcell hs3 ⊢
          have k0 : w3.cell? ⟨w2.heap.size, 0, none⟩ = some (.int .i64 (kindI (bl (s.extract a0 m)))) := cell_of_row _ _ _ _ _ _ hrow.out
          have k1 : w3.cell? ⟨w2.heap.size, 1, none⟩ = some (.string (s.extract a0 m)) := cell_of_row _ _ _ _ _ _ hrow.out
          have k2 : w3.cell? ⟨w2.heap.size, 2, none⟩ = some (.int .i64 a0) := cell_of_row _ _ _ _ _ _ hrow.out
          have k3 : w3.cell? ⟨w2.heap.size, 3, none⟩ = some (.int .i64 m) := cell_of_row _ _ _ _ _ _ hrow.out
          have f1 : w3.frozen? ⟨w2.heap.size, 1, none⟩ = false := frozen_of_row _ _ _ _ _ hrow.out
          by_cases hk0 : kindI (bl (s.extract a0 m)) = 0
          · have hke : (kindI (bl (s.extract a0 m)) == 0) = true := by simp [hk0]
            replace hfin := Lib.hid (hfin.out.trans (if_pos hk0))
            clear hk0
            go_wp2_with (refine wpList_store_rowA rfl 92 (.tmp 4) (.tmp 127) rfl w.heap.size (tokCs 0 [] 0 0) rfl rfl 92 (tokCs 0 [] 0 0) hcell.out sizeTok rfl (tokCs_one _ _ _ _) ?_)
            intro w4 hg4 hgr hsz
            have hb4 : Below w.heap.size w w4 := hb3.grown hgr (by omega) (by intro k hk; injection hk with hk; omega)
            clear hgr hsz
            go_wp2_with fail
            refine bodyPost_ret (v := .tuple #[.agg (tokCs 0 [] 0 0), .bool false]) ?_ rfl (NPost.of hfin.out rfl hb4)
            exact results_cell2 rfl _ _ w.heap.size 92 _ (0, 0) _ rfl hg4.out Tryd.underlying92 rfl sizeTok _ rfl
          · have hke : (kindI (bl (s.extract a0 m)) == 0) = false := by simp [hk0]
            replace hfin := Lib.hid (hfin.out.trans (if_neg hk0))
            clear hk0
            by_cases hr : reservedB (bl (s.extract a0 m)) = true
            · replace hr := Lib.hid hr
              have hrf : Hid (nextT ((bl s).drop a0) a0 = (⟨kindI (bl (s.extract a0 m)), [], a0, m⟩, true)) := by have h := hfin.out; rw [if_pos hr.out] at h; exact h
              clear hfin
              go_wp2_with (first
                | (go_at_call 88; refine (lx_Reserved _ _).mono ?_; rintro e w4 ⟨he, rfl⟩; rw [hr.out] at he; subst he)
                | (refine wpList_load_row rfl 92 (.tmp 14) rfl w2.heap.size rfl 92 #[.int .i64 (kindI (bl (s.extract a0 m))), .string ⟨#[]⟩, .int .i64 a0, .int .i64 m] (0, 0) _ (heap_setCell_same _ _ _ _ _ _ hrow.out) Tryd.underlying92 rfl sizeTok ?_)
                | (refine wpList_store_rowA rfl 92 (.tmp 4) (.tmp 132) rfl w.heap.size #[.int .i64 (kindI (bl (s.extract a0 m))), .string ⟨#[]⟩, .int .i64 a0, .int .i64 m] rfl rfl 92 (tokCs 0 [] 0 0) ((heap_setCell_other _ _ _ _ (by show w.heap.size ≠ w2.heap.size; omega)).trans hcell.out) sizeTok rfl (tokCs_one _ [] _ _) ?_))
              intro w4 hg4 hgr hsz
              have hb4 : Below w.heap.size w w4 := (hb3.setCell (by show w.heap.size ≤ w2.heap.size; omega) _).grown hgr (by simp; omega) (by intro k hk; injection hk with hk; omega)
              clear hgr hsz
              go_wp2_with fail
              refine bodyPost_ret (v := .tuple #[.agg #[.int .i64 (kindI (bl (s.extract a0 m))), .string ⟨#[]⟩, .int .i64 a0, .int .i64 m], .bool true]) ?_ rfl (NPost.of hrf.out rfl hb4)
              exact results_cell2 rfl _ _ w.heap.size 92 _ (0, 0) _ rfl hg4.out Tryd.underlying92 rfl sizeTok _ rfl
            · replace hr : Hid (reservedB (bl (s.extract a0 m)) = false) := Lib.hid (by simpa using hr)
              have hrf : Hid (nextT ((bl s).drop a0) a0 = (⟨kindI (bl (s.extract a0 m)), bl (s.extract a0 m), a0, m⟩, true)) := by have h := hfin.out; rw [hr.out] at h; exact h
              clear hfin
              go_wp2_with (first
                | (go_at_call 88; refine (lx_Reserved _ _).mono ?_; rintro e w4 ⟨he, rfl⟩; rw [hr.out] at he; subst he)
                | (refine wpList_load_row rfl 92 (.tmp 14) rfl w2.heap.size rfl 92 #[.int .i64 (kindI (bl (s.extract a0 m))), .string (s.extract a0 m), .int .i64 a0, .int .i64 m] (0, 0) _ hrow.out Tryd.underlying92 rfl sizeTok ?_)
                | (refine wpList_store_rowA rfl 92 (.tmp 4) (.tmp 132) rfl w.heap.size #[.int .i64 (kindI (bl (s.extract a0 m))), .string (s.extract a0 m), .int .i64 a0, .int .i64 m] rfl rfl 92 (tokCs 0 [] 0 0) hcell.out sizeTok rfl (by simp [Value.oneCell']) ?_))
              intro w4 hg4 hgr hsz
              have hb4 : Below w.heap.size w w4 := hb3.grown hgr (by omega) (by intro k hk; injection hk with hk; omega)
              clear hgr hsz
              go_wp2_with fail
              refine bodyPost_ret (v := .tuple #[.agg #[.int .i64 (kindI (bl (s.extract a0 m))), .string (s.extract a0 m), .int .i64 a0, .int .i64 m], .bool true]) ?_ rfl (NPost.of hrf.out (by show _ = tokCs _ (bl (s.extract a0 m)) _ _; unfold tokCs; rw [mk_bl]) hb4)
              exact results_cell2 rfl _ _ w.heap.size 92 _ (0, 0) _ rfl hg4.out Tryd.underlying92 rfl sizeTok _ rfl
    · have hend : Hid (m = a0 + wordN ((bl s).drop a0)) := hm.out.stop (.inl (by omega))
      have hn1 : ¬ (m : Int) < (s.size : Int) := by omega
      go_wp2_with (go_at_call 79; refine (lx_word _ _).mono ?_; rintro e w' ⟨rfl, rfl⟩)
      have hfin := Lib.hid (word_fin s a0 m hend.out hnx.out)
      clear hend hnx hm hidx hst
      have hx1 : (a0 : Int) ≤ (m : Int) := by omega
      have hx2 : (m : Int) ≤ (s.size : Int) := by omega
      have hxs : Hid ((s.extract a0 m).size ≤ 140737488355328) := by show _ ≤ _; rw [ByteArray.size_extract]; omega
      have hda : ∀ (n : Nat) (o : Obj), (w2.drewN n).alloc o = (w2.alloc o).drewN n := fun _ _ => rfl
      have hg2 : w.heap.size < w2.heap.size := by have := hb2.size; omega
      have hrow : Hid (((w2.alloc (.cells #[.int .i64 (kindI (bl (s.extract a0 m))), .string (s.extract a0 m), .int .i64 a0, .int .i64 m] 92)).drewN (nd + 1)).heap[w2.heap.size]? = some (.cells #[.int .i64 (kindI (bl (s.extract a0 m))), .string (s.extract a0 m), .int .i64 a0, .int .i64 m] 92)) := heap_alloc_new w2 _
      have hb3 : Below w.heap.size w ((w2.alloc (.cells #[.int .i64 (kindI (bl (s.extract a0 m))), .string (s.extract a0 m), .int .i64 a0, .int .i64 m] 92)).drewN (nd + 1)) := hWb.trans (((hb2.al _).drewN _).mono (by omega))
      have hcell : Hid (((w2.alloc (.cells #[.int .i64 (kindI (bl (s.extract a0 m))), .string (s.extract a0 m), .int .i64 a0, .int .i64 m] 92)).drewN (nd + 1)).heap[w.heap.size]? = some (.cells (tokCs 0 [] 0 0) 92)) := (((hb2.al _).drewN _).block _ hWs).trans hW.out
      have hs3 : w2.heap.size < ((w2.alloc (.cells #[.int .i64 (kindI (bl (s.extract a0 m))), .string (s.extract a0 m), .int .i64 a0, .int .i64 m] 92)).drewN (nd + 1)).heap.size := by simp
      go_region_with ((go_at_call 62; refine (lx_kindOf _ _ hxs.out).mono ?_; rintro e w' ⟨rfl, rfl⟩))
      all_goals
        clear hda
        rw [chain4]
        generalize (w2.alloc (.cells #[.int .i64 (kindI (bl (s.extract a0 m))), .string (s.extract a0 m), .int .i64 a0, .int .i64 m] 92)).drewN (nd + 1) = w3 at hrow hb3 hcell hs3 ⊢
        have k0 : w3.cell? ⟨w2.heap.size, 0, none⟩ = some (.int .i64 (kindI (bl (s.extract a0 m)))) := cell_of_row _ _ _ _ _ _ hrow.out
        have k1 : w3.cell? ⟨w2.heap.size, 1, none⟩ = some (.string (s.extract a0 m)) := cell_of_row _ _ _ _ _ _ hrow.out
        have k2 : w3.cell? ⟨w2.heap.size, 2, none⟩ = some (.int .i64 a0) := cell_of_row _ _ _ _ _ _ hrow.out
        have k3 : w3.cell? ⟨w2.heap.size, 3, none⟩ = some (.int .i64 m) := cell_of_row _ _ _ _ _ _ hrow.out
        have f1 : w3.frozen? ⟨w2.heap.size, 1, none⟩ = false := frozen_of_row _ _ _ _ _ hrow.out
        by_cases hk0 : kindI (bl (s.extract a0 m)) = 0
        · have hke : (kindI (bl (s.extract a0 m)) == 0) = true := by simp [hk0]
          replace hfin := Lib.hid (hfin.out.trans (if_pos hk0))
          clear hk0
          go_wp2_with (refine wpList_store_rowA rfl 92 (.tmp 4) (.tmp 127) rfl w.heap.size (tokCs 0 [] 0 0) rfl rfl 92 (tokCs 0 [] 0 0) hcell.out sizeTok rfl (tokCs_one _ _ _ _) ?_)
          intro w4 hg4 hgr hsz
          have hb4 : Below w.heap.size w w4 := hb3.grown hgr (by omega) (by intro k hk; injection hk with hk; omega)
          clear hgr hsz
          go_wp2_with fail
          refine bodyPost_ret (v := .tuple #[.agg (tokCs 0 [] 0 0), .bool false]) ?_ rfl (NPost.of hfin.out rfl hb4)
          exact results_cell2 rfl _ _ w.heap.size 92 _ (0, 0) _ rfl hg4.out Tryd.underlying92 rfl sizeTok _ rfl
        · have hke : (kindI (bl (s.extract a0 m)) == 0) = false := by simp [hk0]
          replace hfin := Lib.hid (hfin.out.trans (if_neg hk0))
          clear hk0
          by_cases hr : reservedB (bl (s.extract a0 m)) = true
          · replace hr := Lib.hid hr
            have hrf : Hid (nextT ((bl s).drop a0) a0 = (⟨kindI (bl (s.extract a0 m)), [], a0, m⟩, true)) := by have h := hfin.out; rw [if_pos hr.out] at h; exact h
            clear hfin
            go_wp2_with (first
              | (go_at_call 88; refine (lx_Reserved _ _).mono ?_; rintro e w4 ⟨he, rfl⟩; rw [hr.out] at he; subst he)
              | (refine wpList_load_row rfl 92 (.tmp 14) rfl w2.heap.size rfl 92 #[.int .i64 (kindI (bl (s.extract a0 m))), .string ⟨#[]⟩, .int .i64 a0, .int .i64 m] (0, 0) _ (heap_setCell_same _ _ _ _ _ _ hrow.out) Tryd.underlying92 rfl sizeTok ?_)
              | (refine wpList_store_rowA rfl 92 (.tmp 4) (.tmp 132) rfl w.heap.size #[.int .i64 (kindI (bl (s.extract a0 m))), .string ⟨#[]⟩, .int .i64 a0, .int .i64 m] rfl rfl 92 (tokCs 0 [] 0 0) ((heap_setCell_other _ _ _ _ (by show w.heap.size ≠ w2.heap.size; omega)).trans hcell.out) sizeTok rfl (tokCs_one _ [] _ _) ?_))
            intro w4 hg4 hgr hsz
            have hb4 : Below w.heap.size w w4 := (hb3.setCell (by show w.heap.size ≤ w2.heap.size; omega) _).grown hgr (by simp; omega) (by intro k hk; injection hk with hk; omega)
            clear hgr hsz
            go_wp2_with fail
            refine bodyPost_ret (v := .tuple #[.agg #[.int .i64 (kindI (bl (s.extract a0 m))), .string ⟨#[]⟩, .int .i64 a0, .int .i64 m], .bool true]) ?_ rfl (NPost.of hrf.out rfl hb4)
            exact results_cell2 rfl _ _ w.heap.size 92 _ (0, 0) _ rfl hg4.out Tryd.underlying92 rfl sizeTok _ rfl
          · replace hr : Hid (reservedB (bl (s.extract a0 m)) = false) := Lib.hid (by simpa using hr)
            have hrf : Hid (nextT ((bl s).drop a0) a0 = (⟨kindI (bl (s.extract a0 m)), bl (s.extract a0 m), a0, m⟩, true)) := by have h := hfin.out; rw [hr.out] at h; exact h
            clear hfin
            go_wp2_with (first
              | (go_at_call 88; refine (lx_Reserved _ _).mono ?_; rintro e w4 ⟨he, rfl⟩; rw [hr.out] at he; subst he)
              | (refine wpList_load_row rfl 92 (.tmp 14) rfl w2.heap.size rfl 92 #[.int .i64 (kindI (bl (s.extract a0 m))), .string (s.extract a0 m), .int .i64 a0, .int .i64 m] (0, 0) _ hrow.out Tryd.underlying92 rfl sizeTok ?_)
              | (refine wpList_store_rowA rfl 92 (.tmp 4) (.tmp 132) rfl w.heap.size #[.int .i64 (kindI (bl (s.extract a0 m))), .string (s.extract a0 m), .int .i64 a0, .int .i64 m] rfl rfl 92 (tokCs 0 [] 0 0) hcell.out sizeTok rfl (by simp [Value.oneCell']) ?_))
            intro w4 hg4 hgr hsz
            have hb4 : Below w.heap.size w w4 := hb3.grown hgr (by omega) (by intro k hk; injection hk with hk; omega)
            clear hgr hsz
            go_wp2_with fail
            refine bodyPost_ret (v := .tuple #[.agg #[.int .i64 (kindI (bl (s.extract a0 m))), .string (s.extract a0 m), .int .i64 a0, .int .i64 m], .bool true]) ?_ rfl (NPost.of hrf.out (by show _ = tokCs _ (bl (s.extract a0 m)) _ _; unfold tokCs; rw [mk_bl]) hb4)
            exact results_cell2 rfl _ _ w.heap.size 92 _ (0, 0) _ rfl hg4.out Tryd.underlying92 rfl sizeTok _ rfl

end Go.Proofs.YtclioihichcpiaaDoor


/- lex.next: joined. -/
namespace Go.Proofs.YtclioihichcpiaaDoor
open Go.RowKit Lx

theorem signI_none (c : Int) (h : ¬ c = 40 ∧ ¬ c = 41 ∧ ¬ c = 44 ∧ ¬ c = 46 ∧ ¬ c = 47 ∧ ¬ c = 58 ∧ ¬ c = 33) : signI c = none := by
  obtain ⟨h1, h2, h3, h4, h5, h6, h7⟩ := h
  unfold signI; simp [h1, h2, h3, h4, h5, h6, h7]

/-- lex.next, at any place of a text. -/
theorem lx_next (s : ByteArray) (a0 : Nat) (w : World) (hs : s.size ≤ 4194304) (hlt : a0 < s.size) :
    Calls Tryd.prog 71 #[.string s, .int .i64 a0] w (NPost s a0 w) := by
  by_cases h34 : bat s a0 = 34
  · exact lx_next_str s a0 w hs hlt h34
  by_cases h0 : bat s a0 = 40
  · exact lx_next_0 s a0 w hs hlt h0
  by_cases h1 : bat s a0 = 41
  · exact lx_next_1 s a0 w hs hlt h1
  by_cases h2 : bat s a0 = 44
  · exact lx_next_2 s a0 w hs hlt h2
  by_cases h3 : bat s a0 = 46
  · exact lx_next_3 s a0 w hs hlt h3
  by_cases h4 : bat s a0 = 47
  · exact lx_next_4 s a0 w hs hlt h4
  by_cases h5 : bat s a0 = 58
  · by_cases hl : a0 + 1 < s.size
    · by_cases hd : bat s (a0 + 1) = 45
      · exact lx_next_5ok s a0 w hs hlt h5 hl hd
      · exact lx_next_5no s a0 w hs hlt h5 hl hd
    · exact lx_next_5end s a0 w hs hlt h5 hl
  by_cases h6 : bat s a0 = 33
  · by_cases hl : a0 + 1 < s.size
    · by_cases hd : bat s (a0 + 1) = 61
      · exact lx_next_6ok s a0 w hs hlt h6 hl hd
      · exact lx_next_6no s a0 w hs hlt h6 hl hd
    · exact lx_next_6end s a0 w hs hlt h6 hl
  have hsg : signI (bat s a0) = none := signI_none _ ⟨h0, h1, h2, h3, h4, h5, h6⟩
  by_cases hlo : bat s a0 < 48
  · exact lx_next_word_lo s a0 w hs hlt h34 hsg hlo
  by_cases hhi : 57 < bat s a0
  · exact lx_next_word_hi s a0 w hs hlt h34 hsg hhi
  exact lx_next_word_d s a0 w hs hlt h34 hsg (by omega)

end Go.Proofs.YtclioihichcpiaaDoor


/- the longest word: plain. -/
namespace Go.Proofs.YtclioihichcpiaaDoor.Lx

theorem all_take_iff (p : UInt8 → Bool) : ∀ (l : Bs) (n m : Nat), n ≤ m → n ≤ l.length → ((l.take n).all p = true ↔ n ≤ ((l.take m).takeWhile p).length)
  | _, 0, _, _, _ => by simp
  | [], n + 1, _, _, h => by simp at h
  | c :: r, n + 1, 0, h, _ => by omega
  | c :: r, n + 1, m + 1, h, h2 => by
    have ih := all_take_iff p r n m (by omega) (by simpa using h2)
    simp only [List.take_succ_cons, List.all_cons, List.takeWhile_cons]
    cases hp : p c
    · simp
    · simp [ih]

def firstOk (l : Bs) : Bool := firstB (fun c => digitB c || greatB c || smallB c) l
def wordOk (l : Bs) : Prop := 1 ≤ l.length ∧ l.length ≤ 64 ∧ l.all (wpred (firstB digitB l)) = true ∧ firstOk l = true

theorem all_digit (l : Bs) : l.all (wpred true) = allB digitB l := by
  unfold allB wpred
  congr 1; funext c
  cases h : digitB (bi c)
  · simp
  · simp [digit_letter _ h]
theorem all_letter (l : Bs) : l.all (wpred false) = allB letterB l := by
  unfold allB wpred; simp
theorem number_not {l : Bs} (h : numberB l = true) : ¬ l = sInput ∧ ¬ l = sOutput ∧ ¬ l = sNot := by
  refine ⟨?_, ?_, ?_⟩ <;> (rintro rfl; revert h; decide)

theorem kind_ne (l : Bs) : kindI l ≠ 0 ↔ wordOk l := by
  cases l with
  | nil => unfold wordOk; simp; decide
  | cons c r =>
    unfold wordOk
    by_cases hd : digitB (bi c) = true
    · have h1 : firstB digitB (c :: r) = true := hd
      have h2 : firstOk (c :: r) = true := by show (digitB (bi c) || greatB (bi c) || smallB (bi c)) = true; rw [hd]; rfl
      rw [h1, all_digit, h2]
      have hg : greatB (bi c) = false := by unfold digitB at hd; unfold greatB; simp at *; omega
      have hsm : smallB (bi c) = false := by unfold digitB at hd; unfold smallB; simp at *; omega
      have hv : variableB (c :: r) = false := by unfold variableB; show (_ && greatB (bi c)) = false; rw [hg]; simp
      have hn : nameB (c :: r) = false := by unfold nameB; show (_ && (smallB (bi c) && _)) = false; rw [hsm]; simp
      have hr : ¬ (c :: r) = sInput ∧ ¬ (c :: r) = sOutput ∧ ¬ (c :: r) = sNot := by
        refine ⟨?_, ?_, ?_⟩ <;> (intro h; injection h with h _; rw [h] at hd; revert hd; decide)
      unfold kindI
      rw [if_neg hr.1, if_neg hr.2.1, if_neg hr.2.2, hv, hn]
      by_cases hnb : numberB (c :: r) = true
      · rw [hnb]
        unfold numberB at hnb
        simp at hnb
        simp; exact ⟨hnb.2, hnb.1⟩
      · have hnb' : numberB (c :: r) = false := by simpa using hnb
        rw [hnb']
        unfold numberB at hnb'
        simp at hnb'
        simp
        intro h1
        cases hq : allB digitB (c :: r)
        · rfl
        · have := hnb' hq
          omega
    · have hd' : digitB (bi c) = false := by simpa using hd
      have h1 : firstB digitB (c :: r) = false := hd'
      have hnb : numberB (c :: r) = false := by unfold numberB allB; simp [hd']
      rw [h1, all_letter]
      unfold kindI
      rw [hnb]
      by_cases e1 : (c :: r) = sInput
      · rw [if_pos e1, e1]; decide
      by_cases e2 : (c :: r) = sOutput
      · rw [if_neg e1, if_pos e2, e2]; decide
      by_cases e3 : (c :: r) = sNot
      · rw [if_neg e1, if_neg e2, if_pos e3, e3]; decide
      rw [if_neg e1, if_neg e2, if_neg e3]
      have hres : reservedB (c :: r) = false := by unfold reservedB; simp [e1, e2, e3]
      have hw : writtenB (c :: r) = true ↔ (1 ≤ (c :: r).length ∧ (c :: r).length ≤ 64 ∧ allB letterB (c :: r) = true) := by
        unfold writtenB; simp; exact ⟨fun h => ⟨h.2, h.1⟩, fun h => ⟨h.2, h.1⟩⟩
      have hf : firstOk (c :: r) = (greatB (bi c) || smallB (bi c)) := by show (digitB (bi c) || greatB (bi c) || smallB (bi c)) = _; rw [hd']; simp
      have hv : variableB (c :: r) = (writtenB (c :: r) && greatB (bi c)) := rfl
      have hn : nameB (c :: r) = (writtenB (c :: r) && smallB (bi c)) := by unfold nameB; rw [hres]; show (_ && (smallB (bi c) && _)) = _; simp
      rw [hf, hv, hn]
      have hcomb : (1 ≤ (c :: r).length ∧ (c :: r).length ≤ 64 ∧ allB letterB (c :: r) = true ∧ (greatB (bi c) || smallB (bi c)) = true) ↔ (writtenB (c :: r) = true ∧ (greatB (bi c) || smallB (bi c)) = true) := by
        rw [hw]; constructor
        · rintro ⟨a, b, c, d⟩; exact ⟨⟨a, b, c⟩, d⟩
        · rintro ⟨⟨a, b, c⟩, d⟩; exact ⟨a, b, c, d⟩
      rw [hcomb]
      cases writtenB (c :: r) <;> cases greatB (bi c) <;> cases smallB (bi c) <;> simp

def longN (l : Bs) : Nat := if kindI (l.take (wordN l)) = 0 then 0 else wordN l

theorem first_take (p : Int → Bool) (l : Bs) (n : Nat) (h : 1 ≤ n) : firstB p (l.take n) = firstB p l := by
  cases l with
  | nil => simp
  | cons c r => cases n with
    | zero => omega
    | succ n => rfl

theorem wordN_le (l : Bs) : wordN l ≤ l.length ∧ wordN l ≤ 64 := by
  rw [wordN_pred]
  have h := (List.takeWhile_prefix (p := wpred (firstB digitB l)) (l := l.take 64)).length_le
  simp at h; omega

theorem kind_take (l : Bs) (n : Nat) (h1 : 1 ≤ n) (h2 : n ≤ l.length) (h3 : n ≤ 64) : kindI (l.take n) ≠ 0 ↔ (n ≤ wordN l ∧ firstOk l = true) := by
  rw [kind_ne]
  unfold wordOk
  have e : (l.take n).length = n := by simp; omega
  rw [e, first_take _ _ _ h1, all_take_iff _ _ _ 64 h3 h2, ← wordN_pred]
  unfold firstOk
  rw [first_take _ _ _ h1]
  constructor
  · rintro ⟨_, _, a, b⟩; exact ⟨a, b⟩
  · rintro ⟨a, b⟩; exact ⟨h1, h3, a, b⟩

theorem longN_iff (l : Bs) (n : Nat) (h1 : 1 ≤ n) (h2 : n ≤ l.length) (h3 : n ≤ 64) : kindI (l.take n) ≠ 0 ↔ n ≤ longN l := by
  rw [kind_take l n h1 h2 h3]
  unfold longN
  have hw := wordN_le l
  by_cases h0 : wordN l = 0
  · rw [h0]; split <;> (constructor <;> (intro h; omega))
  · have hk := kind_take l (wordN l) (by omega) hw.1 hw.2
    by_cases hf : firstOk l = true
    · rw [if_neg (hk.2 ⟨Nat.le_refl _, hf⟩)]; simp [hf]
    · have : kindI (l.take (wordN l)) = 0 := by
        by_cases hz : kindI (l.take (wordN l)) = 0
        · exact hz
        · exact absurd (hk.1 hz).2 hf
      rw [if_pos this]; simp [hf]; omega

theorem longN_le (l : Bs) : longN l ≤ l.length ∧ longN l ≤ 64 := by
  have := wordN_le l
  unfold longN; split <;> omega

end Go.Proofs.YtclioihichcpiaaDoor.Lx


/- Names, variables, numbers; the reference's word and blanks. -/
namespace Go.Proofs.YtclioihichcpiaaDoor
open Go.RowKit Lx

namespace Lx
theorem kind_name (l : Bs) : (kindI l == 1) = nameB l := by
  by_cases hb : allB letterB l = true
  · by_cases hz : 1 ≤ l.length ∧ l.length ≤ 64
    · have hw : writtenB l = true := by unfold writtenB; rw [hb]; simp; omega
      unfold nameB
      rw [hw]
      by_cases hs : firstB smallB l = true
      · rw [kind_small hw hs, hs]
        unfold reservedB
        by_cases h1 : l = sInput
        · rw [if_pos h1]; simp [h1]
        · by_cases h2 : l = sOutput
          · rw [if_neg h1, if_pos h2]; simp [h2]
          · by_cases h3 : l = sNot
            · rw [if_neg h1, if_neg h2, if_pos h3]; simp [h3]
            · rw [if_neg h1, if_neg h2, if_neg h3]; simp [h1, h2, h3]
      · have hs' : firstB smallB l = false := by simpa using hs
        rw [hs']
        cases l with
        | nil => simp at hz
        | cons c r =>
          have hl : letterB (bi c) = true := by unfold allB at hb; simp at hb; exact hb.1
          have hc : ¬ (97 ≤ bi c ∧ bi c ≤ 122) := by simpa [firstB, smallB] using hs'
          by_cases hd : firstB digitB (c :: r) = true
          · rw [kind_digit hw hd]; split <;> simp
          · by_cases hg : firstB greatB (c :: r) = true
            · rw [kind_great hw hg]; simp
            · rw [kind_line (by simp [firstB, digitB, greatB] at *; unfold letterB at hl; simp at hl; omega)]; simp
    · have hw : writtenB l = false := by unfold writtenB; rw [hb]; simp; omega
      rw [kind_size (by omega)]; unfold nameB; rw [hw]; rfl
  · have hb' : allB letterB l = false := by simpa using hb
    rw [kind_bad hb']; unfold nameB writtenB; rw [hb']; rfl
theorem kind_variable (l : Bs) : (kindI l == 2) = variableB l := by
  by_cases hw : writtenB l = true
  · unfold variableB
    rw [hw]
    by_cases hg : firstB greatB l = true
    · rw [kind_great hw hg, hg]; rfl
    · have hg' : firstB greatB l = false := by simpa using hg
      rw [hg']
      unfold kindI variableB
      rw [hg']
      split
      · simp
      · split
        · simp
        · split
          · simp
          · split
            · simp
            · simp; split <;> simp
  · have hw' : writtenB l = false := by simpa using hw
    unfold kindI variableB
    rw [hw']
    split
    · simp
    · split
      · simp
      · split
        · simp
        · split
          · simp
          · simp; split <;> simp
theorem kind_number (l : Bs) : (kindI l == 3) = numberB l := by
  unfold kindI
  split
  · rename_i h; subst h; decide
  · split
    · rename_i h; subst h; decide
    · split
      · rename_i h; subst h; decide
      · by_cases hn : numberB l = true
        · rw [if_pos hn, hn]; rfl
        · have hn' : numberB l = false := by simpa using hn
          rw [hn', if_neg (by simp)]
          split
          · simp
          · split <;> simp
end Lx

theorem lx_Name (s : ByteArray) (w : World) (hs : s.size ≤ 140737488355328) : Calls Tryd.prog 41 #[.string s] w fun e w' => e = .returned (.bool (nameB (bl s))) ∧ w = w' := by
  have hk := Lib.hid (kind_name (bl s))
  go_enter Tryd.func41, Tryd.ntmps41
  go_wp2_with (go_at_call 62; refine (lx_kindOf _ _ hs).mono ?_; rintro e w' ⟨rfl, rfl⟩)
  go_ret
  exact ⟨ret_bool hk.out, rfl⟩

theorem lx_Variable (s : ByteArray) (w : World) (hs : s.size ≤ 140737488355328) : Calls Tryd.prog 81 #[.string s] w fun e w' => e = .returned (.bool (variableB (bl s))) ∧ w = w' := by
  have hk := Lib.hid (kind_variable (bl s))
  go_enter Tryd.func81, Tryd.ntmps81
  go_wp2_with (go_at_call 62; refine (lx_kindOf _ _ hs).mono ?_; rintro e w' ⟨rfl, rfl⟩)
  go_ret
  exact ⟨ret_bool hk.out, rfl⟩

theorem lx_Number (s : ByteArray) (w : World) (hs : s.size ≤ 140737488355328) : Calls Tryd.prog 95 #[.string s] w fun e w' => e = .returned (.bool (numberB (bl s))) ∧ w = w' := by
  have hk := Lib.hid (kind_number (bl s))
  go_enter Tryd.func95, Tryd.ntmps95
  go_wp2_with (go_at_call 62; refine (lx_kindOf _ _ hs).mono ?_; rintro e w' ⟨rfl, rfl⟩)
  go_ret
  exact ⟨ret_bool hk.out, rfl⟩

end Go.Proofs.YtclioihichcpiaaDoor


/- the reference's sign. -/
namespace Go.Proofs.YtclioihichcpiaaDoor
open Go.RowKit Lx

namespace Lx
def signR (l : Bs) : Int × Int × Int :=
  match l with
  | [] => (0, 0, 0)
  | c :: r => match signI (bi c) with
    | none => (0, 0, 0)
    | some (k, n, d) => if n = 1 then (k, 1, 1) else if firstB (fun y => decide (y = d)) r then (k, 2, 2) else (k, 1, 2)
end Lx

def GPost (s : ByteArray) (at_ : Nat) (w : World) (e : Ending) (w' : World) : Prop :=
  e = .returned (.tuple #[.int .i64 (signR ((bl s).drop at_)).1, .int .i64 (signR ((bl s).drop at_)).2.1, .int .i64 (signR ((bl s).drop at_)).2.2]) ∧ w = w'
theorem GPost.of {s : ByteArray} {at_ : Nat} {w : World} {k a b : Int} (h : signR ((bl s).drop at_) = (k, a, b)) : GPost s at_ w (.returned (.tuple #[.int .i64 k, .int .i64 a, .int .i64 b])) w := by
  unfold GPost; rw [h]; exact ⟨rfl, rfl⟩

end Go.Proofs.YtclioihichcpiaaDoor


/- the reference's longest. -/
namespace Go.Proofs.YtclioihichcpiaaDoor
open Go.RowKit Lx

def LPost (s : ByteArray) (at_ : Nat) (w : World) (e : Ending) (w' : World) : Prop :=
  e = .returned (.int .i64 ((at_ + longN ((bl s).drop at_) : Nat) : Int)) ∧ w = w'
theorem LPost.of {s : ByteArray} {at_ m : Nat} {w : World} (h : m = at_ + longN ((bl s).drop at_)) : LPost s at_ w (.returned (.int .i64 m)) w := by
  unfold LPost; rw [← h]; exact ⟨rfl, rfl⟩

theorem long_step (s : ByteArray) (a0 m : Nat) (h1 : a0 ≤ m) (h2 : m < s.size) (h3 : m < a0 + 64) :
    kindI (bl (s.extract a0 (m + 1))) ≠ 0 ↔ m + 1 - a0 ≤ longN ((bl s).drop a0) := by
  rw [extract_mk', bl_mk]
  refine longN_iff _ _ (by omega) ?_ (by omega)
  rw [List.length_drop, bl_length]; omega

end Go.Proofs.YtclioihichcpiaaDoor


/- the reference's next. -/
namespace Go.Proofs.YtclioihichcpiaaDoor
open Go.RowKit Lx

def RPost (s : ByteArray) (at_ : Nat) (w : World) (e : Ending) (w' : World) : Prop :=
  e = .returned (.tuple #[.agg (tokC (nextT ((bl s).drop at_) at_).1), .int .i64 ((if (nextT ((bl s).drop at_) at_).1.kind = 0 then at_ else (nextT ((bl s).drop at_) at_).1.end_ : Nat) : Int), .bool (nextT ((bl s).drop at_) at_).2]) ∧ Below w.heap.size w w'
theorem RPost.of {s : ByteArray} {at_ : Nat} {w w' : World} {t : Tok} {b : Bool} {cs : Array Value} {n : Int} (h : nextT ((bl s).drop at_) at_ = (t, b)) (hc : cs = tokC t) (hn : n = ((if t.kind = 0 then at_ else t.end_ : Nat) : Int)) (hb : Below w.heap.size w w') : RPost s at_ w (.returned (.tuple #[.agg cs, .int .i64 n, .bool b])) w' := by
  unfold RPost; rw [h, hc, hn]; exact ⟨rfl, hb⟩

end Go.Proofs.YtclioihichcpiaaDoor


/- the reference's next: signs and words. -/
namespace Go.Proofs.YtclioihichcpiaaDoor
open Go.RowKit Lx

namespace Lx
theorem signI_cases (c : Int) : signI c = none ∨ (∃ k, signI c = some (k, 1, 0) ∧ k ≠ 0) ∨ (∃ k d, signI c = some (k, 2, d) ∧ k ≠ 0) := by
  unfold signI; repeat' split
  all_goals simp
theorem sign_next (c : UInt8) (r : Bs) (at_ : Nat) (h34 : ¬ bi c = 34) (hs : ¬ signI (bi c) = none) :
    ∃ (k : Int) (A : Nat) (b : Int), signR (c :: r) = (k, (A : Int), b) ∧ k ≠ 0 ∧ A ≤ 2 ∧ nextT (c :: r) at_ = (⟨k, [], at_, at_ + A⟩, (A : Int) == b) := by
  rcases signI_cases (bi c) with h | ⟨k, h, hk⟩ | ⟨k, d, h, hk⟩
  · exact absurd h hs
  · exact ⟨k, 1, 1, by simp [signR, h], hk, by omega, next_sign1 c r at_ k 0 h34 h⟩
  · by_cases hd : firstB (fun y => decide (y = d)) r = true
    · refine ⟨k, 2, 2, by simp [signR, h, hd], hk, by omega, ?_⟩
      cases r with
      | nil => cases hd
      | cons x r => exact next_sign2 c x r at_ k d h34 h (by simpa [firstB] using hd)
    · have hd' : firstB (fun y => decide (y = d)) r = false := by simpa using hd
      exact ⟨k, 1, 2, by simp [signR, h, hd'], hk, by omega, next_sign2n c r at_ k d h34 h hd'⟩
theorem sign_none (c : UInt8) (r : Bs) (hs : signI (bi c) = none) : signR (c :: r) = (0, 0, 0) := by simp [signR, hs]
end Lx

end Go.Proofs.YtclioihichcpiaaDoor
