/- lex.next: signs. -/
import Derived.Test.YtclioihichcpiaaDoorProg
import Derived.Test.YtclioihichcpiaaDoorBase
import Derived.Test.YtclioihichcpiaaDoorBytes
import Derived.Test.YtclioihichcpiaaDoorJoA
namespace Go.Proofs.YtclioihichcpiaaDoor
open Go.RowKit Lx

theorem sg_i0 (w : World) : (Instr.index 143 (.agg #[.string ⟨#[40]⟩, .string ⟨#[41]⟩, .string ⟨#[44]⟩, .string ⟨#[46]⟩, .string ⟨#[47]⟩, .string ⟨#[58, 45]⟩, .string ⟨#[33, 61]⟩]) (.int .i64 0)).run Tryd.prog w = .ok (.string ⟨#[40]⟩) w := by kernel_rfl
theorem sg_a0 (w : World) : (Instr.index 9 (.string ⟨#[40]⟩) (.int .i64 0)).run Tryd.prog w = .ok (.int .u8 40) w := by kernel_rfl
theorem sg_i1 (w : World) : (Instr.index 143 (.agg #[.string ⟨#[40]⟩, .string ⟨#[41]⟩, .string ⟨#[44]⟩, .string ⟨#[46]⟩, .string ⟨#[47]⟩, .string ⟨#[58, 45]⟩, .string ⟨#[33, 61]⟩]) (.int .i64 1)).run Tryd.prog w = .ok (.string ⟨#[41]⟩) w := by kernel_rfl
theorem sg_a1 (w : World) : (Instr.index 9 (.string ⟨#[41]⟩) (.int .i64 0)).run Tryd.prog w = .ok (.int .u8 41) w := by kernel_rfl
theorem sg_i2 (w : World) : (Instr.index 143 (.agg #[.string ⟨#[40]⟩, .string ⟨#[41]⟩, .string ⟨#[44]⟩, .string ⟨#[46]⟩, .string ⟨#[47]⟩, .string ⟨#[58, 45]⟩, .string ⟨#[33, 61]⟩]) (.int .i64 2)).run Tryd.prog w = .ok (.string ⟨#[44]⟩) w := by kernel_rfl
theorem sg_a2 (w : World) : (Instr.index 9 (.string ⟨#[44]⟩) (.int .i64 0)).run Tryd.prog w = .ok (.int .u8 44) w := by kernel_rfl
theorem sg_i3 (w : World) : (Instr.index 143 (.agg #[.string ⟨#[40]⟩, .string ⟨#[41]⟩, .string ⟨#[44]⟩, .string ⟨#[46]⟩, .string ⟨#[47]⟩, .string ⟨#[58, 45]⟩, .string ⟨#[33, 61]⟩]) (.int .i64 3)).run Tryd.prog w = .ok (.string ⟨#[46]⟩) w := by kernel_rfl
theorem sg_a3 (w : World) : (Instr.index 9 (.string ⟨#[46]⟩) (.int .i64 0)).run Tryd.prog w = .ok (.int .u8 46) w := by kernel_rfl
theorem sg_i4 (w : World) : (Instr.index 143 (.agg #[.string ⟨#[40]⟩, .string ⟨#[41]⟩, .string ⟨#[44]⟩, .string ⟨#[46]⟩, .string ⟨#[47]⟩, .string ⟨#[58, 45]⟩, .string ⟨#[33, 61]⟩]) (.int .i64 4)).run Tryd.prog w = .ok (.string ⟨#[47]⟩) w := by kernel_rfl
theorem sg_a4 (w : World) : (Instr.index 9 (.string ⟨#[47]⟩) (.int .i64 0)).run Tryd.prog w = .ok (.int .u8 47) w := by kernel_rfl
theorem sg_i5 (w : World) : (Instr.index 143 (.agg #[.string ⟨#[40]⟩, .string ⟨#[41]⟩, .string ⟨#[44]⟩, .string ⟨#[46]⟩, .string ⟨#[47]⟩, .string ⟨#[58, 45]⟩, .string ⟨#[33, 61]⟩]) (.int .i64 5)).run Tryd.prog w = .ok (.string ⟨#[58, 45]⟩) w := by kernel_rfl
theorem sg_a5 (w : World) : (Instr.index 9 (.string ⟨#[58, 45]⟩) (.int .i64 0)).run Tryd.prog w = .ok (.int .u8 58) w := by kernel_rfl
theorem sg_i6 (w : World) : (Instr.index 143 (.agg #[.string ⟨#[40]⟩, .string ⟨#[41]⟩, .string ⟨#[44]⟩, .string ⟨#[46]⟩, .string ⟨#[47]⟩, .string ⟨#[58, 45]⟩, .string ⟨#[33, 61]⟩]) (.int .i64 6)).run Tryd.prog w = .ok (.string ⟨#[33, 61]⟩) w := by kernel_rfl
theorem sg_a6 (w : World) : (Instr.index 9 (.string ⟨#[33, 61]⟩) (.int .i64 0)).run Tryd.prog w = .ok (.int .u8 33) w := by kernel_rfl
theorem sg_b5 (w : World) : (Instr.index 9 (.string ⟨#[58, 45]⟩) (.int .i64 1)).run Tryd.prog w = .ok (.int .u8 45) w := by kernel_rfl
theorem sg_b6 (w : World) : (Instr.index 9 (.string ⟨#[33, 61]⟩) (.int .i64 1)).run Tryd.prog w = .ok (.int .u8 61) w := by kernel_rfl

set_option maxHeartbeats 2000000 in
theorem lx_next_0 (s : ByteArray) (a0 : Nat) (w : World) (hs : s.size ≤ 4194304) (hlt : a0 < s.size) (hc : bat s a0 = 40) :
    Calls Tryd.prog 71 #[.string s, .int .i64 a0] w (NPost s a0 w) := by
  have hidx := fun w => run_index_str (P := Tryd.prog) Tryd.underlying9 s a0 hlt w
  have hi0 : (a0 : Int) < (s.size : Int) := by omega
  have hnx : Hid (nextT ((bl s).drop a0) a0 = (⟨8, [], a0, a0 + 1⟩, true)) := by
    show _ = _; rw [drop_bl s a0 hlt]; exact next_sign1 _ _ _ _ 0 (by show ¬ bat s a0 = 34; omega) (by show signI (bat s a0) = _; rw [hc]; rfl)
  have g34 : (bat s a0 == 34) = false := by simp [hc]
  have g0 : (bat s a0 != 40) = false := by simp [hc]
  have ia0 := sg_i0
  have ib0 := sg_a0
  clear hc
  have hW : Hid ((w.alloc (.cells #[.int .i64 0, .string ⟨#[]⟩, .int .i64 0, .int .i64 0] 92)).heap[w.heap.size]? = some (.cells (tokCs 0 [] 0 0) 92)) := heap_alloc_new _ _
  have hWb : Below w.heap.size w (w.alloc (.cells #[.int .i64 0, .string ⟨#[]⟩, .int .i64 0, .int .i64 0] 92)) := (Below.refl _ _).al _
  have hWs : w.heap.size < (w.alloc (.cells #[.int .i64 0, .string ⟨#[]⟩, .int .i64 0, .int .i64 0] 92)).heap.size := by simp
  go_enter Tryd.func71, Tryd.ntmps71
  go_wp2_with fail
  generalize w.alloc (.cells #[.int .i64 0, .string ⟨#[]⟩, .int .i64 0, .int .i64 0] 92) = W at hW hWb hWs ⊢
  refine (lx_signs _).mono ?_
  rintro e w2 ⟨rfl, hb2⟩
  go_wp2_with fail
  refine wp_loop_rounds 1 ?_
  rw [rounds_succ]
  go_wp2_with fail
  go_quiet (fail)
  go_wp2_with (refine wpList_store_rowA rfl 92 (.tmp 11) (.tmp 48) rfl w2.heap.size (tokCs 8 [] a0 ((a0 : Int) + 1)) rfl rfl 92 (tokCs 0 [] 0 0) (heap_alloc_new _ _) sizeTok rfl (tokCs_one _ _ _ _) ?_)
  intro w3 hg3 hgr hsz
  have hb3 : Below W.heap.size W w3 := ((hb2.drewN _).al _).grown hgr (by have := hb2.size; simp; omega) (by intro k hk; injection hk with hk; have := hb2.size; omega)
  have hcell : Hid (w3.heap[w.heap.size]? = some (.cells (tokCs 0 [] 0 0) 92)) := (hb3.block _ hWs).trans hW.out
  have hg2 : W.heap.size ≤ w2.heap.size := hb2.size
  have hs3 : w2.heap.size < w3.heap.size := by have h := hsz.out; first | omega | (simp at h; omega)
  clear hgr hsz hb2
  go_wp2_with (first
    | (refine wpList_load_row rfl 92 (.tmp 11) rfl w2.heap.size rfl 92 (tokCs 8 [] a0 ((a0 : Int) + 1)) (0, 0) _ hg3.out Tryd.underlying92 rfl sizeTok ?_)
    | (refine wpList_store_rowA rfl 92 (.tmp 4) (.tmp 71) rfl w.heap.size (tokCs 8 [] a0 ((a0 : Int) + 1)) rfl rfl 92 (tokCs 0 [] 0 0) hcell.out sizeTok rfl (tokCs_one _ _ _ _) ?_))
  intro w4 hg4 hgr hsz
  have hb4 : Below w.heap.size w w4 := (hWb.trans (hb3.mono (by omega))).grown hgr (by have := hb3.size; simp; omega) (by intro k hk; injection hk with hk; omega)
  clear hgr hsz
  go_wp2_with fail
  refine bodyPost_ret (v := .tuple #[.agg (tokCs 8 [] a0 ((a0 : Int) + 1)), .bool true]) ?_ rfl (NPost.of hnx.out rfl hb4)
  exact results_cell2 rfl _ _ w.heap.size 92 _ (0, 0) _ rfl hg4.out Tryd.underlying92 rfl sizeTok _ rfl

set_option maxHeartbeats 2000000 in
theorem lx_next_1 (s : ByteArray) (a0 : Nat) (w : World) (hs : s.size ≤ 4194304) (hlt : a0 < s.size) (hc : bat s a0 = 41) :
    Calls Tryd.prog 71 #[.string s, .int .i64 a0] w (NPost s a0 w) := by
  have hidx := fun w => run_index_str (P := Tryd.prog) Tryd.underlying9 s a0 hlt w
  have hi0 : (a0 : Int) < (s.size : Int) := by omega
  have hnx : Hid (nextT ((bl s).drop a0) a0 = (⟨9, [], a0, a0 + 1⟩, true)) := by
    show _ = _; rw [drop_bl s a0 hlt]; exact next_sign1 _ _ _ _ 0 (by show ¬ bat s a0 = 34; omega) (by show signI (bat s a0) = _; rw [hc]; rfl)
  have g34 : (bat s a0 == 34) = false := by simp [hc]
  have g0 : (bat s a0 != 40) = true := by simp [hc]
  have ia0 := sg_i0
  have ib0 := sg_a0
  have g1 : (bat s a0 != 41) = false := by simp [hc]
  have ia1 := sg_i1
  have ib1 := sg_a1
  clear hc
  have hW : Hid ((w.alloc (.cells #[.int .i64 0, .string ⟨#[]⟩, .int .i64 0, .int .i64 0] 92)).heap[w.heap.size]? = some (.cells (tokCs 0 [] 0 0) 92)) := heap_alloc_new _ _
  have hWb : Below w.heap.size w (w.alloc (.cells #[.int .i64 0, .string ⟨#[]⟩, .int .i64 0, .int .i64 0] 92)) := (Below.refl _ _).al _
  have hWs : w.heap.size < (w.alloc (.cells #[.int .i64 0, .string ⟨#[]⟩, .int .i64 0, .int .i64 0] 92)).heap.size := by simp
  go_enter Tryd.func71, Tryd.ntmps71
  go_wp2_with fail
  generalize w.alloc (.cells #[.int .i64 0, .string ⟨#[]⟩, .int .i64 0, .int .i64 0] 92) = W at hW hWb hWs ⊢
  refine (lx_signs _).mono ?_
  rintro e w2 ⟨rfl, hb2⟩
  go_wp2_with fail
  refine wp_loop_rounds 2 ?_
  rw [rounds_succ]
  go_wp2_with fail
  go_quiet (fail)
  go_wp2_with fail
  rw [rounds_succ]
  go_wp2_with fail
  go_quiet (fail)
  go_wp2_with (refine wpList_store_rowA rfl 92 (.tmp 11) (.tmp 48) rfl w2.heap.size (tokCs 9 [] a0 ((a0 : Int) + 1)) rfl rfl 92 (tokCs 0 [] 0 0) (heap_alloc_new _ _) sizeTok rfl (tokCs_one _ _ _ _) ?_)
  intro w3 hg3 hgr hsz
  have hb3 : Below W.heap.size W w3 := ((hb2.drewN _).al _).grown hgr (by have := hb2.size; simp; omega) (by intro k hk; injection hk with hk; have := hb2.size; omega)
  have hcell : Hid (w3.heap[w.heap.size]? = some (.cells (tokCs 0 [] 0 0) 92)) := (hb3.block _ hWs).trans hW.out
  have hg2 : W.heap.size ≤ w2.heap.size := hb2.size
  have hs3 : w2.heap.size < w3.heap.size := by have h := hsz.out; first | omega | (simp at h; omega)
  clear hgr hsz hb2
  go_wp2_with (first
    | (refine wpList_load_row rfl 92 (.tmp 11) rfl w2.heap.size rfl 92 (tokCs 9 [] a0 ((a0 : Int) + 1)) (0, 0) _ hg3.out Tryd.underlying92 rfl sizeTok ?_)
    | (refine wpList_store_rowA rfl 92 (.tmp 4) (.tmp 71) rfl w.heap.size (tokCs 9 [] a0 ((a0 : Int) + 1)) rfl rfl 92 (tokCs 0 [] 0 0) hcell.out sizeTok rfl (tokCs_one _ _ _ _) ?_))
  intro w4 hg4 hgr hsz
  have hb4 : Below w.heap.size w w4 := (hWb.trans (hb3.mono (by omega))).grown hgr (by have := hb3.size; simp; omega) (by intro k hk; injection hk with hk; omega)
  clear hgr hsz
  go_wp2_with fail
  refine bodyPost_ret (v := .tuple #[.agg (tokCs 9 [] a0 ((a0 : Int) + 1)), .bool true]) ?_ rfl (NPost.of hnx.out rfl hb4)
  exact results_cell2 rfl _ _ w.heap.size 92 _ (0, 0) _ rfl hg4.out Tryd.underlying92 rfl sizeTok _ rfl

set_option maxHeartbeats 2000000 in
theorem lx_next_2 (s : ByteArray) (a0 : Nat) (w : World) (hs : s.size ≤ 4194304) (hlt : a0 < s.size) (hc : bat s a0 = 44) :
    Calls Tryd.prog 71 #[.string s, .int .i64 a0] w (NPost s a0 w) := by
  have hidx := fun w => run_index_str (P := Tryd.prog) Tryd.underlying9 s a0 hlt w
  have hi0 : (a0 : Int) < (s.size : Int) := by omega
  have hnx : Hid (nextT ((bl s).drop a0) a0 = (⟨10, [], a0, a0 + 1⟩, true)) := by
    show _ = _; rw [drop_bl s a0 hlt]; exact next_sign1 _ _ _ _ 0 (by show ¬ bat s a0 = 34; omega) (by show signI (bat s a0) = _; rw [hc]; rfl)
  have g34 : (bat s a0 == 34) = false := by simp [hc]
  have g0 : (bat s a0 != 40) = true := by simp [hc]
  have ia0 := sg_i0
  have ib0 := sg_a0
  have g1 : (bat s a0 != 41) = true := by simp [hc]
  have ia1 := sg_i1
  have ib1 := sg_a1
  have g2 : (bat s a0 != 44) = false := by simp [hc]
  have ia2 := sg_i2
  have ib2 := sg_a2
  clear hc
  have hW : Hid ((w.alloc (.cells #[.int .i64 0, .string ⟨#[]⟩, .int .i64 0, .int .i64 0] 92)).heap[w.heap.size]? = some (.cells (tokCs 0 [] 0 0) 92)) := heap_alloc_new _ _
  have hWb : Below w.heap.size w (w.alloc (.cells #[.int .i64 0, .string ⟨#[]⟩, .int .i64 0, .int .i64 0] 92)) := (Below.refl _ _).al _
  have hWs : w.heap.size < (w.alloc (.cells #[.int .i64 0, .string ⟨#[]⟩, .int .i64 0, .int .i64 0] 92)).heap.size := by simp
  go_enter Tryd.func71, Tryd.ntmps71
  go_wp2_with fail
  generalize w.alloc (.cells #[.int .i64 0, .string ⟨#[]⟩, .int .i64 0, .int .i64 0] 92) = W at hW hWb hWs ⊢
  refine (lx_signs _).mono ?_
  rintro e w2 ⟨rfl, hb2⟩
  go_wp2_with fail
  refine wp_loop_rounds 3 ?_
  rw [rounds_succ]
  go_wp2_with fail
  go_quiet (fail)
  go_wp2_with fail
  rw [rounds_succ]
  go_wp2_with fail
  go_quiet (fail)
  go_wp2_with fail
  rw [rounds_succ]
  go_wp2_with fail
  go_quiet (fail)
  go_wp2_with (refine wpList_store_rowA rfl 92 (.tmp 11) (.tmp 48) rfl w2.heap.size (tokCs 10 [] a0 ((a0 : Int) + 1)) rfl rfl 92 (tokCs 0 [] 0 0) (heap_alloc_new _ _) sizeTok rfl (tokCs_one _ _ _ _) ?_)
  intro w3 hg3 hgr hsz
  have hb3 : Below W.heap.size W w3 := ((hb2.drewN _).al _).grown hgr (by have := hb2.size; simp; omega) (by intro k hk; injection hk with hk; have := hb2.size; omega)
  have hcell : Hid (w3.heap[w.heap.size]? = some (.cells (tokCs 0 [] 0 0) 92)) := (hb3.block _ hWs).trans hW.out
  have hg2 : W.heap.size ≤ w2.heap.size := hb2.size
  have hs3 : w2.heap.size < w3.heap.size := by have h := hsz.out; first | omega | (simp at h; omega)
  clear hgr hsz hb2
  go_wp2_with (first
    | (refine wpList_load_row rfl 92 (.tmp 11) rfl w2.heap.size rfl 92 (tokCs 10 [] a0 ((a0 : Int) + 1)) (0, 0) _ hg3.out Tryd.underlying92 rfl sizeTok ?_)
    | (refine wpList_store_rowA rfl 92 (.tmp 4) (.tmp 71) rfl w.heap.size (tokCs 10 [] a0 ((a0 : Int) + 1)) rfl rfl 92 (tokCs 0 [] 0 0) hcell.out sizeTok rfl (tokCs_one _ _ _ _) ?_))
  intro w4 hg4 hgr hsz
  have hb4 : Below w.heap.size w w4 := (hWb.trans (hb3.mono (by omega))).grown hgr (by have := hb3.size; simp; omega) (by intro k hk; injection hk with hk; omega)
  clear hgr hsz
  go_wp2_with fail
  refine bodyPost_ret (v := .tuple #[.agg (tokCs 10 [] a0 ((a0 : Int) + 1)), .bool true]) ?_ rfl (NPost.of hnx.out rfl hb4)
  exact results_cell2 rfl _ _ w.heap.size 92 _ (0, 0) _ rfl hg4.out Tryd.underlying92 rfl sizeTok _ rfl

set_option maxHeartbeats 2000000 in
theorem lx_next_3 (s : ByteArray) (a0 : Nat) (w : World) (hs : s.size ≤ 4194304) (hlt : a0 < s.size) (hc : bat s a0 = 46) :
    Calls Tryd.prog 71 #[.string s, .int .i64 a0] w (NPost s a0 w) := by
  have hidx := fun w => run_index_str (P := Tryd.prog) Tryd.underlying9 s a0 hlt w
  have hi0 : (a0 : Int) < (s.size : Int) := by omega
  have hnx : Hid (nextT ((bl s).drop a0) a0 = (⟨11, [], a0, a0 + 1⟩, true)) := by
    show _ = _; rw [drop_bl s a0 hlt]; exact next_sign1 _ _ _ _ 0 (by show ¬ bat s a0 = 34; omega) (by show signI (bat s a0) = _; rw [hc]; rfl)
  have g34 : (bat s a0 == 34) = false := by simp [hc]
  have g0 : (bat s a0 != 40) = true := by simp [hc]
  have ia0 := sg_i0
  have ib0 := sg_a0
  have g1 : (bat s a0 != 41) = true := by simp [hc]
  have ia1 := sg_i1
  have ib1 := sg_a1
  have g2 : (bat s a0 != 44) = true := by simp [hc]
  have ia2 := sg_i2
  have ib2 := sg_a2
  have g3 : (bat s a0 != 46) = false := by simp [hc]
  have ia3 := sg_i3
  have ib3 := sg_a3
  clear hc
  have hW : Hid ((w.alloc (.cells #[.int .i64 0, .string ⟨#[]⟩, .int .i64 0, .int .i64 0] 92)).heap[w.heap.size]? = some (.cells (tokCs 0 [] 0 0) 92)) := heap_alloc_new _ _
  have hWb : Below w.heap.size w (w.alloc (.cells #[.int .i64 0, .string ⟨#[]⟩, .int .i64 0, .int .i64 0] 92)) := (Below.refl _ _).al _
  have hWs : w.heap.size < (w.alloc (.cells #[.int .i64 0, .string ⟨#[]⟩, .int .i64 0, .int .i64 0] 92)).heap.size := by simp
  go_enter Tryd.func71, Tryd.ntmps71
  go_wp2_with fail
  generalize w.alloc (.cells #[.int .i64 0, .string ⟨#[]⟩, .int .i64 0, .int .i64 0] 92) = W at hW hWb hWs ⊢
  refine (lx_signs _).mono ?_
  rintro e w2 ⟨rfl, hb2⟩
  go_wp2_with fail
  refine wp_loop_rounds 4 ?_
  rw [rounds_succ]
  go_wp2_with fail
  go_quiet (fail)
  go_wp2_with fail
  rw [rounds_succ]
  go_wp2_with fail
  go_quiet (fail)
  go_wp2_with fail
  rw [rounds_succ]
  go_wp2_with fail
  go_quiet (fail)
  go_wp2_with fail
  rw [rounds_succ]
  go_wp2_with fail
  go_quiet (fail)
  go_wp2_with (refine wpList_store_rowA rfl 92 (.tmp 11) (.tmp 48) rfl w2.heap.size (tokCs 11 [] a0 ((a0 : Int) + 1)) rfl rfl 92 (tokCs 0 [] 0 0) (heap_alloc_new _ _) sizeTok rfl (tokCs_one _ _ _ _) ?_)
  intro w3 hg3 hgr hsz
  have hb3 : Below W.heap.size W w3 := ((hb2.drewN _).al _).grown hgr (by have := hb2.size; simp; omega) (by intro k hk; injection hk with hk; have := hb2.size; omega)
  have hcell : Hid (w3.heap[w.heap.size]? = some (.cells (tokCs 0 [] 0 0) 92)) := (hb3.block _ hWs).trans hW.out
  have hg2 : W.heap.size ≤ w2.heap.size := hb2.size
  have hs3 : w2.heap.size < w3.heap.size := by have h := hsz.out; first | omega | (simp at h; omega)
  clear hgr hsz hb2
  go_wp2_with (first
    | (refine wpList_load_row rfl 92 (.tmp 11) rfl w2.heap.size rfl 92 (tokCs 11 [] a0 ((a0 : Int) + 1)) (0, 0) _ hg3.out Tryd.underlying92 rfl sizeTok ?_)
    | (refine wpList_store_rowA rfl 92 (.tmp 4) (.tmp 71) rfl w.heap.size (tokCs 11 [] a0 ((a0 : Int) + 1)) rfl rfl 92 (tokCs 0 [] 0 0) hcell.out sizeTok rfl (tokCs_one _ _ _ _) ?_))
  intro w4 hg4 hgr hsz
  have hb4 : Below w.heap.size w w4 := (hWb.trans (hb3.mono (by omega))).grown hgr (by have := hb3.size; simp; omega) (by intro k hk; injection hk with hk; omega)
  clear hgr hsz
  go_wp2_with fail
  refine bodyPost_ret (v := .tuple #[.agg (tokCs 11 [] a0 ((a0 : Int) + 1)), .bool true]) ?_ rfl (NPost.of hnx.out rfl hb4)
  exact results_cell2 rfl _ _ w.heap.size 92 _ (0, 0) _ rfl hg4.out Tryd.underlying92 rfl sizeTok _ rfl

set_option maxHeartbeats 2000000 in
theorem lx_next_4 (s : ByteArray) (a0 : Nat) (w : World) (hs : s.size ≤ 4194304) (hlt : a0 < s.size) (hc : bat s a0 = 47) :
    Calls Tryd.prog 71 #[.string s, .int .i64 a0] w (NPost s a0 w) := by
  have hidx := fun w => run_index_str (P := Tryd.prog) Tryd.underlying9 s a0 hlt w
  have hi0 : (a0 : Int) < (s.size : Int) := by omega
  have hnx : Hid (nextT ((bl s).drop a0) a0 = (⟨12, [], a0, a0 + 1⟩, true)) := by
    show _ = _; rw [drop_bl s a0 hlt]; exact next_sign1 _ _ _ _ 0 (by show ¬ bat s a0 = 34; omega) (by show signI (bat s a0) = _; rw [hc]; rfl)
  have g34 : (bat s a0 == 34) = false := by simp [hc]
  have g0 : (bat s a0 != 40) = true := by simp [hc]
  have ia0 := sg_i0
  have ib0 := sg_a0
  have g1 : (bat s a0 != 41) = true := by simp [hc]
  have ia1 := sg_i1
  have ib1 := sg_a1
  have g2 : (bat s a0 != 44) = true := by simp [hc]
  have ia2 := sg_i2
  have ib2 := sg_a2
  have g3 : (bat s a0 != 46) = true := by simp [hc]
  have ia3 := sg_i3
  have ib3 := sg_a3
  have g4 : (bat s a0 != 47) = false := by simp [hc]
  have ia4 := sg_i4
  have ib4 := sg_a4
  clear hc
  have hW : Hid ((w.alloc (.cells #[.int .i64 0, .string ⟨#[]⟩, .int .i64 0, .int .i64 0] 92)).heap[w.heap.size]? = some (.cells (tokCs 0 [] 0 0) 92)) := heap_alloc_new _ _
  have hWb : Below w.heap.size w (w.alloc (.cells #[.int .i64 0, .string ⟨#[]⟩, .int .i64 0, .int .i64 0] 92)) := (Below.refl _ _).al _
  have hWs : w.heap.size < (w.alloc (.cells #[.int .i64 0, .string ⟨#[]⟩, .int .i64 0, .int .i64 0] 92)).heap.size := by simp
  go_enter Tryd.func71, Tryd.ntmps71
  go_wp2_with fail
  generalize w.alloc (.cells #[.int .i64 0, .string ⟨#[]⟩, .int .i64 0, .int .i64 0] 92) = W at hW hWb hWs ⊢
  refine (lx_signs _).mono ?_
  rintro e w2 ⟨rfl, hb2⟩
  go_wp2_with fail
  refine wp_loop_rounds 5 ?_
  rw [rounds_succ]
  go_wp2_with fail
  go_quiet (fail)
  go_wp2_with fail
  rw [rounds_succ]
  go_wp2_with fail
  go_quiet (fail)
  go_wp2_with fail
  rw [rounds_succ]
  go_wp2_with fail
  go_quiet (fail)
  go_wp2_with fail
  rw [rounds_succ]
  go_wp2_with fail
  go_quiet (fail)
  go_wp2_with fail
  rw [rounds_succ]
  go_wp2_with fail
  go_quiet (fail)
  go_wp2_with (refine wpList_store_rowA rfl 92 (.tmp 11) (.tmp 48) rfl w2.heap.size (tokCs 12 [] a0 ((a0 : Int) + 1)) rfl rfl 92 (tokCs 0 [] 0 0) (heap_alloc_new _ _) sizeTok rfl (tokCs_one _ _ _ _) ?_)
  intro w3 hg3 hgr hsz
  have hb3 : Below W.heap.size W w3 := ((hb2.drewN _).al _).grown hgr (by have := hb2.size; simp; omega) (by intro k hk; injection hk with hk; have := hb2.size; omega)
  have hcell : Hid (w3.heap[w.heap.size]? = some (.cells (tokCs 0 [] 0 0) 92)) := (hb3.block _ hWs).trans hW.out
  have hg2 : W.heap.size ≤ w2.heap.size := hb2.size
  have hs3 : w2.heap.size < w3.heap.size := by have h := hsz.out; first | omega | (simp at h; omega)
  clear hgr hsz hb2
  go_wp2_with (first
    | (refine wpList_load_row rfl 92 (.tmp 11) rfl w2.heap.size rfl 92 (tokCs 12 [] a0 ((a0 : Int) + 1)) (0, 0) _ hg3.out Tryd.underlying92 rfl sizeTok ?_)
    | (refine wpList_store_rowA rfl 92 (.tmp 4) (.tmp 71) rfl w.heap.size (tokCs 12 [] a0 ((a0 : Int) + 1)) rfl rfl 92 (tokCs 0 [] 0 0) hcell.out sizeTok rfl (tokCs_one _ _ _ _) ?_))
  intro w4 hg4 hgr hsz
  have hb4 : Below w.heap.size w w4 := (hWb.trans (hb3.mono (by omega))).grown hgr (by have := hb3.size; simp; omega) (by intro k hk; injection hk with hk; omega)
  clear hgr hsz
  go_wp2_with fail
  refine bodyPost_ret (v := .tuple #[.agg (tokCs 12 [] a0 ((a0 : Int) + 1)), .bool true]) ?_ rfl (NPost.of hnx.out rfl hb4)
  exact results_cell2 rfl _ _ w.heap.size 92 _ (0, 0) _ rfl hg4.out Tryd.underlying92 rfl sizeTok _ rfl

end Go.Proofs.YtclioihichcpiaaDoor


/- lex.next: signs. -/
namespace Go.Proofs.YtclioihichcpiaaDoor
open Go.RowKit Lx


set_option maxHeartbeats 2000000 in
theorem lx_next_5ok (s : ByteArray) (a0 : Nat) (w : World) (hs : s.size ≤ 4194304) (hlt : a0 < s.size) (hc : bat s a0 = 58) (hlt1 : a0 + 1 < s.size) (hd : bat s (a0 + 1) = 45) :
    Calls Tryd.prog 71 #[.string s, .int .i64 a0] w (NPost s a0 w) := by
  have hidx := fun w => run_index_str (P := Tryd.prog) Tryd.underlying9 s a0 hlt w
  have hi0 : (a0 : Int) < (s.size : Int) := by omega
  have hnx : Hid (nextT ((bl s).drop a0) a0 = (⟨13, [], a0, a0 + 2⟩, true)) := by
    show _ = _; rw [drop_bl s a0 hlt, drop_bl s (a0 + 1) hlt1]; exact next_sign2 _ _ _ _ _ 45 (by show ¬ bat s a0 = 34; omega) (by show signI (bat s a0) = _; rw [hc]; rfl) hd
  have g34 : (bat s a0 == 34) = false := by simp [hc]
  have g0 : (bat s a0 != 40) = true := by simp [hc]
  have ia0 := sg_i0
  have ib0 := sg_a0
  have g1 : (bat s a0 != 41) = true := by simp [hc]
  have ia1 := sg_i1
  have ib1 := sg_a1
  have g2 : (bat s a0 != 44) = true := by simp [hc]
  have ia2 := sg_i2
  have ib2 := sg_a2
  have g3 : (bat s a0 != 46) = true := by simp [hc]
  have ia3 := sg_i3
  have ib3 := sg_a3
  have g4 : (bat s a0 != 47) = true := by simp [hc]
  have ia4 := sg_i4
  have ib4 := sg_a4
  have g5 : (bat s a0 != 58) = false := by simp [hc]
  have ia5 := sg_i5
  have ib5 := sg_a5
  have ic := sg_b5
  have hidx1 := fun w => run_index_str (P := Tryd.prog) Tryd.underlying9 s (a0 + 1) hlt1 w
  rw [show ((a0 + 1 : Nat) : Int) = (a0 : Int) + 1 from by omega] at hidx1
  have hi1 : (a0 : Int) + 1 < (s.size : Int) := by omega
  have v1 : IntKind.i64.wrap ((a0 : Int) + 1) = (a0 : Int) + 1 := IntWalk.i64_in _ (by omega)
  have ge : ((a0 : Int) + 1 == (s.size : Int)) = false := by rw [beq_eq_false_iff_ne]; omega
  have gd : (bat s (a0 + 1) != 45) = false := by simp [hd]
  clear hd
  clear hc
  have hW : Hid ((w.alloc (.cells #[.int .i64 0, .string ⟨#[]⟩, .int .i64 0, .int .i64 0] 92)).heap[w.heap.size]? = some (.cells (tokCs 0 [] 0 0) 92)) := heap_alloc_new _ _
  have hWb : Below w.heap.size w (w.alloc (.cells #[.int .i64 0, .string ⟨#[]⟩, .int .i64 0, .int .i64 0] 92)) := (Below.refl _ _).al _
  have hWs : w.heap.size < (w.alloc (.cells #[.int .i64 0, .string ⟨#[]⟩, .int .i64 0, .int .i64 0] 92)).heap.size := by simp
  go_enter Tryd.func71, Tryd.ntmps71
  go_wp2_with fail
  generalize w.alloc (.cells #[.int .i64 0, .string ⟨#[]⟩, .int .i64 0, .int .i64 0] 92) = W at hW hWb hWs ⊢
  refine (lx_signs _).mono ?_
  rintro e w2 ⟨rfl, hb2⟩
  go_wp2_with fail
  refine wp_loop_rounds 6 ?_
  rw [rounds_succ]
  go_wp2_with fail
  go_quiet (fail)
  go_wp2_with fail
  rw [rounds_succ]
  go_wp2_with fail
  go_quiet (fail)
  go_wp2_with fail
  rw [rounds_succ]
  go_wp2_with fail
  go_quiet (fail)
  go_wp2_with fail
  rw [rounds_succ]
  go_wp2_with fail
  go_quiet (fail)
  go_wp2_with fail
  rw [rounds_succ]
  go_wp2_with fail
  go_quiet (fail)
  go_wp2_with fail
  rw [rounds_succ]
  go_wp2_with fail
  go_quiet (fail)
  go_wp2_with (refine wpList_store_rowA rfl 92 (.tmp 11) (.tmp 48) rfl w2.heap.size (tokCs 13 [] a0 ((a0 : Int) + 1)) rfl rfl 92 (tokCs 0 [] 0 0) (heap_alloc_new _ _) sizeTok rfl (tokCs_one _ _ _ _) ?_)
  intro w3 hg3 hgr hsz
  have hb3 : Below W.heap.size W w3 := ((hb2.drewN _).al _).grown hgr (by have := hb2.size; simp; omega) (by intro k hk; injection hk with hk; have := hb2.size; omega)
  have hcell : Hid (w3.heap[w.heap.size]? = some (.cells (tokCs 0 [] 0 0) 92)) := (hb3.block _ hWs).trans hW.out
  have hg2 : W.heap.size ≤ w2.heap.size := hb2.size
  have hs3 : w2.heap.size < w3.heap.size := by have h := hsz.out; first | omega | (simp at h; omega)
  clear hgr hsz hb2
  have hk3 : w3.cell? ⟨w2.heap.size, 3, none⟩ = some (.int .i64 ((a0 : Int) + 1)) := cell_of_row _ _ _ _ _ _ hg3.out
  have hf3 : w3.frozen? ⟨w2.heap.size, 3, none⟩ = false := frozen_of_row _ _ _ _ _ hg3.out
  go_wp2_with fail
  go_quiet (fail)
  go_wp2_with (first
    | (refine wpList_load_row rfl 92 (.tmp 11) rfl w2.heap.size rfl 92 (tokCs 13 [] a0 ((a0 : Int) + 1 + 1)) (0, 0) _ (heap_setCell_same _ _ _ _ _ _ hg3.out) Tryd.underlying92 rfl sizeTok ?_)
    | (refine wpList_store_rowA rfl 92 (.tmp 4) (.tmp 71) rfl w.heap.size (tokCs 13 [] a0 ((a0 : Int) + 1 + 1)) rfl rfl 92 (tokCs 0 [] 0 0) ((heap_setCell_other _ _ _ _ (by show w.heap.size ≠ w2.heap.size; omega)).trans hcell.out) sizeTok rfl (tokCs_one _ _ _ _) ?_))
  intro w4 hg4 hgr hsz
  have hb4 : Below w.heap.size w w4 := ((hWb.trans ((hb3.drewN _).mono (by omega))).setCell (by show w.heap.size ≤ w2.heap.size; omega) _).grown hgr (by have := hb3.size; simp; omega) (by intro k hk; injection hk with hk; omega)
  clear hgr hsz
  go_wp2_with fail
  refine bodyPost_ret (v := .tuple #[.agg (tokCs 13 [] a0 ((a0 : Int) + 1 + 1)), .bool true]) ?_ rfl (NPost.of hnx.out (by show tokCs _ _ _ _ = tokCs _ _ _ _; congr 1) hb4)
  exact results_cell2 rfl _ _ w.heap.size 92 _ (0, 0) _ rfl hg4.out Tryd.underlying92 rfl sizeTok _ rfl

set_option maxHeartbeats 2000000 in
theorem lx_next_5no (s : ByteArray) (a0 : Nat) (w : World) (hs : s.size ≤ 4194304) (hlt : a0 < s.size) (hc : bat s a0 = 58) (hlt1 : a0 + 1 < s.size) (hd : ¬ bat s (a0 + 1) = 45) :
    Calls Tryd.prog 71 #[.string s, .int .i64 a0] w (NPost s a0 w) := by
  have hidx := fun w => run_index_str (P := Tryd.prog) Tryd.underlying9 s a0 hlt w
  have hi0 : (a0 : Int) < (s.size : Int) := by omega
  have hnx : Hid (nextT ((bl s).drop a0) a0 = (⟨13, [], a0, a0 + 1⟩, false)) := by
    show _ = _; rw [drop_bl s a0 hlt, drop_bl s (a0 + 1) hlt1]; exact next_sign2n _ _ _ _ 45 (by show ¬ bat s a0 = 34; omega) (by show signI (bat s a0) = _; rw [hc]; rfl) (by show decide (bat s (a0 + 1) = 45) = false; exact decide_eq_false hd)
  have g34 : (bat s a0 == 34) = false := by simp [hc]
  have g0 : (bat s a0 != 40) = true := by simp [hc]
  have ia0 := sg_i0
  have ib0 := sg_a0
  have g1 : (bat s a0 != 41) = true := by simp [hc]
  have ia1 := sg_i1
  have ib1 := sg_a1
  have g2 : (bat s a0 != 44) = true := by simp [hc]
  have ia2 := sg_i2
  have ib2 := sg_a2
  have g3 : (bat s a0 != 46) = true := by simp [hc]
  have ia3 := sg_i3
  have ib3 := sg_a3
  have g4 : (bat s a0 != 47) = true := by simp [hc]
  have ia4 := sg_i4
  have ib4 := sg_a4
  have g5 : (bat s a0 != 58) = false := by simp [hc]
  have ia5 := sg_i5
  have ib5 := sg_a5
  have ic := sg_b5
  have hidx1 := fun w => run_index_str (P := Tryd.prog) Tryd.underlying9 s (a0 + 1) hlt1 w
  rw [show ((a0 + 1 : Nat) : Int) = (a0 : Int) + 1 from by omega] at hidx1
  have hi1 : (a0 : Int) + 1 < (s.size : Int) := by omega
  have v1 : IntKind.i64.wrap ((a0 : Int) + 1) = (a0 : Int) + 1 := IntWalk.i64_in _ (by omega)
  have ge : ((a0 : Int) + 1 == (s.size : Int)) = false := by rw [beq_eq_false_iff_ne]; omega
  have gd : (bat s (a0 + 1) != 45) = true := by simp [hd]
  clear hd
  clear hc
  have hW : Hid ((w.alloc (.cells #[.int .i64 0, .string ⟨#[]⟩, .int .i64 0, .int .i64 0] 92)).heap[w.heap.size]? = some (.cells (tokCs 0 [] 0 0) 92)) := heap_alloc_new _ _
  have hWb : Below w.heap.size w (w.alloc (.cells #[.int .i64 0, .string ⟨#[]⟩, .int .i64 0, .int .i64 0] 92)) := (Below.refl _ _).al _
  have hWs : w.heap.size < (w.alloc (.cells #[.int .i64 0, .string ⟨#[]⟩, .int .i64 0, .int .i64 0] 92)).heap.size := by simp
  go_enter Tryd.func71, Tryd.ntmps71
  go_wp2_with fail
  generalize w.alloc (.cells #[.int .i64 0, .string ⟨#[]⟩, .int .i64 0, .int .i64 0] 92) = W at hW hWb hWs ⊢
  refine (lx_signs _).mono ?_
  rintro e w2 ⟨rfl, hb2⟩
  go_wp2_with fail
  refine wp_loop_rounds 6 ?_
  rw [rounds_succ]
  go_wp2_with fail
  go_quiet (fail)
  go_wp2_with fail
  rw [rounds_succ]
  go_wp2_with fail
  go_quiet (fail)
  go_wp2_with fail
  rw [rounds_succ]
  go_wp2_with fail
  go_quiet (fail)
  go_wp2_with fail
  rw [rounds_succ]
  go_wp2_with fail
  go_quiet (fail)
  go_wp2_with fail
  rw [rounds_succ]
  go_wp2_with fail
  go_quiet (fail)
  go_wp2_with fail
  rw [rounds_succ]
  go_wp2_with fail
  go_quiet (fail)
  go_wp2_with (refine wpList_store_rowA rfl 92 (.tmp 11) (.tmp 48) rfl w2.heap.size (tokCs 13 [] a0 ((a0 : Int) + 1)) rfl rfl 92 (tokCs 0 [] 0 0) (heap_alloc_new _ _) sizeTok rfl (tokCs_one _ _ _ _) ?_)
  intro w3 hg3 hgr hsz
  have hb3 : Below W.heap.size W w3 := ((hb2.drewN _).al _).grown hgr (by have := hb2.size; simp; omega) (by intro k hk; injection hk with hk; have := hb2.size; omega)
  have hcell : Hid (w3.heap[w.heap.size]? = some (.cells (tokCs 0 [] 0 0) 92)) := (hb3.block _ hWs).trans hW.out
  have hg2 : W.heap.size ≤ w2.heap.size := hb2.size
  have hs3 : w2.heap.size < w3.heap.size := by have h := hsz.out; first | omega | (simp at h; omega)
  clear hgr hsz hb2
  go_wp2_with fail
  go_quiet (fail)
  go_wp2_with (first
    | (refine wpList_load_row rfl 92 (.tmp 11) rfl w2.heap.size rfl 92 (tokCs 13 [] a0 ((a0 : Int) + 1)) (0, 0) _ hg3.out Tryd.underlying92 rfl sizeTok ?_)
    | (refine wpList_store_rowA rfl 92 (.tmp 4) (.tmp 66) rfl w.heap.size (tokCs 13 [] a0 ((a0 : Int) + 1)) rfl rfl 92 (tokCs 0 [] 0 0) hcell.out sizeTok rfl (tokCs_one _ _ _ _) ?_))
  intro w4 hg4 hgr hsz
  have hb4 : Below w.heap.size w w4 := (hWb.trans ((hb3.drewN _).mono (by omega))).grown hgr (by have := hb3.size; show w.heap.size ≤ w3.heap.size; omega) (by intro k hk; injection hk with hk; omega)
  clear hgr hsz
  go_wp2_with fail
  refine bodyPost_ret (v := .tuple #[.agg (tokCs 13 [] a0 ((a0 : Int) + 1)), .bool false]) ?_ rfl (NPost.of hnx.out rfl hb4)
  exact results_cell2 rfl _ _ w.heap.size 92 _ (0, 0) _ rfl hg4.out Tryd.underlying92 rfl sizeTok _ rfl

set_option maxHeartbeats 2000000 in
theorem lx_next_5end (s : ByteArray) (a0 : Nat) (w : World) (hs : s.size ≤ 4194304) (hlt : a0 < s.size) (hc : bat s a0 = 58) (hlt1 : ¬ a0 + 1 < s.size) :
    Calls Tryd.prog 71 #[.string s, .int .i64 a0] w (NPost s a0 w) := by
  have hidx := fun w => run_index_str (P := Tryd.prog) Tryd.underlying9 s a0 hlt w
  have hi0 : (a0 : Int) < (s.size : Int) := by omega
  have hnx : Hid (nextT ((bl s).drop a0) a0 = (⟨13, [], a0, a0 + 1⟩, false)) := by
    show _ = _; rw [drop_bl s a0 hlt, drop_bl_end s (a0 + 1) (by omega)]; exact next_sign2n _ _ _ _ 45 (by show ¬ bat s a0 = 34; omega) (by show signI (bat s a0) = _; rw [hc]; rfl) rfl
  have g34 : (bat s a0 == 34) = false := by simp [hc]
  have g0 : (bat s a0 != 40) = true := by simp [hc]
  have ia0 := sg_i0
  have ib0 := sg_a0
  have g1 : (bat s a0 != 41) = true := by simp [hc]
  have ia1 := sg_i1
  have ib1 := sg_a1
  have g2 : (bat s a0 != 44) = true := by simp [hc]
  have ia2 := sg_i2
  have ib2 := sg_a2
  have g3 : (bat s a0 != 46) = true := by simp [hc]
  have ia3 := sg_i3
  have ib3 := sg_a3
  have g4 : (bat s a0 != 47) = true := by simp [hc]
  have ia4 := sg_i4
  have ib4 := sg_a4
  have g5 : (bat s a0 != 58) = false := by simp [hc]
  have ia5 := sg_i5
  have ib5 := sg_a5
  have v1 : IntKind.i64.wrap ((a0 : Int) + 1) = (a0 : Int) + 1 := IntWalk.i64_in _ (by omega)
  have ge : ((a0 : Int) + 1 == (s.size : Int)) = true := by rw [beq_iff_eq]; omega
  clear hc
  have hW : Hid ((w.alloc (.cells #[.int .i64 0, .string ⟨#[]⟩, .int .i64 0, .int .i64 0] 92)).heap[w.heap.size]? = some (.cells (tokCs 0 [] 0 0) 92)) := heap_alloc_new _ _
  have hWb : Below w.heap.size w (w.alloc (.cells #[.int .i64 0, .string ⟨#[]⟩, .int .i64 0, .int .i64 0] 92)) := (Below.refl _ _).al _
  have hWs : w.heap.size < (w.alloc (.cells #[.int .i64 0, .string ⟨#[]⟩, .int .i64 0, .int .i64 0] 92)).heap.size := by simp
  go_enter Tryd.func71, Tryd.ntmps71
  go_wp2_with fail
  generalize w.alloc (.cells #[.int .i64 0, .string ⟨#[]⟩, .int .i64 0, .int .i64 0] 92) = W at hW hWb hWs ⊢
  refine (lx_signs _).mono ?_
  rintro e w2 ⟨rfl, hb2⟩
  go_wp2_with fail
  refine wp_loop_rounds 6 ?_
  rw [rounds_succ]
  go_wp2_with fail
  go_quiet (fail)
  go_wp2_with fail
  rw [rounds_succ]
  go_wp2_with fail
  go_quiet (fail)
  go_wp2_with fail
  rw [rounds_succ]
  go_wp2_with fail
  go_quiet (fail)
  go_wp2_with fail
  rw [rounds_succ]
  go_wp2_with fail
  go_quiet (fail)
  go_wp2_with fail
  rw [rounds_succ]
  go_wp2_with fail
  go_quiet (fail)
  go_wp2_with fail
  rw [rounds_succ]
  go_wp2_with fail
  go_quiet (fail)
  go_wp2_with (refine wpList_store_rowA rfl 92 (.tmp 11) (.tmp 48) rfl w2.heap.size (tokCs 13 [] a0 ((a0 : Int) + 1)) rfl rfl 92 (tokCs 0 [] 0 0) (heap_alloc_new _ _) sizeTok rfl (tokCs_one _ _ _ _) ?_)
  intro w3 hg3 hgr hsz
  have hb3 : Below W.heap.size W w3 := ((hb2.drewN _).al _).grown hgr (by have := hb2.size; simp; omega) (by intro k hk; injection hk with hk; have := hb2.size; omega)
  have hcell : Hid (w3.heap[w.heap.size]? = some (.cells (tokCs 0 [] 0 0) 92)) := (hb3.block _ hWs).trans hW.out
  have hg2 : W.heap.size ≤ w2.heap.size := hb2.size
  have hs3 : w2.heap.size < w3.heap.size := by have h := hsz.out; first | omega | (simp at h; omega)
  clear hgr hsz hb2
  go_wp2_with fail
  go_quiet (fail)
  go_wp2_with (first
    | (refine wpList_load_row rfl 92 (.tmp 11) rfl w2.heap.size rfl 92 (tokCs 13 [] a0 ((a0 : Int) + 1)) (0, 0) _ hg3.out Tryd.underlying92 rfl sizeTok ?_)
    | (refine wpList_store_rowA rfl 92 (.tmp 4) (.tmp 66) rfl w.heap.size (tokCs 13 [] a0 ((a0 : Int) + 1)) rfl rfl 92 (tokCs 0 [] 0 0) hcell.out sizeTok rfl (tokCs_one _ _ _ _) ?_))
  intro w4 hg4 hgr hsz
  have hb4 : Below w.heap.size w w4 := (hWb.trans ((hb3.drewN _).mono (by omega))).grown hgr (by have := hb3.size; show w.heap.size ≤ w3.heap.size; omega) (by intro k hk; injection hk with hk; omega)
  clear hgr hsz
  go_wp2_with fail
  refine bodyPost_ret (v := .tuple #[.agg (tokCs 13 [] a0 ((a0 : Int) + 1)), .bool false]) ?_ rfl (NPost.of hnx.out rfl hb4)
  exact results_cell2 rfl _ _ w.heap.size 92 _ (0, 0) _ rfl hg4.out Tryd.underlying92 rfl sizeTok _ rfl

set_option maxHeartbeats 2000000 in
theorem lx_next_6ok (s : ByteArray) (a0 : Nat) (w : World) (hs : s.size ≤ 4194304) (hlt : a0 < s.size) (hc : bat s a0 = 33) (hlt1 : a0 + 1 < s.size) (hd : bat s (a0 + 1) = 61) :
    Calls Tryd.prog 71 #[.string s, .int .i64 a0] w (NPost s a0 w) := by
  have hidx := fun w => run_index_str (P := Tryd.prog) Tryd.underlying9 s a0 hlt w
  have hi0 : (a0 : Int) < (s.size : Int) := by omega
  have hnx : Hid (nextT ((bl s).drop a0) a0 = (⟨14, [], a0, a0 + 2⟩, true)) := by
    show _ = _; rw [drop_bl s a0 hlt, drop_bl s (a0 + 1) hlt1]; exact next_sign2 _ _ _ _ _ 61 (by show ¬ bat s a0 = 34; omega) (by show signI (bat s a0) = _; rw [hc]; rfl) hd
  have g34 : (bat s a0 == 34) = false := by simp [hc]
  have g0 : (bat s a0 != 40) = true := by simp [hc]
  have ia0 := sg_i0
  have ib0 := sg_a0
  have g1 : (bat s a0 != 41) = true := by simp [hc]
  have ia1 := sg_i1
  have ib1 := sg_a1
  have g2 : (bat s a0 != 44) = true := by simp [hc]
  have ia2 := sg_i2
  have ib2 := sg_a2
  have g3 : (bat s a0 != 46) = true := by simp [hc]
  have ia3 := sg_i3
  have ib3 := sg_a3
  have g4 : (bat s a0 != 47) = true := by simp [hc]
  have ia4 := sg_i4
  have ib4 := sg_a4
  have g5 : (bat s a0 != 58) = true := by simp [hc]
  have ia5 := sg_i5
  have ib5 := sg_a5
  have g6 : (bat s a0 != 33) = false := by simp [hc]
  have ia6 := sg_i6
  have ib6 := sg_a6
  have ic := sg_b6
  have hidx1 := fun w => run_index_str (P := Tryd.prog) Tryd.underlying9 s (a0 + 1) hlt1 w
  rw [show ((a0 + 1 : Nat) : Int) = (a0 : Int) + 1 from by omega] at hidx1
  have hi1 : (a0 : Int) + 1 < (s.size : Int) := by omega
  have v1 : IntKind.i64.wrap ((a0 : Int) + 1) = (a0 : Int) + 1 := IntWalk.i64_in _ (by omega)
  have ge : ((a0 : Int) + 1 == (s.size : Int)) = false := by rw [beq_eq_false_iff_ne]; omega
  have gd : (bat s (a0 + 1) != 61) = false := by simp [hd]
  clear hd
  clear hc
  have hW : Hid ((w.alloc (.cells #[.int .i64 0, .string ⟨#[]⟩, .int .i64 0, .int .i64 0] 92)).heap[w.heap.size]? = some (.cells (tokCs 0 [] 0 0) 92)) := heap_alloc_new _ _
  have hWb : Below w.heap.size w (w.alloc (.cells #[.int .i64 0, .string ⟨#[]⟩, .int .i64 0, .int .i64 0] 92)) := (Below.refl _ _).al _
  have hWs : w.heap.size < (w.alloc (.cells #[.int .i64 0, .string ⟨#[]⟩, .int .i64 0, .int .i64 0] 92)).heap.size := by simp
  go_enter Tryd.func71, Tryd.ntmps71
  go_wp2_with fail
  generalize w.alloc (.cells #[.int .i64 0, .string ⟨#[]⟩, .int .i64 0, .int .i64 0] 92) = W at hW hWb hWs ⊢
  refine (lx_signs _).mono ?_
  rintro e w2 ⟨rfl, hb2⟩
  go_wp2_with fail
  refine wp_loop_rounds 7 ?_
  rw [rounds_succ]
  go_wp2_with fail
  go_quiet (fail)
  go_wp2_with fail
  rw [rounds_succ]
  go_wp2_with fail
  go_quiet (fail)
  go_wp2_with fail
  rw [rounds_succ]
  go_wp2_with fail
  go_quiet (fail)
  go_wp2_with fail
  rw [rounds_succ]
  go_wp2_with fail
  go_quiet (fail)
  go_wp2_with fail
  rw [rounds_succ]
  go_wp2_with fail
  go_quiet (fail)
  go_wp2_with fail
  rw [rounds_succ]
  go_wp2_with fail
  go_quiet (fail)
  go_wp2_with fail
  rw [rounds_succ]
  go_wp2_with fail
  go_quiet (fail)
  go_wp2_with (refine wpList_store_rowA rfl 92 (.tmp 11) (.tmp 48) rfl w2.heap.size (tokCs 14 [] a0 ((a0 : Int) + 1)) rfl rfl 92 (tokCs 0 [] 0 0) (heap_alloc_new _ _) sizeTok rfl (tokCs_one _ _ _ _) ?_)
  intro w3 hg3 hgr hsz
  have hb3 : Below W.heap.size W w3 := ((hb2.drewN _).al _).grown hgr (by have := hb2.size; simp; omega) (by intro k hk; injection hk with hk; have := hb2.size; omega)
  have hcell : Hid (w3.heap[w.heap.size]? = some (.cells (tokCs 0 [] 0 0) 92)) := (hb3.block _ hWs).trans hW.out
  have hg2 : W.heap.size ≤ w2.heap.size := hb2.size
  have hs3 : w2.heap.size < w3.heap.size := by have h := hsz.out; first | omega | (simp at h; omega)
  clear hgr hsz hb2
  have hk3 : w3.cell? ⟨w2.heap.size, 3, none⟩ = some (.int .i64 ((a0 : Int) + 1)) := cell_of_row _ _ _ _ _ _ hg3.out
  have hf3 : w3.frozen? ⟨w2.heap.size, 3, none⟩ = false := frozen_of_row _ _ _ _ _ hg3.out
  go_wp2_with fail
  go_quiet (fail)
  go_wp2_with (first
    | (refine wpList_load_row rfl 92 (.tmp 11) rfl w2.heap.size rfl 92 (tokCs 14 [] a0 ((a0 : Int) + 1 + 1)) (0, 0) _ (heap_setCell_same _ _ _ _ _ _ hg3.out) Tryd.underlying92 rfl sizeTok ?_)
    | (refine wpList_store_rowA rfl 92 (.tmp 4) (.tmp 71) rfl w.heap.size (tokCs 14 [] a0 ((a0 : Int) + 1 + 1)) rfl rfl 92 (tokCs 0 [] 0 0) ((heap_setCell_other _ _ _ _ (by show w.heap.size ≠ w2.heap.size; omega)).trans hcell.out) sizeTok rfl (tokCs_one _ _ _ _) ?_))
  intro w4 hg4 hgr hsz
  have hb4 : Below w.heap.size w w4 := ((hWb.trans ((hb3.drewN _).mono (by omega))).setCell (by show w.heap.size ≤ w2.heap.size; omega) _).grown hgr (by have := hb3.size; simp; omega) (by intro k hk; injection hk with hk; omega)
  clear hgr hsz
  go_wp2_with fail
  refine bodyPost_ret (v := .tuple #[.agg (tokCs 14 [] a0 ((a0 : Int) + 1 + 1)), .bool true]) ?_ rfl (NPost.of hnx.out (by show tokCs _ _ _ _ = tokCs _ _ _ _; congr 1) hb4)
  exact results_cell2 rfl _ _ w.heap.size 92 _ (0, 0) _ rfl hg4.out Tryd.underlying92 rfl sizeTok _ rfl

set_option maxHeartbeats 2000000 in
theorem lx_next_6no (s : ByteArray) (a0 : Nat) (w : World) (hs : s.size ≤ 4194304) (hlt : a0 < s.size) (hc : bat s a0 = 33) (hlt1 : a0 + 1 < s.size) (hd : ¬ bat s (a0 + 1) = 61) :
    Calls Tryd.prog 71 #[.string s, .int .i64 a0] w (NPost s a0 w) := by
  have hidx := fun w => run_index_str (P := Tryd.prog) Tryd.underlying9 s a0 hlt w
  have hi0 : (a0 : Int) < (s.size : Int) := by omega
  have hnx : Hid (nextT ((bl s).drop a0) a0 = (⟨14, [], a0, a0 + 1⟩, false)) := by
    show _ = _; rw [drop_bl s a0 hlt, drop_bl s (a0 + 1) hlt1]; exact next_sign2n _ _ _ _ 61 (by show ¬ bat s a0 = 34; omega) (by show signI (bat s a0) = _; rw [hc]; rfl) (by show decide (bat s (a0 + 1) = 61) = false; exact decide_eq_false hd)
  have g34 : (bat s a0 == 34) = false := by simp [hc]
  have g0 : (bat s a0 != 40) = true := by simp [hc]
  have ia0 := sg_i0
  have ib0 := sg_a0
  have g1 : (bat s a0 != 41) = true := by simp [hc]
  have ia1 := sg_i1
  have ib1 := sg_a1
  have g2 : (bat s a0 != 44) = true := by simp [hc]
  have ia2 := sg_i2
  have ib2 := sg_a2
  have g3 : (bat s a0 != 46) = true := by simp [hc]
  have ia3 := sg_i3
  have ib3 := sg_a3
  have g4 : (bat s a0 != 47) = true := by simp [hc]
  have ia4 := sg_i4
  have ib4 := sg_a4
  have g5 : (bat s a0 != 58) = true := by simp [hc]
  have ia5 := sg_i5
  have ib5 := sg_a5
  have g6 : (bat s a0 != 33) = false := by simp [hc]
  have ia6 := sg_i6
  have ib6 := sg_a6
  have ic := sg_b6
  have hidx1 := fun w => run_index_str (P := Tryd.prog) Tryd.underlying9 s (a0 + 1) hlt1 w
  rw [show ((a0 + 1 : Nat) : Int) = (a0 : Int) + 1 from by omega] at hidx1
  have hi1 : (a0 : Int) + 1 < (s.size : Int) := by omega
  have v1 : IntKind.i64.wrap ((a0 : Int) + 1) = (a0 : Int) + 1 := IntWalk.i64_in _ (by omega)
  have ge : ((a0 : Int) + 1 == (s.size : Int)) = false := by rw [beq_eq_false_iff_ne]; omega
  have gd : (bat s (a0 + 1) != 61) = true := by simp [hd]
  clear hd
  clear hc
  have hW : Hid ((w.alloc (.cells #[.int .i64 0, .string ⟨#[]⟩, .int .i64 0, .int .i64 0] 92)).heap[w.heap.size]? = some (.cells (tokCs 0 [] 0 0) 92)) := heap_alloc_new _ _
  have hWb : Below w.heap.size w (w.alloc (.cells #[.int .i64 0, .string ⟨#[]⟩, .int .i64 0, .int .i64 0] 92)) := (Below.refl _ _).al _
  have hWs : w.heap.size < (w.alloc (.cells #[.int .i64 0, .string ⟨#[]⟩, .int .i64 0, .int .i64 0] 92)).heap.size := by simp
  go_enter Tryd.func71, Tryd.ntmps71
  go_wp2_with fail
  generalize w.alloc (.cells #[.int .i64 0, .string ⟨#[]⟩, .int .i64 0, .int .i64 0] 92) = W at hW hWb hWs ⊢
  refine (lx_signs _).mono ?_
  rintro e w2 ⟨rfl, hb2⟩
  go_wp2_with fail
  refine wp_loop_rounds 7 ?_
  rw [rounds_succ]
  go_wp2_with fail
  go_quiet (fail)
  go_wp2_with fail
  rw [rounds_succ]
  go_wp2_with fail
  go_quiet (fail)
  go_wp2_with fail
  rw [rounds_succ]
  go_wp2_with fail
  go_quiet (fail)
  go_wp2_with fail
  rw [rounds_succ]
  go_wp2_with fail
  go_quiet (fail)
  go_wp2_with fail
  rw [rounds_succ]
  go_wp2_with fail
  go_quiet (fail)
  go_wp2_with fail
  rw [rounds_succ]
  go_wp2_with fail
  go_quiet (fail)
  go_wp2_with fail
  rw [rounds_succ]
  go_wp2_with fail
  go_quiet (fail)
  go_wp2_with (refine wpList_store_rowA rfl 92 (.tmp 11) (.tmp 48) rfl w2.heap.size (tokCs 14 [] a0 ((a0 : Int) + 1)) rfl rfl 92 (tokCs 0 [] 0 0) (heap_alloc_new _ _) sizeTok rfl (tokCs_one _ _ _ _) ?_)
  intro w3 hg3 hgr hsz
  have hb3 : Below W.heap.size W w3 := ((hb2.drewN _).al _).grown hgr (by have := hb2.size; simp; omega) (by intro k hk; injection hk with hk; have := hb2.size; omega)
  have hcell : Hid (w3.heap[w.heap.size]? = some (.cells (tokCs 0 [] 0 0) 92)) := (hb3.block _ hWs).trans hW.out
  have hg2 : W.heap.size ≤ w2.heap.size := hb2.size
  have hs3 : w2.heap.size < w3.heap.size := by have h := hsz.out; first | omega | (simp at h; omega)
  clear hgr hsz hb2
  go_wp2_with fail
  go_quiet (fail)
  go_wp2_with (first
    | (refine wpList_load_row rfl 92 (.tmp 11) rfl w2.heap.size rfl 92 (tokCs 14 [] a0 ((a0 : Int) + 1)) (0, 0) _ hg3.out Tryd.underlying92 rfl sizeTok ?_)
    | (refine wpList_store_rowA rfl 92 (.tmp 4) (.tmp 66) rfl w.heap.size (tokCs 14 [] a0 ((a0 : Int) + 1)) rfl rfl 92 (tokCs 0 [] 0 0) hcell.out sizeTok rfl (tokCs_one _ _ _ _) ?_))
  intro w4 hg4 hgr hsz
  have hb4 : Below w.heap.size w w4 := (hWb.trans ((hb3.drewN _).mono (by omega))).grown hgr (by have := hb3.size; show w.heap.size ≤ w3.heap.size; omega) (by intro k hk; injection hk with hk; omega)
  clear hgr hsz
  go_wp2_with fail
  refine bodyPost_ret (v := .tuple #[.agg (tokCs 14 [] a0 ((a0 : Int) + 1)), .bool false]) ?_ rfl (NPost.of hnx.out rfl hb4)
  exact results_cell2 rfl _ _ w.heap.size 92 _ (0, 0) _ rfl hg4.out Tryd.underlying92 rfl sizeTok _ rfl

set_option maxHeartbeats 2000000 in
theorem lx_next_6end (s : ByteArray) (a0 : Nat) (w : World) (hs : s.size ≤ 4194304) (hlt : a0 < s.size) (hc : bat s a0 = 33) (hlt1 : ¬ a0 + 1 < s.size) :
    Calls Tryd.prog 71 #[.string s, .int .i64 a0] w (NPost s a0 w) := by
  have hidx := fun w => run_index_str (P := Tryd.prog) Tryd.underlying9 s a0 hlt w
  have hi0 : (a0 : Int) < (s.size : Int) := by omega
  have hnx : Hid (nextT ((bl s).drop a0) a0 = (⟨14, [], a0, a0 + 1⟩, false)) := by
    show _ = _; rw [drop_bl s a0 hlt, drop_bl_end s (a0 + 1) (by omega)]; exact next_sign2n _ _ _ _ 61 (by show ¬ bat s a0 = 34; omega) (by show signI (bat s a0) = _; rw [hc]; rfl) rfl
  have g34 : (bat s a0 == 34) = false := by simp [hc]
  have g0 : (bat s a0 != 40) = true := by simp [hc]
  have ia0 := sg_i0
  have ib0 := sg_a0
  have g1 : (bat s a0 != 41) = true := by simp [hc]
  have ia1 := sg_i1
  have ib1 := sg_a1
  have g2 : (bat s a0 != 44) = true := by simp [hc]
  have ia2 := sg_i2
  have ib2 := sg_a2
  have g3 : (bat s a0 != 46) = true := by simp [hc]
  have ia3 := sg_i3
  have ib3 := sg_a3
  have g4 : (bat s a0 != 47) = true := by simp [hc]
  have ia4 := sg_i4
  have ib4 := sg_a4
  have g5 : (bat s a0 != 58) = true := by simp [hc]
  have ia5 := sg_i5
  have ib5 := sg_a5
  have g6 : (bat s a0 != 33) = false := by simp [hc]
  have ia6 := sg_i6
  have ib6 := sg_a6
  have v1 : IntKind.i64.wrap ((a0 : Int) + 1) = (a0 : Int) + 1 := IntWalk.i64_in _ (by omega)
  have ge : ((a0 : Int) + 1 == (s.size : Int)) = true := by rw [beq_iff_eq]; omega
  clear hc
  have hW : Hid ((w.alloc (.cells #[.int .i64 0, .string ⟨#[]⟩, .int .i64 0, .int .i64 0] 92)).heap[w.heap.size]? = some (.cells (tokCs 0 [] 0 0) 92)) := heap_alloc_new _ _
  have hWb : Below w.heap.size w (w.alloc (.cells #[.int .i64 0, .string ⟨#[]⟩, .int .i64 0, .int .i64 0] 92)) := (Below.refl _ _).al _
  have hWs : w.heap.size < (w.alloc (.cells #[.int .i64 0, .string ⟨#[]⟩, .int .i64 0, .int .i64 0] 92)).heap.size := by simp
  go_enter Tryd.func71, Tryd.ntmps71
  go_wp2_with fail
  generalize w.alloc (.cells #[.int .i64 0, .string ⟨#[]⟩, .int .i64 0, .int .i64 0] 92) = W at hW hWb hWs ⊢
  refine (lx_signs _).mono ?_
  rintro e w2 ⟨rfl, hb2⟩
  go_wp2_with fail
  refine wp_loop_rounds 7 ?_
  rw [rounds_succ]
  go_wp2_with fail
  go_quiet (fail)
  go_wp2_with fail
  rw [rounds_succ]
  go_wp2_with fail
  go_quiet (fail)
  go_wp2_with fail
  rw [rounds_succ]
  go_wp2_with fail
  go_quiet (fail)
  go_wp2_with fail
  rw [rounds_succ]
  go_wp2_with fail
  go_quiet (fail)
  go_wp2_with fail
  rw [rounds_succ]
  go_wp2_with fail
  go_quiet (fail)
  go_wp2_with fail
  rw [rounds_succ]
  go_wp2_with fail
  go_quiet (fail)
  go_wp2_with fail
  rw [rounds_succ]
  go_wp2_with fail
  go_quiet (fail)
  go_wp2_with (refine wpList_store_rowA rfl 92 (.tmp 11) (.tmp 48) rfl w2.heap.size (tokCs 14 [] a0 ((a0 : Int) + 1)) rfl rfl 92 (tokCs 0 [] 0 0) (heap_alloc_new _ _) sizeTok rfl (tokCs_one _ _ _ _) ?_)
  intro w3 hg3 hgr hsz
  have hb3 : Below W.heap.size W w3 := ((hb2.drewN _).al _).grown hgr (by have := hb2.size; simp; omega) (by intro k hk; injection hk with hk; have := hb2.size; omega)
  have hcell : Hid (w3.heap[w.heap.size]? = some (.cells (tokCs 0 [] 0 0) 92)) := (hb3.block _ hWs).trans hW.out
  have hg2 : W.heap.size ≤ w2.heap.size := hb2.size
  have hs3 : w2.heap.size < w3.heap.size := by have h := hsz.out; first | omega | (simp at h; omega)
  clear hgr hsz hb2
  go_wp2_with fail
  go_quiet (fail)
  go_wp2_with (first
    | (refine wpList_load_row rfl 92 (.tmp 11) rfl w2.heap.size rfl 92 (tokCs 14 [] a0 ((a0 : Int) + 1)) (0, 0) _ hg3.out Tryd.underlying92 rfl sizeTok ?_)
    | (refine wpList_store_rowA rfl 92 (.tmp 4) (.tmp 66) rfl w.heap.size (tokCs 14 [] a0 ((a0 : Int) + 1)) rfl rfl 92 (tokCs 0 [] 0 0) hcell.out sizeTok rfl (tokCs_one _ _ _ _) ?_))
  intro w4 hg4 hgr hsz
  have hb4 : Below w.heap.size w w4 := (hWb.trans ((hb3.drewN _).mono (by omega))).grown hgr (by have := hb3.size; show w.heap.size ≤ w3.heap.size; omega) (by intro k hk; injection hk with hk; omega)
  clear hgr hsz
  go_wp2_with fail
  refine bodyPost_ret (v := .tuple #[.agg (tokCs 14 [] a0 ((a0 : Int) + 1)), .bool false]) ?_ rfl (NPost.of hnx.out rfl hb4)
  exact results_cell2 rfl _ _ w.heap.size 92 _ (0, 0) _ rfl hg4.out Tryd.underlying92 rfl sizeTok _ rfl

end Go.Proofs.YtclioihichcpiaaDoor


/- The kind of a word: lex.kindOf and the reference's word; names, variables, numbers; blanks of the reference. -/
namespace Go.Proofs.YtclioihichcpiaaDoor
open Go.RowKit Lx

namespace Lx
def leB (c : Int) : Bool := decide (c ≤ 57)
theorem allB_imp {p q : Int → Bool} (h : ∀ c, p c = true → q c = true) {l : Bs} (hl : allB p l = true) : allB q l = true := by
  unfold allB at *
  rw [List.all_eq_true] at *
  exact fun c hc => h _ (hl c hc)
theorem digit_letter (c : Int) (h : digitB c = true) : letterB c = true := by unfold digitB at h; unfold letterB; simp at *; omega
theorem kind_size {l : Bs} (h : l.length < 1 ∨ 64 < l.length) : kindI l = 0 := by
  have h1 : writtenB l = false := by unfold writtenB; simp; omega
  have h2 : numberB l = false := by unfold numberB; simp; omega
  unfold kindI variableB nameB
  rw [if_neg (by rintro rfl; simp [sInput] at h), if_neg (by rintro rfl; simp [sOutput] at h), if_neg (by rintro rfl; simp [sNot] at h), h1, h2]
  simp
theorem kind_bad {l : Bs} (h : allB letterB l = false) : kindI l = 0 := by
  have h1 : writtenB l = false := by unfold writtenB; rw [h]; rfl
  have h2 : numberB l = false := by
    unfold numberB
    cases hd : allB digitB l
    · rfl
    · rw [allB_imp digit_letter hd] at h; cases h
  unfold kindI variableB nameB
  rw [if_neg (by rintro rfl; revert h; decide), if_neg (by rintro rfl; revert h; decide), if_neg (by rintro rfl; revert h; decide), h1, h2]
  simp
theorem all_digits {l : Bs} (h : allB letterB l = true) : allB digitB l = allB leB l := by
  rw [Bool.eq_iff_iff]
  unfold allB at *
  rw [List.all_eq_true] at h
  rw [List.all_eq_true, List.all_eq_true]
  constructor
  · intro k c hc; have := k c hc; unfold digitB at this; unfold leB; simp at *; omega
  · intro k c hc; have := k c hc; have h2 := h c hc; unfold leB at this; unfold digitB; unfold letterB at h2; simp at *; omega
theorem kind_digit {l : Bs} (h : writtenB l = true) (hf : firstB digitB l = true) : kindI l = if allB leB l = true then 3 else 0 := by
  have ha : allB letterB l = true := by unfold writtenB at h; simp at h; exact h.1
  have hn : numberB l = allB leB l := by unfold numberB; unfold writtenB at h; rw [ha] at h; rw [all_digits ha]; simp at h; simp [h]
  cases l with
  | nil => cases hf
  | cons c r =>
    have hc : 48 ≤ bi c ∧ bi c ≤ 57 := by simpa [firstB, digitB] using hf
    have hg : firstB greatB (c :: r) = false := by simp [firstB, greatB]; omega
    have hs : firstB smallB (c :: r) = false := by simp [firstB, smallB]; omega
    unfold kindI variableB nameB
    rw [hn, hg, hs, if_neg (by intro e; injection e with e; subst e; simp [bi] at hc), if_neg (by intro e; injection e with e; subst e; simp [bi] at hc), if_neg (by intro e; injection e with e; subst e; simp [bi] at hc)]
    simp
theorem not_number {l : Bs} (hf : firstB digitB l = false) : numberB l = false := by
  cases l with
  | nil => rfl
  | cons c r => unfold numberB allB; simp only [firstB] at hf; rw [List.all_cons, hf]; rfl
theorem kind_great {l : Bs} (h : writtenB l = true) (hf : firstB greatB l = true) : kindI l = 2 := by
  cases l with
  | nil => cases hf
  | cons c r =>
    have hc : 65 ≤ bi c ∧ bi c ≤ 90 := by simpa [firstB, greatB] using hf
    have hd : firstB digitB (c :: r) = false := by simp [firstB, digitB]; omega
    unfold kindI variableB
    rw [not_number hd, h, hf, if_neg (by intro e; injection e with e; subst e; simp [bi] at hc), if_neg (by intro e; injection e with e; subst e; simp [bi] at hc), if_neg (by intro e; injection e with e; subst e; simp [bi] at hc)]
    simp
theorem kind_line {l : Bs} (hf : firstB (fun c => decide (c = 95)) l = true) : kindI l = 0 := by
  cases l with
  | nil => cases hf
  | cons c r =>
    have hc : bi c = 95 := by simpa [firstB] using hf
    have hd : firstB digitB (c :: r) = false := by simp [firstB, digitB]; omega
    have hg : firstB greatB (c :: r) = false := by simp [firstB, greatB]; omega
    have hs : firstB smallB (c :: r) = false := by simp [firstB, smallB]; omega
    unfold kindI variableB nameB
    rw [not_number hd, hg, hs, if_neg (by intro e; injection e with e; subst e; simp [bi] at hc), if_neg (by intro e; injection e with e; subst e; simp [bi] at hc), if_neg (by intro e; injection e with e; subst e; simp [bi] at hc)]
    simp
theorem kind_small {l : Bs} (h : writtenB l = true) (hf : firstB smallB l = true) : kindI l = if l = sInput then 5 else if l = sOutput then 6 else if l = sNot then 7 else 1 := by
  cases l with
  | nil => cases hf
  | cons c r =>
    have hc : 97 ≤ bi c ∧ bi c ≤ 122 := by simpa [firstB, smallB] using hf
    have hd : firstB digitB (c :: r) = false := by simp [firstB, digitB]; omega
    have hg : firstB greatB (c :: r) = false := by simp [firstB, greatB]; omega
    unfold kindI
    by_cases h1 : c :: r = sInput
    · rw [if_pos h1, if_pos h1]
    · by_cases h2 : c :: r = sOutput
      · rw [if_neg h1, if_neg h1, if_pos h2, if_pos h2]
      · by_cases h3 : c :: r = sNot
        · rw [if_neg h1, if_neg h1, if_neg h2, if_neg h2, if_pos h3, if_pos h3]
        · rw [if_neg h1, if_neg h1, if_neg h2, if_neg h2, if_neg h3, if_neg h3, not_number hd]
          unfold variableB nameB reservedB
          rw [h, hg, hf]
          simp [h1, h2, h3]
end Lx

set_option maxHeartbeats 2000000 in
theorem lx_kindOf (s : ByteArray) (w : World) (hs : s.size ≤ 140737488355328) : Calls Tryd.prog 62 #[.string s] w fun e w' => e = .returned (.int .i64 (kindI (bl s))) ∧ w = w' := by
  by_cases hz1 : s.size < 1
  · have h5 : Hid (kindI (bl s) = 0) := kind_size (by rw [bl_length]; omega)
    go_enter Tryd.func62, Tryd.ntmps62
    go_wp2
    go_ret
    exact ⟨ret_int h5.out.symm, rfl⟩
  · by_cases hz2 : 64 < s.size
    · have h5 : Hid (kindI (bl s) = 0) := kind_size (by rw [bl_length]; omega)
      go_enter Tryd.func62, Tryd.ntmps62
      go_wp2
      go_ret
      exact ⟨ret_int h5.out.symm, rfl⟩
    · have hg0 : decide ((s.size : Int) < 1) = false := decide_eq_false (by omega)
      have hg1 : decide ((64 : Int) < s.size) = false := decide_eq_false (by omega)
      go_enter Tryd.func62, Tryd.ntmps62
      go_wp2
      go_loop [3, 4, 16] (fun d k i => ∃ j : Nat, j ≤ s.size ∧ i = .int .i64 j ∧ d = .bool (allB leB ((bl s).take j)) ∧ Hid (allB letterB ((bl s).take j) = true)) (fun _ _ i => s.size - (intOf i).toNat)
      case atStart => exact ⟨0, Nat.zero_le _, rfl, rfl, rfl⟩
      case round =>
        obtain ⟨j, hj, rfl, rfl, he⟩ := hrel
        by_cases hlt : j < s.size
        · have hidx := fun w => run_index_str (P := Tryd.prog) Tryd.underlying9 s j hlt w
          by_cases hl : letterB (bat s j) = true
          · have h5 : Hid (allB letterB ((bl s).take (j + 1)) = true) := by rw [allB_take _ s j hlt, he.out, hl]; rfl
            have h6 : Hid (allB leB ((bl s).take (j + 1)) = (allB leB ((bl s).take j) && decide (bat s j ≤ 57))) := allB_take _ s j hlt
            obtain ⟨A, hA⟩ : ∃ A, A = allB leB ((bl s).take j) := ⟨_, rfl⟩
            rw [← hA] at h6 ⊢
            clear he hA
            go_wp2_with (go_at_call 79; refine (lx_word _ _).mono ?_; rintro e w' ⟨rfl, rfl⟩)
            all_goals
              go_round
              case rel => exact ⟨j + 1, by omega, by go_num, by rw [h6.out]; simp_all, h5⟩
              case measure => simp [intOf]; omega
          · have hl2 : letterB (bat s j) = false := by simpa using hl
            have h5 : Hid (kindI (bl s) = 0) := kind_bad (allB_at _ s j hlt hl2)
            clear he hl
            go_wp2_with (go_at_call 79; refine (lx_word _ _).mono ?_; rintro e w' ⟨rfl, rfl⟩)
            go_ret
            exact ⟨ret_int h5.out.symm, rfl⟩
        · have hw : writtenB (bl s) = true := by
            unfold writtenB; rw [← allB_full _ s j (by omega), he.out, bl_length]; simp; omega
          have hall : allB leB ((bl s).take j) = allB leB (bl s) := allB_full _ s j (by omega)
          have hpos : 0 < s.size := by omega
          have hidx := fun w => run_index_str0 (P := Tryd.prog) Tryd.underlying9 s hpos w
          have hr := bat_range s 0
          have hw32 : IntKind.i32.wrap (bat s 0) = bat s 0 := by rw [IntKind.wrap_i32]; omega
          rw [hall]
          clear hall he
          by_cases hd : 48 ≤ bat s 0 ∧ bat s 0 ≤ 57
          · have h5 := Lib.hid (kind_digit hw (by rw [firstB_bat _ s hpos]; simpa [digitB] using hd))
            obtain ⟨A, hA⟩ : ∃ A, A = allB leB (bl s) := ⟨_, rfl⟩
            rw [← hA] at h5 ⊢
            clear hA hw
            cases A
            all_goals
              go_wp2
              go_ret
              exact ⟨ret_int (by rw [h5.out]; rfl), rfl⟩
          · by_cases hg : 65 ≤ bat s 0 ∧ bat s 0 ≤ 90
            · have h5 := Lib.hid (kind_great hw (by rw [firstB_bat _ s hpos]; simpa [greatB] using hg))
              obtain ⟨hg1', hg2'⟩ := hg
              have gd : decide (bat s 0 ≤ 57) = false := decide_eq_false (by omega)
              clear hw
              go_wp2
              go_ret
              exact ⟨ret_int h5.out.symm, rfl⟩
            · by_cases hu : bat s 0 = 95
              · have h5 := Lib.hid (kind_line (l := bl s) (by rw [firstB_bat _ s hpos]; simpa using hu))
                have gd : decide (bat s 0 ≤ 57) = false := decide_eq_false (by omega)
                have gg : decide (bat s 0 ≤ 90) = false := decide_eq_false (by omega)
                have gu : (bat s 0 == 95) = true := by simp [hu]
                have hge : 95 ≤ bat s 0 := by omega
                clear hw hu
                go_wp2
                go_ret
                exact ⟨ret_int h5.out.symm, rfl⟩
              · have hsm : 97 ≤ bat s 0 ∧ bat s 0 ≤ 122 := by
                  have hl0 : letterB (bat s 0) = true := by
                    have h1 := written_size hw
                    cases hl : letterB (bat s 0)
                    · have := allB_at letterB s 0 hpos hl
                      unfold writtenB at hw; rw [this] at hw; cases hw
                    · rfl
                  unfold letterB at hl0; simp at hl0; omega
                have h5 := Lib.hid (kind_small hw (by rw [firstB_bat _ s hpos]; simpa [smallB] using hsm))
                obtain ⟨hs1, hs2⟩ := hsm
                have gu : (bat s 0 == 95) = false := by rw [beq_eq_false_iff_ne]; exact hu
                have gd : decide (bat s 0 ≤ 57) = false := decide_eq_false (by omega)
                have gg : decide (bat s 0 ≤ 90) = false := decide_eq_false (by omega)
                have g1 := eq_str s sInput
                have g2 := eq_str s sOutput
                have g3 := eq_str s sNot
                unfold sInput at g1
                unfold sOutput at g2
                unfold sNot at g3
                clear hw hu
                by_cases e1 : bl s = sInput
                · have h6 : Hid (kindI (bl s) = 5) := by show _ = _; rw [h5.out, if_pos e1]
                  unfold sInput at e1
                  rw [decide_eq_true e1] at g1
                  clear g2 g3 e1 h5
                  go_wp2
                  go_ret
                  exact ⟨ret_int h6.out.symm, rfl⟩
                · by_cases e2 : bl s = sOutput
                  · have h6 : Hid (kindI (bl s) = 6) := by show _ = _; rw [h5.out, if_neg e1, if_pos e2]
                    unfold sInput at e1
                    unfold sOutput at e2
                    rw [decide_eq_false e1] at g1
                    rw [decide_eq_true e2] at g2
                    clear g3 e1 e2 h5
                    go_wp2
                    go_ret
                    exact ⟨ret_int h6.out.symm, rfl⟩
                  · by_cases e3 : bl s = sNot
                    · have h6 : Hid (kindI (bl s) = 7) := by show _ = _; rw [h5.out, if_neg e1, if_neg e2, if_pos e3]
                      unfold sInput at e1
                      unfold sOutput at e2
                      unfold sNot at e3
                      rw [decide_eq_false e1] at g1
                      rw [decide_eq_false e2] at g2
                      rw [decide_eq_true e3] at g3
                      clear e1 e2 e3 h5
                      go_wp2
                      go_ret
                      exact ⟨ret_int h6.out.symm, rfl⟩
                    · have h6 : Hid (kindI (bl s) = 1) := by show _ = _; rw [h5.out, if_neg e1, if_neg e2, if_neg e3]
                      unfold sInput at e1
                      unfold sOutput at e2
                      unfold sNot at e3
                      rw [decide_eq_false e1] at g1
                      rw [decide_eq_false e2] at g2
                      rw [decide_eq_false e3] at g3
                      clear e1 e2 e3 h5
                      go_wp2
                      go_ret
                      exact ⟨ret_int h6.out.symm, rfl⟩

end Go.Proofs.YtclioihichcpiaaDoor
