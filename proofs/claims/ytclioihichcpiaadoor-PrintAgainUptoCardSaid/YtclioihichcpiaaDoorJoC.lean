/- lex.next: words. -/
import Derived.Test.YtclioihichcpiaaDoorProg
import Derived.Test.YtclioihichcpiaaDoorBase
import Derived.Test.YtclioihichcpiaaDoorBytes
import Derived.Test.YtclioihichcpiaaDoorJoA
import Derived.Test.YtclioihichcpiaaDoorJoB
import Derived.Deep.RegionWith
import Derived.BigRegion
import Derived.Laws.NewBlocks
import Derived.Lib.Strings
namespace Go.Proofs.YtclioihichcpiaaDoor
open Go.RowKit Lx

theorem extract_mk' (s : ByteArray) (a b : Nat) : s.extract a b = mk (((bl s).drop a).take (b - a)) := by
  apply bl_inj; rw [bl_mk]; exact Lib.extract_data s a b

namespace Lx
def wpred (nb : Bool) (c : UInt8) : Bool := letterB (bi c) && (!nb || digitB (bi c))
theorem wordN_pred (l : Bs) : wordN l = ((l.take 64).takeWhile (wpred (firstB digitB l))).length := rfl
theorem next_word (c : UInt8) (r : Bs) (at_ : Nat) (h : ¬ bi c = 34) (hs : signI (bi c) = none) :
    nextT (c :: r) at_ = if kindI ((c :: r).take (wordN (c :: r))) = 0 then (zeroTok, false)
      else (⟨kindI ((c :: r).take (wordN (c :: r))), if reservedB ((c :: r).take (wordN (c :: r))) then [] else (c :: r).take (wordN (c :: r)), at_, at_ + wordN (c :: r)⟩, true) := by
  unfold nextT; simp only []; rw [if_neg h, hs]
end Lx

/-- what is left of the word's 64 bytes, at the place m -/
def restW (s : ByteArray) (a0 m : Nat) : Bs := ((bl s).drop m).take (a0 + 64 - m)
theorem restW_cons (s : ByteArray) (a0 m : Nat) (h : m < s.size) (h2 : m < a0 + 64) : restW s a0 m = (bl s).getD m 0 :: restW s a0 (m + 1) := by
  unfold restW
  rw [drop_bl s m h, show a0 + 64 - m = (a0 + 64 - (m + 1)) + 1 from by omega]; rfl
theorem restW_nil (s : ByteArray) (a0 m : Nat) (h : s.size ≤ m ∨ a0 + 64 ≤ m) : restW s a0 m = [] := by
  unfold restW
  rcases h with h | h
  · rw [drop_bl_end s m h]; simp
  · rw [show a0 + 64 - m = 0 from by omega]; simp
def WAt (s : ByteArray) (a0 : Nat) (nb : Bool) (m : Nat) : Prop := m + ((restW s a0 m).takeWhile (wpred nb)).length = a0 + wordN ((bl s).drop a0)
theorem WAt.start {s : ByteArray} {a0 : Nat} {nb : Bool} (h : firstB digitB ((bl s).drop a0) = nb) : WAt s a0 nb a0 := by
  unfold WAt restW; rw [wordN_pred, h, show a0 + 64 - a0 = 64 from by omega]
theorem WAt.stop {s : ByteArray} {a0 m : Nat} {nb : Bool} (h : WAt s a0 nb m) (he : s.size ≤ m ∨ a0 + 64 ≤ m) : m = a0 + wordN ((bl s).drop a0) := by
  unfold WAt at h; rw [restW_nil s a0 m he] at h; simpa using h
theorem WAt.no {s : ByteArray} {a0 m : Nat} {nb : Bool} (h : WAt s a0 nb m) (h1 : m < s.size) (h2 : m < a0 + 64) (hp : wpred nb ((bl s).getD m 0) = false) : m = a0 + wordN ((bl s).drop a0) := by
  unfold WAt at h; rw [restW_cons s a0 m h1 h2, List.takeWhile_cons, hp] at h; simpa using h
theorem WAt.yes {s : ByteArray} {a0 m : Nat} {nb : Bool} (h : WAt s a0 nb m) (h1 : m < s.size) (h2 : m < a0 + 64) (hp : wpred nb ((bl s).getD m 0) = true) : WAt s a0 nb (m + 1) := by
  unfold WAt at *; rw [restW_cons s a0 m h1 h2, List.takeWhile_cons, hp] at h; simp at h; omega

theorem chain4 (w : World) (k : Nat) (t : TypeId) (a b c d v0 v1 v2 v3 : Value) :
    ((((((w.alloc (.cells #[a, b, c, d] t)).drewN k).setCell ⟨w.heap.size, 0, none⟩ v0).setCell ⟨w.heap.size, 1, none⟩ v1).setCell ⟨w.heap.size, 2, none⟩ v2).setCell ⟨w.heap.size, 3, none⟩ v3) = (w.alloc (.cells #[v0, v1, v2, v3] t)).drewN k := by
  show (((((w.alloc (.cells #[a, b, c, d] t)).setCell ⟨w.heap.size, 0, none⟩ v0).setCell ⟨w.heap.size, 1, none⟩ v1).setCell ⟨w.heap.size, 2, none⟩ v2).setCell ⟨w.heap.size, 3, none⟩ v3).drewN k = _
  rw [World.setCell_alloc_at _ _ _ _ _ rfl, World.setCell_alloc_at _ _ _ _ _ rfl, World.setCell_alloc_at _ _ _ _ _ rfl, World.setCell_alloc_at _ _ _ _ _ rfl]
  rfl
theorem word_fin (s : ByteArray) (a0 m : Nat) (hend : m = a0 + wordN ((bl s).drop a0))
    (h : nextT ((bl s).drop a0) a0 = if kindI (((bl s).drop a0).take (wordN ((bl s).drop a0))) = 0 then (zeroTok, false)
      else (⟨kindI (((bl s).drop a0).take (wordN ((bl s).drop a0))), if reservedB (((bl s).drop a0).take (wordN ((bl s).drop a0))) then [] else ((bl s).drop a0).take (wordN ((bl s).drop a0)), a0, a0 + wordN ((bl s).drop a0)⟩, true)) :
    nextT ((bl s).drop a0) a0 = if kindI (bl (s.extract a0 m)) = 0 then (zeroTok, false) else (⟨kindI (bl (s.extract a0 m)), if reservedB (bl (s.extract a0 m)) then [] else bl (s.extract a0 m), a0, m⟩, true) := by
  rw [extract_mk', bl_mk, show m - a0 = wordN ((bl s).drop a0) from by omega, hend]; exact h

set_option maxHeartbeats 8000000 in
theorem lx_next_word_d (s : ByteArray) (a0 : Nat) (w : World) (hs : s.size ≤ 4194304) (hlt : a0 < s.size) (h34 : ¬ bat s a0 = 34) (hsg : signI (bat s a0) = none) (hd : 48 ≤ bat s a0 ∧ bat s a0 ≤ 57) :
    Calls Tryd.prog 71 #[.string s, .int .i64 a0] w (NPost s a0 w) := by
  have hnb : digitB (bat s a0) = true := by unfold digitB; simp; omega
  have hidx := fun w => run_index_str (P := Tryd.prog) Tryd.underlying9 s a0 hlt w
  have hi0 : (a0 : Int) < (s.size : Int) := by omega
  have hfd : firstB digitB ((bl s).drop a0) = true := by rw [drop_bl s a0 hlt]; exact hnb
  have hnx : Hid (nextT ((bl s).drop a0) a0 = if kindI (((bl s).drop a0).take (wordN ((bl s).drop a0))) = 0 then (zeroTok, false)
      else (⟨kindI (((bl s).drop a0).take (wordN ((bl s).drop a0))), if reservedB (((bl s).drop a0).take (wordN ((bl s).drop a0))) then [] else ((bl s).drop a0).take (wordN ((bl s).drop a0)), a0, a0 + wordN ((bl s).drop a0)⟩, true)) := by
    show _ = _; rw [drop_bl s a0 hlt]; exact next_word _ _ _ h34 hsg
  have hno : ¬ bat s a0 = 40 ∧ ¬ bat s a0 = 41 ∧ ¬ bat s a0 = 44 ∧ ¬ bat s a0 = 46 ∧ ¬ bat s a0 = 47 ∧ ¬ bat s a0 = 58 ∧ ¬ bat s a0 = 33 := by
    unfold signI at hsg
    refine ⟨?_, ?_, ?_, ?_, ?_, ?_, ?_⟩ <;> (intro h; rw [h] at hsg; revert hsg; decide)
  have g34 : (bat s a0 == 34) = false := by rw [beq_eq_false_iff_ne]; exact h34
  have g0 : (bat s a0 != 40) = true := by rw [bne_iff_ne]; omega
  have ia0 := sg_i0
  have ib0 := sg_a0
  have g1 : (bat s a0 != 41) = true := by rw [bne_iff_ne]; omega
  have ia1 := sg_i1
  have ib1 := sg_a1
  have g2 : (bat s a0 != 44) = true := by rw [bne_iff_ne]; omega
  have ia2 := sg_i2
  have ib2 := sg_a2
  have g3 : (bat s a0 != 46) = true := by rw [bne_iff_ne]; omega
  have ia3 := sg_i3
  have ib3 := sg_a3
  have g4 : (bat s a0 != 47) = true := by rw [bne_iff_ne]; omega
  have ia4 := sg_i4
  have ib4 := sg_a4
  have g5 : (bat s a0 != 58) = true := by rw [bne_iff_ne]; omega
  have ia5 := sg_i5
  have ib5 := sg_a5
  have g6 : (bat s a0 != 33) = true := by rw [bne_iff_ne]; omega
  have ia6 := sg_i6
  have ib6 := sg_a6
  have hst := Lib.hid (WAt.start hfd)
  clear hno hsg h34 hnb hfd
  have hW : Hid ((w.alloc (.cells #[.int .i64 0, .string ⟨#[]⟩, .int .i64 0, .int .i64 0] 92)).heap[w.heap.size]? = some (.cells (tokCs 0 [] 0 0) 92)) := heap_alloc_new _ _
  have hWb : Below w.heap.size w (w.alloc (.cells #[.int .i64 0, .string ⟨#[]⟩, .int .i64 0, .int .i64 0] 92)) := (Below.refl _ _).al _
  have hWs : w.heap.size < (w.alloc (.cells #[.int .i64 0, .string ⟨#[]⟩, .int .i64 0, .int .i64 0] 92)).heap.size := by simp
  obtain ⟨hd1, hd2⟩ := hd
  go_enter Tryd.func71, Tryd.ntmps71
  go_wp2_with fail
  generalize w.alloc (.cells #[.int .i64 0, .string ⟨#[]⟩, .int .i64 0, .int .i64 0] 92) = W at hW hWb hWs ⊢
  refine (lx_signs _).mono ?_
  rintro e w2 ⟨rfl, hb2⟩
  go_wp2_with fail
  refine wp_loop_rounds 8 ?_
  rw [rounds_succ]
  go_wp2_with fail
  go_quiet (fail)
  go_wp2_with fail
  rw [rounds_succ]
  go_wp2_with fail
  go_quiet (fail)
  go_wp2_with fail
  rw [rounds_succ]
  go_wp2_with fail
  go_quiet (fail)
  go_wp2_with fail
  rw [rounds_succ]
  go_wp2_with fail
  go_quiet (fail)
  go_wp2_with fail
  rw [rounds_succ]
  go_wp2_with fail
  go_quiet (fail)
  go_wp2_with fail
  rw [rounds_succ]
  go_wp2_with fail
  go_quiet (fail)
  go_wp2_with fail
  rw [rounds_succ]
  go_wp2_with fail
  go_quiet (fail)
  go_wp2_with fail
  rw [rounds_succ]
  go_wp2_with fail
  go_loopw [12] (fun m wr => ∃ k : Nat, a0 ≤ k ∧ k ≤ s.size ∧ k ≤ a0 + 64 ∧ m = .int .i64 k ∧ Hid (WAt s a0 true k) ∧ Drawn w2 wr) (fun m _ => s.size - (intOf m).toNat)
  case atStart => exact ⟨a0, by omega, by omega, by omega, rfl, hst, (by (repeat (refine Drawn.step ?_ _)); exact Drawn.refl _)⟩
  case round =>
    obtain ⟨m, hm1, hm2, hm3, rfl, hm, ⟨nd, rfl⟩⟩ := hrel
    by_cases hc1 : m < s.size
    · by_cases hc2 : m < a0 + 64
      · have hidm := fun w => run_index_str (P := Tryd.prog) Tryd.underlying9 s m hc1 w
        by_cases hl : letterB (bat s m) = true
        · by_cases h57 : bat s m ≤ 57
          · have hm4 : Hid (WAt s a0 true (m + 1)) := hm.out.yes hc1 hc2 (by
              show (letterB (bat s m) && (!true || digitB (bat s m))) = true
              rw [hl]; unfold letterB at hl; unfold digitB; simp at *; omega)
            clear hm
            go_wp2_with (go_at_call 79; refine (lx_word _ _).mono ?_; rintro e w' ⟨rfl, rfl⟩)
            go_roundw
            case rel => exact ⟨m + 1, by omega, by omega, by omega, by go_num, hm4, (by (repeat (refine Drawn.step ?_ _)); exact Drawn.refl _)⟩
            case measure => simp [intOf]; omega
          · have hend : Hid (m = a0 + wordN ((bl s).drop a0)) := hm.out.no hc1 hc2 (by
              show (letterB (bat s m) && (!true || digitB (bat s m))) = false
              unfold digitB; simp; omega)
            have g57 : decide (bat s m ≤ 57) = false := decide_eq_false h57
            go_wp2_with (go_at_call 79; refine (lx_word _ _).mono ?_; rintro e w' ⟨rfl, rfl⟩)
            have hfin := Lib.hid (word_fin s a0 m hend.out hnx.out)
            clear hend hnx hm hidx hst
            have hx1 : (a0 : Int) ≤ (m : Int) := by omega
            have hx2 : (m : Int) ≤ (s.size : Int) := by omega
            have hxs : Hid ((s.extract a0 m).size ≤ 140737488355328) := by show _ ≤ _; rw [ByteArray.size_extract]; omega
            have hda : ∀ (n : Nat) (o : Obj), (w2.drewN n).alloc o = (w2.alloc o).drewN n := fun _ _ => rfl
            have hg2 : w.heap.size < w2.heap.size := by have := hb2.size; omega
            have hrow : Hid (((w2.alloc (.cells #[.int .i64 (kindI (bl (s.extract a0 m))), .string (s.extract a0 m), .int .i64 a0, .int .i64 m] 92)).drewN (nd + 1)).heap[w2.heap.size]? = some (.cells #[.int .i64 (kindI (bl (s.extract a0 m))), .string (s.extract a0 m), .int .i64 a0, .int .i64 m] 92)) := heap_alloc_new w2 _
            have hb3 : Below w.heap.size w ((w2.alloc (.cells #[.int .i64 (kindI (bl (s.extract a0 m))), .string (s.extract a0 m), .int .i64 a0, .int .i64 m] 92)).drewN (nd + 1)) := hWb.trans (((hb2.al _).drewN _).mono (by omega))
            have hcell : Hid (((w2.alloc (.cells #[.int .i64 (kindI (bl (s.extract a0 m))), .string (s.extract a0 m), .int .i64 a0, .int .i64 m] 92)).drewN (nd + 1)).heap[w.heap.size]? = some (.cells (tokCs 0 [] 0 0) 92)) := (((hb2.al _).drewN _).block _ hWs).trans hW.out
            have hs3 : w2.heap.size < ((w2.alloc (.cells #[.int .i64 (kindI (bl (s.extract a0 m))), .string (s.extract a0 m), .int .i64 a0, .int .i64 m] 92)).drewN (nd + 1)).heap.size := by simp
            go_region_with ((go_at_call 62; refine (lx_kindOf _ _ hxs.out).mono ?_; rintro e w' ⟨rfl, rfl⟩))
            all_goals
              clear hda
              rw [chain4]
              generalize (w2.alloc (.cells #[.int .i64 (kindI (bl (s.extract a0 m))), .string (s.extract a0 m), .int .i64 a0, .int .i64 m] 92)).drewN (nd + 1) = w3 at hrow hb3 hcell hs3 ⊢
              have k0 : w3.cell? ⟨w2.heap.size, 0, none⟩ = some (.int .i64 (kindI (bl (s.extract a0 m)))) := cell_of_row _ _ _ _ _ _ hrow.out
              have k1 : w3.cell? ⟨w2.heap.size, 1, none⟩ = some (.string (s.extract a0 m)) := cell_of_row _ _ _ _ _ _ hrow.out
              have k2 : w3.cell? ⟨w2.heap.size, 2, none⟩ = some (.int .i64 a0) := cell_of_row _ _ _ _ _ _ hrow.out
              have k3 : w3.cell? ⟨w2.heap.size, 3, none⟩ = some (.int .i64 m) := cell_of_row _ _ _ _ _ _ hrow.out
              have f1 : w3.frozen? ⟨w2.heap.size, 1, none⟩ = false := frozen_of_row _ _ _ _ _ hrow.out
              by_cases hk0 : kindI (bl (s.extract a0 m)) = 0
              · have hke : (kindI (bl (s.extract a0 m)) == 0) = true := by simp [hk0]
                replace hfin := Lib.hid (hfin.out.trans (if_pos hk0))
                clear hk0
                go_wp2_with (refine wpList_store_rowA rfl 92 (.tmp 4) (.tmp 127) rfl w.heap.size (tokCs 0 [] 0 0) rfl rfl 92 (tokCs 0 [] 0 0) hcell.out sizeTok rfl (tokCs_one _ _ _ _) ?_)
                intro w4 hg4 hgr hsz
                have hb4 : Below w.heap.size w w4 := hb3.grown hgr (by omega) (by intro k hk; injection hk with hk; omega)
                clear hgr hsz
                go_wp2_with fail
                refine bodyPost_ret (v := .tuple #[.agg (tokCs 0 [] 0 0), .bool false]) ?_ rfl (NPost.of hfin.out rfl hb4)
                exact results_cell2 rfl _ _ w.heap.size 92 _ (0, 0) _ rfl hg4.out Tryd.underlying92 rfl sizeTok _ rfl
              · have hke : (kindI (bl (s.extract a0 m)) == 0) = false := by simp [hk0]
                replace hfin := Lib.hid (hfin.out.trans (if_neg hk0))
                clear hk0
                by_cases hr : reservedB (bl (s.extract a0 m)) = true
                · replace hr := Lib.hid hr
                  have hrf : Hid (nextT ((bl s).drop a0) a0 = (⟨kindI (bl (s.extract a0 m)), [], a0, m⟩, true)) := by have h := hfin.out; rw [if_pos hr.out] at h; exact h
                  clear hfin
                  go_wp2_with (first
                    | (go_at_call 88; refine (lx_Reserved _ _).mono ?_; rintro e w4 ⟨he, rfl⟩; rw [hr.out] at he; subst he)
                    | (refine wpList_load_row rfl 92 (.tmp 14) rfl w2.heap.size rfl 92 #[.int .i64 (kindI (bl (s.extract a0 m))), .string ⟨#[]⟩, .int .i64 a0, .int .i64 m] (0, 0) _ (heap_setCell_same _ _ _ _ _ _ hrow.out) Tryd.underlying92 rfl sizeTok ?_)
                    | (refine wpList_store_rowA rfl 92 (.tmp 4) (.tmp 132) rfl w.heap.size #[.int .i64 (kindI (bl (s.extract a0 m))), .string ⟨#[]⟩, .int .i64 a0, .int .i64 m] rfl rfl 92 (tokCs 0 [] 0 0) ((heap_setCell_other _ _ _ _ (by show w.heap.size ≠ w2.heap.size; omega)).trans hcell.out) sizeTok rfl (tokCs_one _ [] _ _) ?_))
                  intro w4 hg4 hgr hsz
                  have hb4 : Below w.heap.size w w4 := (hb3.setCell (by show w.heap.size ≤ w2.heap.size; omega) _).grown hgr (by simp; omega) (by intro k hk; injection hk with hk; omega)
                  clear hgr hsz
                  go_wp2_with fail
                  refine bodyPost_ret (v := .tuple #[.agg #[.int .i64 (kindI (bl (s.extract a0 m))), .string ⟨#[]⟩, .int .i64 a0, .int .i64 m], .bool true]) ?_ rfl (NPost.of hrf.out rfl hb4)
                  exact results_cell2 rfl _ _ w.heap.size 92 _ (0, 0) _ rfl hg4.out Tryd.underlying92 rfl sizeTok _ rfl
                · replace hr : Hid (reservedB (bl (s.extract a0 m)) = false) := Lib.hid (by simpa using hr)
                  have hrf : Hid (nextT ((bl s).drop a0) a0 = (⟨kindI (bl (s.extract a0 m)), bl (s.extract a0 m), a0, m⟩, true)) := by have h := hfin.out; rw [hr.out] at h; exact h
                  clear hfin
                  go_wp2_with (first
                    | (go_at_call 88; refine (lx_Reserved _ _).mono ?_; rintro e w4 ⟨he, rfl⟩; rw [hr.out] at he; subst he)
                    | (refine wpList_load_row rfl 92 (.tmp 14) rfl w2.heap.size rfl 92 #[.int .i64 (kindI (bl (s.extract a0 m))), .string (s.extract a0 m), .int .i64 a0, .int .i64 m] (0, 0) _ hrow.out Tryd.underlying92 rfl sizeTok ?_)
                    | (refine wpList_store_rowA rfl 92 (.tmp 4) (.tmp 132) rfl w.heap.size #[.int .i64 (kindI (bl (s.extract a0 m))), .string (s.extract a0 m), .int .i64 a0, .int .i64 m] rfl rfl 92 (tokCs 0 [] 0 0) hcell.out sizeTok rfl (by simp [Value.oneCell']) ?_))
                  intro w4 hg4 hgr hsz
                  have hb4 : Below w.heap.size w w4 := hb3.grown hgr (by omega) (by intro k hk; injection hk with hk; omega)
                  clear hgr hsz
                  go_wp2_with fail
                  refine bodyPost_ret (v := .tuple #[.agg #[.int .i64 (kindI (bl (s.extract a0 m))), .string (s.extract a0 m), .int .i64 a0, .int .i64 m], .bool true]) ?_ rfl (NPost.of hrf.out (by show _ = tokCs _ (bl (s.extract a0 m)) _ _; unfold tokCs; rw [mk_bl]) hb4)
                  exact results_cell2 rfl _ _ w.heap.size 92 _ (0, 0) _ rfl hg4.out Tryd.underlying92 rfl sizeTok _ rfl
        · replace hl : letterB (bat s m) = false := by simpa using hl
          have hend : Hid (m = a0 + wordN ((bl s).drop a0)) := hm.out.no hc1 hc2 (by
            show (letterB (bat s m) && (!true || digitB (bat s m))) = false
            rw [hl]; rfl)
          go_wp2_with (go_at_call 79; refine (lx_word _ _).mono ?_; rintro e w' ⟨rfl, rfl⟩)
          have hfin := Lib.hid (word_fin s a0 m hend.out hnx.out)
          clear hend hnx hm hidx hst
          have hx1 : (a0 : Int) ≤ (m : Int) := by omega
          have hx2 : (m : Int) ≤ (s.size : Int) := by omega
          have hxs : Hid ((s.extract a0 m).size ≤ 140737488355328) := by show _ ≤ _; rw [ByteArray.size_extract]; omega
          have hda : ∀ (n : Nat) (o : Obj), (w2.drewN n).alloc o = (w2.alloc o).drewN n := fun _ _ => rfl
          have hg2 : w.heap.size < w2.heap.size := by have := hb2.size; omega
          have hrow : Hid (((w2.alloc (.cells #[.int .i64 (kindI (bl (s.extract a0 m))), .string (s.extract a0 m), .int .i64 a0, .int .i64 m] 92)).drewN (nd + 1)).heap[w2.heap.size]? = some (.cells #[.int .i64 (kindI (bl (s.extract a0 m))), .string (s.extract a0 m), .int .i64 a0, .int .i64 m] 92)) := heap_alloc_new w2 _
          have hb3 : Below w.heap.size w ((w2.alloc (.cells #[.int .i64 (kindI (bl (s.extract a0 m))), .string (s.extract a0 m), .int .i64 a0, .int .i64 m] 92)).drewN (nd + 1)) := hWb.trans (((hb2.al _).drewN _).mono (by omega))
          have hcell : Hid (((w2.alloc (.cells #[.int .i64 (kindI (bl (s.extract a0 m))), .string (s.extract a0 m), .int .i64 a0, .int .i64 m] 92)).drewN (nd + 1)).heap[w.heap.size]? = some (.cells (tokCs 0 [] 0 0) 92)) := (((hb2.al _).drewN _).block _ hWs).trans hW.out
          have hs3 : w2.heap.size < ((w2.alloc (.cells #[.int .i64 (kindI (bl (s.extract a0 m))), .string (s.extract a0 m), .int .i64 a0, .int .i64 m] 92)).drewN (nd + 1)).heap.size := by simp
          go_region_with ((go_at_call 62; refine (lx_kindOf _ _ hxs.out).mono ?_; rintro e w' ⟨rfl, rfl⟩))
          all_goals
            clear hda
            rw [chain4]
            generalize (w2.alloc (.cells #[.int .i64 (kindI (bl (s.extract a0 m))), .string (s.extract a0 m), .int .i64 a0, .int .i64 m] 92)).drewN (nd + 1) = w3 at hrow hb3 hcell hs3 ⊢
            have k0 : w3.cell? ⟨w2.heap.size, 0, none⟩ = some (.int .i64 (kindI (bl (s.extract a0 m)))) := cell_of_row _ _ _ _ _ _ hrow.out
            have k1 : w3.cell? ⟨w2.heap.size, 1, none⟩ = some (.string (s.extract a0 m)) := cell_of_row _ _ _ _ _ _ hrow.out
            have k2 : w3.cell? ⟨w2.heap.size, 2, none⟩ = some (.int .i64 a0) := cell_of_row _ _ _ _ _ _ hrow.out
            have k3 : w3.cell? ⟨w2.heap.size, 3, none⟩ = some (.int .i64 m) := cell_of_row _ _ _ _ _ _ hrow.out
            have f1 : w3.frozen? ⟨w2.heap.size, 1, none⟩ = false := frozen_of_row _ _ _ _ _ hrow.out
            by_cases hk0 : kindI (bl (s.extract a0 m)) = 0
            · have hke : (kindI (bl (s.extract a0 m)) == 0) = true := by simp [hk0]
              replace hfin := Lib.hid (hfin.out.trans (if_pos hk0))
              clear hk0
              go_wp2_with (refine wpList_store_rowA rfl 92 (.tmp 4) (.tmp 127) rfl w.heap.size (tokCs 0 [] 0 0) rfl rfl 92 (tokCs 0 [] 0 0) hcell.out sizeTok rfl (tokCs_one _ _ _ _) ?_)
              intro w4 hg4 hgr hsz
              have hb4 : Below w.heap.size w w4 := hb3.grown hgr (by omega) (by intro k hk; injection hk with hk; omega)
              clear hgr hsz
              go_wp2_with fail
              refine bodyPost_ret (v := .tuple #[.agg (tokCs 0 [] 0 0), .bool false]) ?_ rfl (NPost.of hfin.out rfl hb4)
              exact results_cell2 rfl _ _ w.heap.size 92 _ (0, 0) _ rfl hg4.out Tryd.underlying92 rfl sizeTok _ rfl
            · have hke : (kindI (bl (s.extract a0 m)) == 0) = false := by simp [hk0]
              replace hfin := Lib.hid (hfin.out.trans (if_neg hk0))
              clear hk0
              by_cases hr : reservedB (bl (s.extract a0 m)) = true
              · replace hr := Lib.hid hr
                have hrf : Hid (nextT ((bl s).drop a0) a0 = (⟨kindI (bl (s.extract a0 m)), [], a0, m⟩, true)) := by have h := hfin.out; rw [if_pos hr.out] at h; exact h
                clear hfin
                go_wp2_with (first
                  | (go_at_call 88; refine (lx_Reserved _ _).mono ?_; rintro e w4 ⟨he, rfl⟩; rw [hr.out] at he; subst he)
                  | (refine wpList_load_row rfl 92 (.tmp 14) rfl w2.heap.size rfl 92 #[.int .i64 (kindI (bl (s.extract a0 m))), .string ⟨#[]⟩, .int .i64 a0, .int .i64 m] (0, 0) _ (heap_setCell_same _ _ _ _ _ _ hrow.out) Tryd.underlying92 rfl sizeTok ?_)
                  | (refine wpList_store_rowA rfl 92 (.tmp 4) (.tmp 132) rfl w.heap.size #[.int .i64 (kindI (bl (s.extract a0 m))), .string ⟨#[]⟩, .int .i64 a0, .int .i64 m] rfl rfl 92 (tokCs 0 [] 0 0) ((heap_setCell_other _ _ _ _ (by show w.heap.size ≠ w2.heap.size; omega)).trans hcell.out) sizeTok rfl (tokCs_one _ [] _ _) ?_))
                intro w4 hg4 hgr hsz
                have hb4 : Below w.heap.size w w4 := (hb3.setCell (by show w.heap.size ≤ w2.heap.size; omega) _).grown hgr (by simp; omega) (by intro k hk; injection hk with hk; omega)
                clear hgr hsz
                go_wp2_with fail
                refine bodyPost_ret (v := .tuple #[.agg #[.int .i64 (kindI (bl (s.extract a0 m))), .string ⟨#[]⟩, .int .i64 a0, .int .i64 m], .bool true]) ?_ rfl (NPost.of hrf.out rfl hb4)
                exact results_cell2 rfl _ _ w.heap.size 92 _ (0, 0) _ rfl hg4.out Tryd.underlying92 rfl sizeTok _ rfl
              · replace hr : Hid (reservedB (bl (s.extract a0 m)) = false) := Lib.hid (by simpa using hr)
                have hrf : Hid (nextT ((bl s).drop a0) a0 = (⟨kindI (bl (s.extract a0 m)), bl (s.extract a0 m), a0, m⟩, true)) := by have h := hfin.out; rw [hr.out] at h; exact h
                clear hfin
                go_wp2_with (first
                  | (go_at_call 88; refine (lx_Reserved _ _).mono ?_; rintro e w4 ⟨he, rfl⟩; rw [hr.out] at he; subst he)
                  | (refine wpList_load_row rfl 92 (.tmp 14) rfl w2.heap.size rfl 92 #[.int .i64 (kindI (bl (s.extract a0 m))), .string (s.extract a0 m), .int .i64 a0, .int .i64 m] (0, 0) _ hrow.out Tryd.underlying92 rfl sizeTok ?_)
                  | (refine wpList_store_rowA rfl 92 (.tmp 4) (.tmp 132) rfl w.heap.size #[.int .i64 (kindI (bl (s.extract a0 m))), .string (s.extract a0 m), .int .i64 a0, .int .i64 m] rfl rfl 92 (tokCs 0 [] 0 0) hcell.out sizeTok rfl (by simp [Value.oneCell']) ?_))
                intro w4 hg4 hgr hsz
                have hb4 : Below w.heap.size w w4 := hb3.grown hgr (by omega) (by intro k hk; injection hk with hk; omega)
                clear hgr hsz
                go_wp2_with fail
                refine bodyPost_ret (v := .tuple #[.agg #[.int .i64 (kindI (bl (s.extract a0 m))), .string (s.extract a0 m), .int .i64 a0, .int .i64 m], .bool true]) ?_ rfl (NPost.of hrf.out (by show _ = tokCs _ (bl (s.extract a0 m)) _ _; unfold tokCs; rw [mk_bl]) hb4)
                exact results_cell2 rfl _ _ w.heap.size 92 _ (0, 0) _ rfl hg4.out Tryd.underlying92 rfl sizeTok _ rfl
      · have hend : Hid (m = a0 + wordN ((bl s).drop a0)) := hm.out.stop (.inr (by omega))
        have hn2 : ¬ (m : Int) < (a0 : Int) + 64 := by omega
        go_wp2_with (go_at_call 79; refine (lx_word _ _).mono ?_; rintro e w' ⟨rfl, rfl⟩)
        have hfin := Lib.hid (word_fin s a0 m hend.out hnx.out)
        clear hend hnx hm hidx hst
        have hx1 : (a0 : Int) ≤ (m : Int) := by omega
        have hx2 : (m : Int) ≤ (s.size : Int) := by omega
        have hxs : Hid ((s.extract a0 m).size ≤ 140737488355328) := by show _ ≤ _; rw [ByteArray.size_extract]; omega
        have hda : ∀ (n : Nat) (o : Obj), (w2.drewN n).alloc o = (w2.alloc o).drewN n := fun _ _ => rfl
        have hg2 : w.heap.size < w2.heap.size := by have := hb2.size; omega
        have hrow : Hid (((w2.alloc (.cells #[.int .i64 (kindI (bl (s.extract a0 m))), .string (s.extract a0 m), .int .i64 a0, .int .i64 m] 92)).drewN (nd + 1)).heap[w2.heap.size]? = some (.cells #[.int .i64 (kindI (bl (s.extract a0 m))), .string (s.extract a0 m), .int .i64 a0, .int .i64 m] 92)) := heap_alloc_new w2 _
        have hb3 : Below w.heap.size w ((w2.alloc (.cells #[.int .i64 (kindI (bl (s.extract a0 m))), .string (s.extract a0 m), .int .i64 a0, .int .i64 m] 92)).drewN (nd + 1)) := hWb.trans (((hb2.al _).drewN _).mono (by omega))
        have hcell : Hid (((w2.alloc (.cells #[.int .i64 (kindI (bl (s.extract a0 m))), .string (s.extract a0 m), .int .i64 a0, .int .i64 m] 92)).drewN (nd + 1)).heap[w.heap.size]? = some (.cells (tokCs 0 [] 0 0) 92)) := (((hb2.al _).drewN _).block _ hWs).trans hW.out
        have hs3 : w2.heap.size < ((w2.alloc (.cells #[.int .i64 (kindI (bl (s.extract a0 m))), .string (s.extract a0 m), .int .i64 a0, .int .i64 m] 92)).drewN (nd + 1)).heap.size := by simp
        go_region_with ((go_at_call 62; refine (lx_kindOf _ _ hxs.out).mono ?_; rintro e w' ⟨rfl, rfl⟩))
        all_goals
          clear hda
          rw [chain4]
          generalize (w2.alloc (.cells #[.int .i64 (kindI (bl (s.extract a0 m))), .string (s.extract a0 m), .int .i64 a0, .int .i64 m] 92)).drewN (nd + 1) = w3 at hrow hb3 hcell hs3 ⊢
          have k0 : w3.cell? ⟨w2.heap.size, 0, none⟩ = some (.int .i64 (kindI (bl (s.extract a0 m)))) := cell_of_row _ _ _ _ _ _ hrow.out
          have k1 : w3.cell? ⟨w2.heap.size, 1, none⟩ = some (.string (s.extract a0 m)) := cell_of_row _ _ _ _ _ _ hrow.out
          have k2 : w3.cell? ⟨w2.heap.size, 2, none⟩ = some (.int .i64 a0) := cell_of_row _ _ _ _ _ _ hrow.out
          have k3 : w3.cell? ⟨w2.heap.size, 3, none⟩ = some (.int .i64 m) := cell_of_row _ _ _ _ _ _ hrow.out
          have f1 : w3.frozen? ⟨w2.heap.size, 1, none⟩ = false := frozen_of_row _ _ _ _ _ hrow.out
          by_cases hk0 : kindI (bl (s.extract a0 m)) = 0
          · have hke : (kindI (bl (s.extract a0 m)) == 0) = true := by simp [hk0]
            replace hfin := Lib.hid (hfin.out.trans (if_pos hk0))
            clear hk0
            go_wp2_with (refine wpList_store_rowA rfl 92 (.tmp 4) (.tmp 127) rfl w.heap.size (tokCs 0 [] 0 0) rfl rfl 92 (tokCs 0 [] 0 0) hcell.out sizeTok rfl (tokCs_one _ _ _ _) ?_)
            intro w4 hg4 hgr hsz
            have hb4 : Below w.heap.size w w4 := hb3.grown hgr (by omega) (by intro k hk; injection hk with hk; omega)
            clear hgr hsz
            go_wp2_with fail
            refine bodyPost_ret (v := .tuple #[.agg (tokCs 0 [] 0 0), .bool false]) ?_ rfl (NPost.of hfin.out rfl hb4)
            exact results_cell2 rfl _ _ w.heap.size 92 _ (0, 0) _ rfl hg4.out Tryd.underlying92 rfl sizeTok _ rfl
          · have hke : (kindI (bl (s.extract a0 m)) == 0) = false := by simp [hk0]
            replace hfin := Lib.hid (hfin.out.trans (if_neg hk0))
            clear hk0
            by_cases hr : reservedB (bl (s.extract a0 m)) = true
            · replace hr := Lib.hid hr
              have hrf : Hid (nextT ((bl s).drop a0) a0 = (⟨kindI (bl (s.extract a0 m)), [], a0, m⟩, true)) := by have h := hfin.out; rw [if_pos hr.out] at h; exact h
              clear hfin
              go_wp2_with (first
                | (go_at_call 88; refine (lx_Reserved _ _).mono ?_; rintro e w4 ⟨he, rfl⟩; rw [hr.out] at he; subst he)
                | (refine wpList_load_row rfl 92 (.tmp 14) rfl w2.heap.size rfl 92 #[.int .i64 (kindI (bl (s.extract a0 m))), .string ⟨#[]⟩, .int .i64 a0, .int .i64 m] (0, 0) _ (heap_setCell_same _ _ _ _ _ _ hrow.out) Tryd.underlying92 rfl sizeTok ?_)
                | (refine wpList_store_rowA rfl 92 (.tmp 4) (.tmp 132) rfl w.heap.size #[.int .i64 (kindI (bl (s.extract a0 m))), .string ⟨#[]⟩, .int .i64 a0, .int .i64 m] rfl rfl 92 (tokCs 0 [] 0 0) ((heap_setCell_other _ _ _ _ (by show w.heap.size ≠ w2.heap.size; omega)).trans hcell.out) sizeTok rfl (tokCs_one _ [] _ _) ?_))
              intro w4 hg4 hgr hsz
              have hb4 : Below w.heap.size w w4 := (hb3.setCell (by show w.heap.size ≤ w2.heap.size; omega) _).grown hgr (by simp; omega) (by intro k hk; injection hk with hk; omega)
              clear hgr hsz
              go_wp2_with fail
              refine bodyPost_ret (v := .tuple #[.agg #[.int .i64 (kindI (bl (s.extract a0 m))), .string ⟨#[]⟩, .int .i64 a0, .int .i64 m], .bool true]) ?_ rfl (NPost.of hrf.out rfl hb4)
              exact results_cell2 rfl _ _ w.heap.size 92 _ (0, 0) _ rfl hg4.out Tryd.underlying92 rfl sizeTok _ rfl
            · replace hr : Hid (reservedB (bl (s.extract a0 m)) = false) := Lib.hid (by simpa using hr)
              have hrf : Hid (nextT ((bl s).drop a0) a0 = (⟨kindI (bl (s.extract a0 m)), bl (s.extract a0 m), a0, m⟩, true)) := by have h := hfin.out; rw [hr.out] at h; exact h
              clear hfin
              go_wp2_with (first
                | (go_at_call 88; refine (lx_Reserved _ _).mono ?_; rintro e w4 ⟨he, rfl⟩; rw [hr.out] at he; subst he)
                | (refine wpList_load_row rfl 92 (.tmp 14) rfl w2.heap.size rfl 92 #[.int .i64 (kindI (bl (s.extract a0 m))), .string (s.extract a0 m), .int .i64 a0, .int .i64 m] (0, 0) _ hrow.out Tryd.underlying92 rfl sizeTok ?_)
                | (refine wpList_store_rowA rfl 92 (.tmp 4) (.tmp 132) rfl w.heap.size #[.int .i64 (kindI (bl (s.extract a0 m))), .string (s.extract a0 m), .int .i64 a0, .int .i64 m] rfl rfl 92 (tokCs 0 [] 0 0) hcell.out sizeTok rfl (by simp [Value.oneCell']) ?_))
              intro w4 hg4 hgr hsz
              have hb4 : Below w.heap.size w w4 := hb3.grown hgr (by omega) (by intro k hk; injection hk with hk; omega)
              clear hgr hsz
              go_wp2_with fail
              refine bodyPost_ret (v := .tuple #[.agg #[.int .i64 (kindI (bl (s.extract a0 m))), .string (s.extract a0 m), .int .i64 a0, .int .i64 m], .bool true]) ?_ rfl (NPost.of hrf.out (by show _ = tokCs _ (bl (s.extract a0 m)) _ _; unfold tokCs; rw [mk_bl]) hb4)
              exact results_cell2 rfl _ _ w.heap.size 92 _ (0, 0) _ rfl hg4.out Tryd.underlying92 rfl sizeTok _ rfl
    · have hend : Hid (m = a0 + wordN ((bl s).drop a0)) := hm.out.stop (.inl (by omega))
      have hn1 : ¬ (m : Int) < (s.size : Int) := by omega
      go_wp2_with (go_at_call 79; refine (lx_word _ _).mono ?_; rintro e w' ⟨rfl, rfl⟩)
      have hfin := Lib.hid (word_fin s a0 m hend.out hnx.out)
      clear hend hnx hm hidx hst
      have hx1 : (a0 : Int) ≤ (m : Int) := by omega
      have hx2 : (m : Int) ≤ (s.size : Int) := by omega
      have hxs : Hid ((s.extract a0 m).size ≤ 140737488355328) := by show _ ≤ _; rw [ByteArray.size_extract]; omega
      have hda : ∀ (n : Nat) (o : Obj), (w2.drewN n).alloc o = (w2.alloc o).drewN n := fun _ _ => rfl
      have hg2 : w.heap.size < w2.heap.size := by have := hb2.size; omega
      have hrow : Hid (((w2.alloc (.cells #[.int .i64 (kindI (bl (s.extract a0 m))), .string (s.extract a0 m), .int .i64 a0, .int .i64 m] 92)).drewN (nd + 1)).heap[w2.heap.size]? = some (.cells #[.int .i64 (kindI (bl (s.extract a0 m))), .string (s.extract a0 m), .int .i64 a0, .int .i64 m] 92)) := heap_alloc_new w2 _
      have hb3 : Below w.heap.size w ((w2.alloc (.cells #[.int .i64 (kindI (bl (s.extract a0 m))), .string (s.extract a0 m), .int .i64 a0, .int .i64 m] 92)).drewN (nd + 1)) := hWb.trans (((hb2.al _).drewN _).mono (by omega))
      have hcell : Hid (((w2.alloc (.cells #[.int .i64 (kindI (bl (s.extract a0 m))), .string (s.extract a0 m), .int .i64 a0, .int .i64 m] 92)).drewN (nd + 1)).heap[w.heap.size]? = some (.cells (tokCs 0 [] 0 0) 92)) := (((hb2.al _).drewN _).block _ hWs).trans hW.out
      have hs3 : w2.heap.size < ((w2.alloc (.cells #[.int .i64 (kindI (bl (s.extract a0 m))), .string (s.extract a0 m), .int .i64 a0, .int .i64 m] 92)).drewN (nd + 1)).heap.size := by simp
      go_region_with ((go_at_call 62; refine (lx_kindOf _ _ hxs.out).mono ?_; rintro e w' ⟨rfl, rfl⟩))
      all_goals
        clear hda
        rw [chain4]
        generalize (w2.alloc (.cells #[.int .i64 (kindI (bl (s.extract a0 m))), .string (s.extract a0 m), .int .i64 a0, .int .i64 m] 92)).drewN (nd + 1) = w3 at hrow hb3 hcell hs3 ⊢
        have k0 : w3.cell? ⟨w2.heap.size, 0, none⟩ = some (.int .i64 (kindI (bl (s.extract a0 m)))) := cell_of_row _ _ _ _ _ _ hrow.out
        have k1 : w3.cell? ⟨w2.heap.size, 1, none⟩ = some (.string (s.extract a0 m)) := cell_of_row _ _ _ _ _ _ hrow.out
        have k2 : w3.cell? ⟨w2.heap.size, 2, none⟩ = some (.int .i64 a0) := cell_of_row _ _ _ _ _ _ hrow.out
        have k3 : w3.cell? ⟨w2.heap.size, 3, none⟩ = some (.int .i64 m) := cell_of_row _ _ _ _ _ _ hrow.out
        have f1 : w3.frozen? ⟨w2.heap.size, 1, none⟩ = false := frozen_of_row _ _ _ _ _ hrow.out
        by_cases hk0 : kindI (bl (s.extract a0 m)) = 0
        · have hke : (kindI (bl (s.extract a0 m)) == 0) = true := by simp [hk0]
          replace hfin := Lib.hid (hfin.out.trans (if_pos hk0))
          clear hk0
          go_wp2_with (refine wpList_store_rowA rfl 92 (.tmp 4) (.tmp 127) rfl w.heap.size (tokCs 0 [] 0 0) rfl rfl 92 (tokCs 0 [] 0 0) hcell.out sizeTok rfl (tokCs_one _ _ _ _) ?_)
          intro w4 hg4 hgr hsz
          have hb4 : Below w.heap.size w w4 := hb3.grown hgr (by omega) (by intro k hk; injection hk with hk; omega)
          clear hgr hsz
          go_wp2_with fail
          refine bodyPost_ret (v := .tuple #[.agg (tokCs 0 [] 0 0), .bool false]) ?_ rfl (NPost.of hfin.out rfl hb4)
          exact results_cell2 rfl _ _ w.heap.size 92 _ (0, 0) _ rfl hg4.out Tryd.underlying92 rfl sizeTok _ rfl
        · have hke : (kindI (bl (s.extract a0 m)) == 0) = false := by simp [hk0]
          replace hfin := Lib.hid (hfin.out.trans (if_neg hk0))
          clear hk0
          by_cases hr : reservedB (bl (s.extract a0 m)) = true
          · replace hr := Lib.hid hr
            have hrf : Hid (nextT ((bl s).drop a0) a0 = (⟨kindI (bl (s.extract a0 m)), [], a0, m⟩, true)) := by have h := hfin.out; rw [if_pos hr.out] at h; exact h
            clear hfin
            go_wp2_with (first
              | (go_at_call 88; refine (lx_Reserved _ _).mono ?_; rintro e w4 ⟨he, rfl⟩; rw [hr.out] at he; subst he)
              | (refine wpList_load_row rfl 92 (.tmp 14) rfl w2.heap.size rfl 92 #[.int .i64 (kindI (bl (s.extract a0 m))), .string ⟨#[]⟩, .int .i64 a0, .int .i64 m] (0, 0) _ (heap_setCell_same _ _ _ _ _ _ hrow.out) Tryd.underlying92 rfl sizeTok ?_)
              | (refine wpList_store_rowA rfl 92 (.tmp 4) (.tmp 132) rfl w.heap.size #[.int .i64 (kindI (bl (s.extract a0 m))), .string ⟨#[]⟩, .int .i64 a0, .int .i64 m] rfl rfl 92 (tokCs 0 [] 0 0) ((heap_setCell_other _ _ _ _ (by show w.heap.size ≠ w2.heap.size; omega)).trans hcell.out) sizeTok rfl (tokCs_one _ [] _ _) ?_))
            intro w4 hg4 hgr hsz
            have hb4 : Below w.heap.size w w4 := (hb3.setCell (by show w.heap.size ≤ w2.heap.size; omega) _).grown hgr (by simp; omega) (by intro k hk; injection hk with hk; omega)
            clear hgr hsz
            go_wp2_with fail
            refine bodyPost_ret (v := .tuple #[.agg #[.int .i64 (kindI (bl (s.extract a0 m))), .string ⟨#[]⟩, .int .i64 a0, .int .i64 m], .bool true]) ?_ rfl (NPost.of hrf.out rfl hb4)
            exact results_cell2 rfl _ _ w.heap.size 92 _ (0, 0) _ rfl hg4.out Tryd.underlying92 rfl sizeTok _ rfl
          · replace hr : Hid (reservedB (bl (s.extract a0 m)) = false) := Lib.hid (by simpa using hr)
            have hrf : Hid (nextT ((bl s).drop a0) a0 = (⟨kindI (bl (s.extract a0 m)), bl (s.extract a0 m), a0, m⟩, true)) := by have h := hfin.out; rw [hr.out] at h; exact h
            clear hfin
            go_wp2_with (first
              | (go_at_call 88; refine (lx_Reserved _ _).mono ?_; rintro e w4 ⟨he, rfl⟩; rw [hr.out] at he; subst he)
              | (refine wpList_load_row rfl 92 (.tmp 14) rfl w2.heap.size rfl 92 #[.int .i64 (kindI (bl (s.extract a0 m))), .string (s.extract a0 m), .int .i64 a0, .int .i64 m] (0, 0) _ hrow.out Tryd.underlying92 rfl sizeTok ?_)
              | (refine wpList_store_rowA rfl 92 (.tmp 4) (.tmp 132) rfl w.heap.size #[.int .i64 (kindI (bl (s.extract a0 m))), .string (s.extract a0 m), .int .i64 a0, .int .i64 m] rfl rfl 92 (tokCs 0 [] 0 0) hcell.out sizeTok rfl (by simp [Value.oneCell']) ?_))
            intro w4 hg4 hgr hsz
            have hb4 : Below w.heap.size w w4 := hb3.grown hgr (by omega) (by intro k hk; injection hk with hk; omega)
            clear hgr hsz
            go_wp2_with fail
            refine bodyPost_ret (v := .tuple #[.agg #[.int .i64 (kindI (bl (s.extract a0 m))), .string (s.extract a0 m), .int .i64 a0, .int .i64 m], .bool true]) ?_ rfl (NPost.of hrf.out (by show _ = tokCs _ (bl (s.extract a0 m)) _ _; unfold tokCs; rw [mk_bl]) hb4)
            exact results_cell2 rfl _ _ w.heap.size 92 _ (0, 0) _ rfl hg4.out Tryd.underlying92 rfl sizeTok _ rfl

end Go.Proofs.YtclioihichcpiaaDoor


/- lex.next: words. -/
namespace Go.Proofs.YtclioihichcpiaaDoor
open Go.RowKit Lx

set_option maxHeartbeats 8000000 in
theorem lx_next_word_lo (s : ByteArray) (a0 : Nat) (w : World) (hs : s.size ≤ 4194304) (hlt : a0 < s.size) (h34 : ¬ bat s a0 = 34) (hsg : signI (bat s a0) = none) (hd : bat s a0 < 48) :
    Calls Tryd.prog 71 #[.string s, .int .i64 a0] w (NPost s a0 w) := by
  have hnb : digitB (bat s a0) = false := by unfold digitB; simp; omega
  have hidx := fun w => run_index_str (P := Tryd.prog) Tryd.underlying9 s a0 hlt w
  have hi0 : (a0 : Int) < (s.size : Int) := by omega
  have hfd : firstB digitB ((bl s).drop a0) = false := by rw [drop_bl s a0 hlt]; exact hnb
  have hnx : Hid (nextT ((bl s).drop a0) a0 = if kindI (((bl s).drop a0).take (wordN ((bl s).drop a0))) = 0 then (zeroTok, false)
      else (⟨kindI (((bl s).drop a0).take (wordN ((bl s).drop a0))), if reservedB (((bl s).drop a0).take (wordN ((bl s).drop a0))) then [] else ((bl s).drop a0).take (wordN ((bl s).drop a0)), a0, a0 + wordN ((bl s).drop a0)⟩, true)) := by
    show _ = _; rw [drop_bl s a0 hlt]; exact next_word _ _ _ h34 hsg
  have hno : ¬ bat s a0 = 40 ∧ ¬ bat s a0 = 41 ∧ ¬ bat s a0 = 44 ∧ ¬ bat s a0 = 46 ∧ ¬ bat s a0 = 47 ∧ ¬ bat s a0 = 58 ∧ ¬ bat s a0 = 33 := by
    unfold signI at hsg
    refine ⟨?_, ?_, ?_, ?_, ?_, ?_, ?_⟩ <;> (intro h; rw [h] at hsg; revert hsg; decide)
  have g34 : (bat s a0 == 34) = false := by rw [beq_eq_false_iff_ne]; exact h34
  have g0 : (bat s a0 != 40) = true := by rw [bne_iff_ne]; omega
  have ia0 := sg_i0
  have ib0 := sg_a0
  have g1 : (bat s a0 != 41) = true := by rw [bne_iff_ne]; omega
  have ia1 := sg_i1
  have ib1 := sg_a1
  have g2 : (bat s a0 != 44) = true := by rw [bne_iff_ne]; omega
  have ia2 := sg_i2
  have ib2 := sg_a2
  have g3 : (bat s a0 != 46) = true := by rw [bne_iff_ne]; omega
  have ia3 := sg_i3
  have ib3 := sg_a3
  have g4 : (bat s a0 != 47) = true := by rw [bne_iff_ne]; omega
  have ia4 := sg_i4
  have ib4 := sg_a4
  have g5 : (bat s a0 != 58) = true := by rw [bne_iff_ne]; omega
  have ia5 := sg_i5
  have ib5 := sg_a5
  have g6 : (bat s a0 != 33) = true := by rw [bne_iff_ne]; omega
  have ia6 := sg_i6
  have ib6 := sg_a6
  have hst := Lib.hid (WAt.start hfd)
  clear hno hsg h34 hnb hfd
  have hW : Hid ((w.alloc (.cells #[.int .i64 0, .string ⟨#[]⟩, .int .i64 0, .int .i64 0] 92)).heap[w.heap.size]? = some (.cells (tokCs 0 [] 0 0) 92)) := heap_alloc_new _ _
  have hWb : Below w.heap.size w (w.alloc (.cells #[.int .i64 0, .string ⟨#[]⟩, .int .i64 0, .int .i64 0] 92)) := (Below.refl _ _).al _
  have hWs : w.heap.size < (w.alloc (.cells #[.int .i64 0, .string ⟨#[]⟩, .int .i64 0, .int .i64 0] 92)).heap.size := by simp
  have hd1 : bat s a0 < 48 := hd
  go_enter Tryd.func71, Tryd.ntmps71
  go_wp2_with fail
  generalize w.alloc (.cells #[.int .i64 0, .string ⟨#[]⟩, .int .i64 0, .int .i64 0] 92) = W at hW hWb hWs ⊢
  refine (lx_signs _).mono ?_
  rintro e w2 ⟨rfl, hb2⟩
  go_wp2_with fail
  refine wp_loop_rounds 8 ?_
  rw [rounds_succ]
  go_wp2_with fail
  go_quiet (fail)
  go_wp2_with fail
  rw [rounds_succ]
  go_wp2_with fail
  go_quiet (fail)
  go_wp2_with fail
  rw [rounds_succ]
  go_wp2_with fail
  go_quiet (fail)
  go_wp2_with fail
  rw [rounds_succ]
  go_wp2_with fail
  go_quiet (fail)
  go_wp2_with fail
  rw [rounds_succ]
  go_wp2_with fail
  go_quiet (fail)
  go_wp2_with fail
  rw [rounds_succ]
  go_wp2_with fail
  go_quiet (fail)
  go_wp2_with fail
  rw [rounds_succ]
  go_wp2_with fail
  go_quiet (fail)
  go_wp2_with fail
  rw [rounds_succ]
  go_wp2_with fail
  go_loopw [12] (fun m wr => ∃ k : Nat, a0 ≤ k ∧ k ≤ s.size ∧ k ≤ a0 + 64 ∧ m = .int .i64 k ∧ Hid (WAt s a0 false k) ∧ Drawn w2 wr) (fun m _ => s.size - (intOf m).toNat)
  case atStart => exact ⟨a0, by omega, by omega, by omega, rfl, hst, (by (repeat (refine Drawn.step ?_ _)); exact Drawn.refl _)⟩
  case round =>
    obtain ⟨m, hm1, hm2, hm3, rfl, hm, ⟨nd, rfl⟩⟩ := hrel
    by_cases hc1 : m < s.size
    · by_cases hc2 : m < a0 + 64
      · have hidm := fun w => run_index_str (P := Tryd.prog) Tryd.underlying9 s m hc1 w
        by_cases hl : letterB (bat s m) = true
        · have hm4 : Hid (WAt s a0 false (m + 1)) := hm.out.yes hc1 hc2 (by
            show (letterB (bat s m) && (!false || digitB (bat s m))) = true
            rw [hl]; rfl)
          clear hm
          go_wp2_with (go_at_call 79; refine (lx_word _ _).mono ?_; rintro e w' ⟨rfl, rfl⟩)
          go_roundw
          case rel => exact ⟨m + 1, by omega, by omega, by omega, by go_num, hm4, (by (repeat (refine Drawn.step ?_ _)); exact Drawn.refl _)⟩
          case measure => simp [intOf]; omega
        · replace hl : letterB (bat s m) = false := by simpa using hl
          have hend : Hid (m = a0 + wordN ((bl s).drop a0)) := hm.out.no hc1 hc2 (by
            show (letterB (bat s m) && (!false || digitB (bat s m))) = false
            rw [hl]; rfl)
          go_wp2_with (go_at_call 79; refine (lx_word _ _).mono ?_; rintro e w' ⟨rfl, rfl⟩)
          have hfin := Lib.hid (word_fin s a0 m hend.out hnx.out)
          clear hend hnx hm hidx hst
          have hx1 : (a0 : Int) ≤ (m : Int) := by omega
          have hx2 : (m : Int) ≤ (s.size : Int) := by omega
          have hxs : Hid ((s.extract a0 m).size ≤ 140737488355328) := by show _ ≤ _; rw [ByteArray.size_extract]; omega
          have hda : ∀ (n : Nat) (o : Obj), (w2.drewN n).alloc o = (w2.alloc o).drewN n := fun _ _ => rfl
          have hg2 : w.heap.size < w2.heap.size := by have := hb2.size; omega
          have hrow : Hid (((w2.alloc (.cells #[.int .i64 (kindI (bl (s.extract a0 m))), .string (s.extract a0 m), .int .i64 a0, .int .i64 m] 92)).drewN (nd + 1)).heap[w2.heap.size]? = some (.cells #[.int .i64 (kindI (bl (s.extract a0 m))), .string (s.extract a0 m), .int .i64 a0, .int .i64 m] 92)) := heap_alloc_new w2 _
          have hb3 : Below w.heap.size w ((w2.alloc (.cells #[.int .i64 (kindI (bl (s.extract a0 m))), .string (s.extract a0 m), .int .i64 a0, .int .i64 m] 92)).drewN (nd + 1)) := hWb.trans (((hb2.al _).drewN _).mono (by omega))
          have hcell : Hid (((w2.alloc (.cells #[.int .i64 (kindI (bl (s.extract a0 m))), .string (s.extract a0 m), .int .i64 a0, .int .i64 m] 92)).drewN (nd + 1)).heap[w.heap.size]? = some (.cells (tokCs 0 [] 0 0) 92)) := (((hb2.al _).drewN _).block _ hWs).trans hW.out
          have hs3 : w2.heap.size < ((w2.alloc (.cells #[.int .i64 (kindI (bl (s.extract a0 m))), .string (s.extract a0 m), .int .i64 a0, .int .i64 m] 92)).drewN (nd + 1)).heap.size := by simp
          go_region_with ((go_at_call 62; refine (lx_kindOf _ _ hxs.out).mono ?_; rintro e w' ⟨rfl, rfl⟩))
          all_goals
            clear hda
            rw [chain4]
            generalize (w2.alloc (.cells #[.int .i64 (kindI (bl (s.extract a0 m))), .string (s.extract a0 m), .int .i64 a0, .int .i64 m] 92)).drewN (nd + 1) = w3 at hrow hb3 hcell hs3 ⊢
            have k0 : w3.cell? ⟨w2.heap.size, 0, none⟩ = some (.int .i64 (kindI (bl (s.extract a0 m)))) := cell_of_row _ _ _ _ _ _ hrow.out
            have k1 : w3.cell? ⟨w2.heap.size, 1, none⟩ = some (.string (s.extract a0 m)) := cell_of_row _ _ _ _ _ _ hrow.out
            have k2 : w3.cell? ⟨w2.heap.size, 2, none⟩ = some (.int .i64 a0) := cell_of_row _ _ _ _ _ _ hrow.out
            have k3 : w3.cell? ⟨w2.heap.size, 3, none⟩ = some (.int .i64 m) := cell_of_row _ _ _ _ _ _ hrow.out
            have f1 : w3.frozen? ⟨w2.heap.size, 1, none⟩ = false := frozen_of_row _ _ _ _ _ hrow.out
            by_cases hk0 : kindI (bl (s.extract a0 m)) = 0
            · have hke : (kindI (bl (s.extract a0 m)) == 0) = true := by simp [hk0]
              replace hfin := Lib.hid (hfin.out.trans (if_pos hk0))
              clear hk0
              go_wp2_with (refine wpList_store_rowA rfl 92 (.tmp 4) (.tmp 127) rfl w.heap.size (tokCs 0 [] 0 0) rfl rfl 92 (tokCs 0 [] 0 0) hcell.out sizeTok rfl (tokCs_one _ _ _ _) ?_)
              intro w4 hg4 hgr hsz
              have hb4 : Below w.heap.size w w4 := hb3.grown hgr (by omega) (by intro k hk; injection hk with hk; omega)
              clear hgr hsz
              go_wp2_with fail
              refine bodyPost_ret (v := .tuple #[.agg (tokCs 0 [] 0 0), .bool false]) ?_ rfl (NPost.of hfin.out rfl hb4)
              exact results_cell2 rfl _ _ w.heap.size 92 _ (0, 0) _ rfl hg4.out Tryd.underlying92 rfl sizeTok _ rfl
            · have hke : (kindI (bl (s.extract a0 m)) == 0) = false := by simp [hk0]
              replace hfin := Lib.hid (hfin.out.trans (if_neg hk0))
              clear hk0
              by_cases hr : reservedB (bl (s.extract a0 m)) = true
              · replace hr := Lib.hid hr
                have hrf : Hid (nextT ((bl s).drop a0) a0 = (⟨kindI (bl (s.extract a0 m)), [], a0, m⟩, true)) := by have h := hfin.out; rw [if_pos hr.out] at h; exact h
                clear hfin
                go_wp2_with (first
                  | (go_at_call 88; refine (lx_Reserved _ _).mono ?_; rintro e w4 ⟨he, rfl⟩; rw [hr.out] at he; subst he)
                  | (refine wpList_load_row rfl 92 (.tmp 14) rfl w2.heap.size rfl 92 #[.int .i64 (kindI (bl (s.extract a0 m))), .string ⟨#[]⟩, .int .i64 a0, .int .i64 m] (0, 0) _ (heap_setCell_same _ _ _ _ _ _ hrow.out) Tryd.underlying92 rfl sizeTok ?_)
                  | (refine wpList_store_rowA rfl 92 (.tmp 4) (.tmp 132) rfl w.heap.size #[.int .i64 (kindI (bl (s.extract a0 m))), .string ⟨#[]⟩, .int .i64 a0, .int .i64 m] rfl rfl 92 (tokCs 0 [] 0 0) ((heap_setCell_other _ _ _ _ (by show w.heap.size ≠ w2.heap.size; omega)).trans hcell.out) sizeTok rfl (tokCs_one _ [] _ _) ?_))
                intro w4 hg4 hgr hsz
                have hb4 : Below w.heap.size w w4 := (hb3.setCell (by show w.heap.size ≤ w2.heap.size; omega) _).grown hgr (by simp; omega) (by intro k hk; injection hk with hk; omega)
                clear hgr hsz
                go_wp2_with fail
                refine bodyPost_ret (v := .tuple #[.agg #[.int .i64 (kindI (bl (s.extract a0 m))), .string ⟨#[]⟩, .int .i64 a0, .int .i64 m], .bool true]) ?_ rfl (NPost.of hrf.out rfl hb4)
                exact results_cell2 rfl _ _ w.heap.size 92 _ (0, 0) _ rfl hg4.out Tryd.underlying92 rfl sizeTok _ rfl
              · replace hr : Hid (reservedB (bl (s.extract a0 m)) = false) := Lib.hid (by simpa using hr)
                have hrf : Hid (nextT ((bl s).drop a0) a0 = (⟨kindI (bl (s.extract a0 m)), bl (s.extract a0 m), a0, m⟩, true)) := by have h := hfin.out; rw [hr.out] at h; exact h
                clear hfin
                go_wp2_with (first
                  | (go_at_call 88; refine (lx_Reserved _ _).mono ?_; rintro e w4 ⟨he, rfl⟩; rw [hr.out] at he; subst he)
                  | (refine wpList_load_row rfl 92 (.tmp 14) rfl w2.heap.size rfl 92 #[.int .i64 (kindI (bl (s.extract a0 m))), .string (s.extract a0 m), .int .i64 a0, .int .i64 m] (0, 0) _ hrow.out Tryd.underlying92 rfl sizeTok ?_)
                  | (refine wpList_store_rowA rfl 92 (.tmp 4) (.tmp 132) rfl w.heap.size #[.int .i64 (kindI (bl (s.extract a0 m))), .string (s.extract a0 m), .int .i64 a0, .int .i64 m] rfl rfl 92 (tokCs 0 [] 0 0) hcell.out sizeTok rfl (by simp [Value.oneCell']) ?_))
                intro w4 hg4 hgr hsz
                have hb4 : Below w.heap.size w w4 := hb3.grown hgr (by omega) (by intro k hk; injection hk with hk; omega)
                clear hgr hsz
                go_wp2_with fail
                refine bodyPost_ret (v := .tuple #[.agg #[.int .i64 (kindI (bl (s.extract a0 m))), .string (s.extract a0 m), .int .i64 a0, .int .i64 m], .bool true]) ?_ rfl (NPost.of hrf.out (by show _ = tokCs _ (bl (s.extract a0 m)) _ _; unfold tokCs; rw [mk_bl]) hb4)
                exact results_cell2 rfl _ _ w.heap.size 92 _ (0, 0) _ rfl hg4.out Tryd.underlying92 rfl sizeTok _ rfl
      · have hend : Hid (m = a0 + wordN ((bl s).drop a0)) := hm.out.stop (.inr (by omega))
        have hn2 : ¬ (m : Int) < (a0 : Int) + 64 := by omega
        go_wp2_with (go_at_call 79; refine (lx_word _ _).mono ?_; rintro e w' ⟨rfl, rfl⟩)
        have hfin := Lib.hid (word_fin s a0 m hend.out hnx.out)
        clear hend hnx hm hidx hst
        have hx1 : (a0 : Int) ≤ (m : Int) := by omega
        have hx2 : (m : Int) ≤ (s.size : Int) := by omega
        have hxs : Hid ((s.extract a0 m).size ≤ 140737488355328) := by show _ ≤ _; rw [ByteArray.size_extract]; omega
        have hda : ∀ (n : Nat) (o : Obj), (w2.drewN n).alloc o = (w2.alloc o).drewN n := fun _ _ => rfl
        have hg2 : w.heap.size < w2.heap.size := by have := hb2.size; omega
        have hrow : Hid (((w2.alloc (.cells #[.int .i64 (kindI (bl (s.extract a0 m))), .string (s.extract a0 m), .int .i64 a0, .int .i64 m] 92)).drewN (nd + 1)).heap[w2.heap.size]? = some (.cells #[.int .i64 (kindI (bl (s.extract a0 m))), .string (s.extract a0 m), .int .i64 a0, .int .i64 m] 92)) := heap_alloc_new w2 _
        have hb3 : Below w.heap.size w ((w2.alloc (.cells #[.int .i64 (kindI (bl (s.extract a0 m))), .string (s.extract a0 m), .int .i64 a0, .int .i64 m] 92)).drewN (nd + 1)) := hWb.trans (((hb2.al _).drewN _).mono (by omega))
        have hcell : Hid (((w2.alloc (.cells #[.int .i64 (kindI (bl (s.extract a0 m))), .string (s.extract a0 m), .int .i64 a0, .int .i64 m] 92)).drewN (nd + 1)).heap[w.heap.size]? = some (.cells (tokCs 0 [] 0 0) 92)) := (((hb2.al _).drewN _).block _ hWs).trans hW.out
        have hs3 : w2.heap.size < ((w2.alloc (.cells #[.int .i64 (kindI (bl (s.extract a0 m))), .string (s.extract a0 m), .int .i64 a0, .int .i64 m] 92)).drewN (nd + 1)).heap.size := by simp
        go_region_with ((go_at_call 62; refine (lx_kindOf _ _ hxs.out).mono ?_; rintro e w' ⟨rfl, rfl⟩))
        all_goals
          clear hda
          rw [chain4]
          generalize (w2.alloc (.cells #[.int .i64 (kindI (bl (s.extract a0 m))), .string (s.extract a0 m), .int .i64 a0, .int .i64 m] 92)).drewN (nd + 1) = w3 at hrow hb3 hcell hs3 ⊢
          have k0 : w3.cell? ⟨w2.heap.size, 0, none⟩ = some (.int .i64 (kindI (bl (s.extract a0 m)))) := cell_of_row _ _ _ _ _ _ hrow.out
          have k1 : w3.cell? ⟨w2.heap.size, 1, none⟩ = some (.string (s.extract a0 m)) := cell_of_row _ _ _ _ _ _ hrow.out
          have k2 : w3.cell? ⟨w2.heap.size, 2, none⟩ = some (.int .i64 a0) := cell_of_row _ _ _ _ _ _ hrow.out
          have k3 : w3.cell? ⟨w2.heap.size, 3, none⟩ = some (.int .i64 m) := cell_of_row _ _ _ _ _ _ hrow.out
          have f1 : w3.frozen? ⟨w2.heap.size, 1, none⟩ = false := frozen_of_row _ _ _ _ _ hrow.out
          by_cases hk0 : kindI (bl (s.extract a0 m)) = 0
          · have hke : (kindI (bl (s.extract a0 m)) == 0) = true := by simp [hk0]
            replace hfin := Lib.hid (hfin.out.trans (if_pos hk0))
            clear hk0
            go_wp2_with (refine wpList_store_rowA rfl 92 (.tmp 4) (.tmp 127) rfl w.heap.size (tokCs 0 [] 0 0) rfl rfl 92 (tokCs 0 [] 0 0) hcell.out sizeTok rfl (tokCs_one _ _ _ _) ?_)
            intro w4 hg4 hgr hsz
            have hb4 : Below w.heap.size w w4 := hb3.grown hgr (by omega) (by intro k hk; injection hk with hk; omega)
            clear hgr hsz
            go_wp2_with fail
            refine bodyPost_ret (v := .tuple #[.agg (tokCs 0 [] 0 0), .bool false]) ?_ rfl (NPost.of hfin.out rfl hb4)
            exact results_cell2 rfl _ _ w.heap.size 92 _ (0, 0) _ rfl hg4.out Tryd.underlying92 rfl sizeTok _ rfl
          · have hke : (kindI (bl (s.extract a0 m)) == 0) = false := by simp [hk0]
            replace hfin := Lib.hid (hfin.out.trans (if_neg hk0))
            clear hk0
            by_cases hr : reservedB (bl (s.extract a0 m)) = true
            · replace hr := Lib.hid hr
              have hrf : Hid (nextT ((bl s).drop a0) a0 = (⟨kindI (bl (s.extract a0 m)), [], a0, m⟩, true)) := by have h := hfin.out; rw [if_pos hr.out] at h; exact h
              clear hfin
              go_wp2_with (first
                | (go_at_call 88; refine (lx_Reserved _ _).mono ?_; rintro e w4 ⟨he, rfl⟩; rw [hr.out] at he; subst he)
                | (refine wpList_load_row rfl 92 (.tmp 14) rfl w2.heap.size rfl 92 #[.int .i64 (kindI (bl (s.extract a0 m))), .string ⟨#[]⟩, .int .i64 a0, .int .i64 m] (0, 0) _ (heap_setCell_same _ _ _ _ _ _ hrow.out) Tryd.underlying92 rfl sizeTok ?_)
                | (refine wpList_store_rowA rfl 92 (.tmp 4) (.tmp 132) rfl w.heap.size #[.int .i64 (kindI (bl (s.extract a0 m))), .string ⟨#[]⟩, .int .i64 a0, .int .i64 m] rfl rfl 92 (tokCs 0 [] 0 0) ((heap_setCell_other _ _ _ _ (by show w.heap.size ≠ w2.heap.size; omega)).trans hcell.out) sizeTok rfl (tokCs_one _ [] _ _) ?_))
              intro w4 hg4 hgr hsz
              have hb4 : Below w.heap.size w w4 := (hb3.setCell (by show w.heap.size ≤ w2.heap.size; omega) _).grown hgr (by simp; omega) (by intro k hk; injection hk with hk; omega)
              clear hgr hsz
              go_wp2_with fail
              refine bodyPost_ret (v := .tuple #[.agg #[.int .i64 (kindI (bl (s.extract a0 m))), .string ⟨#[]⟩, .int .i64 a0, .int .i64 m], .bool true]) ?_ rfl (NPost.of hrf.out rfl hb4)
              exact results_cell2 rfl _ _ w.heap.size 92 _ (0, 0) _ rfl hg4.out Tryd.underlying92 rfl sizeTok _ rfl
            · replace hr : Hid (reservedB (bl (s.extract a0 m)) = false) := Lib.hid (by simpa using hr)
              have hrf : Hid (nextT ((bl s).drop a0) a0 = (⟨kindI (bl (s.extract a0 m)), bl (s.extract a0 m), a0, m⟩, true)) := by have h := hfin.out; rw [hr.out] at h; exact h
              clear hfin
              go_wp2_with (first
                | (go_at_call 88; refine (lx_Reserved _ _).mono ?_; rintro e w4 ⟨he, rfl⟩; rw [hr.out] at he; subst he)
                | (refine wpList_load_row rfl 92 (.tmp 14) rfl w2.heap.size rfl 92 #[.int .i64 (kindI (bl (s.extract a0 m))), .string (s.extract a0 m), .int .i64 a0, .int .i64 m] (0, 0) _ hrow.out Tryd.underlying92 rfl sizeTok ?_)
                | (refine wpList_store_rowA rfl 92 (.tmp 4) (.tmp 132) rfl w.heap.size #[.int .i64 (kindI (bl (s.extract a0 m))), .string (s.extract a0 m), .int .i64 a0, .int .i64 m] rfl rfl 92 (tokCs 0 [] 0 0) hcell.out sizeTok rfl (by simp [Value.oneCell']) ?_))
              intro w4 hg4 hgr hsz
              have hb4 : Below w.heap.size w w4 := hb3.grown hgr (by omega) (by intro k hk; injection hk with hk; omega)
              clear hgr hsz
              go_wp2_with fail
              refine bodyPost_ret (v := .tuple #[.agg #[.int .i64 (kindI (bl (s.extract a0 m))), .string (s.extract a0 m), .int .i64 a0, .int .i64 m], .bool true]) ?_ rfl (NPost.of hrf.out (by show _ = tokCs _ (bl (s.extract a0 m)) _ _; unfold tokCs; rw [mk_bl]) hb4)
              exact results_cell2 rfl _ _ w.heap.size 92 _ (0, 0) _ rfl hg4.out Tryd.underlying92 rfl sizeTok _ rfl
    · have hend : Hid (m = a0 + wordN ((bl s).drop a0)) := hm.out.stop (.inl (by omega))
      have hn1 : ¬ (m : Int) < (s.size : Int) := by omega
      go_wp2_with (go_at_call 79; refine (lx_word _ _).mono ?_; rintro e w' ⟨rfl, rfl⟩)
      have hfin := Lib.hid (word_fin s a0 m hend.out hnx.out)
      clear hend hnx hm hidx hst
      have hx1 : (a0 : Int) ≤ (m : Int) := by omega
      have hx2 : (m : Int) ≤ (s.size : Int) := by omega
      have hxs : Hid ((s.extract a0 m).size ≤ 140737488355328) := by show _ ≤ _; rw [ByteArray.size_extract]; omega
      have hda : ∀ (n : Nat) (o : Obj), (w2.drewN n).alloc o = (w2.alloc o).drewN n := fun _ _ => rfl
      have hg2 : w.heap.size < w2.heap.size := by have := hb2.size; omega
      have hrow : Hid (((w2.alloc (.cells #[.int .i64 (kindI (bl (s.extract a0 m))), .string (s.extract a0 m), .int .i64 a0, .int .i64 m] 92)).drewN (nd + 1)).heap[w2.heap.size]? = some (.cells #[.int .i64 (kindI (bl (s.extract a0 m))), .string (s.extract a0 m), .int .i64 a0, .int .i64 m] 92)) := heap_alloc_new w2 _
      have hb3 : Below w.heap.size w ((w2.alloc (.cells #[.int .i64 (kindI (bl (s.extract a0 m))), .string (s.extract a0 m), .int .i64 a0, .int .i64 m] 92)).drewN (nd + 1)) := hWb.trans (((hb2.al _).drewN _).mono (by omega))
      have hcell : Hid (((w2.alloc (.cells #[.int .i64 (kindI (bl (s.extract a0 m))), .string (s.extract a0 m), .int .i64 a0, .int .i64 m] 92)).drewN (nd + 1)).heap[w.heap.size]? = some (.cells (tokCs 0 [] 0 0) 92)) := (((hb2.al _).drewN _).block _ hWs).trans hW.out
      have hs3 : w2.heap.size < ((w2.alloc (.cells #[.int .i64 (kindI (bl (s.extract a0 m))), .string (s.extract a0 m), .int .i64 a0, .int .i64 m] 92)).drewN (nd + 1)).heap.size := by simp
      go_region_with ((go_at_call 62; refine (lx_kindOf _ _ hxs.out).mono ?_; rintro e w' ⟨rfl, rfl⟩))
      all_goals
        clear hda
        rw [chain4]
        generalize (w2.alloc (.cells #[.int .i64 (kindI (bl (s.extract a0 m))), .string (s.extract a0 m), .int .i64 a0, .int .i64 m] 92)).drewN (nd + 1) = w3 at hrow hb3 hcell hs3 ⊢
        have k0 : w3.cell? ⟨w2.heap.size, 0, none⟩ = some (.int .i64 (kindI (bl (s.extract a0 m)))) := cell_of_row _ _ _ _ _ _ hrow.out
        have k1 : w3.cell? ⟨w2.heap.size, 1, none⟩ = some (.string (s.extract a0 m)) := cell_of_row _ _ _ _ _ _ hrow.out
        have k2 : w3.cell? ⟨w2.heap.size, 2, none⟩ = some (.int .i64 a0) := cell_of_row _ _ _ _ _ _ hrow.out
        have k3 : w3.cell? ⟨w2.heap.size, 3, none⟩ = some (.int .i64 m) := cell_of_row _ _ _ _ _ _ hrow.out
        have f1 : w3.frozen? ⟨w2.heap.size, 1, none⟩ = false := frozen_of_row _ _ _ _ _ hrow.out
        by_cases hk0 : kindI (bl (s.extract a0 m)) = 0
        · have hke : (kindI (bl (s.extract a0 m)) == 0) = true := by simp [hk0]
          replace hfin := Lib.hid (hfin.out.trans (if_pos hk0))
          clear hk0
          go_wp2_with (refine wpList_store_rowA rfl 92 (.tmp 4) (.tmp 127) rfl w.heap.size (tokCs 0 [] 0 0) rfl rfl 92 (tokCs 0 [] 0 0) hcell.out sizeTok rfl (tokCs_one _ _ _ _) ?_)
          intro w4 hg4 hgr hsz
          have hb4 : Below w.heap.size w w4 := hb3.grown hgr (by omega) (by intro k hk; injection hk with hk; omega)
          clear hgr hsz
          go_wp2_with fail
          refine bodyPost_ret (v := .tuple #[.agg (tokCs 0 [] 0 0), .bool false]) ?_ rfl (NPost.of hfin.out rfl hb4)
          exact results_cell2 rfl _ _ w.heap.size 92 _ (0, 0) _ rfl hg4.out Tryd.underlying92 rfl sizeTok _ rfl
        · have hke : (kindI (bl (s.extract a0 m)) == 0) = false := by simp [hk0]
          replace hfin := Lib.hid (hfin.out.trans (if_neg hk0))
          clear hk0
          by_cases hr : reservedB (bl (s.extract a0 m)) = true
          · replace hr := Lib.hid hr
            have hrf : Hid (nextT ((bl s).drop a0) a0 = (⟨kindI (bl (s.extract a0 m)), [], a0, m⟩, true)) := by have h := hfin.out; rw [if_pos hr.out] at h; exact h
            clear hfin
            go_wp2_with (first
              | (go_at_call 88; refine (lx_Reserved _ _).mono ?_; rintro e w4 ⟨he, rfl⟩; rw [hr.out] at he; subst he)
              | (refine wpList_load_row rfl 92 (.tmp 14) rfl w2.heap.size rfl 92 #[.int .i64 (kindI (bl (s.extract a0 m))), .string ⟨#[]⟩, .int .i64 a0, .int .i64 m] (0, 0) _ (heap_setCell_same _ _ _ _ _ _ hrow.out) Tryd.underlying92 rfl sizeTok ?_)
              | (refine wpList_store_rowA rfl 92 (.tmp 4) (.tmp 132) rfl w.heap.size #[.int .i64 (kindI (bl (s.extract a0 m))), .string ⟨#[]⟩, .int .i64 a0, .int .i64 m] rfl rfl 92 (tokCs 0 [] 0 0) ((heap_setCell_other _ _ _ _ (by show w.heap.size ≠ w2.heap.size; omega)).trans hcell.out) sizeTok rfl (tokCs_one _ [] _ _) ?_))
            intro w4 hg4 hgr hsz
            have hb4 : Below w.heap.size w w4 := (hb3.setCell (by show w.heap.size ≤ w2.heap.size; omega) _).grown hgr (by simp; omega) (by intro k hk; injection hk with hk; omega)
            clear hgr hsz
            go_wp2_with fail
            refine bodyPost_ret (v := .tuple #[.agg #[.int .i64 (kindI (bl (s.extract a0 m))), .string ⟨#[]⟩, .int .i64 a0, .int .i64 m], .bool true]) ?_ rfl (NPost.of hrf.out rfl hb4)
            exact results_cell2 rfl _ _ w.heap.size 92 _ (0, 0) _ rfl hg4.out Tryd.underlying92 rfl sizeTok _ rfl
          · replace hr : Hid (reservedB (bl (s.extract a0 m)) = false) := Lib.hid (by simpa using hr)
            have hrf : Hid (nextT ((bl s).drop a0) a0 = (⟨kindI (bl (s.extract a0 m)), bl (s.extract a0 m), a0, m⟩, true)) := by have h := hfin.out; rw [hr.out] at h; exact h
            clear hfin
            go_wp2_with (first
              | (go_at_call 88; refine (lx_Reserved _ _).mono ?_; rintro e w4 ⟨he, rfl⟩; rw [hr.out] at he; subst he)
              | (refine wpList_load_row rfl 92 (.tmp 14) rfl w2.heap.size rfl 92 #[.int .i64 (kindI (bl (s.extract a0 m))), .string (s.extract a0 m), .int .i64 a0, .int .i64 m] (0, 0) _ hrow.out Tryd.underlying92 rfl sizeTok ?_)
              | (refine wpList_store_rowA rfl 92 (.tmp 4) (.tmp 132) rfl w.heap.size #[.int .i64 (kindI (bl (s.extract a0 m))), .string (s.extract a0 m), .int .i64 a0, .int .i64 m] rfl rfl 92 (tokCs 0 [] 0 0) hcell.out sizeTok rfl (by simp [Value.oneCell']) ?_))
            intro w4 hg4 hgr hsz
            have hb4 : Below w.heap.size w w4 := hb3.grown hgr (by omega) (by intro k hk; injection hk with hk; omega)
            clear hgr hsz
            go_wp2_with fail
            refine bodyPost_ret (v := .tuple #[.agg #[.int .i64 (kindI (bl (s.extract a0 m))), .string (s.extract a0 m), .int .i64 a0, .int .i64 m], .bool true]) ?_ rfl (NPost.of hrf.out (by show _ = tokCs _ (bl (s.extract a0 m)) _ _; unfold tokCs; rw [mk_bl]) hb4)
            exact results_cell2 rfl _ _ w.heap.size 92 _ (0, 0) _ rfl hg4.out Tryd.underlying92 rfl sizeTok _ rfl

end Go.Proofs.YtclioihichcpiaaDoor
