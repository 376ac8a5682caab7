/- the reference's next: words. -/
import Derived.Test.YtefgipoegnacjaaProg
import Derived.Test.YtefgipoegnacjaaBase
import Derived.Test.YtefgipoegnacjaaBytes
import Derived.Test.YtefgipoegnacjaaLexSpec
import Derived.Test.YtefgipoegnacjaaLexA
import Derived.Test.YtefgipoegnacjaaLexB
import Derived.Test.YtefgipoegnacjaaLexD
import Derived.Test.YtefgipoegnacjaaLexE
import Derived.Test.YtefgipoegnacjaaLexG
import Derived.Test.YtefgipoegnacjaaLexH
import Derived.Test.YtefgipoegnacjaaLexK
import Derived.Test.YtefgipoegnacjaaLexP
import Derived.Test.YtefgipoegnacjaaLexO
import Derived.Test.YtefgipoegnacjaaLexQ
import Derived.Test.YtefgipoegnacjaaLexR
import Derived.Test.YtefgipoegnacjaaLexS
namespace Go.Proofs.Ytefgipoegnacjaa
open Go.RowKit Lx

namespace Lx
theorem kind_res (l : Bs) (h : kindI l ≠ 0) : (reservedB l = true ∧ (kindI l == 1) = false ∧ (kindI l == 2) = false ∧ (kindI l == 3) = false) ∨
    (reservedB l = false ∧ (kindI l == 1) = true) ∨ (reservedB l = false ∧ (kindI l == 1) = false ∧ (kindI l == 2) = true) ∨ (reservedB l = false ∧ (kindI l == 1) = false ∧ (kindI l == 2) = false ∧ (kindI l == 3) = true) := by
  unfold kindI at *
  unfold reservedB
  by_cases e1 : l = sInput
  · subst e1; left; decide
  by_cases e2 : l = sOutput
  · subst e2; left; decide
  by_cases e3 : l = sNot
  · subst e3; left; decide
  rw [if_neg e1, if_neg e2, if_neg e3] at h ⊢
  right
  have hr : (l == sInput || l == sOutput || l == sNot) = false := by simp [e1, e2, e3]
  rw [hr]
  revert h; cases numberB l <;> cases variableB l <;> cases nameB l <;> simp
end Lx

set_option maxHeartbeats 4000000 in
theorem rx_next_word (s : ByteArray) (a0 : Nat) (w : World) (hs : s.size ≤ 4194304) (hlt : a0 < s.size) (h34 : ¬ bat s a0 = 34) (hsg : signI (bat s a0) = none) :
    Calls Try.prog 33 #[.string s, .int .i64 a0] w (RPost s a0 w) := by
  have hidx := fun w => run_index_str (P := Try.prog) Try.underlying9 s a0 hlt w
  have g1 : (bat s a0 == 34) = false := by rw [beq_eq_false_iff_ne]; exact h34
  have hr : Hid (signR ((bl s).drop a0) = (0, 0, 0)) := by show _ = _; rw [drop_bl s a0 hlt]; exact sign_none _ _ hsg
  have hnx : Hid (nextT ((bl s).drop a0) a0 = if kindI (((bl s).drop a0).take (wordN ((bl s).drop a0))) = 0 then (zeroTok, false)
      else (⟨kindI (((bl s).drop a0).take (wordN ((bl s).drop a0))), if reservedB (((bl s).drop a0).take (wordN ((bl s).drop a0))) then [] else ((bl s).drop a0).take (wordN ((bl s).drop a0)), a0, a0 + wordN ((bl s).drop a0)⟩, true)) := by
    show _ = _; rw [drop_bl s a0 hlt]; exact next_word _ _ _ h34 hsg
  have hwl := wordN_le ((bl s).drop a0)
  rw [List.length_drop, bl_length] at hwl
  clear h34 hsg
  have hW : Hid ((w.alloc (.cells #[.int .i64 0, .string ⟨#[]⟩, .int .i64 0, .int .i64 0] 25)).heap[w.heap.size]? = some (.cells (tokCs 0 [] 0 0) 25)) := heap_alloc_new _ _
  have hWb : Below w.heap.size w (w.alloc (.cells #[.int .i64 0, .string ⟨#[]⟩, .int .i64 0, .int .i64 0] 25)) := (Below.refl _ _).al _
  have hWs : w.heap.size < (w.alloc (.cells #[.int .i64 0, .string ⟨#[]⟩, .int .i64 0, .int .i64 0] 25)).heap.size := by simp
  by_cases hz : kindI (((bl s).drop a0).take (wordN ((bl s).drop a0))) = 0
  · have hl : Hid (longN ((bl s).drop a0) = 0) := by show _ = _; unfold longN; rw [if_pos hz]
    replace hnx := Lib.hid (hnx.out.trans (if_pos hz))
    clear hz hwl
    go_enter Try.func33, Try.ntmps33
    go_wp2_with fail
    generalize w.alloc (.cells #[.int .i64 0, .string ⟨#[]⟩, .int .i64 0, .int .i64 0] 25) = W at hW hWb hWs ⊢
    refine (rx_sign s a0 _ hs hlt).mono ?_
    rintro e w2 ⟨he, rfl⟩
    rw [hr.out] at he
    subst he
    go_wp2_with fail
    refine (rx_longest s a0 _ hs hlt).mono ?_
    rintro e w2 ⟨he, rfl⟩
    rw [hl.out, Nat.add_zero] at he
    subst he
    go_wp2_with (refine wpList_store_rowA rfl 25 (.tmp 4) (.tmp 61) rfl w.heap.size (tokCs 0 [] 0 0) rfl rfl 25 (tokCs 0 [] 0 0) hW.out sizeTok rfl (tokCs_one _ _ _ _) ?_)
    intro w4 hg4 hgr hsz
    have hb4 : Below w.heap.size w w4 := hWb.grown hgr (by omega) (by intro k hk; injection hk with hk; omega)
    clear hgr hsz
    go_wp2_with fail
    refine bodyPost_ret (v := .tuple #[.agg (tokCs 0 [] 0 0), .int .i64 a0, .bool false]) ?_ rfl (RPost.of hnx.out rfl rfl hb4)
    exact results_cell3 rfl _ _ w.heap.size 25 _ (0, 0) _ rfl hg4.out Try.underlying25 rfl sizeTok _ _ rfl rfl
  · obtain ⟨m, hm⟩ : ∃ m, m = a0 + wordN ((bl s).drop a0) := ⟨_, rfl⟩
    have hl : Hid (a0 + longN ((bl s).drop a0) = m) := by show _ = _; unfold longN; rw [if_neg hz, hm]
    have hfin := Lib.hid (word_fin s a0 m hm hnx.out)
    have hX : bl (s.extract a0 m) = ((bl s).drop a0).take (wordN ((bl s).drop a0)) := by rw [extract_mk', bl_mk, show m - a0 = wordN ((bl s).drop a0) from by omega]
    have hz' : Hid (¬ kindI (bl (s.extract a0 m)) = 0) := by show ¬ _; rw [hX]; exact hz
    have hw1 : a0 < m := by
      rcases Nat.eq_zero_or_pos (wordN ((bl s).drop a0)) with h | h
      · exact absurd (by rw [h]; rfl) hz
      · omega
    have hm2 : m ≤ s.size := by omega
    clear hX hz hm hwl hnx
    have hme : ((m : Int) == (a0 : Int)) = false := by rw [beq_eq_false_iff_ne]; omega
    replace hfin := Lib.hid (hfin.out.trans (if_neg hz'.out))
    have hxs : Hid ((s.extract a0 m).size ≤ 140737488355328) := by show _ ≤ _; rw [ByteArray.size_extract]; omega
    have hx1 : (a0 : Int) ≤ (m : Int) := by omega
    have hx2 : (m : Int) ≤ (s.size : Int) := by omega
    have hkr := kind_res _ hz'.out
    go_enter Try.func33, Try.ntmps33
    go_wp2_with fail
    generalize w.alloc (.cells #[.int .i64 0, .string ⟨#[]⟩, .int .i64 0, .int .i64 0] 25) = W at hW hWb hWs ⊢
    refine (rx_sign s a0 _ hs hlt).mono ?_
    rintro e w2 ⟨he, rfl⟩
    rw [hr.out] at he
    subst he
    go_wp2_with fail
    refine (rx_longest s a0 _ hs hlt).mono ?_
    rintro e w2 ⟨he, rfl⟩
    rw [hl.out] at he
    subst he
    go_wp2_with (first
      | (go_at_call 47; refine (rx_word _ _ hxs.out).mono ?_; rintro e w' ⟨rfl, rfl⟩)
      | (refine wpList_store_rowA rfl 25 (.tmp 14) (.tmp 70) rfl W.heap.size (tokCs (kindI (bl (s.extract a0 m))) [] a0 m) rfl rfl 25 (tokCs 0 [] 0 0) (heap_alloc_new _ _) sizeTok rfl (tokCs_one _ _ _ _) ?_))
    intro w3 hg3 hgr hsz
    have hb3 : Below W.heap.size W w3 := ((Below.refl _ _).al _).grown hgr (by simp) (by intro k hk; injection hk with hk; omega)
    have hcell : Hid (w3.heap[w.heap.size]? = some (.cells (tokCs 0 [] 0 0) 25)) := (hb3.block _ hWs).trans hW.out
    have hs3 : W.heap.size < w3.heap.size := by have h := hsz.out; first | omega | (simp at h; omega)
    clear hgr hsz
    have k0 : w3.cell? ⟨W.heap.size, 0, none⟩ = some (.int .i64 (kindI (bl (s.extract a0 m)))) := cell_of_row _ _ _ _ _ _ hg3.out
    have k1 : w3.cell? ⟨W.heap.size, 1, none⟩ = some (.string ⟨#[]⟩) := cell_of_row _ _ _ _ _ _ hg3.out
    have f1 : w3.frozen? ⟨W.heap.size, 1, none⟩ = false := frozen_of_row _ _ _ _ _ hg3.out
    rcases hkr with ⟨hr, q1, q2, q3⟩ | ⟨hr, q1⟩ | ⟨hr, q1, q2⟩ | ⟨hr, q1, q2, q3⟩
    · rw [hr] at hfin
      clear hr
      go_wp2_with (first
        | (refine wpList_load_row rfl 25 (.tmp 14) rfl W.heap.size rfl 25 (tokCs (kindI (bl (s.extract a0 m))) [] a0 m) (0, 0) _ hg3.out Try.underlying25 rfl sizeTok ?_)
        | (refine wpList_store_rowA rfl 25 (.tmp 4) (.tmp 89) rfl w.heap.size (tokCs (kindI (bl (s.extract a0 m))) [] a0 m) rfl rfl 25 (tokCs 0 [] 0 0) hcell.out sizeTok rfl (tokCs_one _ _ _ _) ?_))
      intro w4 hg4 hgr hsz
      have hb4 : Below w.heap.size w w4 := (hWb.trans (hb3.mono (by omega))).grown hgr (by omega) (by intro k hk; injection hk with hk; omega)
      clear hgr hsz
      go_wp2_with fail
      refine bodyPost_ret (v := .tuple #[.agg (tokCs (kindI (bl (s.extract a0 m))) [] a0 m), .int .i64 m, .bool true]) ?_ rfl (RPost.of hfin.out rfl (by rw [if_neg hz'.out]) hb4)
      exact results_cell3 rfl _ _ w.heap.size 25 _ (0, 0) _ rfl hg4.out Try.underlying25 rfl sizeTok _ _ rfl rfl
    all_goals
      rw [hr] at hfin
      clear hr
      go_wp2_with (first
        | (refine wpList_load_row rfl 25 (.tmp 14) rfl W.heap.size rfl 25 #[.int .i64 (kindI (bl (s.extract a0 m))), .string (s.extract a0 m), .int .i64 a0, .int .i64 m] (0, 0) _ (heap_setCell_same _ _ _ _ _ _ hg3.out) Try.underlying25 rfl sizeTok ?_)
        | (refine wpList_store_rowA rfl 25 (.tmp 4) (.tmp 89) rfl w.heap.size #[.int .i64 (kindI (bl (s.extract a0 m))), .string (s.extract a0 m), .int .i64 a0, .int .i64 m] rfl rfl 25 (tokCs 0 [] 0 0) ((heap_setCell_other _ _ _ _ (by show w.heap.size ≠ W.heap.size; omega)).trans hcell.out) sizeTok rfl (by simp [Value.oneCell']) ?_))
      intro w4 hg4 hgr hsz
      have hb4 : Below w.heap.size w w4 := ((hWb.trans (hb3.mono (by omega))).setCell (by show w.heap.size ≤ W.heap.size; omega) _).grown hgr (by simp; omega) (by intro k hk; injection hk with hk; omega)
      clear hgr hsz
      go_wp2_with fail
      refine bodyPost_ret (v := .tuple #[.agg #[.int .i64 (kindI (bl (s.extract a0 m))), .string (s.extract a0 m), .int .i64 a0, .int .i64 m], .int .i64 m, .bool true]) ?_ rfl (RPost.of hfin.out (by show _ = tokCs _ (bl (s.extract a0 m)) _ _; unfold tokCs; rw [mk_bl]) (by rw [if_neg hz'.out]) hb4)
      exact results_cell3 rfl _ _ w.heap.size 25 _ (0, 0) _ rfl hg4.out Try.underlying25 rfl sizeTok _ _ rfl rfl

/-- the reference's next, at any place. -/
theorem rx_next (s : ByteArray) (a0 : Nat) (w : World) (hs : s.size ≤ 4194304) (hlt : a0 < s.size) :
    Calls Try.prog 33 #[.string s, .int .i64 a0] w (RPost s a0 w) := by
  by_cases h34 : bat s a0 = 34
  · exact rx_next_str s a0 w hs hlt h34
  by_cases hsg : signI (bat s a0) = none
  · exact rx_next_word s a0 w hs hlt h34 hsg
  · exact rx_next_sign s a0 w hs hlt h34 hsg

end Go.Proofs.Ytefgipoegnacjaa
