/- the reference's Tokens. -/
import Derived.Test.YtefgipoegnacjaaProg
import Derived.Test.YtefgipoegnacjaaBase
import Derived.Test.YtefgipoegnacjaaBytes
import Derived.Test.YtefgipoegnacjaaLexSpec
import Derived.Test.YtefgipoegnacjaaLexA
import Derived.Test.YtefgipoegnacjaaLexD
import Derived.Test.YtefgipoegnacjaaLexG
import Derived.Test.YtefgipoegnacjaaLexH
import Derived.Test.YtefgipoegnacjaaLexT
import Derived.Test.YtefgipoegnacjaaLexX
import Derived.Deep.RegionWith
import Derived.BigRegion
namespace Go.Proofs.Ytefgipoegnacjaa
open Go.RowKit Lx

/-- what stands ahead of a turn: nothing yet, or a last token -/
def Last (done : List Tok) (e : Nat) (j : Bool) (l : Value) (n : Nat) : Prop :=
  (done = [] ∧ j = false ∧ l = .slice none 0 0 ∧ n = 0) ∨ (∃ d u m g cap, done = d ++ [u] ∧ u.end_ = e ∧ isWordB u.kind = j ∧ l = .slice (some ⟨g, 0, none⟩) (m + 1) cap ∧ n = m + 1 ∧ m = d.length)

set_option maxHeartbeats 16000000 in
theorem rx_Tokens (s : ByteArray) (w : World) (hs : s.size ≤ 4194304) :
    Calls Try.prog 11 #[.string s] w (TPost (tokens (bl s)) w) := by
  obtain ⟨it, hit, hz0, hz1, hz2⟩ := info_parts infoTok
  obtain ⟨R, hR⟩ : ∃ R, R = tokens (bl s) := ⟨_, rfl⟩
  have hR0 : Hid (R = glue [] (tk ((bl s).drop 0) 0 false)) := hR
  rw [← hR]
  clear hR
  have hW : Hid ((w.alloc (.cells #[.int .i64 0, .string ⟨#[]⟩, .int .i64 0, .int .i64 0] 25)).heap[w.heap.size]? = some (.cells (tokCs 0 [] 0 0) 25)) := heap_alloc_new _ _
  have hWb : Below w.heap.size w (w.alloc (.cells #[.int .i64 0, .string ⟨#[]⟩, .int .i64 0, .int .i64 0] 25)) := (Below.refl _ _).al _
  have hWs : w.heap.size < (w.alloc (.cells #[.int .i64 0, .string ⟨#[]⟩, .int .i64 0, .int .i64 0] 25)).heap.size := by simp
  go_enter Try.func11, Try.ntmps11
  go_wp2_with (go_at_call 32; refine (rx_blanks _ _ _ hs (by omega) (by omega)).mono ?_; rintro e w' ⟨rfl, rfl⟩)
  generalize w.alloc (.cells #[.int .i64 0, .string ⟨#[]⟩, .int .i64 0, .int .i64 0] 25) = W at hW hWb hWs ⊢
  go_loopw [6, 7] (fun l at_ wr => ∃ (e p n : Nat) (j : Bool) (done : List Tok), e ≤ s.size ∧ at_ = .int .i64 p ∧ n ≤ e ∧
      Hid (p = blankP s e) ∧ Hid (R = glue done (tk ((bl s).drop e) e j)) ∧ Hid (wr.ownsRow W.heap.size 25 4 l n (tcells done)) ∧ Hid (Below W.heap.size W wr) ∧ Hid (n = done.length) ∧ Last done e j l n)
    (fun _ at_ _ => s.size - (intOf at_).toNat)
  case atStart => exact ⟨0, _, 0, false, [], by omega, rfl, Nat.le_refl _, rfl, hR0, World.ownsRow_nil _ _ _ _, Below.refl _ _, rfl, .inl ⟨rfl, rfl, rfl, rfl⟩⟩
  case round =>
    obtain ⟨e, p, n, j, done, he, rfl, hdone, hp, hRd, hown0, hb0, hnl, hlast⟩ := hrel
    obtain ⟨g1, g2, g3, g4⟩ := glue_at hRd.out hp.out he
    have hcell : Hid (wr.heap[w.heap.size]? = some (.cells (tokCs 0 [] 0 0) 25)) := (hb0.out.block _ hWs).trans hW.out
    have hbw : Hid (Below w.heap.size w wr) := hWb.trans (hb0.out.mono (by omega))
    by_cases hlt : p < s.size
    · obtain ⟨t, wh, hx⟩ : ∃ t wh, nextT ((bl s).drop p) p = (t, wh) := ⟨_, _, rfl⟩
      obtain ⟨h1, gj, go, gm⟩ := g4 hlt
      have hf := next_facts h1 hx
      have hkz : Hid ((if t.kind = 0 then p else t.end_) ≤ s.size) := by
        show _ ≤ _
        split
        · omega
        · have := hf.hi ‹_›; rw [List.length_drop, bl_length] at this; omega
      have hwk : Hid (wh = true → (if t.kind = 0 then p else t.end_) = t.end_) := fun h => if_neg (hf.whole h)
      have hnw : Hid (wh = false → isWordB t.kind = false) := hf.notword
      replace hx := Lib.hid hx
      replace gj := Lib.hid gj
      replace go := Lib.hid go
      replace gm := Lib.hid gm
      obtain ⟨F, hF⟩ : ∃ F, F = (if t.kind = 0 then p else t.end_) := ⟨_, rfl⟩
      rw [← hF] at hkz hwk
      replace hF := Lib.hid hF
      have hkF : F ≤ s.size := hkz.out
      clear h1 g3 g4 hRd hp hf hkz
      go_wp2_with fail
      refine (rx_next s p _ hs hlt).mono ?_
      rintro e2 w2 ⟨he2, hb2⟩
      rw [hx.out] at he2
      simp only [] at he2
      rw [← hF.out] at he2
      subst he2
      have hs2 : wr.heap.size ≤ w2.heap.size := hb2.size
      have hbw2 : Hid (Below w.heap.size w w2) := hbw.out.trans (hb2.mono hbw.out.size)
      have hbW2 : Hid (Below W.heap.size W w2) := hb0.out.trans (hb2.mono hb0.out.size)
      have hown2 := Lib.hid (own_below hown0.out hb2)
      clear hb2 hown0 hb0 hbw hcell
      go_wp2_with (refine wpList_store_rowA rfl 25 (.tmp 8) (.tmp 22) rfl w2.heap.size (tokC t) rfl rfl 25 (tokCs 0 [] 0 0) (heap_alloc_new _ _) sizeTok rfl (tokCs_one _ _ _ _) ?_)
      intro w3 hg3 hgr hsz
      have hb23 : Below w2.heap.size w2 w3 := ((Below.refl _ _).al _).grown hgr (by simp) (by intro k hk; injection hk with hk; omega)
      have hs3 : w2.heap.size < w3.heap.size := by have h := hsz.out; first | omega | (simp at h; omega)
      have hbw3 : Hid (Below w.heap.size w w3) := hbw2.out.trans (hb23.mono hbw2.out.size)
      have hbW3 : Hid (Below W.heap.size W w3) := hbW2.out.trans (hb23.mono hbW2.out.size)
      have hown3 := Lib.hid (own_below hown2.out hb23)
      have hcell : Hid (w3.heap[w.heap.size]? = some (.cells (tokCs 0 [] 0 0) 25)) := (hbW3.out.block _ hWs).trans hW.out
      have hsw : w.heap.size < w2.heap.size := by have := hbW2.out.size; omega
      clear hgr hsz hb23 hown2 hbw2 hbW2
      obtain ⟨k0, k1, k2, k3⟩ := row_cells hg3.out
      obtain ⟨c0, c1, c2, c3⟩ := row_cells (t := zeroTok) hcell.out
      have z0 : w3.frozen? ⟨w.heap.size, 0, none⟩ = false := frozen_of_row _ _ _ _ _ hcell.out
      have z1 : w3.frozen? ⟨w.heap.size, 1, none⟩ = false := frozen_of_row _ _ _ _ _ hcell.out
      have z2 : w3.frozen? ⟨w.heap.size, 2, none⟩ = false := frozen_of_row _ _ _ _ _ hcell.out
      have z3 : w3.frozen? ⟨w.heap.size, 3, none⟩ = false := frozen_of_row _ _ _ _ _ hcell.out
      rcases hlast with ⟨rfl, rfl, rfl, rfl⟩ | ⟨d, u, m, g, cap, rfl, rfl, rfl, rfl, rfl, hm⟩

      · have hj2 : Hid ((isWordB t.kind && false && p == e) = false) := by show _ = _; simp
        cases wh with
        | false =>
          have hRf := go.out _ hx.out
          rw [← hF.out] at hRf
          replace hRf := Lib.hid hRf
          clear hx gj go gm hwk hnw hF
          go_wp2_with fail
          go_region_with (fail)
          all_goals
            go_wp2_with fail
            refine bodyPost_ret (v := .tuple #[.slice none 0 0, .agg (tokC t), .int .i64 F, .int .i64 11]) ?_ rfl (TPost.of hRf.out rfl rfl rfl (by rw [← hnl.out]; exact set4_own hown3.out hWs (Nat.le_of_lt hWs) _ _ _ _) (below_drew (set4_below hbw3.out (Nat.le_refl _) _ _ _ _)))
            apply results_cellB4 (p := 3) (s := 2) (u := 4) (v := 5) (ty := 25) (g := w.heap.size) (t := 25) (fr := (0, 0)) (hu := Try.underlying25)
            · rfl
            · rfl
            · exact set4_heap hcell.out _ _ _ _
            · rfl
            · exact sizeTok
            · rfl
            · rfl
            · rfl
        | true =>
          obtain ⟨hR2, hlo, hhi⟩ := gm.out _ hx.out hj2.out
          replace hR2 := Lib.hid hR2
          have hFe : F = t.end_ := hwk.out rfl
          clear hF hwk hnw
          subst hFe
          have h63 : Hid (0 + 1 ≤ maxLen) := by show 0 + 1 ≤ maxLen; unfold maxLen; omega
          have h64 : Hid ((0 + 1) * 40 ≤ 140737488355328) := by show (0 + 1) * 40 ≤ 140737488355328; omega
          clear hx gj go gm c0 c1 c2 c3 z0 z1 z2 z3 hcell
          go_wp2_with (first | (at_builtin; refine wpList_append_own _ rfl (.tmp 61) (.tmp 63) 22 rfl W.heap.size 25 it (.agg (tokCs 0 [] 0 0)) 4 40 Try.underlying22 hit hz0 hz1 hz2 rfl (by decide) _ (0) _ rfl (hown3.out.alloc _) ⟨w3.heap.size, 0, none⟩ 1 1 (tcs t) rfl rfl (own_cells_row rfl rfl) (tcs_one t) h63.out h64.out (by rw [World.size_alloc]; have := hbW3.out.size; omega) ?_))
          intro v2 w4 hown4 hgrow4 hv2
          have hb4 : Hid (Below W.heap.size W w4) := own_grown' hown3.out hbW3.out hgrow4
          obtain ⟨g', cap', rfl, hg0, hg1, hcap, hcm⟩ := own_shape hown4 (by omega)
          have hown5 : Hid (w4.ownsRow W.heap.size 25 4 (.slice (some ⟨g', 0, none⟩) (0 + 1) cap') (0 + 1) (tcells ([] ++ [t]))) := by
            show World.ownsRow _ _ _ _ _ _ _; rw [tcells_snoc]; exact hown4
          clear hown4 hgrow4 hv2 hown3 hbW3 hbw3 k0 k1 k2 k3 hg0 hg1 hcm
          go_wp2_with fail
          refine (rx_blanks s _ w4 hs (by omega) (by omega)).mono ?_
          rintro e5 w5 ⟨rfl, rfl⟩
          have hbl := blankP_le s t.end_ hhi
          go_wp2_with fail
          go_roundw
          case rel => exact ⟨t.end_, _, 0 + 1, isWordB t.kind, [] ++ [t], hhi, rfl, by omega, by show blankP s (t.end_ : Int).toNat = _; rw [Int.toNat_natCast], hR2, hown5, hb4, by show _ = _; rw [List.length_append, ← hnl.out]; rfl, .inr ⟨[], t, 0, g', cap', rfl, rfl, rfl, rfl, rfl, hnl.out⟩⟩
          case measure => simp [intOf]; omega
      · have e3 : w3.cell? ⟨g, m * 4 + 3, none⟩ = some (.int .i64 u.end_) := by
          rw [hown3.out.cellAt _ (by omega), tcells_snoc, hm, List.getElem?_append_right (by rw [tcells_length]; omega), tcells_length, show d.length * 4 + 3 - d.length * 4 = 3 from by omega]; rfl
        have e0 : w3.cell? ⟨g, m * 4, none⟩ = some (.int .i64 u.kind) := by
          rw [hown3.out.cellAt _ (by omega), tcells_snoc, hm, List.getElem?_append_right (by rw [tcells_length]; omega), tcells_length, show d.length * 4 - d.length * 4 = 0 from by omega]; rfl
        clear hm
        by_cases hpe : p = u.end_
        · have qe : ((u.end_ : Int) == (p : Int)) = true := by rw [beq_iff_eq]; omega
          cases hju : isWordB u.kind with
          | false =>
            have hju' : Hid (isWordB u.kind = false) := hju
            have hj2 : Hid ((isWordB t.kind && isWordB u.kind && p == u.end_) = false) := by show _ = _; rw [hju]; simp
            clear hju hpe
            cases wh with
            | false =>
              have hRf := go.out _ hx.out
              rw [← hF.out] at hRf
              replace hRf := Lib.hid hRf
              clear hx gj go gm hwk hnw hF
              go_wp2_with (first | (go_at_call 34; refine (rx_isWord _ _).mono ?_; rintro e w' ⟨he, rfl⟩; rw [hju'.out] at he; subst he))
              go_region_with (fail)
              all_goals
                go_wp2_with fail
                refine bodyPost_ret (v := .tuple #[.slice (some ⟨g, 0, none⟩) (m + 1) cap, .agg (tokC t), .int .i64 F, .int .i64 11]) ?_ rfl (TPost.of hRf.out rfl rfl rfl (by rw [← hnl.out]; exact set4_own hown3.out hWs (Nat.le_of_lt hWs) _ _ _ _) (below_drew (set4_below hbw3.out (Nat.le_refl _) _ _ _ _)))
                apply results_cellB4 (p := 3) (s := 2) (u := 4) (v := 5) (ty := 25) (g := w.heap.size) (t := 25) (fr := (0, 0)) (hu := Try.underlying25)
                · rfl
                · rfl
                · exact set4_heap hcell.out _ _ _ _
                · rfl
                · exact sizeTok
                · rfl
                · rfl
                · rfl
            | true =>
              obtain ⟨hR2, hlo, hhi⟩ := gm.out _ hx.out hj2.out
              replace hR2 := Lib.hid hR2
              have hFe : F = t.end_ := hwk.out rfl
              clear hF hwk hnw
              subst hFe
              have h63 : Hid ((m + 1) + 1 ≤ maxLen) := by show (m + 1) + 1 ≤ maxLen; unfold maxLen; omega
              have h64 : Hid (((m + 1) + 1) * 40 ≤ 140737488355328) := by show ((m + 1) + 1) * 40 ≤ 140737488355328; omega
              clear hx gj go gm c0 c1 c2 c3 z0 z1 z2 z3 hcell
              go_wp2_with (first | (go_at_call 34; refine (rx_isWord _ _).mono ?_; rintro e w' ⟨he, rfl⟩; rw [hju'.out] at he; subst he) | (at_builtin; refine wpList_append_own _ rfl (.tmp 61) (.tmp 63) 22 rfl W.heap.size 25 it (.agg (tokCs 0 [] 0 0)) 4 40 Try.underlying22 hit hz0 hz1 hz2 rfl (by decide) _ ((m + 1)) _ rfl (hown3.out.alloc _) ⟨w3.heap.size, 0, none⟩ 1 1 (tcs t) rfl rfl (own_cells_row rfl rfl) (tcs_one t) h63.out h64.out (by rw [World.size_alloc]; have := hbW3.out.size; omega) ?_))
              intro v2 w4 hown4 hgrow4 hv2
              have hb4 : Hid (Below W.heap.size W w4) := own_grown' hown3.out hbW3.out hgrow4
              obtain ⟨g', cap', rfl, hg0, hg1, hcap, hcm⟩ := own_shape hown4 (by omega)
              have hown5 : Hid (w4.ownsRow W.heap.size 25 4 (.slice (some ⟨g', 0, none⟩) ((m + 1) + 1) cap') ((m + 1) + 1) (tcells ((d ++ [u]) ++ [t]))) := by
                show World.ownsRow _ _ _ _ _ _ _; rw [tcells_snoc]; exact hown4
              clear hown4 hgrow4 hv2 hown3 hbW3 hbw3 k0 k1 k2 k3 hg0 hg1 hcm e3 e0
              go_wp2_with fail
              refine (rx_blanks s _ w4 hs (by omega) (by omega)).mono ?_
              rintro e5 w5 ⟨rfl, rfl⟩
              have hbl := blankP_le s t.end_ hhi
              go_wp2_with fail
              go_roundw
              case rel => exact ⟨t.end_, _, (m + 1) + 1, isWordB t.kind, (d ++ [u]) ++ [t], hhi, rfl, by omega, by show blankP s (t.end_ : Int).toNat = _; rw [Int.toNat_natCast], hR2, hown5, hb4, by show _ = _; rw [List.length_append, ← hnl.out]; rfl, .inr ⟨(d ++ [u]), t, (m + 1), g', cap', rfl, rfl, rfl, rfl, rfl, hnl.out⟩⟩
              case measure => simp [intOf]; omega
          | true =>
            have hju' : Hid (isWordB u.kind = true) := hju
            cases htw : isWordB t.kind with
            | false =>
              have htw' : Hid (isWordB t.kind = false) := htw
              have hj2 : Hid ((isWordB t.kind && isWordB u.kind && p == u.end_) = false) := by show _ = _; rw [htw]; simp
              clear hju hpe htw
              cases wh with
              | false =>
                have hRf := go.out _ hx.out
                rw [← hF.out] at hRf
                replace hRf := Lib.hid hRf
                clear hx gj go gm hwk hnw hF
                go_wp2_with (first | (go_at_call 34; refine (rx_isWord _ _).mono ?_; rintro e w' ⟨he, rfl⟩; (first | rw [hju'.out] at he | rw [htw'.out] at he); subst he))
                go_region_with (fail)
                all_goals
                  go_wp2_with fail
                  refine bodyPost_ret (v := .tuple #[.slice (some ⟨g, 0, none⟩) (m + 1) cap, .agg (tokC t), .int .i64 F, .int .i64 11]) ?_ rfl (TPost.of hRf.out rfl rfl rfl (by rw [← hnl.out]; exact set4_own hown3.out hWs (Nat.le_of_lt hWs) _ _ _ _) (below_drew (set4_below hbw3.out (Nat.le_refl _) _ _ _ _)))
                  apply results_cellB4 (p := 3) (s := 2) (u := 4) (v := 5) (ty := 25) (g := w.heap.size) (t := 25) (fr := (0, 0)) (hu := Try.underlying25)
                  · rfl
                  · rfl
                  · exact set4_heap hcell.out _ _ _ _
                  · rfl
                  · exact sizeTok
                  · rfl
                  · rfl
                  · rfl
              | true =>
                obtain ⟨hR2, hlo, hhi⟩ := gm.out _ hx.out hj2.out
                replace hR2 := Lib.hid hR2
                have hFe : F = t.end_ := hwk.out rfl
                clear hF hwk hnw
                subst hFe
                have h63 : Hid ((m + 1) + 1 ≤ maxLen) := by show (m + 1) + 1 ≤ maxLen; unfold maxLen; omega
                have h64 : Hid (((m + 1) + 1) * 40 ≤ 140737488355328) := by show ((m + 1) + 1) * 40 ≤ 140737488355328; omega
                clear hx gj go gm c0 c1 c2 c3 z0 z1 z2 z3 hcell
                go_wp2_with (first | (go_at_call 34; refine (rx_isWord _ _).mono ?_; rintro e w' ⟨he, rfl⟩; (first | rw [hju'.out] at he | rw [htw'.out] at he); subst he) | (at_builtin; refine wpList_append_own _ rfl (.tmp 61) (.tmp 63) 22 rfl W.heap.size 25 it (.agg (tokCs 0 [] 0 0)) 4 40 Try.underlying22 hit hz0 hz1 hz2 rfl (by decide) _ ((m + 1)) _ rfl (hown3.out.alloc _) ⟨w3.heap.size, 0, none⟩ 1 1 (tcs t) rfl rfl (own_cells_row rfl rfl) (tcs_one t) h63.out h64.out (by rw [World.size_alloc]; have := hbW3.out.size; omega) ?_))
                intro v2 w4 hown4 hgrow4 hv2
                have hb4 : Hid (Below W.heap.size W w4) := own_grown' hown3.out hbW3.out hgrow4
                obtain ⟨g', cap', rfl, hg0, hg1, hcap, hcm⟩ := own_shape hown4 (by omega)
                have hown5 : Hid (w4.ownsRow W.heap.size 25 4 (.slice (some ⟨g', 0, none⟩) ((m + 1) + 1) cap') ((m + 1) + 1) (tcells ((d ++ [u]) ++ [t]))) := by
                  show World.ownsRow _ _ _ _ _ _ _; rw [tcells_snoc]; exact hown4
                clear hown4 hgrow4 hv2 hown3 hbW3 hbw3 k0 k1 k2 k3 hg0 hg1 hcm e3 e0
                go_wp2_with fail
                refine (rx_blanks s _ w4 hs (by omega) (by omega)).mono ?_
                rintro e5 w5 ⟨rfl, rfl⟩
                have hbl := blankP_le s t.end_ hhi
                go_wp2_with fail
                go_roundw
                case rel => exact ⟨t.end_, _, (m + 1) + 1, isWordB t.kind, (d ++ [u]) ++ [t], hhi, rfl, by omega, by show blankP s (t.end_ : Int).toNat = _; rw [Int.toNat_natCast], hR2, hown5, hb4, by show _ = _; rw [List.length_append, ← hnl.out]; rfl, .inr ⟨(d ++ [u]), t, (m + 1), g', cap', rfl, rfl, rfl, rfl, rfl, hnl.out⟩⟩
                case measure => simp [intOf]; omega
            | true =>
              have htw' : Hid (isWordB t.kind = true) := htw
              cases wh with
              | false => exact absurd htw (by rw [hnw.out rfl]; decide)
              | true =>
                have hRf := Lib.hid (gj.out _ hx.out (by rw [htw, hju]; simp [hpe]))
                clear hju hpe htw hx gj go gm hwk hnw hF
                go_wp2_with (first
                  | (go_at_call 34; refine (rx_isWord _ _).mono ?_; rintro e w' ⟨he, rfl⟩; (first | rw [hju'.out] at he | rw [htw'.out] at he); subst he)
                  | (refine wpList_store_rowA rfl 25 (.tmp 3) (.tmp 54) rfl w.heap.size (tokCs 0 [] 0 0) rfl rfl 25 (tokCs 0 [] 0 0) hcell.out sizeTok rfl (tokCs_one _ _ _ _) ?_))
                intro w4 hg4 hgr hsz
                have hb4 : Below w.heap.size w w4 := hbw3.out.grown hgr hbw3.out.size (by intro k hk; injection hk with hk; omega)
                have hown4 := own_other hown3.out hgr hWs (Nat.le_of_lt hWs)
                clear hgr hsz
                go_wp2_with fail
                refine bodyPost_ret (v := .tuple #[.slice (some ⟨g, 0, none⟩) (m + 1) cap, .agg (tokCs 0 [] 0 0), .int .i64 p, .int .i64 11]) ?_ rfl (TPost.of hRf.out rfl rfl rfl (by rw [← hnl.out]; exact hown4) hb4)
                exact results_cellB4 rfl _ _ w.heap.size 25 _ (0, 0) _ rfl hg4.out Try.underlying25 rfl sizeTok _ _ _ rfl rfl rfl
        · have qe : ((u.end_ : Int) == (p : Int)) = false := by rw [beq_eq_false_iff_ne]; omega
          have hj2 : Hid ((isWordB t.kind && isWordB u.kind && p == u.end_) = false) := by show _ = _; rw [show (p == u.end_) = false from by rw [beq_eq_false_iff_ne]; exact hpe]; simp
          clear hpe
          cases wh with
          | false =>
            have hRf := go.out _ hx.out
            rw [← hF.out] at hRf
            replace hRf := Lib.hid hRf
            clear hx gj go gm hwk hnw hF
            go_wp2_with fail
            go_region_with (fail)
            all_goals
              go_wp2_with fail
              refine bodyPost_ret (v := .tuple #[.slice (some ⟨g, 0, none⟩) (m + 1) cap, .agg (tokC t), .int .i64 F, .int .i64 11]) ?_ rfl (TPost.of hRf.out rfl rfl rfl (by rw [← hnl.out]; exact set4_own hown3.out hWs (Nat.le_of_lt hWs) _ _ _ _) (below_drew (set4_below hbw3.out (Nat.le_refl _) _ _ _ _)))
              apply results_cellB4 (p := 3) (s := 2) (u := 4) (v := 5) (ty := 25) (g := w.heap.size) (t := 25) (fr := (0, 0)) (hu := Try.underlying25)
              · rfl
              · rfl
              · exact set4_heap hcell.out _ _ _ _
              · rfl
              · exact sizeTok
              · rfl
              · rfl
              · rfl
          | true =>
            obtain ⟨hR2, hlo, hhi⟩ := gm.out _ hx.out hj2.out
            replace hR2 := Lib.hid hR2
            have hFe : F = t.end_ := hwk.out rfl
            clear hF hwk hnw
            subst hFe
            have h63 : Hid ((m + 1) + 1 ≤ maxLen) := by show (m + 1) + 1 ≤ maxLen; unfold maxLen; omega
            have h64 : Hid (((m + 1) + 1) * 40 ≤ 140737488355328) := by show ((m + 1) + 1) * 40 ≤ 140737488355328; omega
            clear hx gj go gm c0 c1 c2 c3 z0 z1 z2 z3 hcell
            go_wp2_with (first | (at_builtin; refine wpList_append_own _ rfl (.tmp 61) (.tmp 63) 22 rfl W.heap.size 25 it (.agg (tokCs 0 [] 0 0)) 4 40 Try.underlying22 hit hz0 hz1 hz2 rfl (by decide) _ ((m + 1)) _ rfl (hown3.out.alloc _) ⟨w3.heap.size, 0, none⟩ 1 1 (tcs t) rfl rfl (own_cells_row rfl rfl) (tcs_one t) h63.out h64.out (by rw [World.size_alloc]; have := hbW3.out.size; omega) ?_))
            intro v2 w4 hown4 hgrow4 hv2
            have hb4 : Hid (Below W.heap.size W w4) := own_grown' hown3.out hbW3.out hgrow4
            obtain ⟨g', cap', rfl, hg0, hg1, hcap, hcm⟩ := own_shape hown4 (by omega)
            have hown5 : Hid (w4.ownsRow W.heap.size 25 4 (.slice (some ⟨g', 0, none⟩) ((m + 1) + 1) cap') ((m + 1) + 1) (tcells ((d ++ [u]) ++ [t]))) := by
              show World.ownsRow _ _ _ _ _ _ _; rw [tcells_snoc]; exact hown4
            clear hown4 hgrow4 hv2 hown3 hbW3 hbw3 k0 k1 k2 k3 hg0 hg1 hcm e3 e0
            go_wp2_with fail
            refine (rx_blanks s _ w4 hs (by omega) (by omega)).mono ?_
            rintro e5 w5 ⟨rfl, rfl⟩
            have hbl := blankP_le s t.end_ hhi
            go_wp2_with fail
            go_roundw
            case rel => exact ⟨t.end_, _, (m + 1) + 1, isWordB t.kind, (d ++ [u]) ++ [t], hhi, rfl, by omega, by show blankP s (t.end_ : Int).toNat = _; rw [Int.toNat_natCast], hR2, hown5, hb4, by show _ = _; rw [List.length_append, ← hnl.out]; rfl, .inr ⟨(d ++ [u]), t, (m + 1), g', cap', rfl, rfl, rfl, rfl, rfl, hnl.out⟩⟩
            case measure => simp [intOf]; omega
    · have hRf := Lib.hid (g3 (by omega))
      obtain ⟨va, vc, rfl, hva⟩ := own_slice hown0.out
      clear hva g3 g4 hRd hp hlast
      go_wp2_with (refine wpList_store_rowA rfl 25 (.tmp 3) (.tmp 69) rfl w.heap.size (tokCs 0 [] 0 0) rfl rfl 25 (tokCs 0 [] 0 0) hcell.out sizeTok rfl (tokCs_one _ _ _ _) ?_)
      intro w2 hg2 hgr hsz
      have hb2 : Below w.heap.size w w2 := hbw.out.grown hgr hbw.out.size (by intro k hk; injection hk with hk; omega)
      have hown2 := own_other hown0.out hgr hWs (Nat.le_of_lt hWs)
      clear hgr hsz
      go_wp2_with fail
      refine bodyPost_ret (v := .tuple #[.slice va n vc, .agg (tokCs 0 [] 0 0), .int .i64 s.size, .int .i64 0]) ?_ rfl (TPost.of hRf.out rfl rfl rfl (by rw [← hnl.out]; exact hown2) hb2)
      exact results_cellB4 rfl _ _ w.heap.size 25 _ (0, 0) _ rfl hg2.out Try.underlying25 rfl sizeTok _ _ _ rfl rfl rfl

end Go.Proofs.Ytefgipoegnacjaa
