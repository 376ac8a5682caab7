/- Book: put in, and held apart. -/
import Derived.Test.YtgndogoaenlchaaDoorProg
import Derived.Test.YtgndogoaenlchaaDoorBase
import Derived.Test.YtgndogoaenlchaaDoorLend
import Derived.Test.YtgndogoaenlchaaDoorFam
import Derived.Test.YtgndogoaenlchaaDoorBook
namespace Go.Proofs.YtgndogoaenlchaaDoor
open Go.RowKit

set_option maxRecDepth 100000 in
set_option maxHeartbeats 2000000 in
theorem bk_texts (BB : Nat) (w : World) (hT : w.cell? ⟨BB, 0, none⟩ = some (.slice none 0 0)) :
    Calls Tryd.prog 29 #[.pointer (some ⟨BB, 0, none⟩)] w fun e w' => e = .returned (.bool true) ∧ w = w' := by
  go_enter Tryd.func29, Tryd.ntmps29
  go_wp2
  refine wp_loop_rounds 1 ?_
  rw [rounds_succ]
  go_wp2
  refine wp_loop_rounds 1 ?_
  rw [rounds_succ]
  go_wp2
  refine wp_loop_rounds 1 ?_
  rw [rounds_succ]
  go_wp2
  go_ret
  exact ⟨rfl, rfl⟩

set_option maxRecDepth 100000 in
set_option maxHeartbeats 2000000 in
theorem bk_lists (BB : Nat) (w : World) (hT : w.cell? ⟨BB, 2, none⟩ = some (.slice none 0 0)) :
    Calls Tryd.prog 31 #[.pointer (some ⟨BB, 0, none⟩)] w fun e w' => e = .returned (.bool true) ∧ w = w' := by
  go_enter Tryd.func31, Tryd.ntmps31
  go_wp2
  refine wp_loop_rounds 1 ?_
  rw [rounds_succ]
  go_wp2
  refine wp_loop_rounds 1 ?_
  rw [rounds_succ]
  go_wp2
  refine wp_loop_rounds 1 ?_
  rw [rounds_succ]
  go_wp2
  go_ret
  exact ⟨rfl, rfl⟩

theorem bk_Apart (BB G m cN base : Nat) (L : Rows3) (X : Nat → List Int) (w : World) (hin : BkIn w base BB G m cN L X) (hT : w.cell? ⟨BB, 0, none⟩ = some (.slice none 0 0)) (hLs : w.cell? ⟨BB, 2, none⟩ = some (.slice none 0 0)) :
    Calls Tryd.prog 12 #[.pointer (some ⟨BB, 0, none⟩)] w fun e w' => e = .returned (.bool true) ∧ KeptR (BkB L m) w w' := by
  have nB := hin.notB.1
  replace hT := Lib.hid hT
  replace hLs := Lib.hid hLs
  replace hin := Lib.hid hin
  replace nB := Lib.hid nB
  go_enter Tryd.func12, Tryd.ntmps12
  go_wp2_with fail
  refine (bk_texts BB w hT.out).mono ?_
  rintro e w0 ⟨rfl, rfl⟩
  go_wp2_with fail
  refine (bk_ints BB G m cN base L X _ hin.out).mono ?_
  rintro e w1 ⟨rfl, hk⟩
  have h2 := hk.cell hLs.out nB.out
  replace hk := Lib.hid hk
  go_wp2_with (go_at_call 31; refine (bk_lists BB _ h2).mono ?_; rintro e w2 ⟨rfl, rfl⟩)
  go_ret
  exact ⟨rfl, hk.out⟩

/-- what Ints leaves: the book's list is a new row with the lists in it -/
def BkPost (BB m : Nat) (vs : List Value) (w : World) (e : Ending) (w' : World) : Prop :=
  e = .returned (.tuple #[]) ∧ ∃ G cN, w'.ownsRow w.heap.size 23 1 (.slice (some ⟨G, 0, none⟩) m cN) m vs ∧ w'.heap[BB]? = some (.cells #[.slice none 0 0, .slice (some ⟨G, 0, none⟩) m cN, .slice none 0 0] 32) ∧ KeptR (· = BB) w w'

set_option maxRecDepth 100000 in
set_option maxHeartbeats 2000000 in
theorem bk_Ints (BB G0 m c0 : Nat) (vs : List Value) (w : World) (h0 : w.heap[BB]? = some (.cells #[.slice none 0 0, .slice none 0 0, .slice none 0 0] 32))
    (hl : vs.length = m) (hvs : ∀ j u, vs[j]? = some u → w.cell? ⟨G0, j, none⟩ = some u) (h1 : ∀ u ∈ vs, u.oneCell' = true) (hm : 0 < m) (hm2 : m ≤ 100) :
    Calls Tryd.prog 11 #[.pointer (some ⟨BB, 0, none⟩), .slice (some ⟨G0, 0, none⟩) m c0] w (BkPost BB m vs w) := by
  obtain ⟨is, his, hy0, hy1, hy2⟩ := info_parts infoSl
  have p : w.cell? ⟨BB, 1, none⟩ = some (.slice none 0 0) := cell_of_row _ _ _ _ _ _ h0
  have hBs : BB < w.heap.size := (Array.getElem?_eq_some_iff.1 h0).1
  replace h0 := Lib.hid h0
  have hl2 : Hid (vs.length = m * 1) := by show vs.length = m * 1; omega
  replace hvs : Hid (∀ j u, vs[j]? = some u → w.cell? ((⟨G0, 0, none⟩ : Addr).add j) = some u) := by
    show ∀ j u, vs[j]? = some u → w.cell? ((⟨G0, 0, none⟩ : Addr).add j) = some u
    intro j u hu; rw [addr_add, Nat.zero_add]; exact hvs j u hu
  replace h1 := Lib.hid h1
  have h63 : Hid (0 + m ≤ maxLen) := by show 0 + m ≤ maxLen; unfold maxLen; omega
  have h64 : Hid ((0 + m) * 24 ≤ 140737488355328) := by show (0 + m) * 24 ≤ 140737488355328; omega
  clear hl
  go_enter Tryd.func11, Tryd.ntmps11
  go_wp2_with (first
    | (at_builtin; refine wpList_append_two _ rfl (.tmp 8) (.tmp 9) 22 rfl w.heap.size 23 is (.slice none 0 0) 1 24 Tryd.underlying22 his hy0 hy1 hy2 rfl (by decide) (.slice none 0 0) 0 [] rfl (World.ownsRow_nil _ _ _ _) ⟨G0, 0, none⟩ m c0 vs rfl hl2.out hvs.out h1.out hm h63.out h64.out (Nat.le_refl _) ?_))
  intro g c w2 own hg
  have hg2 : Hid (w.grownBy w2 none ∧ w.heap.size ≤ g) := by
    show _ ∧ _
    rcases hg with ⟨h, _⟩ | ⟨h, h2⟩
    · cases h
    · exact ⟨h2, by omega⟩
  have hr := (hg2.out.1.block BB hBs (by simp)).trans h0.out
  have p2 : w2.cell? ⟨BB, 1, none⟩ = some (.slice none 0 0) := cell_of_row _ _ _ _ _ _ hr
  have fz : w2.frozen? ⟨BB, 1, none⟩ = false := frozen_of_row _ _ _ _ _ hr
  have hr2 := Lib.hid (heap_setCell_same w2 BB 1 _ _ (.slice (some ⟨g, 0, none⟩) m c) hr)
  have own2 : Hid ((w2.setCell ⟨BB, 1, none⟩ (.slice (some ⟨g, 0, none⟩) m c)).ownsRow w.heap.size 23 1 (.slice (some ⟨g, 0, none⟩) m c) m vs) := by
    show World.ownsRow _ _ _ _ _ _ _
    refine own_setOther own (fun h => ?_)
    have : g = BB := by injection h
    have := hg2.out.2
    omega
  have hk : Hid (KeptR (· = BB) w (w2.setCell ⟨BB, 1, none⟩ (.slice (some ⟨g, 0, none⟩) m c))) := ((KeptR.refl _ w).grown hg2.out.1 (fun b hb => by cases hb)).set (.inl rfl)
  clear own hg hr p
  go_wp2
  refine bodyPost_ret (v := .tuple #[]) (by simp [results, Tryd.results11, go_sem]) rfl ⟨rfl, g, c, own2.out, hr2.out, hk.out⟩

end Go.Proofs.YtgndogoaenlchaaDoor
