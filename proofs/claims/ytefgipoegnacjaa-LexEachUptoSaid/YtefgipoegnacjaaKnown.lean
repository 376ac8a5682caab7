/- known: the document's own texts. -/
import Derived.Test.YtefgipoegnacjaaProg
import Derived.Test.YtefgipoegnacjaaBase
import Derived.Test.YtefgipoegnacjaaLexD
import Derived.Test.YtefgipoegnacjaaLexX
import Derived.Test.YtefgipoegnacjaaSame
import Derived.Test.YtefgipoegnacjaaQuoteL
namespace Go.Proofs.Ytefgipoegnacjaa
open Go.RowKit Lx

def ktoks : List Tok := [⟨1, [112], 0, 1⟩, ⟨8, [], 1, 2⟩, ⟨2, [88], 2, 3⟩, ⟨9, [], 3, 4⟩, ⟨13, [], 4, 6⟩, ⟨7, [], 6, 9⟩, ⟨1, [113], 10, 11⟩, ⟨11, [], 11, 12⟩]
theorem known1 : tokens (bl ⟨#[112, 40, 88, 41, 58, 45, 110, 111, 116, 32, 113, 46]⟩) = ⟨ktoks, zeroTok, 12, true⟩ := by kernel_rfl
theorem known2 : tokens (bl ⟨#[112, 32, 58, 120]⟩) = ⟨[⟨1, [112], 0, 1⟩], ⟨13, [], 2, 3⟩, 3, false⟩ := by kernel_rfl
theorem known3 : mk (quR (bl ⟨#[97, 10, 34, 200]⟩)) = ⟨#[34, 97, 92, 110, 92, 34, 92, 120, 99, 56, 34]⟩ := by kernel_rfl
theorem known4 : quE (bl ⟨#[97, 10, 34, 200]⟩) = 0 := by kernel_rfl

set_option maxHeartbeats 4000000 in
theorem lw_known (w : World) : Calls Try.prog 14 #[] w fun e w' => e = .returned (.bool true) ∧ Below w.heap.size w w' := by
  go_enter Try.func14, Try.ntmps14
  go_wp2_with fail
  refine (lx_Tokens _ _ (by decide)).mono ?_
  rintro e w1 ⟨v1, he, hown1, hb1⟩
  rw [known1] at he hown1
  subst he
  obtain ⟨g, cap, rfl, hg0, hg1, hcap, hcm⟩ := own_shape hown1 (by decide)
  have hrow1 := (TokRow.own hown1).2
  clear hown1 hcap hcm
  go_wp2_with (refine wpList_store_rowA rfl 25 (.tmp 2) (.tmp 14) rfl w1.heap.size (tokC zeroTok) rfl rfl 25 (tokCs 0 [] 0 0) (heap_alloc_new _ _) sizeTok rfl (tokCs_one _ _ _ _) ?_)
  intro w2 hg2 hgr hsz
  have hb12 : Below w1.heap.size w1 w2 := ((Below.refl _ _).al _).grown hgr (by simp) (by intro k hk; injection hk with hk; omega)
  have hrow2 := hrow1.below hb12
  have hb2 : Below w.heap.size w w2 := hb1.trans (hb12.mono hb1.size)
  have hs2 : w1.heap.size < w2.heap.size := by have h := hsz.out; first | omega | (simp at h; omega)
  clear hgr hsz hb12 hb1 hrow1
  go_wp2_with fail
  refine (lx_Tokens _ _ (by decide)).mono ?_
  rintro e w3 ⟨v3, he, hown3, hb3⟩
  rw [known2] at he hown3
  subst he
  obtain ⟨g3, cap3, rfl, hg30, hg31, hcap3, hcm3⟩ := own_shape hown3 (by decide)
  have hrow3 := hrow2.below hb3
  have hc3 : Hid (w3.heap[w1.heap.size]? = some (.cells (tokC zeroTok) 25)) := (hb3.block _ hs2).trans hg2.out
  have hb4 : Below w.heap.size w w3 := hb2.trans (hb3.mono hb2.size)
  have hs3 : w1.heap.size < w3.heap.size := by have := hb3.size; omega
  clear hown3 hcap3 hcm3 hb3 hb2 hg2 hrow2
  go_wp2_with (refine wpList_store_rowA rfl 25 (.tmp 6) (.tmp 20) rfl w3.heap.size (tokC ⟨13, [], 2, 3⟩) rfl rfl 25 (tokCs 0 [] 0 0) (heap_alloc_new _ _) sizeTok rfl (tokCs_one _ _ _ _) ?_)
  intro w4 hg4 hgr hsz
  have hb34 : Below w3.heap.size w3 w4 := ((Below.refl _ _).al _).grown hgr (by simp) (by intro k hk; injection hk with hk; omega)
  have hrow4 := hrow3.below hb34
  have hc4 : Hid (w4.heap[w1.heap.size]? = some (.cells (tokC zeroTok) 25)) := (hb34.block _ hs3).trans hc3.out
  have hb5 : Below w.heap.size w w4 := hb4.trans (hb34.mono hb4.size)
  have hs4 : w3.heap.size < w4.heap.size := by have h := hsz.out; first | omega | (simp at h; omega)
  clear hgr hsz hb34 hb4 hrow3 hc3
  go_wp2_with fail
  refine (lx_Quote _ _ (by decide)).mono ?_
  rintro e w5 ⟨he, hb6⟩
  rw [known3, known4] at he
  subst he
  have hrow5 := hrow4.below hb6
  obtain ⟨a0, a1, a2, a3⟩ := row_cells (t := zeroTok) ((hb6.block _ (by omega)).trans hc4.out)
  obtain ⟨d0, d1, d2, d3⟩ := row_cells (t := ⟨13, [], 2, 3⟩) ((hb6.block _ hs4).trans hg4.out)
  obtain ⟨g', hge, l0, l1, l2, l3⟩ := hrow5.at_ 2 (by decide)
  injection hge with hge
  injection hge with hge _ _
  subst hge
  have hb7 : Below w.heap.size w w5 := hb5.trans (hb6.mono hb5.size)
  replace a0 : w5.cell? ⟨w1.heap.size, 0, none⟩ = some (.int .i64 0) := a0
  replace a1 : w5.cell? ⟨w1.heap.size, 1, none⟩ = some (.string ⟨#[]⟩) := a1
  replace a2 : w5.cell? ⟨w1.heap.size, 2, none⟩ = some (.int .i64 0) := a2
  replace a3 : w5.cell? ⟨w1.heap.size, 3, none⟩ = some (.int .i64 0) := a3
  replace d0 : w5.cell? ⟨w3.heap.size, 0, none⟩ = some (.int .i64 13) := d0
  replace d1 : w5.cell? ⟨w3.heap.size, 1, none⟩ = some (.string ⟨#[]⟩) := d1
  replace d2 : w5.cell? ⟨w3.heap.size, 2, none⟩ = some (.int .i64 2) := d2
  replace d3 : w5.cell? ⟨w3.heap.size, 3, none⟩ = some (.int .i64 3) := d3
  replace l0 : w5.cell? ⟨g, 8, none⟩ = some (.int .i64 2) := l0
  replace l1 : w5.cell? ⟨g, 9, none⟩ = some (.string ⟨#[88]⟩) := l1
  replace l2 : w5.cell? ⟨g, 10, none⟩ = some (.int .i64 2) := l2
  replace l3 : w5.cell? ⟨g, 11, none⟩ = some (.int .i64 3) := l3
  clear hrow4 hc4 hg4 hrow5 hb6 hb5
  go_wp2_with (go_at_call 13; refine (nm_any _ _).mono ?_; rintro e w' ⟨rfl, rfl⟩)
  go_ret
  exact ⟨rfl, hb7⟩

end Go.Proofs.Ytefgipoegnacjaa
