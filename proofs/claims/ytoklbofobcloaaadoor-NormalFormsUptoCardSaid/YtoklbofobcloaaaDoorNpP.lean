/- NormalForms: the law walked. (gen_npp.py) -/
import Derived.Test.YtoklbofobcloaaaDoorQaD
import Derived.Test.YtoklbofobcloaaaDoorNoB
import Derived.Test.YtoklbofobcloaaaDoorInv
import Derived.Deep.CutRange
namespace Go.Proofs.YtoklbofobcloaaaDoor
open Go.RowKit Go.Sort Go.Shelf
set_option linter.unusedVariables false
theorem Txts.news {w : World} {a : Option Addr} {l : List ByteArray} (h : Txts w a l) : ∀ j u, (l.map Value.string)[j]? = some u → ∃ ad, a = some ad ∧ w.cell? (ad.add j) = some u := by
  intro j u hj
  rw [List.getElem?_map] at hj
  cases hx : l[j]? with
  | none => rw [hx] at hj; cases hj
  | some x =>
    rw [hx] at hj
    injection hj with hj
    subst hj
    exact h.cells j x hx
theorem strs_one (l : List ByteArray) : ∀ u ∈ l.map Value.string, u.oneCell' = true := by
  intro u hu
  obtain ⟨x, -, rfl⟩ := List.mem_map.1 hu
  rfl
set_option maxHeartbeats 16000000 in
set_option maxRecDepth 100000 in
theorem law_Forms (r : Rul) (a b : Option Addr) (c d : Nat) (names : List ByteArray) (terms : List Tm) (na ta : Option Addr) (nc tc : Nat) (w : World) (ha : Terms w a r.a) (hb : Lits w b r.b) (hn : Txts w na names) (ht : Terms w ta terms) (hnv : (everyR r).length ≤ 1048576) (htab : Lib.TabIs Tryd.prog w "internal/strconv.uint64pow10" .u64 Lib.pow10Tab) :
    Calls Tryd.prog 3 #[.agg #[.string r.h, .slice a r.a.length c, .slice b r.b.length d], .slice na names.length nc, .slice ta terms.length tc] w fun e w' => e = .returned (.bool true) ∧ Below w.heap.size w w' := by
  obtain ⟨ii, hii, hi0, hi1, hi2⟩ := info_parts infoStr2
  obtain ⟨it, hit, ht0, ht1, ht2⟩ := info_parts pr_infoTerm
  obtain ⟨W0, hW0⟩ : ∃ W0, W0 = w.alloc (.cells #[.string r.h, .slice a r.a.length c, .slice b r.b.length d] 27) := ⟨_, rfl⟩
  have hB0 : Hid (Below w.heap.size w W0) := Lib.hid (by subst hW0; exact (Below.refl _ _).al _)
  have hb0 : Hid (W0.heap[w.heap.size]? = some (.cells #[.string r.h, .slice a r.a.length c, .slice b r.b.length d] 27)) := Lib.hid (by subst hW0; exact heap_alloc_new _ _)
  have hq3 : Hid (∀ W, Below W0.heap.size W0 W → W.cell? ⟨w.heap.size, 0, none⟩ = some (.string r.h) ∧ W.cell? ⟨w.heap.size, 1, none⟩ = some (.slice a r.a.length c) ∧ W.cell? ⟨w.heap.size, 2, none⟩ = some (.slice b r.b.length d)) := Lib.hid fun W hW => box_cells (bl_keep hW hb0.out)
  have hkn : Hid (∀ W, Below w.heap.size w W → Calls Tryd.prog 8 #[] W fun e w' => e = .returned (.bool true) ∧ Below W.heap.size W w') := Lib.hid fun W hW => nm_known W (Go.Joins.tab_stays (g := 0) (by kernel_rfl) htab hW (Nat.le_refl _))
  have hmany := Lib.hid (lw_many r a b c d W0 (hb.below hB0.out) ha.len)
  have hla := ha.len
  have hlb := hb.len
  have hln := hn.len
  have hlt := ht.len
  obtain ⟨q0, q1, q2⟩ := hq3.out W0 (Below.refl _ _)
  replace ha := Lib.hid ha
  replace hb := Lib.hid hb
  replace hn := Lib.hid hn
  replace ht := Lib.hid ht
  replace htab := Lib.hid htab
  go_enter Tryd.func3, Tryd.ntmps3
  go_upto_region 1 with fail
  rw [← hW0]
  clear hW0 hb0
  go_upto_if 22 with (go_at_call 7; go_loud (refine hmany.out.mono ?_); rintro e w1 ⟨⟨mm, rfl⟩, hbb⟩; have hb1 := Lib.hid hbb; clear hbb)
  clear hmany q0 q1 q2
  obtain ⟨q0, q1, q2⟩ := hq3.out w1 hb1.out
  cases mm with
  | true =>
    go_wp2_with (go_at_call 8; go_loud (refine (hkn.out _ (hB0.out.trans (hb1.out.mono hB0.out.size))).mono ?_); rintro e w2 ⟨rfl, hbb⟩; have hb2 := Lib.hid ((hB0.out.trans (hb1.out.mono hB0.out.size)).trans (hbb.mono (hB0.out.trans (hb1.out.mono hB0.out.size)).size)); clear hbb)
    go_ret
    first | exact hb2.out | exact ⟨rfl, hb2.out⟩
  | false =>
    have hw1 := Lib.hid (hB0.out.trans (hb1.out.mono hB0.out.size))
    have hcq := Lib.hid (cq_rule r.h a r.a c b r.b d w1 (ha.out.below hw1.out) (hb.out.below hw1.out))
    go_upto_region 4 with (go_at_call 9; go_loud (refine hcq.out.mono ?_); rintro e w2 ⟨g, gc, B, cB, L, rfl, hT, hL, hmap0, hgg, hbb⟩; have hcp := Lib.hid (And.intro hT (And.intro hL hgg)); have hmap := Lib.hid hmap0; have hb2 := Lib.hid hbb; clear hT hL hmap0 hgg hbb)
    obtain ⟨W2, hW2⟩ : ∃ W2, W2 = w2.alloc (.cells #[.string r.h, .slice (some ⟨g, 0, none⟩) r.a.length gc, .slice (some ⟨B, 0, none⟩) r.b.length cB] 27) := ⟨_, rfl⟩
    obtain ⟨G, hG⟩ : ∃ G, w2.heap.size = G := ⟨_, rfl⟩
    have hc : Hid (W2.heap[G]? = some (.cells #[.string r.h, .slice (some ⟨g, 0, none⟩) r.a.length gc, .slice (some ⟨B, 0, none⟩) r.b.length cB] 27) ∧ TermsM W2 g r.a gc ∧ LitsM W2 B L cB) := Lib.hid (by
      have hal := (Below.refl w2.heap.size w2).al (.cells #[.string r.h, .slice (some ⟨g, 0, none⟩) r.a.length gc, .slice (some ⟨B, 0, none⟩) r.b.length cB] 27)
      rw [← hW2] at hal
      exact ⟨by rw [hW2, ← hG]; exact heap_alloc_new _ _, hcp.out.1.below hal, hcp.out.2.1.below hal⟩)
    have hw2 : Hid (Below w.heap.size w W2) := Lib.hid (by
      have hal := (Below.refl w2.heap.size w2).al (.cells #[.string r.h, .slice (some ⟨g, 0, none⟩) r.a.length gc, .slice (some ⟨B, 0, none⟩) r.b.length cB] 27)
      rw [← hW2] at hal
      have h1 := hw1.out.trans (hb2.out.mono hw1.out.size)
      exact h1.trans (hal.mono h1.size))
    have hw02 : Hid (Below W0.heap.size W0 W2) := Lib.hid (by
      have hal := (Below.refl w2.heap.size w2).al (.cells #[.string r.h, .slice (some ⟨g, 0, none⟩) r.a.length gc, .slice (some ⟨B, 0, none⟩) r.b.length cB] 27)
      rw [← hW2] at hal
      have h1 := hb1.out.trans (hb2.out.mono hb1.out.size)
      exact h1.trans (hal.mono h1.size))
    have hLl : Hid (L.length = r.b.length) := Lib.hid (by rw [← hmap.out, List.length_map])
    have hq7 : Hid (∀ W, Below W2.heap.size W2 W → W.cell? ⟨G, 0, none⟩ = some (.string r.h) ∧ W.cell? ⟨G, 1, none⟩ = some (.slice (some ⟨g, 0, none⟩) r.a.length gc) ∧ W.cell? ⟨G, 2, none⟩ = some (.slice (some ⟨B, 0, none⟩) r.b.length cB)) := Lib.hid fun W hW => box_cells (bl_keep hW hc.out.1)
    rw [← hW2]
    rw [hG]
    clear hW2 hG hb2 hb1 hcq hcp hw1 q0 q1 q2
    clear w2 w1
    have hown0 : W2.ownsRow W2.heap.size 9 1 (.slice none 0 0) 0 [] := World.ownsRow_nil _ _ _ _
    have hnews := (hn.out.below hw2.out).news
    go_wp2_with (at_builtin; go_loud (refine wpList_append_any rfl (.const (.slice none 0 0)) (.tmp 26) 28 rfl W2.heap.size 9 ii (.string ⟨#[]⟩) 1 16 Tryd.underlying28 hii hi0 hi1 hi2 rfl (by decide) _ 0 [] rfl hown0 na names.length nc (names.map Value.string) rfl (by simp) hnews (strs_one names) (by unfold maxLen; omega) (by omega) (Nat.le_refl _) ?_))
    intro v3 w3 hown3' hgr3 hnil3 hat3
    have hb3 := Lib.hid ((Below.refl W2.heap.size W2).grown hgr3 (Nat.le_refl _) (own_ge hown0))
    obtain ⟨va, vc, rfl, -⟩ := own_slice hown3'
    have hown3 := Lib.hid hown3'
    have hs3 := hb3.out.size
    clear hnews hgr3 hnil3 hat3 hown3' hown0
    go_wp2_with (at_builtin; go_loud (refine wpList_append_own _ rfl (.tmp 27) (.tmp 28) 28 rfl W2.heap.size 9 ii (.string ⟨#[]⟩) 1 16 Tryd.underlying28 hii hi0 hi1 hi2 rfl (by decide) _ names.length (names.map Value.string) rfl (hown3.out.alloc _) ⟨w3.heap.size, 0, none⟩ 1 1 [.string markB] rfl rfl (own_cells_row rfl rfl) (by intro u hu; simp at hu; subst hu; rfl) (by unfold maxLen; omega) (by omega) (by rw [World.size_alloc]; omega) ?_))
    intro v4 w4 hown4' hgr4 _
    have hb4 := Lib.hid ((hb3.out.al (.cells #[.string markB] 9)).grown hgr4 (by rw [World.size_alloc]; omega) (own_ge hown3.out))
    obtain ⟨gl, cl, rfl, hcl, -⟩ := own_some hown4' (by omega)
    have hcl0 : names.length ≤ cl := by omega
    have hl : Hid (w4.ownsRow W2.heap.size 9 1 (.slice (some ⟨gl, 0, none⟩) (names.length + 1) cl) (names.length + 1) ((names ++ [markB]).map Value.string)) := Lib.hid (by rw [List.map_append]; exact hown4')
    have hs4 := hb4.out.size
    have hnews := (ht.out.below (hw2.out.trans (hb4.out.mono hw2.out.size))).news
    clear hgr4 hown4' hown3 hs3 hb3
    have hown0 : w4.ownsRow w4.heap.size 33 2 (.slice none 0 0) 0 [] := World.ownsRow_nil _ _ _ _
    have hfl := flatT_len terms
    go_wp2_with (at_builtin; go_loud (refine wpList_append_any rfl (.const (.slice none 0 0)) (.tmp 33) 22 rfl w4.heap.size 33 it (.agg #[.bool false, .string ⟨#[]⟩]) 2 24 Tryd.underlying22 hit ht0 ht1 ht2 rfl (by decide) _ 0 [] rfl hown0 ta terms.length tc (flatT terms) rfl hfl hnews (flatT_one terms) (by unfold maxLen; omega) (by omega) (Nat.le_refl _) ?_))
    intro v5 w5 hown5' hgr5 hnil5 hat5
    have hb5 := Lib.hid ((Below.refl w4.heap.size w4).grown hgr5 (Nat.le_refl _) (own_ge hown0))
    obtain ⟨ua, uc, rfl, -⟩ := own_slice hown5'
    have hown5 := Lib.hid hown5'
    have hs5 := hb5.out.size
    clear hnews hgr5 hnil5 hat5 hown5' hown0 hfl
    go_wp2_with (at_builtin; go_loud (refine wpList_append_own _ rfl (.tmp 34) (.tmp 36) 22 rfl w4.heap.size 33 it (.agg #[.bool false, .string ⟨#[]⟩]) 2 24 Tryd.underlying22 hit ht0 ht1 ht2 rfl (by decide) _ terms.length (flatT terms) rfl (hown5.out.alloc _) ⟨w5.heap.size, 0, none⟩ 1 1 (flatT [(false, markB)]) rfl rfl (own_cells_row rfl rfl) (flatT_one _) (by unfold maxLen; omega) (by omega) (by rw [World.size_alloc]; omega) ?_))
    intro v6 w6 hown6' hgr6 _
    have hb6 := Lib.hid ((hb5.out.al (.cells #[.bool false, .string markB] 33)).grown hgr6 (by rw [World.size_alloc]; omega) (own_ge hown5.out))
    obtain ⟨gt, ct, rfl, hct, -⟩ := own_some hown6' (by omega)
    have hct0 : terms.length ≤ ct := by omega
    have htr : Hid (w6.ownsRow w4.heap.size 33 2 (.slice (some ⟨gt, 0, none⟩) (terms.length + 1) ct) (terms.length + 1) (flatT (terms ++ [(false, markB)]))) := Lib.hid (by rw [show flatT (terms ++ [(false, markB)]) = flatT terms ++ flatT [(false, markB)] by simp [flatT]]; exact hown6')
    have hl6 := Lib.hid (own_below hl.out hb6.out)
    have hw6 : Hid (Below W2.heap.size W2 w6) := Lib.hid (hb4.out.trans (hb6.out.mono hb4.out.size))
    clear hgr6 hown6' hown5 hs5 hs4 hb5 hb6 hb4 hl
    go_upto_region 6 with fail
    have hat : Hid (∀ W, Below w6.heap.size w6 W → Below w.heap.size w W ∧ Below W0.heap.size W0 W ∧ Below W2.heap.size W2 W) := Lib.hid fun W hW => by
      have h2 := hw6.out.trans (hW.mono hw6.out.size)
      exact ⟨hw2.out.trans (h2.mono hw2.out.size), hw02.out.trans (h2.mono hw02.out.size), h2⟩
    have hcells : Hid (∀ W, Below w6.heap.size w6 W → (W.cell? ⟨w.heap.size, 0, none⟩ = some (.string r.h) ∧ W.cell? ⟨w.heap.size, 1, none⟩ = some (.slice a r.a.length c) ∧ W.cell? ⟨w.heap.size, 2, none⟩ = some (.slice b r.b.length d)) ∧ (W.cell? ⟨G, 0, none⟩ = some (.string r.h) ∧ W.cell? ⟨G, 1, none⟩ = some (.slice (some ⟨g, 0, none⟩) r.a.length gc) ∧ W.cell? ⟨G, 2, none⟩ = some (.slice (some ⟨B, 0, none⟩) r.b.length cB))) := Lib.hid fun W hW => ⟨hq3.out W (hat.out W hW).2.1, hq7.out W (hat.out W hW).2.2⟩
    have hTL : Hid (∀ W, Below w6.heap.size w6 W → Terms W (some ⟨g, 0, none⟩) r.a ∧ Lits W (some ⟨B, 0, none⟩) r.b ∧ Txts W (some ⟨gl, 0, none⟩) names ∧ Terms W (some ⟨gt, 0, none⟩) terms) := Lib.hid fun W hW => by
      have h2 := (hat.out W hW).2.2
      have h3 := hc.out.2.2.below h2
      have h4 := h3.lits
      rw [hmap.out] at h4
      refine ⟨(hc.out.2.1.below h2).terms, h4, ?_, ?_⟩
      · refine ⟨hln, fun j x hj => ⟨_, rfl, ?_⟩, hn.out.size⟩
        exact (own_below hl6.out hW).cells (g := gl) rfl j (.string x) (by rw [List.getElem?_map, List.getElem?_append_left (List.getElem?_eq_some_iff.1 hj).1, hj]; rfl)
      · refine flat_terms (r := flatT [(false, markB)]) hlt ht.out.size (fun j u hj => ?_)
        have := (own_below htr.out hW).cells (g := gt) rfl j u (by rw [show flatT (terms ++ [(false, markB)]) = flatT terms ++ flatT [(false, markB)] by simp [flatT]]; exact hj)
        rw [addr_add, Nat.zero_add] at this
        exact this
    have hTO : Hid (∀ W, Below w6.heap.size w6 W → Terms W a r.a ∧ Lits W b r.b ∧ Txts W na names ∧ Terms W ta terms) := Lib.hid fun W hW => by
      have h2 := (hat.out W hW).1
      exact ⟨ha.out.below h2, hb.out.below h2, hn.out.below h2, ht.out.below h2⟩
    have hnV : Hid (∀ W, Below w6.heap.size w6 W → Calls Tryd.prog 10 #[.agg #[.string r.h, .slice (some ⟨g, 0, none⟩) r.a.length gc, .slice (some ⟨B, 0, none⟩) r.b.length cB]] W fun e w' => ∃ v, e = .returned v ∧ w'.ownsRow W.heap.size 9 1 v (varsR r).length ((varsR r).map Value.string) ∧ Below W.heap.size W w') := Lib.hid fun W hW => nm_Vars r _ _ gc cB W (hTL.out W hW).1 (hTL.out W hW).2.1
    have hrV : Hid (∀ W, Below w6.heap.size w6 W → Calls Tryd.prog 11 #[.agg #[.string r.h, .slice a r.a.length c, .slice b r.b.length d]] W fun e w' => ∃ v, e = .returned v ∧ w'.ownsRow W.heap.size 9 1 v (varsR r).length ((varsR r).map Value.string) ∧ Below W.heap.size W w') := Lib.hid fun W hW => rn_Vars r _ _ c d W (hTO.out W hW).1 (hTO.out W hW).2.1 hnv
    have hn1 : Hid (∀ W, Below w6.heap.size w6 W → Calls Tryd.prog 12 #[.agg #[.string r.h, .slice (some ⟨g, 0, none⟩) r.a.length gc, .slice (some ⟨B, 0, none⟩) r.b.length cB]] W (Gives true (renR r) W)) := Lib.hid fun W hW => (nm_Rename r _ _ gc cB W (hTL.out W hW).1 (hTL.out W hW).2.1 hnv (Go.Joins.tab_stays (g := 0) (by kernel_rfl) htab.out (hat.out W hW).1 (Nat.le_refl _))).mono gives_row
    have hn2 : Hid (∀ W, Below w6.heap.size w6 W → Calls Tryd.prog 13 #[.agg #[.string r.h, .slice (some ⟨g, 0, none⟩) r.a.length gc, .slice (some ⟨B, 0, none⟩) r.b.length cB], .slice (some ⟨gl, 0, none⟩) names.length cl, .slice (some ⟨gt, 0, none⟩) terms.length ct] W (Gives true (putR names terms r) W)) := Lib.hid fun W hW => (nm_Put r _ _ gc cB names terms _ _ cl ct W (hTL.out W hW).1 (hTL.out W hW).2.1 (hTL.out W hW).2.2.1 (hTL.out W hW).2.2.2 (every_size (hTL.out W hW).1 (hTL.out W hW).2.1)).mono gives_row
    have hn3 : Hid (∀ W, Below w6.heap.size w6 W → Calls Tryd.prog 14 #[.agg #[.string r.h, .slice (some ⟨g, 0, none⟩) r.a.length gc, .slice (some ⟨B, 0, none⟩) r.b.length cB]] W (Gives true (bodyR r) W)) := Lib.hid fun W hW => (nm_Body r _ _ gc cB W (hTL.out W hW).1 (hTL.out W hW).2.1).mono gives_row
    have hn4 : Hid (∀ W, Below w6.heap.size w6 W → Calls Tryd.prog 15 #[.agg #[.string r.h, .slice (some ⟨g, 0, none⟩) r.a.length gc, .slice (some ⟨B, 0, none⟩) r.b.length cB]] W (Gives true (ruleR r) W)) := Lib.hid fun W hW => (nm_Rule r _ _ gc cB W (hTL.out W hW).1 (hTL.out W hW).2.1 hnv (Go.Joins.tab_stays (g := 0) (by kernel_rfl) htab.out (hat.out W hW).1 (Nat.le_refl _))).mono gives_row
    have hr1 : Hid (∀ W, Below w6.heap.size w6 W → Calls Tryd.prog 16 #[.agg #[.string r.h, .slice a r.a.length c, .slice b r.b.length d]] W (Gives false (renR r) W)) := Lib.hid fun W hW => (rn_Rename r _ _ c d W (hTO.out W hW).1 (hTO.out W hW).2.1 hnv).mono gives_rl
    have hr2 : Hid (∀ W, Below w6.heap.size w6 W → Calls Tryd.prog 17 #[.agg #[.string r.h, .slice a r.a.length c, .slice b r.b.length d], .slice na names.length nc, .slice ta terms.length tc] W (Gives false (putR names terms r) W)) := Lib.hid fun W hW => (rn_PutR r _ _ c d names terms _ _ nc tc W (hTO.out W hW).1 (hTO.out W hW).2.1 (hTO.out W hW).2.2.1 (hTO.out W hW).2.2.2).mono gives_rl
    have hr3 : Hid (∀ W, Below w6.heap.size w6 W → Calls Tryd.prog 18 #[.agg #[.string r.h, .slice a r.a.length c, .slice b r.b.length d]] W (Gives false (bodyR r) W)) := Lib.hid fun W hW => (rn_Body r _ _ c d W (hTO.out W hW).1 (hTO.out W hW).2.1).mono gives_rl
    have hr4 : Hid (∀ W, Below w6.heap.size w6 W → Calls Tryd.prog 19 #[.agg #[.string r.h, .slice a r.a.length c, .slice b r.b.length d]] W (Gives false (ruleR r) W)) := Lib.hid fun W hW => (rn_Rule r _ _ c d W (hTO.out W hW).1 (hTO.out W hW).2.1 hnv).mono gives_rl
    have hvl : (varsR r).length ≤ 1048576 := Nat.le_trans (varsOf_len _) hnv
    clear hq3 hq7 hw02 hw2 hw6 hB0
    generalize varsR r = V at hnV hrV hvl
    obtain ⟨⟨q0, q1, q2⟩, ⟨z0, z1, z2⟩⟩ := hcells.out w6 (Below.refl _ _)
    refine wp_region_T (fun w' => (w'.cell? ⟨w.heap.size, 0, none⟩ = some (.string r.h) ∧ w'.cell? ⟨w.heap.size, 1, none⟩ = some (.slice a r.a.length c) ∧ w'.cell? ⟨w.heap.size, 2, none⟩ = some (.slice b r.b.length d)) ∧ (w'.cell? ⟨G, 0, none⟩ = some (.string r.h) ∧ w'.cell? ⟨G, 1, none⟩ = some (.slice (some ⟨g, 0, none⟩) r.a.length gc) ∧ w'.cell? ⟨G, 2, none⟩ = some (.slice (some ⟨B, 0, none⟩) r.b.length cB))) [0, 2] (by kernel_rfl) ⟨⟨q0, q1, q2⟩, ⟨z0, z1, z2⟩⟩ (fun hHeld => ?_)
    refine wpAnyT_take (i := 0) (oi := _) (v := ?_) rfl rfl (by kernel_rfl) (by kernel_rfl) (by kernel_rfl) (fun _ _ _ h => h) (Or.inl ⟨by rfl, ?_⟩) (by assumption) ?_
    rotate_left
    · intro w hSw
      try dsimp only at hSw
      go_simp
      try with_reducible rfl
    refine wpAnyT_take (i := 2) (oi := _) (v := ?_) rfl rfl (by kernel_rfl) (by kernel_rfl) (by kernel_rfl) (fun _ _ _ h => h) (Or.inl ⟨by rfl, ?_⟩) (by assumption) ?_
    rotate_left
    · intro w hSw
      try dsimp only at hSw
      go_simp
      try with_reducible rfl
    refine wpAnyT_one (i := 1) (o := _) (by kernel_rfl) rfl (fun K hK => ?_)
    go_simp
    go_wp2_with (go_at_call 10; go_loud (refine (hnV.out _ (Below.refl _ _).drew).mono ?_); rintro e w7 ⟨v, rfl, hown, hbb⟩
                 obtain ⟨xa, xc, rfl, -⟩ := own_slice hown
                 have hr1 := Lib.hid hown
                 have hb7 := Lib.hid ((Below.refl w6.heap.size w6).drew.trans hbb)
                 clear hown hbb)
    refine hK.out _ _ (hcells.out _ hb7.out) ?_
    clear hK K
    refine wpAnyT_one (i := 3) (o := _) (by kernel_rfl) rfl (fun K hK => ?_)
    go_simp
    go_wp2_with (go_at_call 11; go_loud (refine (hrV.out _ hb7.out).mono ?_); rintro e w8 ⟨v, rfl, hown, hbb⟩
                 obtain ⟨ya, yc, rfl, -⟩ := own_slice hown
                 have hr2 := Lib.hid hown
                 have hb8 := Lib.hid (hb7.out.trans (hbb.mono hb7.out.size))
                 have hr18 := Lib.hid (own_below hr1.out hbb)
                 clear hown hbb)
    refine hK.out _ _ (hcells.out _ hb8.out) ?_
    clear hK K
    refine wpAnyT_one (i := 4) (o := _) (by kernel_rfl) rfl (fun K hK => ?_)
    go_simp
    refine hK.out _ _ (hcells.out _ hb8.out) ?_
    clear hK K
    refine wpAnyT_free (i := 5) (o := _) (by kernel_rfl) rfl (by kernel_rfl) (fun K hK => ?_)
    go_simp
    refine hK.out _ _ ?_
    clear hK K
    refine wpAnyT_done (by kernel_rfl) ?_ _
    clear hHeld q0 q1 q2 z0 z1 z2
    refine ‹∀ (a : Act) (w : World), Code.wp _ _ _ a w → _› _ _ ?_
    have hvb : Hid (∀ k, (Value.slice xa V.length xc).ownBlock = some k → k < w7.heap.size) := Lib.hid fun k e => (hr1.out.lt k e).2
    have hvs : Hid (w6.heap.size ≤ w7.heap.size) := Lib.hid hb7.out.size
    clear hr1 hnV hrV
    go_wp2_with fail
    go_loopw [12] (fun v wr => ∃ k : Nat, k ≤ V.length ∧ v = .int .i64 k ∧ Hid (∃ xs, wr.ownsRow w6.heap.size 9 1 (.slice xa V.length xc) V.length xs ∧ ∀ j, k ≤ j → xs[j]? = (V.map Value.string)[j]?) ∧ Hid (wr.ownsRow w7.heap.size 9 1 (.slice ya V.length yc) V.length (V.map Value.string)) ∧ Hid (Below w6.heap.size w6 wr)) (fun v _ => V.length - (intOf v).toNat)
    case atStart => exact ⟨0, Nat.zero_le _, rfl, Lib.hid ⟨_, hr18.out, fun j _ => rfl⟩, hr2, hb8⟩
    case round =>
      clear hr18 hr2 hb8
      obtain ⟨k, hk, rfl, hr1, hr2, hbw⟩ := hrel
      have hp0 : (0 : Int) ≤ (k : Int) := Int.natCast_nonneg _
      by_cases hlk : k < V.length
      · have hp1 : (k : Int) < (V.length : Int) := by omega
        obtain ⟨x, ex⟩ : ∃ x, V[k]? = some x := ⟨_, List.getElem?_eq_getElem hlk⟩
        obtain ⟨xs, ho1, hx1⟩ := hr1.out
        obtain ⟨g1, c1, e1, -⟩ := own_some ho1 (by omega)
        obtain ⟨g2, c2, e2, -⟩ := own_some hr2.out (by omega)
        injection e1 with e1 e3 e4
        injection e2 with e2 e5 e6
        clear e3 e5
        subst e1 e4 e2 e6
        have hm : (V.map Value.string)[k]? = some (.string x) := by rw [List.getElem?_map, ex]; rfl
        have c1 : wr.cell? ⟨g1, k, none⟩ = some (.string x) := by
          have := ho1.cells (g := g1) rfl k (.string x) (by rw [hx1 k (Nat.le_refl _)]; exact hm)
          rw [addr_add, Nat.zero_add] at this
          exact this
        have c2 : wr.cell? ⟨g2, k, none⟩ = some (.string x) := by
          have := hr2.out.cells (g := g2) rfl k (.string x) hm
          rw [addr_add, Nat.zero_add] at this
          exact this
        have hfz := ho1.frozenAt
        have hg12 : g1 ≠ g2 := by
          have h1 := hvb.out g1 rfl
          have h2 := own_ge hr2.out g2 rfl
          omega
        have hr1b : Hid (∀ nq, ∃ ys, ((wr.drewN nq).setCell ⟨g1, k, none⟩ (.string ⟨#[103, 111, 110, 101]⟩)).ownsRow w6.heap.size 9 1 (.slice (some ⟨g1, 0, none⟩) V.length xc) V.length ys ∧ ∀ j, k + 1 ≤ j → ys[j]? = (V.map Value.string)[j]?) := Lib.hid fun nq => ⟨_, ((own_below ho1 (below_drewN (Below.refl wr.heap.size wr) nq)).stored k _).1, fun j hj => by rw [List.getElem?_set_ne (by omega)]; exact hx1 j (by omega)⟩
        have hr2b : Hid (∀ nq, ((wr.drewN nq).setCell ⟨g1, k, none⟩ (.string ⟨#[103, 111, 110, 101]⟩)).ownsRow w7.heap.size 9 1 (.slice (some ⟨g2, 0, none⟩) V.length yc) V.length (V.map Value.string)) := Lib.hid (fun nq => own_setOther (own_below hr2.out (below_drewN (Below.refl wr.heap.size wr) nq)) (fun e => hg12 (by injection e with e; exact e.symm)))
        have hbw2 : Hid (∀ nq, Below w6.heap.size w6 ((wr.drewN nq).setCell ⟨g1, k, none⟩ (.string ⟨#[103, 111, 110, 101]⟩))) := Lib.hid (fun nq => (below_drewN hbw.out nq).setCell (p := ⟨g1, k, none⟩) (own_ge ho1 g1 rfl) _)
        clear ho1 hx1 hr1 hr2 hbw hm
        go_wp2_with fail
        go_quiet (fail)
        go_wp2_with fail
        go_roundw
        case rel => exact ⟨k + 1, by omega, by go_num, Lib.hid (hr1b.out _), Lib.hid (hr2b.out _), Lib.hid (hbw2.out _)⟩
        case measure => simp [intOf]; omega
      · have hp1 : ¬ (k : Int) < (V.length : Int) := by omega
        have hq0 : Hid (Below w6.heap.size w6 wr.drew) := Lib.hid hbw.out.drew
        clear hr1 hr2 hbw hvb hvs
        go_upto_region 15 with fail
        go_cut [13] from 68 to 78 (fun v13 wx => ∃ A l, v13 = .pointer (some ⟨A, 0, none⟩) ∧ Hid (l.map RV.r = [renR r, putR names terms r, bodyR r, ruleR r]) ∧ Hid (∃ hi, Four true wr.drew.heap.size hi A l wx) ∧ Hid (Below wr.drew.heap.size wr.drew wx))
        case first =>
          have hM0 : Hid (Mk true wr.drew wr.drew.heap.size [] none wr.drew) := Lib.hid (Mk.start true (Below.refl _ _) (Nat.le_refl _))
          obtain ⟨z0, z1, z2⟩ := (hcells.out _ hq0.out).2
          refine wp_region_T (fun w' => w'.cell? ⟨G, 0, none⟩ = some (.string r.h) ∧ w'.cell? ⟨G, 1, none⟩ = some (.slice (some ⟨g, 0, none⟩) r.a.length gc) ∧ w'.cell? ⟨G, 2, none⟩ = some (.slice (some ⟨B, 0, none⟩) r.b.length cB)) [0, 2, 3, 4, 6, 8] (by kernel_rfl) ⟨z0, z1, z2⟩ (fun hHeld => ?_)
          clear z0 z1 z2
          refine wpAnyT_take (i := 0) (oi := _) (v := ?_) rfl rfl (by kernel_rfl) (by kernel_rfl) (by kernel_rfl) (fun _ _ _ h => h) (Or.inl ⟨by rfl, ?_⟩) (by assumption) ?_
          rotate_left
          · intro w hSw
            try dsimp only at hSw
            go_simp
            try with_reducible rfl
          refine wpAnyT_take (i := 2) (oi := _) (v := ?_) rfl rfl (by kernel_rfl) (by kernel_rfl) (by kernel_rfl) (fun _ _ _ h => h) (Or.inl ⟨by rfl, ?_⟩) (by assumption) ?_
          rotate_left
          · intro w hSw
            try dsimp only at hSw
            go_simp
            try with_reducible rfl
          refine wpAnyT_take (i := 3) (oi := _) (v := ?_) rfl rfl (by kernel_rfl) (by kernel_rfl) (by kernel_rfl) (fun _ _ _ h => h) (Or.inl ⟨by rfl, ?_⟩) (by assumption) ?_
          rotate_left
          · intro w hSw
            try dsimp only at hSw
            go_simp
            try with_reducible rfl
          refine wpAnyT_take (i := 4) (oi := _) (v := ?_) rfl rfl (by kernel_rfl) (by kernel_rfl) (by kernel_rfl) (fun _ _ _ h => h) (Or.inl ⟨by rfl, ?_⟩) (by assumption) ?_
          rotate_left
          · intro w hSw
            try dsimp only at hSw
            go_simp
            try with_reducible rfl
          refine wpAnyT_take (i := 6) (oi := _) (v := ?_) rfl rfl (by kernel_rfl) (by kernel_rfl) (by kernel_rfl) (fun _ _ _ h => h) (Or.inl ⟨by rfl, ?_⟩) (by assumption) ?_
          rotate_left
          · intro w hSw
            try dsimp only at hSw
            go_simp
            try with_reducible rfl
          refine wpAnyT_take (i := 8) (oi := _) (v := ?_) rfl rfl (by kernel_rfl) (by kernel_rfl) (by kernel_rfl) (fun _ _ _ h => h) (Or.inl ⟨by rfl, ?_⟩) (by assumption) ?_
          rotate_left
          · intro w hSw
            try dsimp only at hSw
            go_simp
            try with_reducible rfl
          clear hHeld
          refine wpAnyT_two (i := 1) (j := 11) (o := _) (p := _) (by kernel_rfl) rfl rfl (fun K hK => ?_) (fun K hK => ?_)
          · go_simp
            go_wp2_with (go_at_call 12; go_loud (refine (hn1.out _ (hq0.out.trans (hM0.out.bel.mono hq0.out.size))).mono ?_); rintro e wm1 ⟨a1, c1, b1, d1, rfl, hseg, hbb⟩
                         have hM1 := Lib.hid (hM0.out.push (x := ⟨a1, c1, b1, d1, renR r⟩) hseg hbb)
                         clear hseg hbb)
            refine hK.out _ _ ((hcells.out _ ((hq0.out).trans (hM1.out.bel.mono hq0.out.size))).2) ?_
            clear hK K
            refine wpAnyT_two (i := 5) (j := 11) (o := _) (p := _) (by kernel_rfl) rfl rfl (fun K hK => ?_) (fun K hK => ?_)
            · go_simp
              go_wp2_with (go_at_call 13; go_loud (refine (hn2.out _ (hq0.out.trans (hM1.out.bel.mono hq0.out.size))).mono ?_); rintro e wm2 ⟨a2, c2, b2, d2, rfl, hseg, hbb⟩
                           have hM2 := Lib.hid (hM1.out.push (x := ⟨a2, c2, b2, d2, putR names terms r⟩) hseg hbb)
                           clear hseg hbb)
              refine hK.out _ _ ((hcells.out _ ((hq0.out).trans (hM2.out.bel.mono hq0.out.size))).2) ?_
              clear hK K
              refine wpAnyT_two (i := 7) (j := 11) (o := _) (p := _) (by kernel_rfl) rfl rfl (fun K hK => ?_) (fun K hK => ?_)
              · go_simp
                go_wp2_with (go_at_call 14; go_loud (refine (hn3.out _ (hq0.out.trans (hM2.out.bel.mono hq0.out.size))).mono ?_); rintro e wm3 ⟨a3, c3, b3, d3, rfl, hseg, hbb⟩
                             have hM3 := Lib.hid (hM2.out.push (x := ⟨a3, c3, b3, d3, bodyR r⟩) hseg hbb)
                             clear hseg hbb)
                refine hK.out _ _ ((hcells.out _ ((hq0.out).trans (hM3.out.bel.mono hq0.out.size))).2) ?_
                clear hK K
                refine wpAnyT_two (i := 9) (j := 11) (o := _) (p := _) (by kernel_rfl) rfl rfl (fun K hK => ?_) (fun K hK => ?_)
                · go_simp
                  go_wp2_with (go_at_call 15; go_loud (refine (hn4.out _ (hq0.out.trans (hM3.out.bel.mono hq0.out.size))).mono ?_); rintro e wm4 ⟨a4, c4, b4, d4, rfl, hseg, hbb⟩
                               have hM4 := Lib.hid (hM3.out.push (x := ⟨a4, c4, b4, d4, ruleR r⟩) hseg hbb)
                               clear hseg hbb)
                  refine hK.out _ _ ((hcells.out _ ((hq0.out).trans (hM4.out.bel.mono hq0.out.size))).2) ?_
                  clear hK K
                  refine wpAnyT_two (i := 10) (j := 11) (o := _) (p := _) (by kernel_rfl) rfl rfl (fun K hK => ?_) (fun K hK => ?_)
                  · go_simp
                    refine hK.out _ _ ((hcells.out _ ((hq0.out).trans (hM4.out.bel.mono hq0.out.size))).2) ?_
                    clear hK K
                    refine wpAnyT_one (i := 11) (o := _) (by kernel_rfl) rfl (fun K hK => ?_)
                    go_simp
                    have hM5 := Lib.hid hM4.out.alloc
                    refine hK.out _ _ ((hcells.out _ ((hq0.out).trans (hM5.out.bel.mono hq0.out.size))).2) ?_
                    clear hK K
                    have hFour := Lib.hid (four_alloc hM4.out rfl)
                    unfold RV.va RV.vb at hFour
                    dsimp only at hFour
                    refine wpAnyT_free (i := 12) (o := _) (by kernel_rfl) rfl (by kernel_rfl) (fun K hK => ?_)
                    go_simp
                    refine hK.out _ _ ?_
                    clear hK K
                    refine wpAnyT_done (by kernel_rfl) ?_ _
                    refine ‹∀ (a : Act) (w : World), Met _ a w → _› _ _ ?_
                    go_meet
                    case rel => exact ⟨_, [⟨a1, c1, b1, d1, renR r⟩, ⟨a2, c2, b2, d2, putR names terms r⟩, ⟨a3, c3, b3, d3, bodyR r⟩, ⟨a4, c4, b4, d4, ruleR r⟩], rfl, Lib.hid rfl, Lib.hid hFour.out.1, Lib.hid hFour.out.2⟩
                  · go_simp
                    have hM6 := Lib.hid hM4.out.alloc
                    refine hK.out _ _ ((hcells.out _ ((hq0.out).trans (hM6.out.bel.mono hq0.out.size))).2) ?_
                    clear hK K
                    refine wpAnyT_one (i := 10) (o := _) (by kernel_rfl) rfl (fun K hK => ?_)
                    go_simp
                    refine hK.out _ _ ((hcells.out _ ((hq0.out).trans (hM6.out.bel.mono hq0.out.size))).2) ?_
                    clear hK K
                    have hFour := Lib.hid (four_alloc hM4.out rfl)
                    unfold RV.va RV.vb at hFour
                    dsimp only at hFour
                    refine wpAnyT_free (i := 12) (o := _) (by kernel_rfl) rfl (by kernel_rfl) (fun K hK => ?_)
                    go_simp
                    refine hK.out _ _ ?_
                    clear hK K
                    refine wpAnyT_done (by kernel_rfl) ?_ _
                    refine ‹∀ (a : Act) (w : World), Met _ a w → _› _ _ ?_
                    go_meet
                    case rel => exact ⟨_, [⟨a1, c1, b1, d1, renR r⟩, ⟨a2, c2, b2, d2, putR names terms r⟩, ⟨a3, c3, b3, d3, bodyR r⟩, ⟨a4, c4, b4, d4, ruleR r⟩], rfl, Lib.hid rfl, Lib.hid hFour.out.1, Lib.hid hFour.out.2⟩
                · go_simp
                  have hM7 := Lib.hid hM3.out.alloc
                  refine hK.out _ _ ((hcells.out _ ((hq0.out).trans (hM7.out.bel.mono hq0.out.size))).2) ?_
                  clear hK K
                  refine wpAnyT_one (i := 9) (o := _) (by kernel_rfl) rfl (fun K hK => ?_)
                  go_simp
                  go_wp2_with (go_at_call 15; go_loud (refine (hn4.out _ (hq0.out.trans (hM7.out.bel.mono hq0.out.size))).mono ?_); rintro e wm8 ⟨a8, c8, b8, d8, rfl, hseg, hbb⟩
                               have hM8 := Lib.hid (hM7.out.push (x := ⟨a8, c8, b8, d8, ruleR r⟩) hseg hbb)
                               clear hseg hbb)
                  refine hK.out _ _ ((hcells.out _ ((hq0.out).trans (hM8.out.bel.mono hq0.out.size))).2) ?_
                  clear hK K
                  refine wpAnyT_one (i := 10) (o := _) (by kernel_rfl) rfl (fun K hK => ?_)
                  go_simp
                  refine hK.out _ _ ((hcells.out _ ((hq0.out).trans (hM8.out.bel.mono hq0.out.size))).2) ?_
                  clear hK K
                  obtain ⟨hA1, hA2⟩ := hM8.out.box _ rfl
                  have hFour := Lib.hid (four_put hM8.out.segs hM8.out.bel hA1 hA2 rfl)
                  unfold put12 RV.va RV.vb at hFour
                  dsimp only at hFour
                  obtain ⟨e0, e1, e2, e3, e4, e5, e6, e7, e8, e9, e10, e11⟩ := zero_cells hA2
                  have hfz := lit_live hA2
                  clear hA1 hA2
                  refine wpAnyT_free (i := 12) (o := _) (by kernel_rfl) rfl (by kernel_rfl) (fun K hK => ?_)
                  go_simp
                  refine hK.out _ _ ?_
                  clear hK K
                  refine wpAnyT_done (by kernel_rfl) ?_ _
                  refine ‹∀ (a : Act) (w : World), Met _ a w → _› _ _ ?_
                  go_meet
                  case rel => exact ⟨_, [⟨a1, c1, b1, d1, renR r⟩, ⟨a2, c2, b2, d2, putR names terms r⟩, ⟨a3, c3, b3, d3, bodyR r⟩, ⟨a8, c8, b8, d8, ruleR r⟩], rfl, Lib.hid rfl, Lib.hid hFour.out.1, Lib.hid hFour.out.2⟩
              · go_simp
                have hM9 := Lib.hid hM2.out.alloc
                refine hK.out _ _ ((hcells.out _ ((hq0.out).trans (hM9.out.bel.mono hq0.out.size))).2) ?_
                clear hK K
                refine wpAnyT_one (i := 7) (o := _) (by kernel_rfl) rfl (fun K hK => ?_)
                go_simp
                go_wp2_with (go_at_call 14; go_loud (refine (hn3.out _ (hq0.out.trans (hM9.out.bel.mono hq0.out.size))).mono ?_); rintro e wm10 ⟨a10, c10, b10, d10, rfl, hseg, hbb⟩
                             have hM10 := Lib.hid (hM9.out.push (x := ⟨a10, c10, b10, d10, bodyR r⟩) hseg hbb)
                             clear hseg hbb)
                refine hK.out _ _ ((hcells.out _ ((hq0.out).trans (hM10.out.bel.mono hq0.out.size))).2) ?_
                clear hK K
                refine wpAnyT_one (i := 9) (o := _) (by kernel_rfl) rfl (fun K hK => ?_)
                go_simp
                go_wp2_with (go_at_call 15; go_loud (refine (hn4.out _ (hq0.out.trans (hM10.out.bel.mono hq0.out.size))).mono ?_); rintro e wm11 ⟨a11, c11, b11, d11, rfl, hseg, hbb⟩
                             have hM11 := Lib.hid (hM10.out.push (x := ⟨a11, c11, b11, d11, ruleR r⟩) hseg hbb)
                             clear hseg hbb)
                refine hK.out _ _ ((hcells.out _ ((hq0.out).trans (hM11.out.bel.mono hq0.out.size))).2) ?_
                clear hK K
                refine wpAnyT_one (i := 10) (o := _) (by kernel_rfl) rfl (fun K hK => ?_)
                go_simp
                refine hK.out _ _ ((hcells.out _ ((hq0.out).trans (hM11.out.bel.mono hq0.out.size))).2) ?_
                clear hK K
                obtain ⟨hA1, hA2⟩ := hM11.out.box _ rfl
                have hFour := Lib.hid (four_put hM11.out.segs hM11.out.bel hA1 hA2 rfl)
                unfold put12 RV.va RV.vb at hFour
                dsimp only at hFour
                obtain ⟨e0, e1, e2, e3, e4, e5, e6, e7, e8, e9, e10, e11⟩ := zero_cells hA2
                have hfz := lit_live hA2
                clear hA1 hA2
                refine wpAnyT_free (i := 12) (o := _) (by kernel_rfl) rfl (by kernel_rfl) (fun K hK => ?_)
                go_simp
                refine hK.out _ _ ?_
                clear hK K
                refine wpAnyT_done (by kernel_rfl) ?_ _
                refine ‹∀ (a : Act) (w : World), Met _ a w → _› _ _ ?_
                go_meet
                case rel => exact ⟨_, [⟨a1, c1, b1, d1, renR r⟩, ⟨a2, c2, b2, d2, putR names terms r⟩, ⟨a10, c10, b10, d10, bodyR r⟩, ⟨a11, c11, b11, d11, ruleR r⟩], rfl, Lib.hid rfl, Lib.hid hFour.out.1, Lib.hid hFour.out.2⟩
            · go_simp
              have hM12 := Lib.hid hM1.out.alloc
              refine hK.out _ _ ((hcells.out _ ((hq0.out).trans (hM12.out.bel.mono hq0.out.size))).2) ?_
              clear hK K
              refine wpAnyT_one (i := 5) (o := _) (by kernel_rfl) rfl (fun K hK => ?_)
              go_simp
              go_wp2_with (go_at_call 13; go_loud (refine (hn2.out _ (hq0.out.trans (hM12.out.bel.mono hq0.out.size))).mono ?_); rintro e wm13 ⟨a13, c13, b13, d13, rfl, hseg, hbb⟩
                           have hM13 := Lib.hid (hM12.out.push (x := ⟨a13, c13, b13, d13, putR names terms r⟩) hseg hbb)
                           clear hseg hbb)
              refine hK.out _ _ ((hcells.out _ ((hq0.out).trans (hM13.out.bel.mono hq0.out.size))).2) ?_
              clear hK K
              refine wpAnyT_one (i := 7) (o := _) (by kernel_rfl) rfl (fun K hK => ?_)
              go_simp
              go_wp2_with (go_at_call 14; go_loud (refine (hn3.out _ (hq0.out.trans (hM13.out.bel.mono hq0.out.size))).mono ?_); rintro e wm14 ⟨a14, c14, b14, d14, rfl, hseg, hbb⟩
                           have hM14 := Lib.hid (hM13.out.push (x := ⟨a14, c14, b14, d14, bodyR r⟩) hseg hbb)
                           clear hseg hbb)
              refine hK.out _ _ ((hcells.out _ ((hq0.out).trans (hM14.out.bel.mono hq0.out.size))).2) ?_
              clear hK K
              refine wpAnyT_one (i := 9) (o := _) (by kernel_rfl) rfl (fun K hK => ?_)
              go_simp
              go_wp2_with (go_at_call 15; go_loud (refine (hn4.out _ (hq0.out.trans (hM14.out.bel.mono hq0.out.size))).mono ?_); rintro e wm15 ⟨a15, c15, b15, d15, rfl, hseg, hbb⟩
                           have hM15 := Lib.hid (hM14.out.push (x := ⟨a15, c15, b15, d15, ruleR r⟩) hseg hbb)
                           clear hseg hbb)
              refine hK.out _ _ ((hcells.out _ ((hq0.out).trans (hM15.out.bel.mono hq0.out.size))).2) ?_
              clear hK K
              refine wpAnyT_one (i := 10) (o := _) (by kernel_rfl) rfl (fun K hK => ?_)
              go_simp
              refine hK.out _ _ ((hcells.out _ ((hq0.out).trans (hM15.out.bel.mono hq0.out.size))).2) ?_
              clear hK K
              obtain ⟨hA1, hA2⟩ := hM15.out.box _ rfl
              have hFour := Lib.hid (four_put hM15.out.segs hM15.out.bel hA1 hA2 rfl)
              unfold put12 RV.va RV.vb at hFour
              dsimp only at hFour
              obtain ⟨e0, e1, e2, e3, e4, e5, e6, e7, e8, e9, e10, e11⟩ := zero_cells hA2
              have hfz := lit_live hA2
              clear hA1 hA2
              refine wpAnyT_free (i := 12) (o := _) (by kernel_rfl) rfl (by kernel_rfl) (fun K hK => ?_)
              go_simp
              refine hK.out _ _ ?_
              clear hK K
              refine wpAnyT_done (by kernel_rfl) ?_ _
              refine ‹∀ (a : Act) (w : World), Met _ a w → _› _ _ ?_
              go_meet
              case rel => exact ⟨_, [⟨a1, c1, b1, d1, renR r⟩, ⟨a13, c13, b13, d13, putR names terms r⟩, ⟨a14, c14, b14, d14, bodyR r⟩, ⟨a15, c15, b15, d15, ruleR r⟩], rfl, Lib.hid rfl, Lib.hid hFour.out.1, Lib.hid hFour.out.2⟩
          · go_simp
            have hM16 : Hid (Mk true wr.drew wr.drew.heap.size [] (some wr.heap.size) (wr.drew.alloc (.cells zero12 36))) := Lib.hid hM0.out.alloc
            refine hK.out _ _ ((hcells.out _ ((hq0.out).trans (hM16.out.bel.mono hq0.out.size))).2) ?_
            clear hK K
            refine wpAnyT_one (i := 1) (o := _) (by kernel_rfl) rfl (fun K hK => ?_)
            go_simp
            go_wp2_with (go_at_call 12; go_loud (refine (hn1.out _ (hq0.out.trans (hM16.out.bel.mono hq0.out.size))).mono ?_); rintro e wm17 ⟨a17, c17, b17, d17, rfl, hseg, hbb⟩
                         have hM17 := Lib.hid (hM16.out.push (x := ⟨a17, c17, b17, d17, renR r⟩) hseg hbb)
                         clear hseg hbb)
            refine hK.out _ _ ((hcells.out _ ((hq0.out).trans (hM17.out.bel.mono hq0.out.size))).2) ?_
            clear hK K
            refine wpAnyT_one (i := 5) (o := _) (by kernel_rfl) rfl (fun K hK => ?_)
            go_simp
            go_wp2_with (go_at_call 13; go_loud (refine (hn2.out _ (hq0.out.trans (hM17.out.bel.mono hq0.out.size))).mono ?_); rintro e wm18 ⟨a18, c18, b18, d18, rfl, hseg, hbb⟩
                         have hM18 := Lib.hid (hM17.out.push (x := ⟨a18, c18, b18, d18, putR names terms r⟩) hseg hbb)
                         clear hseg hbb)
            refine hK.out _ _ ((hcells.out _ ((hq0.out).trans (hM18.out.bel.mono hq0.out.size))).2) ?_
            clear hK K
            refine wpAnyT_one (i := 7) (o := _) (by kernel_rfl) rfl (fun K hK => ?_)
            go_simp
            go_wp2_with (go_at_call 14; go_loud (refine (hn3.out _ (hq0.out.trans (hM18.out.bel.mono hq0.out.size))).mono ?_); rintro e wm19 ⟨a19, c19, b19, d19, rfl, hseg, hbb⟩
                         have hM19 := Lib.hid (hM18.out.push (x := ⟨a19, c19, b19, d19, bodyR r⟩) hseg hbb)
                         clear hseg hbb)
            refine hK.out _ _ ((hcells.out _ ((hq0.out).trans (hM19.out.bel.mono hq0.out.size))).2) ?_
            clear hK K
            refine wpAnyT_one (i := 9) (o := _) (by kernel_rfl) rfl (fun K hK => ?_)
            go_simp
            go_wp2_with (go_at_call 15; go_loud (refine (hn4.out _ (hq0.out.trans (hM19.out.bel.mono hq0.out.size))).mono ?_); rintro e wm20 ⟨a20, c20, b20, d20, rfl, hseg, hbb⟩
                         have hM20 := Lib.hid (hM19.out.push (x := ⟨a20, c20, b20, d20, ruleR r⟩) hseg hbb)
                         clear hseg hbb)
            refine hK.out _ _ ((hcells.out _ ((hq0.out).trans (hM20.out.bel.mono hq0.out.size))).2) ?_
            clear hK K
            refine wpAnyT_one (i := 10) (o := _) (by kernel_rfl) rfl (fun K hK => ?_)
            go_simp
            refine hK.out _ _ ((hcells.out _ ((hq0.out).trans (hM20.out.bel.mono hq0.out.size))).2) ?_
            clear hK K
            obtain ⟨hA1, hA2⟩ := hM20.out.box _ rfl
            have hFour := Lib.hid (four_put hM20.out.segs hM20.out.bel hA1 hA2 rfl)
            unfold put12 RV.va RV.vb at hFour
            dsimp only at hFour
            obtain ⟨e0, e1, e2, e3, e4, e5, e6, e7, e8, e9, e10, e11⟩ := zero_cells hA2
            have hfz := lit_live hA2
            clear hA1 hA2
            refine wpAnyT_free (i := 12) (o := _) (by kernel_rfl) rfl (by kernel_rfl) (fun K hK => ?_)
            go_simp
            refine hK.out _ _ ?_
            clear hK K
            refine wpAnyT_done (by kernel_rfl) ?_ _
            refine ‹∀ (a : Act) (w : World), Met _ a w → _› _ _ ?_
            go_meet
            case rel => exact ⟨_, [⟨a17, c17, b17, d17, renR r⟩, ⟨a18, c18, b18, d18, putR names terms r⟩, ⟨a19, c19, b19, d19, bodyR r⟩, ⟨a20, c20, b20, d20, ruleR r⟩], rfl, Lib.hid rfl, Lib.hid hFour.out.1, Lib.hid hFour.out.2⟩
        case rest =>
          obtain ⟨A1, l1, rfl, hl1, hF1', hbA⟩ := hcut
          rename World => wA
          obtain ⟨hi1, hF1''⟩ := hF1'.out
          have hF1 := Lib.hid hF1''
          have hlo1 : Hid (w6.heap.size ≤ wr.drew.heap.size) := Lib.hid hq0.out.size
          have hqA : Hid (Below w6.heap.size w6 wA.drew) := Lib.hid ((hq0.out.trans (hbA.out.mono hq0.out.size)).drew)
          clear hF1' hF1'' hbA hq0
          obtain ⟨lo1, hlo⟩ : ∃ n, wr.drew.heap.size = n := ⟨_, rfl⟩
          rw [hlo] at hF1 hlo1
          clear hlo
          have hq0 := hqA
          go_upto_region 16 with fail
          go_cut [14] from 79 to 89 (fun v14 wx => ∃ A l, v14 = .pointer (some ⟨A, 0, none⟩) ∧ Hid (l.map RV.r = [renR r, putR names terms r, bodyR r, ruleR r]) ∧ Hid (∃ hi, Four true wA.drew.heap.size hi A l wx) ∧ Hid (Below wA.drew.heap.size wA.drew wx))
          case first =>
            have hM0 : Hid (Mk true wA.drew wA.drew.heap.size [] none wA.drew) := Lib.hid (Mk.start true (Below.refl _ _) (Nat.le_refl _))
            obtain ⟨z0, z1, z2⟩ := (hcells.out _ hq0.out).2
            refine wp_region_T (fun w' => w'.cell? ⟨G, 0, none⟩ = some (.string r.h) ∧ w'.cell? ⟨G, 1, none⟩ = some (.slice (some ⟨g, 0, none⟩) r.a.length gc) ∧ w'.cell? ⟨G, 2, none⟩ = some (.slice (some ⟨B, 0, none⟩) r.b.length cB)) [0, 2, 3, 4, 6, 8] (by kernel_rfl) ⟨z0, z1, z2⟩ (fun hHeld => ?_)
            clear z0 z1 z2
            refine wpAnyT_take (i := 0) (oi := _) (v := ?_) rfl rfl (by kernel_rfl) (by kernel_rfl) (by kernel_rfl) (fun _ _ _ h => h) (Or.inl ⟨by rfl, ?_⟩) (by assumption) ?_
            rotate_left
            · intro w hSw
              try dsimp only at hSw
              go_simp
              try with_reducible rfl
            refine wpAnyT_take (i := 2) (oi := _) (v := ?_) rfl rfl (by kernel_rfl) (by kernel_rfl) (by kernel_rfl) (fun _ _ _ h => h) (Or.inl ⟨by rfl, ?_⟩) (by assumption) ?_
            rotate_left
            · intro w hSw
              try dsimp only at hSw
              go_simp
              try with_reducible rfl
            refine wpAnyT_take (i := 3) (oi := _) (v := ?_) rfl rfl (by kernel_rfl) (by kernel_rfl) (by kernel_rfl) (fun _ _ _ h => h) (Or.inl ⟨by rfl, ?_⟩) (by assumption) ?_
            rotate_left
            · intro w hSw
              try dsimp only at hSw
              go_simp
              try with_reducible rfl
            refine wpAnyT_take (i := 4) (oi := _) (v := ?_) rfl rfl (by kernel_rfl) (by kernel_rfl) (by kernel_rfl) (fun _ _ _ h => h) (Or.inl ⟨by rfl, ?_⟩) (by assumption) ?_
            rotate_left
            · intro w hSw
              try dsimp only at hSw
              go_simp
              try with_reducible rfl
            refine wpAnyT_take (i := 6) (oi := _) (v := ?_) rfl rfl (by kernel_rfl) (by kernel_rfl) (by kernel_rfl) (fun _ _ _ h => h) (Or.inl ⟨by rfl, ?_⟩) (by assumption) ?_
            rotate_left
            · intro w hSw
              try dsimp only at hSw
              go_simp
              try with_reducible rfl
            refine wpAnyT_take (i := 8) (oi := _) (v := ?_) rfl rfl (by kernel_rfl) (by kernel_rfl) (by kernel_rfl) (fun _ _ _ h => h) (Or.inl ⟨by rfl, ?_⟩) (by assumption) ?_
            rotate_left
            · intro w hSw
              try dsimp only at hSw
              go_simp
              try with_reducible rfl
            clear hHeld
            refine wpAnyT_two (i := 1) (j := 11) (o := _) (p := _) (by kernel_rfl) rfl rfl (fun K hK => ?_) (fun K hK => ?_)
            · go_simp
              go_wp2_with (go_at_call 12; go_loud (refine (hn1.out _ (hq0.out.trans (hM0.out.bel.mono hq0.out.size))).mono ?_); rintro e wm1 ⟨a1, c1, b1, d1, rfl, hseg, hbb⟩
                           have hM1 := Lib.hid (hM0.out.push (x := ⟨a1, c1, b1, d1, renR r⟩) hseg hbb)
                           clear hseg hbb)
              refine hK.out _ _ ((hcells.out _ ((hq0.out).trans (hM1.out.bel.mono hq0.out.size))).2) ?_
              clear hK K
              refine wpAnyT_two (i := 5) (j := 11) (o := _) (p := _) (by kernel_rfl) rfl rfl (fun K hK => ?_) (fun K hK => ?_)
              · go_simp
                go_wp2_with (go_at_call 13; go_loud (refine (hn2.out _ (hq0.out.trans (hM1.out.bel.mono hq0.out.size))).mono ?_); rintro e wm2 ⟨a2, c2, b2, d2, rfl, hseg, hbb⟩
                             have hM2 := Lib.hid (hM1.out.push (x := ⟨a2, c2, b2, d2, putR names terms r⟩) hseg hbb)
                             clear hseg hbb)
                refine hK.out _ _ ((hcells.out _ ((hq0.out).trans (hM2.out.bel.mono hq0.out.size))).2) ?_
                clear hK K
                refine wpAnyT_two (i := 7) (j := 11) (o := _) (p := _) (by kernel_rfl) rfl rfl (fun K hK => ?_) (fun K hK => ?_)
                · go_simp
                  go_wp2_with (go_at_call 14; go_loud (refine (hn3.out _ (hq0.out.trans (hM2.out.bel.mono hq0.out.size))).mono ?_); rintro e wm3 ⟨a3, c3, b3, d3, rfl, hseg, hbb⟩
                               have hM3 := Lib.hid (hM2.out.push (x := ⟨a3, c3, b3, d3, bodyR r⟩) hseg hbb)
                               clear hseg hbb)
                  refine hK.out _ _ ((hcells.out _ ((hq0.out).trans (hM3.out.bel.mono hq0.out.size))).2) ?_
                  clear hK K
                  refine wpAnyT_two (i := 9) (j := 11) (o := _) (p := _) (by kernel_rfl) rfl rfl (fun K hK => ?_) (fun K hK => ?_)
                  · go_simp
                    go_wp2_with (go_at_call 15; go_loud (refine (hn4.out _ (hq0.out.trans (hM3.out.bel.mono hq0.out.size))).mono ?_); rintro e wm4 ⟨a4, c4, b4, d4, rfl, hseg, hbb⟩
                                 have hM4 := Lib.hid (hM3.out.push (x := ⟨a4, c4, b4, d4, ruleR r⟩) hseg hbb)
                                 clear hseg hbb)
                    refine hK.out _ _ ((hcells.out _ ((hq0.out).trans (hM4.out.bel.mono hq0.out.size))).2) ?_
                    clear hK K
                    refine wpAnyT_two (i := 10) (j := 11) (o := _) (p := _) (by kernel_rfl) rfl rfl (fun K hK => ?_) (fun K hK => ?_)
                    · go_simp
                      refine hK.out _ _ ((hcells.out _ ((hq0.out).trans (hM4.out.bel.mono hq0.out.size))).2) ?_
                      clear hK K
                      refine wpAnyT_one (i := 11) (o := _) (by kernel_rfl) rfl (fun K hK => ?_)
                      go_simp
                      have hM5 := Lib.hid hM4.out.alloc
                      refine hK.out _ _ ((hcells.out _ ((hq0.out).trans (hM5.out.bel.mono hq0.out.size))).2) ?_
                      clear hK K
                      have hFour := Lib.hid (four_alloc hM4.out rfl)
                      unfold RV.va RV.vb at hFour
                      dsimp only at hFour
                      refine wpAnyT_free (i := 12) (o := _) (by kernel_rfl) rfl (by kernel_rfl) (fun K hK => ?_)
                      go_simp
                      refine hK.out _ _ ?_
                      clear hK K
                      refine wpAnyT_done (by kernel_rfl) ?_ _
                      refine ‹∀ (a : Act) (w : World), Met _ a w → _› _ _ ?_
                      go_meet
                      case rel => exact ⟨_, [⟨a1, c1, b1, d1, renR r⟩, ⟨a2, c2, b2, d2, putR names terms r⟩, ⟨a3, c3, b3, d3, bodyR r⟩, ⟨a4, c4, b4, d4, ruleR r⟩], rfl, Lib.hid rfl, Lib.hid hFour.out.1, Lib.hid hFour.out.2⟩
                    · go_simp
                      have hM6 := Lib.hid hM4.out.alloc
                      refine hK.out _ _ ((hcells.out _ ((hq0.out).trans (hM6.out.bel.mono hq0.out.size))).2) ?_
                      clear hK K
                      refine wpAnyT_one (i := 10) (o := _) (by kernel_rfl) rfl (fun K hK => ?_)
                      go_simp
                      refine hK.out _ _ ((hcells.out _ ((hq0.out).trans (hM6.out.bel.mono hq0.out.size))).2) ?_
                      clear hK K
                      have hFour := Lib.hid (four_alloc hM4.out rfl)
                      unfold RV.va RV.vb at hFour
                      dsimp only at hFour
                      refine wpAnyT_free (i := 12) (o := _) (by kernel_rfl) rfl (by kernel_rfl) (fun K hK => ?_)
                      go_simp
                      refine hK.out _ _ ?_
                      clear hK K
                      refine wpAnyT_done (by kernel_rfl) ?_ _
                      refine ‹∀ (a : Act) (w : World), Met _ a w → _› _ _ ?_
                      go_meet
                      case rel => exact ⟨_, [⟨a1, c1, b1, d1, renR r⟩, ⟨a2, c2, b2, d2, putR names terms r⟩, ⟨a3, c3, b3, d3, bodyR r⟩, ⟨a4, c4, b4, d4, ruleR r⟩], rfl, Lib.hid rfl, Lib.hid hFour.out.1, Lib.hid hFour.out.2⟩
                  · go_simp
                    have hM7 := Lib.hid hM3.out.alloc
                    refine hK.out _ _ ((hcells.out _ ((hq0.out).trans (hM7.out.bel.mono hq0.out.size))).2) ?_
                    clear hK K
                    refine wpAnyT_one (i := 9) (o := _) (by kernel_rfl) rfl (fun K hK => ?_)
                    go_simp
                    go_wp2_with (go_at_call 15; go_loud (refine (hn4.out _ (hq0.out.trans (hM7.out.bel.mono hq0.out.size))).mono ?_); rintro e wm8 ⟨a8, c8, b8, d8, rfl, hseg, hbb⟩
                                 have hM8 := Lib.hid (hM7.out.push (x := ⟨a8, c8, b8, d8, ruleR r⟩) hseg hbb)
                                 clear hseg hbb)
                    refine hK.out _ _ ((hcells.out _ ((hq0.out).trans (hM8.out.bel.mono hq0.out.size))).2) ?_
                    clear hK K
                    refine wpAnyT_one (i := 10) (o := _) (by kernel_rfl) rfl (fun K hK => ?_)
                    go_simp
                    refine hK.out _ _ ((hcells.out _ ((hq0.out).trans (hM8.out.bel.mono hq0.out.size))).2) ?_
                    clear hK K
                    obtain ⟨hA1, hA2⟩ := hM8.out.box _ rfl
                    have hFour := Lib.hid (four_put hM8.out.segs hM8.out.bel hA1 hA2 rfl)
                    unfold put12 RV.va RV.vb at hFour
                    dsimp only at hFour
                    obtain ⟨e0, e1, e2, e3, e4, e5, e6, e7, e8, e9, e10, e11⟩ := zero_cells hA2
                    have hfz := lit_live hA2
                    clear hA1 hA2
                    refine wpAnyT_free (i := 12) (o := _) (by kernel_rfl) rfl (by kernel_rfl) (fun K hK => ?_)
                    go_simp
                    refine hK.out _ _ ?_
                    clear hK K
                    refine wpAnyT_done (by kernel_rfl) ?_ _
                    refine ‹∀ (a : Act) (w : World), Met _ a w → _› _ _ ?_
                    go_meet
                    case rel => exact ⟨_, [⟨a1, c1, b1, d1, renR r⟩, ⟨a2, c2, b2, d2, putR names terms r⟩, ⟨a3, c3, b3, d3, bodyR r⟩, ⟨a8, c8, b8, d8, ruleR r⟩], rfl, Lib.hid rfl, Lib.hid hFour.out.1, Lib.hid hFour.out.2⟩
                · go_simp
                  have hM9 := Lib.hid hM2.out.alloc
                  refine hK.out _ _ ((hcells.out _ ((hq0.out).trans (hM9.out.bel.mono hq0.out.size))).2) ?_
                  clear hK K
                  refine wpAnyT_one (i := 7) (o := _) (by kernel_rfl) rfl (fun K hK => ?_)
                  go_simp
                  go_wp2_with (go_at_call 14; go_loud (refine (hn3.out _ (hq0.out.trans (hM9.out.bel.mono hq0.out.size))).mono ?_); rintro e wm10 ⟨a10, c10, b10, d10, rfl, hseg, hbb⟩
                               have hM10 := Lib.hid (hM9.out.push (x := ⟨a10, c10, b10, d10, bodyR r⟩) hseg hbb)
                               clear hseg hbb)
                  refine hK.out _ _ ((hcells.out _ ((hq0.out).trans (hM10.out.bel.mono hq0.out.size))).2) ?_
                  clear hK K
                  refine wpAnyT_one (i := 9) (o := _) (by kernel_rfl) rfl (fun K hK => ?_)
                  go_simp
                  go_wp2_with (go_at_call 15; go_loud (refine (hn4.out _ (hq0.out.trans (hM10.out.bel.mono hq0.out.size))).mono ?_); rintro e wm11 ⟨a11, c11, b11, d11, rfl, hseg, hbb⟩
                               have hM11 := Lib.hid (hM10.out.push (x := ⟨a11, c11, b11, d11, ruleR r⟩) hseg hbb)
                               clear hseg hbb)
                  refine hK.out _ _ ((hcells.out _ ((hq0.out).trans (hM11.out.bel.mono hq0.out.size))).2) ?_
                  clear hK K
                  refine wpAnyT_one (i := 10) (o := _) (by kernel_rfl) rfl (fun K hK => ?_)
                  go_simp
                  refine hK.out _ _ ((hcells.out _ ((hq0.out).trans (hM11.out.bel.mono hq0.out.size))).2) ?_
                  clear hK K
                  obtain ⟨hA1, hA2⟩ := hM11.out.box _ rfl
                  have hFour := Lib.hid (four_put hM11.out.segs hM11.out.bel hA1 hA2 rfl)
                  unfold put12 RV.va RV.vb at hFour
                  dsimp only at hFour
                  obtain ⟨e0, e1, e2, e3, e4, e5, e6, e7, e8, e9, e10, e11⟩ := zero_cells hA2
                  have hfz := lit_live hA2
                  clear hA1 hA2
                  refine wpAnyT_free (i := 12) (o := _) (by kernel_rfl) rfl (by kernel_rfl) (fun K hK => ?_)
                  go_simp
                  refine hK.out _ _ ?_
                  clear hK K
                  refine wpAnyT_done (by kernel_rfl) ?_ _
                  refine ‹∀ (a : Act) (w : World), Met _ a w → _› _ _ ?_
                  go_meet
                  case rel => exact ⟨_, [⟨a1, c1, b1, d1, renR r⟩, ⟨a2, c2, b2, d2, putR names terms r⟩, ⟨a10, c10, b10, d10, bodyR r⟩, ⟨a11, c11, b11, d11, ruleR r⟩], rfl, Lib.hid rfl, Lib.hid hFour.out.1, Lib.hid hFour.out.2⟩
              · go_simp
                have hM12 := Lib.hid hM1.out.alloc
                refine hK.out _ _ ((hcells.out _ ((hq0.out).trans (hM12.out.bel.mono hq0.out.size))).2) ?_
                clear hK K
                refine wpAnyT_one (i := 5) (o := _) (by kernel_rfl) rfl (fun K hK => ?_)
                go_simp
                go_wp2_with (go_at_call 13; go_loud (refine (hn2.out _ (hq0.out.trans (hM12.out.bel.mono hq0.out.size))).mono ?_); rintro e wm13 ⟨a13, c13, b13, d13, rfl, hseg, hbb⟩
                             have hM13 := Lib.hid (hM12.out.push (x := ⟨a13, c13, b13, d13, putR names terms r⟩) hseg hbb)
                             clear hseg hbb)
                refine hK.out _ _ ((hcells.out _ ((hq0.out).trans (hM13.out.bel.mono hq0.out.size))).2) ?_
                clear hK K
                refine wpAnyT_one (i := 7) (o := _) (by kernel_rfl) rfl (fun K hK => ?_)
                go_simp
                go_wp2_with (go_at_call 14; go_loud (refine (hn3.out _ (hq0.out.trans (hM13.out.bel.mono hq0.out.size))).mono ?_); rintro e wm14 ⟨a14, c14, b14, d14, rfl, hseg, hbb⟩
                             have hM14 := Lib.hid (hM13.out.push (x := ⟨a14, c14, b14, d14, bodyR r⟩) hseg hbb)
                             clear hseg hbb)
                refine hK.out _ _ ((hcells.out _ ((hq0.out).trans (hM14.out.bel.mono hq0.out.size))).2) ?_
                clear hK K
                refine wpAnyT_one (i := 9) (o := _) (by kernel_rfl) rfl (fun K hK => ?_)
                go_simp
                go_wp2_with (go_at_call 15; go_loud (refine (hn4.out _ (hq0.out.trans (hM14.out.bel.mono hq0.out.size))).mono ?_); rintro e wm15 ⟨a15, c15, b15, d15, rfl, hseg, hbb⟩
                             have hM15 := Lib.hid (hM14.out.push (x := ⟨a15, c15, b15, d15, ruleR r⟩) hseg hbb)
                             clear hseg hbb)
                refine hK.out _ _ ((hcells.out _ ((hq0.out).trans (hM15.out.bel.mono hq0.out.size))).2) ?_
                clear hK K
                refine wpAnyT_one (i := 10) (o := _) (by kernel_rfl) rfl (fun K hK => ?_)
                go_simp
                refine hK.out _ _ ((hcells.out _ ((hq0.out).trans (hM15.out.bel.mono hq0.out.size))).2) ?_
                clear hK K
                obtain ⟨hA1, hA2⟩ := hM15.out.box _ rfl
                have hFour := Lib.hid (four_put hM15.out.segs hM15.out.bel hA1 hA2 rfl)
                unfold put12 RV.va RV.vb at hFour
                dsimp only at hFour
                obtain ⟨e0, e1, e2, e3, e4, e5, e6, e7, e8, e9, e10, e11⟩ := zero_cells hA2
                have hfz := lit_live hA2
                clear hA1 hA2
                refine wpAnyT_free (i := 12) (o := _) (by kernel_rfl) rfl (by kernel_rfl) (fun K hK => ?_)
                go_simp
                refine hK.out _ _ ?_
                clear hK K
                refine wpAnyT_done (by kernel_rfl) ?_ _
                refine ‹∀ (a : Act) (w : World), Met _ a w → _› _ _ ?_
                go_meet
                case rel => exact ⟨_, [⟨a1, c1, b1, d1, renR r⟩, ⟨a13, c13, b13, d13, putR names terms r⟩, ⟨a14, c14, b14, d14, bodyR r⟩, ⟨a15, c15, b15, d15, ruleR r⟩], rfl, Lib.hid rfl, Lib.hid hFour.out.1, Lib.hid hFour.out.2⟩
            · go_simp
              have hM16 : Hid (Mk true wA.drew wA.drew.heap.size [] (some wA.heap.size) (wA.drew.alloc (.cells zero12 36))) := Lib.hid hM0.out.alloc
              refine hK.out _ _ ((hcells.out _ ((hq0.out).trans (hM16.out.bel.mono hq0.out.size))).2) ?_
              clear hK K
              refine wpAnyT_one (i := 1) (o := _) (by kernel_rfl) rfl (fun K hK => ?_)
              go_simp
              go_wp2_with (go_at_call 12; go_loud (refine (hn1.out _ (hq0.out.trans (hM16.out.bel.mono hq0.out.size))).mono ?_); rintro e wm17 ⟨a17, c17, b17, d17, rfl, hseg, hbb⟩
                           have hM17 := Lib.hid (hM16.out.push (x := ⟨a17, c17, b17, d17, renR r⟩) hseg hbb)
                           clear hseg hbb)
              refine hK.out _ _ ((hcells.out _ ((hq0.out).trans (hM17.out.bel.mono hq0.out.size))).2) ?_
              clear hK K
              refine wpAnyT_one (i := 5) (o := _) (by kernel_rfl) rfl (fun K hK => ?_)
              go_simp
              go_wp2_with (go_at_call 13; go_loud (refine (hn2.out _ (hq0.out.trans (hM17.out.bel.mono hq0.out.size))).mono ?_); rintro e wm18 ⟨a18, c18, b18, d18, rfl, hseg, hbb⟩
                           have hM18 := Lib.hid (hM17.out.push (x := ⟨a18, c18, b18, d18, putR names terms r⟩) hseg hbb)
                           clear hseg hbb)
              refine hK.out _ _ ((hcells.out _ ((hq0.out).trans (hM18.out.bel.mono hq0.out.size))).2) ?_
              clear hK K
              refine wpAnyT_one (i := 7) (o := _) (by kernel_rfl) rfl (fun K hK => ?_)
              go_simp
              go_wp2_with (go_at_call 14; go_loud (refine (hn3.out _ (hq0.out.trans (hM18.out.bel.mono hq0.out.size))).mono ?_); rintro e wm19 ⟨a19, c19, b19, d19, rfl, hseg, hbb⟩
                           have hM19 := Lib.hid (hM18.out.push (x := ⟨a19, c19, b19, d19, bodyR r⟩) hseg hbb)
                           clear hseg hbb)
              refine hK.out _ _ ((hcells.out _ ((hq0.out).trans (hM19.out.bel.mono hq0.out.size))).2) ?_
              clear hK K
              refine wpAnyT_one (i := 9) (o := _) (by kernel_rfl) rfl (fun K hK => ?_)
              go_simp
              go_wp2_with (go_at_call 15; go_loud (refine (hn4.out _ (hq0.out.trans (hM19.out.bel.mono hq0.out.size))).mono ?_); rintro e wm20 ⟨a20, c20, b20, d20, rfl, hseg, hbb⟩
                           have hM20 := Lib.hid (hM19.out.push (x := ⟨a20, c20, b20, d20, ruleR r⟩) hseg hbb)
                           clear hseg hbb)
              refine hK.out _ _ ((hcells.out _ ((hq0.out).trans (hM20.out.bel.mono hq0.out.size))).2) ?_
              clear hK K
              refine wpAnyT_one (i := 10) (o := _) (by kernel_rfl) rfl (fun K hK => ?_)
              go_simp
              refine hK.out _ _ ((hcells.out _ ((hq0.out).trans (hM20.out.bel.mono hq0.out.size))).2) ?_
              clear hK K
              obtain ⟨hA1, hA2⟩ := hM20.out.box _ rfl
              have hFour := Lib.hid (four_put hM20.out.segs hM20.out.bel hA1 hA2 rfl)
              unfold put12 RV.va RV.vb at hFour
              dsimp only at hFour
              obtain ⟨e0, e1, e2, e3, e4, e5, e6, e7, e8, e9, e10, e11⟩ := zero_cells hA2
              have hfz := lit_live hA2
              clear hA1 hA2
              refine wpAnyT_free (i := 12) (o := _) (by kernel_rfl) rfl (by kernel_rfl) (fun K hK => ?_)
              go_simp
              refine hK.out _ _ ?_
              clear hK K
              refine wpAnyT_done (by kernel_rfl) ?_ _
              refine ‹∀ (a : Act) (w : World), Met _ a w → _› _ _ ?_
              go_meet
              case rel => exact ⟨_, [⟨a17, c17, b17, d17, renR r⟩, ⟨a18, c18, b18, d18, putR names terms r⟩, ⟨a19, c19, b19, d19, bodyR r⟩, ⟨a20, c20, b20, d20, ruleR r⟩], rfl, Lib.hid rfl, Lib.hid hFour.out.1, Lib.hid hFour.out.2⟩
          case rest =>
            obtain ⟨A2, l2, rfl, hl2, hF2', hbB⟩ := hcut
            rename World => wB
            obtain ⟨hi2, hF2''⟩ := hF2'.out
            have hF2 := Lib.hid hF2''
            have hF1b : Hid (Four true lo1 hi1 A1 l1 wB) := Lib.hid ((hF1.out.below (Below.refl _ _).drew).below hbB.out)
            have hqB : Hid (Below w6.heap.size w6 wB.drew) := Lib.hid ((hqA.out.trans (hbB.out.mono hqA.out.size)).drew)
            have hlo2 : Hid (hi1 ≤ wA.drew.heap.size) := Lib.hid hF1.out.segs.le.2
            have hlo2b : Hid (w6.heap.size ≤ wA.drew.heap.size) := Lib.hid hqA.out.size
            clear hF2' hF2'' hbB hF1 hqA hq0
            obtain ⟨lo2, hlo⟩ : ∃ n, wA.drew.heap.size = n := ⟨_, rfl⟩
            rw [hlo] at hF2 hlo2 hlo2b
            clear hlo
            have hq0 := hqB
            go_upto_region 17 with fail
            go_cut [15] from 90 to 100 (fun v15 wx => ∃ A l, v15 = .pointer (some ⟨A, 0, none⟩) ∧ Hid (l.map RV.r = [renR r, putR names terms r, bodyR r, ruleR r]) ∧ Hid (∃ hi, Four false wB.drew.heap.size hi A l wx) ∧ Hid (Below wB.drew.heap.size wB.drew wx))
            case first =>
              have hM0 : Hid (Mk false wB.drew wB.drew.heap.size [] none wB.drew) := Lib.hid (Mk.start false (Below.refl _ _) (Nat.le_refl _))
              obtain ⟨z0, z1, z2⟩ := (hcells.out _ hq0.out).1
              refine wp_region_T (fun w' => w'.cell? ⟨w.heap.size, 0, none⟩ = some (.string r.h) ∧ w'.cell? ⟨w.heap.size, 1, none⟩ = some (.slice a r.a.length c) ∧ w'.cell? ⟨w.heap.size, 2, none⟩ = some (.slice b r.b.length d)) [0, 2, 3, 4, 6, 8] (by kernel_rfl) ⟨z0, z1, z2⟩ (fun hHeld => ?_)
              clear z0 z1 z2
              refine wpAnyT_take (i := 0) (oi := _) (v := ?_) rfl rfl (by kernel_rfl) (by kernel_rfl) (by kernel_rfl) (fun _ _ _ h => h) (Or.inl ⟨by rfl, ?_⟩) (by assumption) ?_
              rotate_left
              · intro w hSw
                try dsimp only at hSw
                go_simp
                try with_reducible rfl
              refine wpAnyT_take (i := 2) (oi := _) (v := ?_) rfl rfl (by kernel_rfl) (by kernel_rfl) (by kernel_rfl) (fun _ _ _ h => h) (Or.inl ⟨by rfl, ?_⟩) (by assumption) ?_
              rotate_left
              · intro w hSw
                try dsimp only at hSw
                go_simp
                try with_reducible rfl
              refine wpAnyT_take (i := 3) (oi := _) (v := ?_) rfl rfl (by kernel_rfl) (by kernel_rfl) (by kernel_rfl) (fun _ _ _ h => h) (Or.inl ⟨by rfl, ?_⟩) (by assumption) ?_
              rotate_left
              · intro w hSw
                try dsimp only at hSw
                go_simp
                try with_reducible rfl
              refine wpAnyT_take (i := 4) (oi := _) (v := ?_) rfl rfl (by kernel_rfl) (by kernel_rfl) (by kernel_rfl) (fun _ _ _ h => h) (Or.inl ⟨by rfl, ?_⟩) (by assumption) ?_
              rotate_left
              · intro w hSw
                try dsimp only at hSw
                go_simp
                try with_reducible rfl
              refine wpAnyT_take (i := 6) (oi := _) (v := ?_) rfl rfl (by kernel_rfl) (by kernel_rfl) (by kernel_rfl) (fun _ _ _ h => h) (Or.inl ⟨by rfl, ?_⟩) (by assumption) ?_
              rotate_left
              · intro w hSw
                try dsimp only at hSw
                go_simp
                try with_reducible rfl
              refine wpAnyT_take (i := 8) (oi := _) (v := ?_) rfl rfl (by kernel_rfl) (by kernel_rfl) (by kernel_rfl) (fun _ _ _ h => h) (Or.inl ⟨by rfl, ?_⟩) (by assumption) ?_
              rotate_left
              · intro w hSw
                try dsimp only at hSw
                go_simp
                try with_reducible rfl
              clear hHeld
              refine wpAnyT_two (i := 1) (j := 11) (o := _) (p := _) (by kernel_rfl) rfl rfl (fun K hK => ?_) (fun K hK => ?_)
              · go_simp
                go_wp2_with (go_at_call 16; go_loud (refine (hr1.out _ (hq0.out.trans (hM0.out.bel.mono hq0.out.size))).mono ?_); rintro e wm1 ⟨a1, c1, b1, d1, rfl, hseg, hbb⟩
                             have hM1 := Lib.hid (hM0.out.push (x := ⟨a1, c1, b1, d1, renR r⟩) hseg hbb)
                             clear hseg hbb)
                refine hK.out _ _ ((hcells.out _ ((hq0.out).trans (hM1.out.bel.mono hq0.out.size))).1) ?_
                clear hK K
                refine wpAnyT_two (i := 5) (j := 11) (o := _) (p := _) (by kernel_rfl) rfl rfl (fun K hK => ?_) (fun K hK => ?_)
                · go_simp
                  go_wp2_with (go_at_call 17; go_loud (refine (hr2.out _ (hq0.out.trans (hM1.out.bel.mono hq0.out.size))).mono ?_); rintro e wm2 ⟨a2, c2, b2, d2, rfl, hseg, hbb⟩
                               have hM2 := Lib.hid (hM1.out.push (x := ⟨a2, c2, b2, d2, putR names terms r⟩) hseg hbb)
                               clear hseg hbb)
                  refine hK.out _ _ ((hcells.out _ ((hq0.out).trans (hM2.out.bel.mono hq0.out.size))).1) ?_
                  clear hK K
                  refine wpAnyT_two (i := 7) (j := 11) (o := _) (p := _) (by kernel_rfl) rfl rfl (fun K hK => ?_) (fun K hK => ?_)
                  · go_simp
                    go_wp2_with (go_at_call 18; go_loud (refine (hr3.out _ (hq0.out.trans (hM2.out.bel.mono hq0.out.size))).mono ?_); rintro e wm3 ⟨a3, c3, b3, d3, rfl, hseg, hbb⟩
                                 have hM3 := Lib.hid (hM2.out.push (x := ⟨a3, c3, b3, d3, bodyR r⟩) hseg hbb)
                                 clear hseg hbb)
                    refine hK.out _ _ ((hcells.out _ ((hq0.out).trans (hM3.out.bel.mono hq0.out.size))).1) ?_
                    clear hK K
                    refine wpAnyT_two (i := 9) (j := 11) (o := _) (p := _) (by kernel_rfl) rfl rfl (fun K hK => ?_) (fun K hK => ?_)
                    · go_simp
                      go_wp2_with (go_at_call 19; go_loud (refine (hr4.out _ (hq0.out.trans (hM3.out.bel.mono hq0.out.size))).mono ?_); rintro e wm4 ⟨a4, c4, b4, d4, rfl, hseg, hbb⟩
                                   have hM4 := Lib.hid (hM3.out.push (x := ⟨a4, c4, b4, d4, ruleR r⟩) hseg hbb)
                                   clear hseg hbb)
                      refine hK.out _ _ ((hcells.out _ ((hq0.out).trans (hM4.out.bel.mono hq0.out.size))).1) ?_
                      clear hK K
                      refine wpAnyT_two (i := 10) (j := 11) (o := _) (p := _) (by kernel_rfl) rfl rfl (fun K hK => ?_) (fun K hK => ?_)
                      · go_simp
                        refine hK.out _ _ ((hcells.out _ ((hq0.out).trans (hM4.out.bel.mono hq0.out.size))).1) ?_
                        clear hK K
                        refine wpAnyT_one (i := 11) (o := _) (by kernel_rfl) rfl (fun K hK => ?_)
                        go_simp
                        have hM5 := Lib.hid hM4.out.alloc
                        refine hK.out _ _ ((hcells.out _ ((hq0.out).trans (hM5.out.bel.mono hq0.out.size))).1) ?_
                        clear hK K
                        have hFour := Lib.hid (four_alloc hM4.out rfl)
                        unfold RV.va RV.vb at hFour
                        dsimp only at hFour
                        refine wpAnyT_free (i := 12) (o := _) (by kernel_rfl) rfl (by kernel_rfl) (fun K hK => ?_)
                        go_simp
                        refine hK.out _ _ ?_
                        clear hK K
                        refine wpAnyT_done (by kernel_rfl) ?_ _
                        refine ‹∀ (a : Act) (w : World), Met _ a w → _› _ _ ?_
                        go_meet
                        case rel => exact ⟨_, [⟨a1, c1, b1, d1, renR r⟩, ⟨a2, c2, b2, d2, putR names terms r⟩, ⟨a3, c3, b3, d3, bodyR r⟩, ⟨a4, c4, b4, d4, ruleR r⟩], rfl, Lib.hid rfl, Lib.hid hFour.out.1, Lib.hid hFour.out.2⟩
                      · go_simp
                        have hM6 := Lib.hid hM4.out.alloc
                        refine hK.out _ _ ((hcells.out _ ((hq0.out).trans (hM6.out.bel.mono hq0.out.size))).1) ?_
                        clear hK K
                        refine wpAnyT_one (i := 10) (o := _) (by kernel_rfl) rfl (fun K hK => ?_)
                        go_simp
                        refine hK.out _ _ ((hcells.out _ ((hq0.out).trans (hM6.out.bel.mono hq0.out.size))).1) ?_
                        clear hK K
                        have hFour := Lib.hid (four_alloc hM4.out rfl)
                        unfold RV.va RV.vb at hFour
                        dsimp only at hFour
                        refine wpAnyT_free (i := 12) (o := _) (by kernel_rfl) rfl (by kernel_rfl) (fun K hK => ?_)
                        go_simp
                        refine hK.out _ _ ?_
                        clear hK K
                        refine wpAnyT_done (by kernel_rfl) ?_ _
                        refine ‹∀ (a : Act) (w : World), Met _ a w → _› _ _ ?_
                        go_meet
                        case rel => exact ⟨_, [⟨a1, c1, b1, d1, renR r⟩, ⟨a2, c2, b2, d2, putR names terms r⟩, ⟨a3, c3, b3, d3, bodyR r⟩, ⟨a4, c4, b4, d4, ruleR r⟩], rfl, Lib.hid rfl, Lib.hid hFour.out.1, Lib.hid hFour.out.2⟩
                    · go_simp
                      have hM7 := Lib.hid hM3.out.alloc
                      refine hK.out _ _ ((hcells.out _ ((hq0.out).trans (hM7.out.bel.mono hq0.out.size))).1) ?_
                      clear hK K
                      refine wpAnyT_one (i := 9) (o := _) (by kernel_rfl) rfl (fun K hK => ?_)
                      go_simp
                      go_wp2_with (go_at_call 19; go_loud (refine (hr4.out _ (hq0.out.trans (hM7.out.bel.mono hq0.out.size))).mono ?_); rintro e wm8 ⟨a8, c8, b8, d8, rfl, hseg, hbb⟩
                                   have hM8 := Lib.hid (hM7.out.push (x := ⟨a8, c8, b8, d8, ruleR r⟩) hseg hbb)
                                   clear hseg hbb)
                      refine hK.out _ _ ((hcells.out _ ((hq0.out).trans (hM8.out.bel.mono hq0.out.size))).1) ?_
                      clear hK K
                      refine wpAnyT_one (i := 10) (o := _) (by kernel_rfl) rfl (fun K hK => ?_)
                      go_simp
                      refine hK.out _ _ ((hcells.out _ ((hq0.out).trans (hM8.out.bel.mono hq0.out.size))).1) ?_
                      clear hK K
                      obtain ⟨hA1, hA2⟩ := hM8.out.box _ rfl
                      have hFour := Lib.hid (four_put hM8.out.segs hM8.out.bel hA1 hA2 rfl)
                      unfold put12 RV.va RV.vb at hFour
                      dsimp only at hFour
                      obtain ⟨e0, e1, e2, e3, e4, e5, e6, e7, e8, e9, e10, e11⟩ := zero_cells hA2
                      have hfz := lit_live hA2
                      clear hA1 hA2
                      refine wpAnyT_free (i := 12) (o := _) (by kernel_rfl) rfl (by kernel_rfl) (fun K hK => ?_)
                      go_simp
                      refine hK.out _ _ ?_
                      clear hK K
                      refine wpAnyT_done (by kernel_rfl) ?_ _
                      refine ‹∀ (a : Act) (w : World), Met _ a w → _› _ _ ?_
                      go_meet
                      case rel => exact ⟨_, [⟨a1, c1, b1, d1, renR r⟩, ⟨a2, c2, b2, d2, putR names terms r⟩, ⟨a3, c3, b3, d3, bodyR r⟩, ⟨a8, c8, b8, d8, ruleR r⟩], rfl, Lib.hid rfl, Lib.hid hFour.out.1, Lib.hid hFour.out.2⟩
                  · go_simp
                    have hM9 := Lib.hid hM2.out.alloc
                    refine hK.out _ _ ((hcells.out _ ((hq0.out).trans (hM9.out.bel.mono hq0.out.size))).1) ?_
                    clear hK K
                    refine wpAnyT_one (i := 7) (o := _) (by kernel_rfl) rfl (fun K hK => ?_)
                    go_simp
                    go_wp2_with (go_at_call 18; go_loud (refine (hr3.out _ (hq0.out.trans (hM9.out.bel.mono hq0.out.size))).mono ?_); rintro e wm10 ⟨a10, c10, b10, d10, rfl, hseg, hbb⟩
                                 have hM10 := Lib.hid (hM9.out.push (x := ⟨a10, c10, b10, d10, bodyR r⟩) hseg hbb)
                                 clear hseg hbb)
                    refine hK.out _ _ ((hcells.out _ ((hq0.out).trans (hM10.out.bel.mono hq0.out.size))).1) ?_
                    clear hK K
                    refine wpAnyT_one (i := 9) (o := _) (by kernel_rfl) rfl (fun K hK => ?_)
                    go_simp
                    go_wp2_with (go_at_call 19; go_loud (refine (hr4.out _ (hq0.out.trans (hM10.out.bel.mono hq0.out.size))).mono ?_); rintro e wm11 ⟨a11, c11, b11, d11, rfl, hseg, hbb⟩
                                 have hM11 := Lib.hid (hM10.out.push (x := ⟨a11, c11, b11, d11, ruleR r⟩) hseg hbb)
                                 clear hseg hbb)
                    refine hK.out _ _ ((hcells.out _ ((hq0.out).trans (hM11.out.bel.mono hq0.out.size))).1) ?_
                    clear hK K
                    refine wpAnyT_one (i := 10) (o := _) (by kernel_rfl) rfl (fun K hK => ?_)
                    go_simp
                    refine hK.out _ _ ((hcells.out _ ((hq0.out).trans (hM11.out.bel.mono hq0.out.size))).1) ?_
                    clear hK K
                    obtain ⟨hA1, hA2⟩ := hM11.out.box _ rfl
                    have hFour := Lib.hid (four_put hM11.out.segs hM11.out.bel hA1 hA2 rfl)
                    unfold put12 RV.va RV.vb at hFour
                    dsimp only at hFour
                    obtain ⟨e0, e1, e2, e3, e4, e5, e6, e7, e8, e9, e10, e11⟩ := zero_cells hA2
                    have hfz := lit_live hA2
                    clear hA1 hA2
                    refine wpAnyT_free (i := 12) (o := _) (by kernel_rfl) rfl (by kernel_rfl) (fun K hK => ?_)
                    go_simp
                    refine hK.out _ _ ?_
                    clear hK K
                    refine wpAnyT_done (by kernel_rfl) ?_ _
                    refine ‹∀ (a : Act) (w : World), Met _ a w → _› _ _ ?_
                    go_meet
                    case rel => exact ⟨_, [⟨a1, c1, b1, d1, renR r⟩, ⟨a2, c2, b2, d2, putR names terms r⟩, ⟨a10, c10, b10, d10, bodyR r⟩, ⟨a11, c11, b11, d11, ruleR r⟩], rfl, Lib.hid rfl, Lib.hid hFour.out.1, Lib.hid hFour.out.2⟩
                · go_simp
                  have hM12 := Lib.hid hM1.out.alloc
                  refine hK.out _ _ ((hcells.out _ ((hq0.out).trans (hM12.out.bel.mono hq0.out.size))).1) ?_
                  clear hK K
                  refine wpAnyT_one (i := 5) (o := _) (by kernel_rfl) rfl (fun K hK => ?_)
                  go_simp
                  go_wp2_with (go_at_call 17; go_loud (refine (hr2.out _ (hq0.out.trans (hM12.out.bel.mono hq0.out.size))).mono ?_); rintro e wm13 ⟨a13, c13, b13, d13, rfl, hseg, hbb⟩
                               have hM13 := Lib.hid (hM12.out.push (x := ⟨a13, c13, b13, d13, putR names terms r⟩) hseg hbb)
                               clear hseg hbb)
                  refine hK.out _ _ ((hcells.out _ ((hq0.out).trans (hM13.out.bel.mono hq0.out.size))).1) ?_
                  clear hK K
                  refine wpAnyT_one (i := 7) (o := _) (by kernel_rfl) rfl (fun K hK => ?_)
                  go_simp
                  go_wp2_with (go_at_call 18; go_loud (refine (hr3.out _ (hq0.out.trans (hM13.out.bel.mono hq0.out.size))).mono ?_); rintro e wm14 ⟨a14, c14, b14, d14, rfl, hseg, hbb⟩
                               have hM14 := Lib.hid (hM13.out.push (x := ⟨a14, c14, b14, d14, bodyR r⟩) hseg hbb)
                               clear hseg hbb)
                  refine hK.out _ _ ((hcells.out _ ((hq0.out).trans (hM14.out.bel.mono hq0.out.size))).1) ?_
                  clear hK K
                  refine wpAnyT_one (i := 9) (o := _) (by kernel_rfl) rfl (fun K hK => ?_)
                  go_simp
                  go_wp2_with (go_at_call 19; go_loud (refine (hr4.out _ (hq0.out.trans (hM14.out.bel.mono hq0.out.size))).mono ?_); rintro e wm15 ⟨a15, c15, b15, d15, rfl, hseg, hbb⟩
                               have hM15 := Lib.hid (hM14.out.push (x := ⟨a15, c15, b15, d15, ruleR r⟩) hseg hbb)
                               clear hseg hbb)
                  refine hK.out _ _ ((hcells.out _ ((hq0.out).trans (hM15.out.bel.mono hq0.out.size))).1) ?_
                  clear hK K
                  refine wpAnyT_one (i := 10) (o := _) (by kernel_rfl) rfl (fun K hK => ?_)
                  go_simp
                  refine hK.out _ _ ((hcells.out _ ((hq0.out).trans (hM15.out.bel.mono hq0.out.size))).1) ?_
                  clear hK K
                  obtain ⟨hA1, hA2⟩ := hM15.out.box _ rfl
                  have hFour := Lib.hid (four_put hM15.out.segs hM15.out.bel hA1 hA2 rfl)
                  unfold put12 RV.va RV.vb at hFour
                  dsimp only at hFour
                  obtain ⟨e0, e1, e2, e3, e4, e5, e6, e7, e8, e9, e10, e11⟩ := zero_cells hA2
                  have hfz := lit_live hA2
                  clear hA1 hA2
                  refine wpAnyT_free (i := 12) (o := _) (by kernel_rfl) rfl (by kernel_rfl) (fun K hK => ?_)
                  go_simp
                  refine hK.out _ _ ?_
                  clear hK K
                  refine wpAnyT_done (by kernel_rfl) ?_ _
                  refine ‹∀ (a : Act) (w : World), Met _ a w → _› _ _ ?_
                  go_meet
                  case rel => exact ⟨_, [⟨a1, c1, b1, d1, renR r⟩, ⟨a13, c13, b13, d13, putR names terms r⟩, ⟨a14, c14, b14, d14, bodyR r⟩, ⟨a15, c15, b15, d15, ruleR r⟩], rfl, Lib.hid rfl, Lib.hid hFour.out.1, Lib.hid hFour.out.2⟩
              · go_simp
                have hM16 : Hid (Mk false wB.drew wB.drew.heap.size [] (some wB.heap.size) (wB.drew.alloc (.cells zero12 36))) := Lib.hid hM0.out.alloc
                refine hK.out _ _ ((hcells.out _ ((hq0.out).trans (hM16.out.bel.mono hq0.out.size))).1) ?_
                clear hK K
                refine wpAnyT_one (i := 1) (o := _) (by kernel_rfl) rfl (fun K hK => ?_)
                go_simp
                go_wp2_with (go_at_call 16; go_loud (refine (hr1.out _ (hq0.out.trans (hM16.out.bel.mono hq0.out.size))).mono ?_); rintro e wm17 ⟨a17, c17, b17, d17, rfl, hseg, hbb⟩
                             have hM17 := Lib.hid (hM16.out.push (x := ⟨a17, c17, b17, d17, renR r⟩) hseg hbb)
                             clear hseg hbb)
                refine hK.out _ _ ((hcells.out _ ((hq0.out).trans (hM17.out.bel.mono hq0.out.size))).1) ?_
                clear hK K
                refine wpAnyT_one (i := 5) (o := _) (by kernel_rfl) rfl (fun K hK => ?_)
                go_simp
                go_wp2_with (go_at_call 17; go_loud (refine (hr2.out _ (hq0.out.trans (hM17.out.bel.mono hq0.out.size))).mono ?_); rintro e wm18 ⟨a18, c18, b18, d18, rfl, hseg, hbb⟩
                             have hM18 := Lib.hid (hM17.out.push (x := ⟨a18, c18, b18, d18, putR names terms r⟩) hseg hbb)
                             clear hseg hbb)
                refine hK.out _ _ ((hcells.out _ ((hq0.out).trans (hM18.out.bel.mono hq0.out.size))).1) ?_
                clear hK K
                refine wpAnyT_one (i := 7) (o := _) (by kernel_rfl) rfl (fun K hK => ?_)
                go_simp
                go_wp2_with (go_at_call 18; go_loud (refine (hr3.out _ (hq0.out.trans (hM18.out.bel.mono hq0.out.size))).mono ?_); rintro e wm19 ⟨a19, c19, b19, d19, rfl, hseg, hbb⟩
                             have hM19 := Lib.hid (hM18.out.push (x := ⟨a19, c19, b19, d19, bodyR r⟩) hseg hbb)
                             clear hseg hbb)
                refine hK.out _ _ ((hcells.out _ ((hq0.out).trans (hM19.out.bel.mono hq0.out.size))).1) ?_
                clear hK K
                refine wpAnyT_one (i := 9) (o := _) (by kernel_rfl) rfl (fun K hK => ?_)
                go_simp
                go_wp2_with (go_at_call 19; go_loud (refine (hr4.out _ (hq0.out.trans (hM19.out.bel.mono hq0.out.size))).mono ?_); rintro e wm20 ⟨a20, c20, b20, d20, rfl, hseg, hbb⟩
                             have hM20 := Lib.hid (hM19.out.push (x := ⟨a20, c20, b20, d20, ruleR r⟩) hseg hbb)
                             clear hseg hbb)
                refine hK.out _ _ ((hcells.out _ ((hq0.out).trans (hM20.out.bel.mono hq0.out.size))).1) ?_
                clear hK K
                refine wpAnyT_one (i := 10) (o := _) (by kernel_rfl) rfl (fun K hK => ?_)
                go_simp
                refine hK.out _ _ ((hcells.out _ ((hq0.out).trans (hM20.out.bel.mono hq0.out.size))).1) ?_
                clear hK K
                obtain ⟨hA1, hA2⟩ := hM20.out.box _ rfl
                have hFour := Lib.hid (four_put hM20.out.segs hM20.out.bel hA1 hA2 rfl)
                unfold put12 RV.va RV.vb at hFour
                dsimp only at hFour
                obtain ⟨e0, e1, e2, e3, e4, e5, e6, e7, e8, e9, e10, e11⟩ := zero_cells hA2
                have hfz := lit_live hA2
                clear hA1 hA2
                refine wpAnyT_free (i := 12) (o := _) (by kernel_rfl) rfl (by kernel_rfl) (fun K hK => ?_)
                go_simp
                refine hK.out _ _ ?_
                clear hK K
                refine wpAnyT_done (by kernel_rfl) ?_ _
                refine ‹∀ (a : Act) (w : World), Met _ a w → _› _ _ ?_
                go_meet
                case rel => exact ⟨_, [⟨a17, c17, b17, d17, renR r⟩, ⟨a18, c18, b18, d18, putR names terms r⟩, ⟨a19, c19, b19, d19, bodyR r⟩, ⟨a20, c20, b20, d20, ruleR r⟩], rfl, Lib.hid rfl, Lib.hid hFour.out.1, Lib.hid hFour.out.2⟩
            case rest =>
              obtain ⟨A3, l3, rfl, hl3, hF3', hbC⟩ := hcut
              rename World => wC
              obtain ⟨hi3, hF3''⟩ := hF3'.out
              have hlo3 : Hid (hi2 ≤ wB.drew.heap.size) := Lib.hid hF2.out.segs.le.2
              have hlo3b : Hid (hi1 ≤ wB.drew.heap.size) := Lib.hid hF1b.out.segs.le.2
              have hT : Hid ((Four true lo1 hi1 A1 l1 wC ∧ Four true lo2 hi2 A2 l2 wC) ∧ Four false wB.drew.heap.size hi3 A3 l3 wC ∧ Below w6.heap.size w6 wC) := Lib.hid ⟨⟨(hF1b.out.below (Below.refl _ _).drew).below hbC.out, (hF2.out.below (Below.refl _ _).drew).below hbC.out⟩, hF3'', hqB.out.trans (hbC.out.mono hqB.out.size)⟩
              clear hF3' hF3'' hbC hF2 hF1b hqB hq0
              obtain ⟨lo3, hlo⟩ : ∃ n, wB.drew.heap.size = n := ⟨_, rfl⟩
              rw [hlo] at hT hlo3 hlo3b
              clear hlo
              clear hn1 hn2 hn3 hn4 hr1 hr2 hr3 hr4
              obtain ⟨RL, hRL⟩ : ∃ RL, [renR r, putR names terms r, bodyR r, ruleR r] = RL := ⟨_, rfl⟩
              rw [hRL] at hl1 hl2 hl3
              have hR4 : RL.length = 4 := by rw [← hRL]; rfl
              clear hRL
              go_wp2_with fail
              go_loopw [16] (fun v wt => ∃ k : Nat, k ≤ 4 ∧ v = .int .i64 k ∧ Hid ((Four true lo1 hi1 A1 l1 wt ∧ Four true lo2 hi2 A2 l2 wt) ∧ Four false lo3 hi3 A3 l3 wt ∧ Below w6.heap.size w6 wt)) (fun v _ => 4 - (intOf v).toNat)
              case atStart => exact ⟨0, Nat.zero_le _, rfl, hT⟩
              case round =>
                clear hT
                obtain ⟨k, hk, rfl, hT⟩ := hrel
                have hp0 : (0 : Int) ≤ (k : Int) := Int.natCast_nonneg _
                by_cases hlk : k < 4
                · have hp1 : (k : Int) < 4 := by omega
                  obtain ⟨x, ex'⟩ : ∃ x, l1[k]? = some x := ⟨_, List.getElem?_eq_getElem (by have := congrArg List.length hl1.out; rw [List.length_map] at this; omega)⟩
                  obtain ⟨y, ey'⟩ : ∃ y, l3[k]? = some y := ⟨_, List.getElem?_eq_getElem (by have := congrArg List.length hl3.out; rw [List.length_map] at this; omega)⟩
                  have hxy : Hid (x.r = y.r) := Lib.hid (by
                    have h1 := congrArg (fun L => L[k]?) (hl1.out.trans hl3.out.symm)
                    simp only [List.getElem?_map, ex', ey', Option.map_some] at h1
                    injection h1)
                  have ex := Lib.hid ex'
                  have ey := Lib.hid ey'
                  clear ex' ey'
                  have hsr : Hid (∀ W, Below wr.heap.size wr W → Calls Tryd.prog 20 #[.agg #[.string x.r.h, .slice x.a x.r.a.length x.c, .slice x.b x.r.b.length x.d], .agg #[.string y.r.h, .slice y.a y.r.a.length y.c, .slice y.b y.r.b.length y.d]] W fun e w' => e = .returned (.bool true) ∧ Below W.heap.size W w') := Lib.hid (fun W hW => by
                    have h1 := (Four.below hT.out.1.1 hW).terms ex.out
                    have h2 := (Four.below hT.out.2.1 hW).terms ey.out
                    have h3 := sr_rule x.r y.r x.a y.a x.b y.b x.c y.c x.d y.d W h1.1 h2.1 h1.2 h2.2
                    rw [decide_eq_true hxy.out] at h3
                    exact h3)
                  have hcl : Hid (∀ W, Below wr.heap.size wr W → (W.cell? ⟨A1, k * 3, none⟩ = some (.string x.r.h) ∧ W.cell? ⟨A1, k * 3 + 1, none⟩ = some (.slice x.a x.r.a.length x.c) ∧ W.cell? ⟨A1, k * 3 + 2, none⟩ = some (.slice x.b x.r.b.length x.d)) ∧ (W.cell? ⟨A3, k * 3, none⟩ = some (.string y.r.h) ∧ W.cell? ⟨A3, k * 3 + 1, none⟩ = some (.slice y.a y.r.a.length y.c) ∧ W.cell? ⟨A3, k * 3 + 2, none⟩ = some (.slice y.b y.r.b.length y.d))) := Lib.hid (fun W hW => ⟨(Four.below hT.out.1.1 hW).cell ex.out, (Four.below hT.out.2.1 hW).cell ey.out⟩)
                  have hTn : Hid (∀ W, Below wr.heap.size wr W → (Four true lo1 hi1 A1 l1 W ∧ Four true lo2 hi2 A2 l2 W) ∧ Four false lo3 hi3 A3 l3 W ∧ Below w6.heap.size w6 W) := Lib.hid (fun W hW => ⟨⟨hT.out.1.1.below hW, hT.out.1.2.below hW⟩, hT.out.2.1.below hW, hT.out.2.2.trans (hW.mono hT.out.2.2.size)⟩)
                  generalize x.r.h = xh at hsr hcl
                  generalize x.r.a.length = xn at hsr hcl
                  generalize x.r.b.length = xm at hsr hcl
                  generalize y.r.h = yh at hsr hcl
                  generalize y.r.a.length = yn at hsr hcl
                  generalize y.r.b.length = ym at hsr hcl
                  obtain ⟨xa, xc, xb, xd, xr⟩ := x
                  obtain ⟨ya, yc, yb, yd, yr⟩ := y
                  dsimp only at hsr hcl
                  clear hxy hT
                  obtain ⟨⟨d0, d1, d2⟩, ⟨e0, e1, e2⟩⟩ := hcl.out _ (Below.refl _ _)
                  go_wp2_with fail
                  go_region_held3 (fun W => (W.cell? ⟨A1, k * 3, none⟩ = some (.string xh) ∧ W.cell? ⟨A1, k * 3 + 1, none⟩ = some (.slice xa xn xc) ∧ W.cell? ⟨A1, k * 3 + 2, none⟩ = some (.slice xb xm xd)) ∧ (W.cell? ⟨A3, k * 3, none⟩ = some (.string yh) ∧ W.cell? ⟨A3, k * 3 + 1, none⟩ = some (.slice ya yn yc) ∧ W.cell? ⟨A3, k * 3 + 2, none⟩ = some (.slice yb ym yd)))
                    (first
                      | exact hcl.out _ (Below.refl _ _).drew
                      | exact hcl.out _ hb9.out)
                    (first
                      | (go_at_call 20; go_loud (refine (hsr.out _ (Below.refl _ _).drew).mono ?_); rintro e w9 ⟨rfl, hbb⟩; have hb9 := Lib.hid ((Below.refl wr.heap.size wr).drew.trans hbb); clear hbb))
                  have hT9 := Lib.hid (hTn.out _ hb9.out)
                  go_wp2_with fail
                  go_roundw
                  case rel => exact ⟨k + 1, by omega, by go_num, hT9⟩
                  case measure => simp [intOf]; omega
                · have hp1 : ¬ (k : Int) < 4 := by omega
                  go_wp2_with fail
                  go_loopw [17] (fun v wt => ∃ k : Nat, k ≤ 4 ∧ v = .int .i64 k ∧ Hid ((SpA lo1 hi1 A1 l1 k wt ∧ Four true lo2 hi2 A2 l2 wt) ∧ Four false lo3 hi3 A3 l3 wt ∧ Below w6.heap.size w6 wt)) (fun v _ => 4 - (intOf v).toNat)
                  case atStart => exact ⟨0, Nat.zero_le _, rfl, Lib.hid ⟨⟨hT.out.1.1.spa, hT.out.1.2⟩, hT.out.2⟩⟩
                  case round =>
                    clear hT
                    obtain ⟨k, hk, rfl, hT⟩ := hrel
                    have hp0 : (0 : Int) ≤ (k : Int) := Int.natCast_nonneg _
                    by_cases hlk : k < 4
                    · have hp1 : (k : Int) < 4 := by omega
                      obtain ⟨x, ex⟩ : ∃ x, l1[k]? = some x := ⟨_, List.getElem?_eq_getElem (by have := congrArg List.length hl1.out; rw [List.length_map] at this; omega)⟩
                      obtain ⟨d0, d1, d2⟩ := arr_cell hT.out.1.1.box ex
                      obtain ⟨m, n, L9, h1, h2, h3, h4, h5, h6, h7, h8, hW, hnext⟩ := hT.out.1.1.step ex
                      have hTn : Hid (∀ W, Fr m n wr W → (SpA lo1 hi1 A1 l1 (k + 1) W ∧ Four true lo2 hi2 A2 l2 W) ∧ Four false lo3 hi3 A3 l3 W ∧ Below w6.heap.size w6 W) := Lib.hid (fun W hf => by
                        have e1 := hlo1.out
                        have e2 := hlo2.out
                        have e3 := hlo3b.out
                        have e4 := hT.out.2.2.size
                        exact ⟨⟨hnext W hf, hT.out.1.2.stay (hf.stay (.inr (by omega)) hT.out.1.2.segs.le.2) hf.size⟩, hT.out.2.1.stay (hf.stay (.inr (by omega)) hT.out.2.1.segs.le.2) hf.size, hT.out.2.2.trans (hf.bel (by omega) e4)⟩)
                      have hsp := lw_spoilt x.r.h x.a x.b x.r.a.length x.c x.d m n L9 wr (by rw [h5]; exact hW) (by omega) h4 h7 (by omega) h6
                      rw [h5] at hsp
                      replace hsp := Lib.hid hsp
                      clear hT hW hnext h1 h2 h3 h4 h5 h6 h7 h8 ex
                      clear L9
                      generalize x.r.h = xh at hsp d0
                      generalize x.r.a.length = xn at hsp d1
                      generalize x.r.b.length = xm at hsp d2
                      go_wp2_with (go_at_call 21; go_loud (refine hsp.out.mono ?_); rintro e w9 ⟨rfl, hf⟩; have hT9 := Lib.hid (hTn.out _ hf); clear hf)
                      go_roundw
                      case rel => exact ⟨k + 1, by omega, by go_num, hT9⟩
                      case measure => simp [intOf]; omega
                    · have hp1 : ¬ (k : Int) < 4 := by omega
                      have hT2 : Hid ((Four true lo2 hi2 A2 l2 wr) ∧ Four false lo3 hi3 A3 l3 wr ∧ Below w6.heap.size w6 wr) := Lib.hid ⟨hT.out.1.2, hT.out.2⟩
                      clear hT
                      have hT := hT2
                      clear hT2
                      go_wp2_with fail
                      go_loopw [18] (fun v wt => ∃ k : Nat, k ≤ 4 ∧ v = .int .i64 k ∧ Hid ((Four true lo2 hi2 A2 l2 wt) ∧ Four false lo3 hi3 A3 l3 wt ∧ Below w6.heap.size w6 wt)) (fun v _ => 4 - (intOf v).toNat)
                      case atStart => exact ⟨0, Nat.zero_le _, rfl, hT⟩
                      case round =>
                        clear hT
                        obtain ⟨k, hk, rfl, hT⟩ := hrel
                        have hp0 : (0 : Int) ≤ (k : Int) := Int.natCast_nonneg _
                        by_cases hlk : k < 4
                        · have hp1 : (k : Int) < 4 := by omega
                          obtain ⟨x, ex'⟩ : ∃ x, l2[k]? = some x := ⟨_, List.getElem?_eq_getElem (by have := congrArg List.length hl2.out; rw [List.length_map] at this; omega)⟩
                          obtain ⟨y, ey'⟩ : ∃ y, l3[k]? = some y := ⟨_, List.getElem?_eq_getElem (by have := congrArg List.length hl3.out; rw [List.length_map] at this; omega)⟩
                          have hxy : Hid (x.r = y.r) := Lib.hid (by
                            have h1 := congrArg (fun L => L[k]?) (hl2.out.trans hl3.out.symm)
                            simp only [List.getElem?_map, ex', ey', Option.map_some] at h1
                            injection h1)
                          have ex := Lib.hid ex'
                          have ey := Lib.hid ey'
                          clear ex' ey'
                          have hsr : Hid (∀ W, Below wr.heap.size wr W → Calls Tryd.prog 20 #[.agg #[.string x.r.h, .slice x.a x.r.a.length x.c, .slice x.b x.r.b.length x.d], .agg #[.string y.r.h, .slice y.a y.r.a.length y.c, .slice y.b y.r.b.length y.d]] W fun e w' => e = .returned (.bool true) ∧ Below W.heap.size W w') := Lib.hid (fun W hW => by
                            have h1 := (Four.below hT.out.1 hW).terms ex.out
                            have h2 := (Four.below hT.out.2.1 hW).terms ey.out
                            have h3 := sr_rule x.r y.r x.a y.a x.b y.b x.c y.c x.d y.d W h1.1 h2.1 h1.2 h2.2
                            rw [decide_eq_true hxy.out] at h3
                            exact h3)
                          have hcl : Hid (∀ W, Below wr.heap.size wr W → (W.cell? ⟨A2, k * 3, none⟩ = some (.string x.r.h) ∧ W.cell? ⟨A2, k * 3 + 1, none⟩ = some (.slice x.a x.r.a.length x.c) ∧ W.cell? ⟨A2, k * 3 + 2, none⟩ = some (.slice x.b x.r.b.length x.d)) ∧ (W.cell? ⟨A3, k * 3, none⟩ = some (.string y.r.h) ∧ W.cell? ⟨A3, k * 3 + 1, none⟩ = some (.slice y.a y.r.a.length y.c) ∧ W.cell? ⟨A3, k * 3 + 2, none⟩ = some (.slice y.b y.r.b.length y.d))) := Lib.hid (fun W hW => ⟨(Four.below hT.out.1 hW).cell ex.out, (Four.below hT.out.2.1 hW).cell ey.out⟩)
                          have hTn : Hid (∀ W, Below wr.heap.size wr W → (Four true lo2 hi2 A2 l2 W) ∧ Four false lo3 hi3 A3 l3 W ∧ Below w6.heap.size w6 W) := Lib.hid (fun W hW => ⟨hT.out.1.below hW, hT.out.2.1.below hW, hT.out.2.2.trans (hW.mono hT.out.2.2.size)⟩)
                          generalize x.r.h = xh at hsr hcl
                          generalize x.r.a.length = xn at hsr hcl
                          generalize x.r.b.length = xm at hsr hcl
                          generalize y.r.h = yh at hsr hcl
                          generalize y.r.a.length = yn at hsr hcl
                          generalize y.r.b.length = ym at hsr hcl
                          obtain ⟨xa, xc, xb, xd, xr⟩ := x
                          obtain ⟨ya, yc, yb, yd, yr⟩ := y
                          dsimp only at hsr hcl
                          clear hxy hT
                          obtain ⟨⟨d0, d1, d2⟩, ⟨e0, e1, e2⟩⟩ := hcl.out _ (Below.refl _ _)
                          go_wp2_with fail
                          go_region_held3 (fun W => (W.cell? ⟨A2, k * 3, none⟩ = some (.string xh) ∧ W.cell? ⟨A2, k * 3 + 1, none⟩ = some (.slice xa xn xc) ∧ W.cell? ⟨A2, k * 3 + 2, none⟩ = some (.slice xb xm xd)) ∧ (W.cell? ⟨A3, k * 3, none⟩ = some (.string yh) ∧ W.cell? ⟨A3, k * 3 + 1, none⟩ = some (.slice ya yn yc) ∧ W.cell? ⟨A3, k * 3 + 2, none⟩ = some (.slice yb ym yd)))
                            (first
                              | exact hcl.out _ (Below.refl _ _).drew
                              | exact hcl.out _ hb9.out)
                            (first
                              | (go_at_call 20; go_loud (refine (hsr.out _ (Below.refl _ _).drew).mono ?_); rintro e w9 ⟨rfl, hbb⟩; have hb9 := Lib.hid ((Below.refl wr.heap.size wr).drew.trans hbb); clear hbb))
                          have hT9 := Lib.hid (hTn.out _ hb9.out)
                          go_wp2_with fail
                          go_roundw
                          case rel => exact ⟨k + 1, by omega, by go_num, hT9⟩
                          case measure => simp [intOf]; omega
                        · have hp1 : ¬ (k : Int) < 4 := by omega
                          have hbw := Lib.hid hT.out.2.2
                          clear hT
                          go_wp2_with fail
                          go_loopw [19] (fun v wt => ∃ k : Nat, k ≤ names.length ∧ v = .int .i64 k ∧ Hid (Below w6.heap.size w6 wt)) (fun v _ => names.length - (intOf v).toNat)
                          case atStart => exact ⟨0, Nat.zero_le _, rfl, hbw⟩
                          case round =>
                            clear hbw
                            obtain ⟨k, hk, rfl, hbw⟩ := hrel
                            have hp0 : (0 : Int) ≤ (k : Int) := Int.natCast_nonneg _
                            by_cases hlk : k < names.length
                            · have hp1 : (k : Int) < (names.length : Int) := by omega
                              obtain ⟨x, ex⟩ : ∃ x, names[k]? = some x := ⟨_, List.getElem?_eq_getElem hlk⟩
                              obtain ⟨p1, e1, c1⟩ := (hTL.out wr hbw.out).2.2.1.cells k x ex
                              injection e1 with e1
                              subst e1
                              rw [addr_add, Nat.zero_add] at c1
                              obtain ⟨p2, rfl, c2⟩ := (hTO.out wr hbw.out).2.2.1.cells k x ex
                              clear ex
                              go_wp2_with fail
                              go_quiet (fail)
                              go_wp2_with fail
                              go_roundw
                              case rel => exact ⟨k + 1, by omega, by go_num, Lib.hid (below_drewN hbw.out _)⟩
                              case measure => simp [intOf]; omega
                            · have hp1 : ¬ (k : Int) < (names.length : Int) := by omega
                              go_wp2_with fail
                              go_loopw [20] (fun v wt => ∃ k : Nat, k ≤ terms.length ∧ v = .int .i64 k ∧ Hid (Below w6.heap.size w6 wt)) (fun v _ => terms.length - (intOf v).toNat)
                              case atStart => exact ⟨0, Nat.zero_le _, rfl, hbw⟩
                              case round =>
                                clear hbw
                                obtain ⟨k, hk, rfl, hbw⟩ := hrel
                                have hp0 : (0 : Int) ≤ (k : Int) := Int.natCast_nonneg _
                                by_cases hlk : k < terms.length
                                · have hp1 : (k : Int) < (terms.length : Int) := by omega
                                  obtain ⟨⟨xv, xs⟩, ex⟩ : ∃ x, terms[k]? = some x := ⟨_, List.getElem?_eq_getElem hlk⟩
                                  obtain ⟨p1, e1, c1, c1'⟩ := (hTL.out wr hbw.out).2.2.2.cells k _ ex
                                  injection e1 with e1
                                  subst e1
                                  rw [addr_add, Nat.zero_add] at c1
                                  simp only [addr_add, Nat.zero_add] at c1'
                                  obtain ⟨p2, rfl, c2, c2'⟩ := (hTO.out wr hbw.out).2.2.2.cells k _ ex
                                  clear ex
                                  go_wp2_with fail
                                  go_quiet (fail)
                                  go_wp2_with fail
                                  go_roundw
                                  case rel => exact ⟨k + 1, by omega, by go_num, Lib.hid (below_drewN hbw.out _)⟩
                                  case measure => simp [intOf]; omega
                                · have hp1 : ¬ (k : Int) < (terms.length : Int) := by omega
                                  obtain ⟨⟨q0, q1, q2⟩, ⟨z0, z1, z2⟩⟩ := hcells.out wr hbw.out
                                  have m1 : wr.cell? ⟨gl, names.length, none⟩ = some (.string markB) := by
                                    have := (own_below hl6.out hbw.out).cells (g := gl) rfl names.length (.string markB) (by rw [List.getElem?_map, List.getElem?_append_right (Nat.le_refl _), Nat.sub_self]; rfl)
                                    rw [addr_add, Nat.zero_add] at this
                                    exact this
                                  have m2 : wr.cell? ⟨gt, terms.length * 2 + 1, none⟩ = some (.string markB) := by
                                    have hfl := flatT_len terms
                                    have := (own_below htr.out hbw.out).cells (g := gt) rfl (terms.length * 2 + 1) (.string markB) (by rw [show flatT (terms ++ [(false, markB)]) = flatT terms ++ flatT [(false, markB)] by simp [flatT], List.getElem?_append_right (by omega), hfl, show terms.length * 2 + 1 - terms.length * 2 = 1 from by omega]; rfl)
                                    rw [addr_add, Nat.zero_add] at this
                                    exact this
                                  have hkr : Hid (Calls Tryd.prog 22 #[.agg #[.string r.h, .slice (some ⟨g, 0, none⟩) r.a.length gc, .slice (some ⟨B, 0, none⟩) r.b.length cB], .agg #[.string r.h, .slice a r.a.length c, .slice b r.b.length d]] wr fun e w' => e = .returned (.bool true) ∧ Below wr.heap.size wr w') := Lib.hid (by
                                    have h2 := (hat.out wr hbw.out).2.2
                                    have h3 := kp_rule r.h g gc r.a B cB L a b c d wr (hc.out.2.1.below h2) (hTO.out wr hbw.out).1 (hc.out.2.2.below h2) (by rw [hmap.out]; exact (hTO.out wr hbw.out).2.1)
                                    rw [hLl.out] at h3
                                    exact h3)
                                  unfold markB at m1 m2
                                  have hfin := Lib.hid (hat.out wr hbw.out).1
                                  go_wp2_with (first
                                    | (go_at_call 22; go_loud (refine hkr.out.mono ?_); rintro e w9 ⟨rfl, hbb⟩; have hb9 := Lib.hid (hfin.out.trans (hbb.mono hfin.out.size)); clear hbb)
                                    | (go_at_call 8; go_loud (refine (hkn.out _ hb9.out).mono ?_); rintro e w10 ⟨rfl, hbb⟩; have hb10 := Lib.hid (hb9.out.trans (hbb.mono hb9.out.size)); clear hbb))
                                  go_ret
                                  first | exact hb10.out | exact ⟨rfl, hb10.out⟩
end Go.Proofs.YtoklbofobcloaaaDoor
