/- Print: an atom copied. -/
import Derived.Test.YtclioihichcpiaaPrT
import Derived.Deep.RegionWith
import Derived.RegionTactic
namespace Go.Proofs.Ytclioihichcpiaa
open Go.RowKit Go.Shelf Lx
theorem sizeAtom : (Try.prog.info? 24).map (fun i => i.size) = some 2 := by kernel_rfl
theorem sizeRule : (Try.prog.info? 27).map (fun i => i.size) = some 3 := by kernel_rfl
theorem set_neP {w : World} {g i b : Nat} (v : Value) (h : b ≠ g) : (w.setCell ⟨g, i, none⟩ v).heap[b]? = w.heap[b]? := heap_setCell_other _ _ _ _ h
theorem two_blocks {w w1 : World} {a b x y : Value} {t u : TypeId} (hb : Below ((w.alloc (.cells #[a, b] t)).alloc (.cells #[x, y] u)).heap.size ((w.alloc (.cells #[a, b] t)).alloc (.cells #[x, y] u)) w1) :
    (w1.cell? ⟨w.heap.size, 0, none⟩ = some a ∧ w1.cell? ⟨w.heap.size, 1, none⟩ = some b) ∧ w1.heap[w.heap.size + 1]? = some (.cells #[x, y] u) ∧ w.heap.size + 1 < w1.heap.size := by
  have h : w1.heap[w.heap.size]? = some (.cells #[a, b] t) := (hb.block _ (by rw [World.size_alloc, World.size_alloc]; omega)).trans (by rw [heap_alloc_old]; exact heap_alloc_new _ _; rw [World.size_alloc]; omega)
  have h2 : w1.heap[w.heap.size + 1]? = some (.cells #[x, y] u) := (hb.block _ (by rw [World.size_alloc, World.size_alloc]; omega)).trans (heap_second _ _ _)
  refine ⟨⟨by simp [World.cell?, h], by simp [World.cell?, h]⟩, h2, (Array.getElem?_eq_some_iff.1 h2).1⟩
set_option maxHeartbeats 1000000 in
set_option maxRecDepth 100000 in
theorem cq_atom (p : ByteArray) (a : Option Addr) (l : List (Bool × ByteArray)) (cap : Nat) (w : World) (ht : Terms w a l) :
    Calls Try.prog 28 #[.agg #[.string p, .slice a l.length cap]] w fun e w' => ∃ g c, e = .returned (.agg #[.string p, .slice (some ⟨g, 0, none⟩) l.length c]) ∧ TermsM w' g l c ∧ w.heap.size ≤ g ∧ g < w'.heap.size ∧ Below w.heap.size w w' := by
  obtain ⟨ib, hib, hz0, hz1, hz2⟩ := info_parts infoTerm
  have hlen := ht.len
  have hnews := ((ht.new (.cells #[.string p, .slice a l.length cap] 24)).new (.cells #[.string ⟨#[]⟩, .slice none 0 0] 24)).news
  have hl := flatT_len l
  have h1 := flatT_one l
  have h63 : Hid (l.length + 2 ≤ maxLen) := Lib.hid (by unfold maxLen; omega)
  obtain ⟨B, hB⟩ : ∃ B, B = ((w.alloc (.cells #[.string p, .slice a l.length cap] 24)).alloc (.cells #[.string ⟨#[]⟩, .slice none 0 0] 24)).heap.size := ⟨_, rfl⟩
  have hB2 : Hid (B = w.heap.size + 2) := Lib.hid (by rw [hB, World.size_alloc, World.size_alloc])
  replace hB := Lib.hid hB
  have hown0 : ((w.alloc (.cells #[.string p, .slice a l.length cap] 24)).alloc (.cells #[.string ⟨#[]⟩, .slice none 0 0] 24)).ownsRow B 38 2 (.slice none 0 0) 0 [] := World.ownsRow_nil _ _ _ _
  go_enter Try.func28, Try.ntmps28
  go_wp2_with (at_builtin; go_loud (refine wpList_append_any rfl (.const (.slice none 0 0)) (.tmp 5) 22 rfl B 38 ib (.agg #[.bool false, .string ⟨#[]⟩]) 2 24 Try.underlying22 hib hz0 hz1 hz2 rfl (by decide) _ 0 [] rfl hown0 a l.length cap (flatT l) rfl hl hnews h1 (by have := h63.out; omega) (by omega) (by have := hB2.out; rw [World.size_alloc, World.size_alloc]; omega) ?_))
  intro v1 w1 hown1 hgr1 hnil1 hat1
  have hb1 : Hid (Below B ((w.alloc (.cells #[.string p, .slice a l.length cap] 24)).alloc (.cells #[.string ⟨#[]⟩, .slice none 0 0] 24)) w1) := Lib.hid ((Below.refl _ _).grown hgr1 (by have := hB2.out; rw [World.size_alloc, World.size_alloc]; omega) (own_ge hown0))
  rw [hB.out] at hb1
  obtain ⟨⟨hc1, hc2⟩, hc3, hc4⟩ := two_blocks hb1.out
  obtain ⟨va, vc, rfl, hva⟩ := own_slice hown1
  clear hva hgr1 hnil1 hat1
  replace hown1 := Lib.hid hown1
  go_wp2_with (at_builtin; go_loud (refine wpList_append_any rfl (.tmp 6) (.tmp 9) 22 rfl B 38 ib (.agg #[.bool false, .string ⟨#[]⟩]) 2 24 Try.underlying22 hib hz0 hz1 hz2 rfl (by decide) _ l.length (flatT l) rfl (hown1.out.alloc _) (some ⟨w1.heap.size, 0, none⟩) 2 2 (flatT marks) rfl rfl (fun j u hj => ⟨_, rfl, own_cells_row rfl rfl j u hj⟩) (flatT_one marks) h63.out (by omega) (by have := hB2.out; rw [World.size_alloc]; omega) ?_))
  intro v2 w2 hown2 hgr2 hnil2 hat2
  have hb2 := Lib.hid ((hb1.out.al _).grown hgr2 (by have := hb1.out.size; rw [← hB.out] at this ⊢; rw [World.size_alloc]; omega) (by rw [← hB.out]; exact own_ge hown1.out))
  obtain ⟨⟨hd1, hd2⟩, hd3, hd4⟩ := two_blocks hb2.out
  obtain ⟨g, c, rfl, hgc, hcm, hbg, hgw, hcell⟩ := own_some hown2 (by omega)
  have hM : Hid (TermsM w2 g l c) := Lib.hid ⟨hlen, hcell, ht.size, hgc⟩
  have hbg' : Hid (w.heap.size + 2 ≤ g) := Lib.hid (by have := hB2.out; omega)
  have hb3 : Hid (Below w.heap.size w w2) := Lib.hid ((((Below.refl _ _).al _).al _).trans (hb2.out.mono (by rw [World.size_alloc, World.size_alloc]; omega)))
  have he0 : w2.cell? ⟨w.heap.size + 1, 0, none⟩ = some (.string ⟨#[]⟩) := by simp [World.cell?, hd3]
  have he1 : w2.cell? ⟨w.heap.size + 1, 1, none⟩ = some (.slice none 0 0) := by simp [World.cell?, hd3]
  have hf0 : w2.frozen? ⟨w.heap.size + 1, 0, none⟩ = false := by simp [World.frozen?, hd3]
  have hf1 : w2.frozen? ⟨w.heap.size + 1, 1, none⟩ = false := by simp [World.frozen?, hd3]
  have hc0 : l.length ≤ c := by omega
  clear hcell hgr2 hnil2 hat2 hown2 hown1 hb2 hb1 hc1 hc2 hc3 hc4
  go_wp2_with fail
  go_region
  have hG : Hid (((w2.setCell ⟨w.heap.size + 1, 0, none⟩ (.string p)).setCell ⟨w.heap.size + 1, 1, none⟩ (.slice (some ⟨g, 0, none⟩) l.length c)).drew.heap[g]? = w2.heap[g]? ∧ ((w2.setCell ⟨w.heap.size + 1, 0, none⟩ (.string p)).setCell ⟨w.heap.size + 1, 1, none⟩ (.slice (some ⟨g, 0, none⟩) l.length c)).drew.heap.size = w2.heap.size ∧ Below w.heap.size w ((w2.setCell ⟨w.heap.size + 1, 0, none⟩ (.string p)).setCell ⟨w.heap.size + 1, 1, none⟩ (.slice (some ⟨g, 0, none⟩) l.length c)).drew) := Lib.hid (by
    have hne : g ≠ w.heap.size + 1 := by have := hbg'.out; omega
    refine ⟨(set_neP _ hne).trans (set_neP _ hne), by simp, ?_⟩
    exact ((hb3.out.setCell (p := ⟨w.heap.size + 1, 0, none⟩) (by show w.heap.size ≤ w.heap.size + 1; omega) _).setCell (p := ⟨w.heap.size + 1, 1, none⟩) (by show w.heap.size ≤ w.heap.size + 1; omega) _).drew)
  have hR : Hid (((w2.setCell ⟨w.heap.size + 1, 0, none⟩ (.string p)).setCell ⟨w.heap.size + 1, 1, none⟩ (.slice (some ⟨g, 0, none⟩) l.length c)).drew.heap[w.heap.size + 1]? = some (.cells #[.string p, .slice (some ⟨g, 0, none⟩) l.length c] 24)) := Lib.hid (Go.heap_setCell_same _ _ _ _ _ _ (Go.heap_setCell_same _ _ _ _ _ _ hd3))
  go_wp2_with fail
  refine bodyPost_ret (v := .agg #[.string p, .slice (some ⟨g, 0, none⟩) l.length c]) (results_cell_row rfl _ _ (w.heap.size + 1) 24 _ (0, 0) _ rfl hR.out Try.underlying24 rfl sizeAtom) rfl ?_
  refine ⟨g, c, rfl, hM.out.same hG.out.1, by have := hbg'.out; omega, by rw [hG.out.2.1]; exact hgw, hG.out.2.2⟩
end Go.Proofs.Ytclioihichcpiaa
