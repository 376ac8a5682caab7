/- Print: a rule copied. -/
import Derived.Test.YtclioihichcpiaaPrV
namespace Go.Proofs.Ytclioihichcpiaa
open Go.RowKit Go.Shelf Lx
theorem two_rules {w w1 : World} {a b c x y z : Value} {t u : TypeId} (hb : Below ((w.alloc (.cells #[a, b, c] t)).alloc (.cells #[x, y, z] u)).heap.size ((w.alloc (.cells #[a, b, c] t)).alloc (.cells #[x, y, z] u)) w1) :
    (w1.cell? ⟨w.heap.size, 0, none⟩ = some a ∧ w1.cell? ⟨w.heap.size, 1, none⟩ = some b ∧ w1.cell? ⟨w.heap.size, 2, none⟩ = some c) ∧ w1.heap[w.heap.size + 1]? = some (.cells #[x, y, z] u) ∧ w.heap.size + 1 < w1.heap.size := by
  have h : w1.heap[w.heap.size]? = some (.cells #[a, b, c] t) := (hb.block _ (by rw [World.size_alloc, World.size_alloc]; omega)).trans (by rw [heap_alloc_old]; exact heap_alloc_new _ _; rw [World.size_alloc]; omega)
  have h2 : w1.heap[w.heap.size + 1]? = some (.cells #[x, y, z] u) := (hb.block _ (by rw [World.size_alloc, World.size_alloc]; omega)).trans (heap_second _ _ _)
  refine ⟨⟨by simp [World.cell?, h], by simp [World.cell?, h], by simp [World.cell?, h]⟩, h2, (Array.getElem?_eq_some_iff.1 h2).1⟩
set_option maxHeartbeats 2000000 in
set_option maxRecDepth 100000 in
theorem cq_rule (h : ByteArray) (a : Option Addr) (l : List (Bool × ByteArray)) (cap : Nat) (ba : Option Addr) (b : List Lit) (bcap : Nat) (w : World) (ht : Terms w a l) (hb : Lits w ba b) :
    Calls Try.prog 7 #[.agg #[.string h, .slice a l.length cap, .slice ba b.length bcap]] w fun e w' => ∃ g c B cB L, e = .returned (.agg #[.string h, .slice (some ⟨g, 0, none⟩) l.length c, .slice (some ⟨B, 0, none⟩) b.length cB]) ∧ TermsM w' g l c ∧ LitsM w' B L cB ∧ L.map (·.1) = b ∧ Below w.heap.size w w' := by
  have hca := fun w ht => cq_atom h a l cap w ht
  have hcb := fun w hb => cq_body ba b bcap w hb
  obtain ⟨W0, hW0⟩ : ∃ W0, W0 = (w.alloc (.cells #[.string h, .slice a l.length cap, .slice ba b.length bcap] 27)).alloc (.cells #[.string ⟨#[]⟩, .slice none 0 0, .slice none 0 0] 27) := ⟨_, rfl⟩
  have hkp : Hid (∀ w', Below W0.heap.size W0 w' → w'.cell? ⟨w.heap.size, 0, none⟩ = some (.string h) ∧ w'.cell? ⟨w.heap.size, 1, none⟩ = some (.slice a l.length cap) ∧ w'.cell? ⟨w.heap.size, 2, none⟩ = some (.slice ba b.length bcap)) := Lib.hid (by subst hW0; intro w' hb; exact (two_rules hb).1)
  have hkq : Hid (∀ w', Below W0.heap.size W0 w' → w'.heap[w.heap.size + 1]? = some (.cells #[.string ⟨#[]⟩, .slice none 0 0, .slice none 0 0] 27)) := Lib.hid (by subst hW0; intro w' hb; exact (two_rules hb).2.1)
  have htW : Hid (Terms W0 a l) := Lib.hid (by subst hW0; exact (ht.new _).new _)
  have hbW : Hid (Lits W0 ba b) := Lib.hid (by subst hW0; exact (hb.new _).new _)
  have hB0 : Hid (Below w.heap.size w W0 ∧ W0.heap.size = w.heap.size + 2) := Lib.hid (by subst hW0; exact ⟨((Below.refl _ _).al _).al _, by rw [World.size_alloc, World.size_alloc]⟩)
  obtain ⟨hi1, hi2, hi3⟩ := hkp.out W0 (Below.refl _ _)
  go_enter Try.func7, Try.ntmps7
  go_wp2_with fail
  rw [← hW0]
  clear hW0
  go_region_held3 (fun w' => w'.cell? ⟨w.heap.size, 0, none⟩ = some (.string h) ∧ w'.cell? ⟨w.heap.size, 1, none⟩ = some (.slice a l.length cap) ∧ w'.cell? ⟨w.heap.size, 2, none⟩ = some (.slice ba b.length bcap))
    (first
      | exact hkp.out _ (Below.refl _ _).drew
      | exact hkp.out _ hb3.out
      | exact hkp.out _ hb2.out
      | go_keep)
    (first
      | (go_at_call 28; refine (hca _ (htW.out.below (Below.refl _ _).drew)).mono ?_; rintro e w2 ⟨g, gc, rfl, hM0, hg10, hg20, hbb⟩
         have hM := Lib.hid hM0
         have hg1 := Lib.hid hg10
         have hb2 := Lib.hid ((Below.refl _ W0).drew.trans hbb)
         clear hM0 hg10 hg20 hbb)
      | (go_at_call 29; refine (hcb _ (hbW.out.below hb2.out)).mono ?_; rintro e w3 ⟨B, cB, L, rfl, hL0, hLb0, hBB0, hIn0, hbb⟩
         have hL := Lib.hid hL0
         have hLb := Lib.hid hLb0
         have hBB := Lib.hid hBB0
         have hIn := Lib.hid hIn0
         have hM3 := Lib.hid (hM.out.below hbb)
         have hb23 := Lib.hid hbb
         have hb3 := Lib.hid (hb2.out.trans (hbb.mono hb2.out.size))
         have hq := hkq.out _ hb3.out
         have he0 : w3.cell? ⟨w.heap.size + 1, 0, none⟩ = some (.string ⟨#[]⟩) := by simp [World.cell?, hq]
         have he1 : w3.cell? ⟨w.heap.size + 1, 1, none⟩ = some (.slice none 0 0) := by simp [World.cell?, hq]
         have he2 : w3.cell? ⟨w.heap.size + 1, 2, none⟩ = some (.slice none 0 0) := by simp [World.cell?, hq]
         have hf0 : w3.frozen? ⟨w.heap.size + 1, 0, none⟩ = false := by simp [World.frozen?, hq]
         have hf1 : w3.frozen? ⟨w.heap.size + 1, 1, none⟩ = false := by simp [World.frozen?, hq]
         have hf2 : w3.frozen? ⟨w.heap.size + 1, 2, none⟩ = false := by simp [World.frozen?, hq]
         replace hq := Lib.hid hq
         clear hL0 hLb0 hBB0 hIn0 hbb))
  have hV : ∃ V, V = ((w3.setCell ⟨w.heap.size + 1, 0, none⟩ (.string h)).setCell ⟨w.heap.size + 1, 1, none⟩ (.slice (some ⟨g, 0, none⟩) l.length gc)).setCell ⟨w.heap.size + 1, 2, none⟩ (.slice (some ⟨B, 0, none⟩) b.length cB) := ⟨_, rfl⟩
  obtain ⟨V, hV⟩ := hV
  have hne : ∀ k, k ≠ w.heap.size + 1 → V.heap[k]? = w3.heap[k]? := fun k hk => by rw [hV]; exact (set_neP _ hk).trans ((set_neP _ hk).trans (set_neP _ hk))
  have hR : Hid (V.heap[w.heap.size + 1]? = some (.cells #[.string h, .slice (some ⟨g, 0, none⟩) l.length gc, .slice (some ⟨B, 0, none⟩) b.length cB] 27)) := Lib.hid (by rw [hV]; exact Go.heap_setCell_same _ _ _ _ _ _ (Go.heap_setCell_same _ _ _ _ _ _ (Go.heap_setCell_same _ _ _ _ _ _ hq.out)))
  have h2s := hb2.out.size
  have hd' : W0.heap.size = w.heap.size + 2 := hB0.out.2
  have hd : W0.drew.heap.size = w.heap.size + 2 := hB0.out.2
  have hg1' : w.heap.size + 2 ≤ g := by have := hg1.out; omega
  have hBV : Hid (Below w.heap.size w V) := Lib.hid (by
    have hb3' : Below W0.heap.size W0 w3 := hb3.out
    have h3 : Below w.heap.size w w3 := hB0.out.1.trans (hb3'.mono (by rw [hB0.out.2]; omega))
    rw [hV]
    exact ((h3.setCell (p := ⟨w.heap.size + 1, 0, none⟩) (by show w.heap.size ≤ w.heap.size + 1; omega) _).setCell (p := ⟨w.heap.size + 1, 1, none⟩) (by show w.heap.size ≤ w.heap.size + 1; omega) _).setCell (p := ⟨w.heap.size + 1, 2, none⟩) (by show w.heap.size ≤ w.heap.size + 1; omega) _)
  have hMV : Hid (TermsM V g l gc) := Lib.hid (hM3.out.same (hne g (by omega)))
  have hLV : Hid (LitsM V B L cB) := Lib.hid (hL.out.same (hne B (by have := hBB.out; omega)) fun y hy => hne _ (by have := hIn.out y hy; omega))
  rw [← hV]
  clear hV hne he0 he1 he2 hf0 hf1 hf2
  go_wp2_with fail
  refine bodyPost_ret (v := .agg #[.string h, .slice (some ⟨g, 0, none⟩) l.length gc, .slice (some ⟨B, 0, none⟩) b.length cB]) (results_cell_row rfl _ _ (w.heap.size + 1) 27 _ (0, 0) _ rfl hR.out Try.underlying27 rfl sizeRule) rfl ?_
  exact ⟨g, gc, B, cB, L, rfl, hMV.out, hLV.out, hLb.out, hBV.out⟩
end Go.Proofs.Ytclioihichcpiaa
