/- Normal: the document's Put. (gen_npg.py) -/
import Derived.Test.YtoklbofobcloaaaDoorNpG
import Derived.Test.YtoklbofobcloaaaDoorRegT
namespace Go.Proofs.YtoklbofobcloaaaDoor
open Go.RowKit Go.Sort Go.Shelf
set_option linter.unusedVariables false
/-- what stands while terms are put -/
structure PW (W0 : World) (G : Nat) (cs : Array Value) (g c B cB : Nat) (l : List Tm) (L : List (Lit × Nat × Nat)) (wr : World) : Prop where
  cp : Cp wr g c B cB l L
  box : wr.heap[G]? = some (.cells cs 27)
  ge : W0.heap.size ≤ g ∧ W0.heap.size ≤ B
  lt : g < G ∧ B < G ∧ ∀ y ∈ L, y.2.1 < G
  bel : Below W0.heap.size W0 wr
section
variable {W0 wr w' : World} {G g c B cB k i : Nat} {cs : Array Value} {l : List Tm} {L : List (Lit × Nat × Nat)} {y : Lit × Nat × Nat}
theorem PW.below (h : PW W0 G cs g c B cB l L wr) (hb : Below wr.heap.size wr w') : PW W0 G cs g c B cB l L w' :=
  ⟨h.cp.below hb, (hb.block G (Array.getElem?_eq_some_iff.1 h.box).1).trans h.box, h.ge, h.lt, h.bel.trans (hb.mono h.bel.size)⟩
theorem lt_set (h : ∀ y ∈ L, y.2.1 < G) (hk : L[k]? = some y) {x : Lit} : ∀ z ∈ L.set k (x, y.2), z.2.1 < G := by
  intro z hz
  rcases List.mem_or_eq_of_mem_set hz with hz | hz
  · exact h z hz
  · rw [hz]; exact h y (List.mem_of_getElem? hk)
theorem PW.cells (h : PW W0 G cs g c B cB l L wr) {h' va vb : Value} (e : cs = #[h', va, vb]) : wr.cell? ⟨G, 0, none⟩ = some h' ∧ wr.cell? ⟨G, 1, none⟩ = some va ∧ wr.cell? ⟨G, 2, none⟩ = some vb := box_cells (by rw [h.box, e])
theorem PW.head (h : PW W0 G cs g c B cB l L wr) (hi : i < l.length) (x : Tm) (hx : x.2.size ≤ 1048576) : PW W0 G cs g c B cB (l.set i x) L ((wr.setCell ⟨g, i * 2, none⟩ (.bool x.1)).setCell ⟨g, i * 2 + 1, none⟩ (.string x.2)) :=
  ⟨h.cp.head hi x hx, ((heap_setCell_other _ _ _ _ (Nat.ne_of_gt h.lt.1)).trans (heap_setCell_other _ _ _ _ (Nat.ne_of_gt h.lt.1))).trans h.box, h.ge, h.lt, (h.bel.setCell (p := ⟨g, i * 2, none⟩) h.ge.1 _).setCell (p := ⟨g, i * 2 + 1, none⟩) h.ge.1 _⟩
theorem PW.arg (h : PW W0 G cs g c B cB l L wr) (hk : L[k]? = some y) (hi : i < y.1.a.length) (x : Tm) (hx : x.2.size ≤ 1048576) : PW W0 G cs g c B cB l (L.set k (⟨y.1.k, y.1.p, y.1.a.set i x, y.1.l, y.1.r⟩, y.2)) ((wr.setCell ⟨y.2.1, i * 2, none⟩ (.bool x.1)).setCell ⟨y.2.1, i * 2 + 1, none⟩ (.string x.2)) := by
  have hm := List.mem_of_getElem? hk
  have h1 := h.lt.2.2 y hm
  have h2 : W0.heap.size ≤ y.2.1 := Nat.le_of_lt (Nat.lt_of_le_of_lt h.ge.1 (h.cp.up y hm))
  exact ⟨h.cp.arg hk hi x hx, ((heap_setCell_other _ _ _ _ (Nat.ne_of_gt h1)).trans (heap_setCell_other _ _ _ _ (Nat.ne_of_gt h1))).trans h.box, h.ge, ⟨h.lt.1, h.lt.2.1, lt_set h.lt.2.2 hk⟩, (h.bel.setCell (p := ⟨y.2.1, i * 2, none⟩) h2 _).setCell (p := ⟨y.2.1, i * 2 + 1, none⟩) h2 _⟩
theorem PW.left (h : PW W0 G cs g c B cB l L wr) (hk : L[k]? = some y) (x : Tm) (hx : x.2.size ≤ 1048576) : PW W0 G cs g c B cB l (L.set k (⟨y.1.k, y.1.p, y.1.a, x, y.1.r⟩, y.2)) ((wr.setCell ⟨B, k * 7 + 3, none⟩ (.bool x.1)).setCell ⟨B, k * 7 + 4, none⟩ (.string x.2)) :=
  ⟨h.cp.left hk x hx, ((heap_setCell_other _ _ _ _ (Nat.ne_of_gt h.lt.2.1)).trans (heap_setCell_other _ _ _ _ (Nat.ne_of_gt h.lt.2.1))).trans h.box, h.ge, ⟨h.lt.1, h.lt.2.1, lt_set h.lt.2.2 hk⟩, (h.bel.setCell (p := ⟨B, k * 7 + 3, none⟩) h.ge.2 _).setCell (p := ⟨B, k * 7 + 4, none⟩) h.ge.2 _⟩
theorem PW.right (h : PW W0 G cs g c B cB l L wr) (hk : L[k]? = some y) (x : Tm) (hx : x.2.size ≤ 1048576) : PW W0 G cs g c B cB l (L.set k (⟨y.1.k, y.1.p, y.1.a, y.1.l, x⟩, y.2)) ((wr.setCell ⟨B, k * 7 + 5, none⟩ (.bool x.1)).setCell ⟨B, k * 7 + 6, none⟩ (.string x.2)) :=
  ⟨h.cp.right hk x hx, ((heap_setCell_other _ _ _ _ (Nat.ne_of_gt h.lt.2.1)).trans (heap_setCell_other _ _ _ _ (Nat.ne_of_gt h.lt.2.1))).trans h.box, h.ge, ⟨h.lt.1, h.lt.2.1, lt_set h.lt.2.2 hk⟩, (h.bel.setCell (p := ⟨B, k * 7 + 5, none⟩) h.ge.2 _).setCell (p := ⟨B, k * 7 + 6, none⟩) h.ge.2 _⟩
end
theorem Cp.keep {w w' : World} {g c B cB lo : Nat} {l : List Tm} {L : List (Lit × Nat × Nat)} (h : Cp w g c B cB l L) (hs : ∀ b, lo ≤ b → b < w.heap.size → w'.heap[b]? = w.heap[b]?) (h1 : lo ≤ g) (h2 : lo ≤ B) : Cp w' g c B cB l L :=
  ⟨h.t.same (hs g h1 h.t.lt), h.b.same (hs B h2 h.b.lt) fun y hy => hs _ (Nat.le_of_lt (Nat.lt_of_le_of_lt h1 (h.up y hy))) (h.b.inner y hy).lt, h.up, h.rise⟩
/-- a literal with its blocks, put -/
def mapY (F : Tm → Tm) (y : Lit × Nat × Nat) : Lit × Nat × Nat := (mapL F y.1, y.2)
theorem set_self {α : Type} {l : List α} {k : Nat} {x : α} (h : l[k]? = some x) : l.set k x = l := by
  obtain ⟨h1, h2⟩ := List.getElem?_eq_some_iff.1 h
  rw [← h2]; exact List.set_getElem_self h1
theorem set_at {α : Type} {l : List α} {k : Nat} {x z : α} (h : l[k]? = some x) : (l.set k z)[k]? = some z := by
  rw [List.getElem?_set, if_pos rfl, if_pos (List.getElem?_eq_some_iff.1 h).1]
set_option maxHeartbeats 8000000 in
set_option maxRecDepth 100000 in
theorem rn_Put (r : Rul) (a b : Option Addr) (c d : Nat) (names : List ByteArray) (terms : List Tm) (na ta : Option Addr) (nc tc : Nat) (w : World) (ha : Terms w a r.a) (hb : Lits w b r.b) (hn : Txts w na names) (ht : Terms w ta terms) :
    Calls Tryd.prog 17 #[.agg #[.string r.h, .slice a r.a.length c, .slice b r.b.length d], .slice na names.length nc, .slice ta terms.length tc] w fun e w' => ∃ g gc B cB L, e = .returned (.agg #[.string r.h, .slice (some ⟨g, 0, none⟩) r.a.length gc, .slice (some ⟨B, 0, none⟩) r.b.length cB]) ∧ Cp w' g gc B cB (r.a.map (one1 names terms)) L ∧ L.map (·.1) = r.b.map (mapL (one1 names terms)) ∧ (w.heap.size ≤ g ∧ w.heap.size ≤ B) ∧ Below w.heap.size w w' := by
  obtain ⟨W0, hW0⟩ : ∃ W0, W0 = (w.alloc (.cells #[.string r.h, .slice a r.a.length c, .slice b r.b.length d] 27)).alloc (.cells #[.string ⟨#[]⟩, .slice none 0 0, .slice none 0 0] 27) := ⟨_, rfl⟩
  have hkp : Hid (∀ w', Below W0.heap.size W0 w' → w'.heap[w.heap.size]? = some (.cells #[.string r.h, .slice a r.a.length c, .slice b r.b.length d] 27) ∧ w'.heap[w.heap.size + 1]? = some (.cells #[.string ⟨#[]⟩, .slice none 0 0, .slice none 0 0] 27) ∧ Below w.heap.size w w') := Lib.hid (by
    subst hW0; intro w' hb; obtain ⟨h1, h2, h3⟩ := two_cells hb; exact ⟨h2, h3, h1⟩)
  have hB0 := (hkp.out W0 (Below.refl _ _)).2.2
  have hB1 : Hid (w.heap.size + 1 < W0.heap.size) := Lib.hid (Array.getElem?_eq_some_iff.1 (hkp.out W0 (Below.refl _ _)).2.1).1
  have h0 := hkp.out W0 (Below.refl _ _)
  have q0 : W0.cell? ⟨w.heap.size, 0, none⟩ = some (.string r.h) := by simp [World.cell?, h0.1]
  have q1 : W0.cell? ⟨w.heap.size, 1, none⟩ = some (.slice a r.a.length c) := by simp [World.cell?, h0.1]
  have q2 : W0.cell? ⟨w.heap.size, 2, none⟩ = some (.slice b r.b.length d) := by simp [World.cell?, h0.1]
  clear h0
  have hes := Lib.hid (every_size ha hb)
  have hF : Hid (∀ x : Tm, x.2.size ≤ 1048576 → (one1 names terms x).2.size ≤ 1048576) := Lib.hid fun x hx => one1_size ht.size hx
  have hcq := Lib.hid (cq_rule r.h a r.a c b r.b d W0 (ha.below hB0) (hb.below hB0))
  have hone : Hid (∀ (x : Tm) (W : World), Below w.heap.size w W → Calls Tryd.prog 47 #[.agg #[.bool x.1, .string x.2], .slice na names.length nc, .slice ta terms.length tc] W fun e w' => e = .returned (tmV (one1 names terms x)) ∧ Below W.heap.size W w') := Lib.hid fun x W hW => rn_one x.1 x.2 na ta nc tc names terms W (hn.below hW) (ht.below hW)
  have hla := ha.len
  have hlb := hb.len
  generalize one1 names terms = F at hF hone ⊢
  clear ha hb hn ht hB0
  go_enter Tryd.func17, Tryd.ntmps17
  go_upto_region 1 with fail
  rw [← hW0]
  clear hW0
  go_wp2_with (go_at_call 9; go_loud (refine hcq.out.mono ?_); rintro e w1 ⟨g, gc, B, cB, L, rfl, hT, hL, hmap0, hgg, hbb⟩; have hcp := Lib.hid (And.intro hT (And.intro hL hgg)); have hmap := Lib.hid hmap0; have hb1 := Lib.hid hbb; clear hT hL hmap0 hgg hbb)
  obtain ⟨W2, hW2⟩ : ∃ W2, W2 = w1.alloc (.cells #[.string r.h, .slice (some ⟨g, 0, none⟩) r.a.length gc, .slice (some ⟨B, 0, none⟩) r.b.length cB] 27) := ⟨_, rfl⟩
  obtain ⟨G, hG⟩ : ∃ G, w1.heap.size = G := ⟨_, rfl⟩
  have hP : Hid (PW W0 G #[.string r.h, .slice (some ⟨g, 0, none⟩) r.a.length gc, .slice (some ⟨B, 0, none⟩) r.b.length cB] g gc B cB r.a L W2) := Lib.hid (by
    have hal := (Below.refl w1.heap.size w1).al (.cells #[.string r.h, .slice (some ⟨g, 0, none⟩) r.a.length gc, .slice (some ⟨B, 0, none⟩) r.b.length cB] 27)
    rw [← hW2] at hal
    obtain ⟨h1, h2, h3, h4, h5, h6⟩ := hcp.out
    refine ⟨⟨h1.below hal, h2.below hal, h5, h6⟩, by rw [hW2, ← hG]; exact heap_alloc_new _ _, ⟨h3, h4⟩, ⟨by rw [← hG]; exact h1.lt, by rw [← hG]; exact h2.lt, fun y hy => by rw [← hG]; exact (h2.inner y hy).lt⟩, hb1.out.trans (hal.mono hb1.out.size)⟩)
  have hLl : Hid (L.length = r.b.length) := Lib.hid (by rw [← hmap.out, List.length_map])
  have hLa : Hid (∀ y ∈ L, (∀ x ∈ y.1.a, x.2.size ≤ 1048576) ∧ y.1.l.2.size ≤ 1048576 ∧ y.1.r.2.size ≤ 1048576) := Lib.hid fun y hy => ⟨(hP.out.cp.b.inner y hy).size, (hP.out.cp.b.size y hy).2⟩
  have hra : Hid (∀ x ∈ r.a, x.2.size ≤ 1048576) := Lib.hid hP.out.cp.t.size
  rw [← hW2]
  rw [hG]
  clear hW2 hG hb1 q0 q1 q2 hcq hcp
  clear w1
  obtain ⟨z0, z1, z2⟩ := hP.out.cells rfl
  go_wp2
  go_loopw [8] (fun v wr => ∃ i : Nat, i ≤ r.a.length ∧ v = .int .i64 i ∧ Hid (PW W0 G #[.string r.h, .slice (some ⟨g, 0, none⟩) r.a.length gc, .slice (some ⟨B, 0, none⟩) r.b.length cB] g gc B cB (partL F r.a i) L wr)) (fun v _ => r.a.length - (intOf v).toNat)
  case atStart => exact ⟨0, Nat.zero_le _, rfl, Lib.hid (by rw [partL_zero]; exact hP.out)⟩
  case round =>
    clear hP z0 z1 z2
    obtain ⟨i, hi, rfl, hP⟩ := hrel
    obtain ⟨z0, z1, z2⟩ := hP.out.cells rfl
    have hq0 : (0 : Int) ≤ (i : Int) := Int.natCast_nonneg _
    by_cases hlt : i < r.a.length
    · have hq1 : (i : Int) < (r.a.length : Int) := by omega
      obtain ⟨x, ex0⟩ : ∃ x, r.a[i]? = some x := ⟨_, List.getElem?_eq_getElem hlt⟩
      obtain ⟨xv, xs⟩ := x
      have ex := Lib.hid ex0
      have hxs : Hid (xs.size ≤ 1048576) := Lib.hid (hra.out _ (List.mem_of_getElem? ex0))
      obtain ⟨e1, e2⟩ := hP.out.cp.t.at (partL_at ex0)
      dsimp only at e1 e2
      clear ex0
      go_wp2_with fail
      refine wp_region_T (fun w' => w'.cell? ⟨G, 1, none⟩ = some (.slice (some ⟨g, 0, none⟩) r.a.length gc) ∧ w'.cell? ⟨g, i * 2, none⟩ = some (.bool xv) ∧ w'.cell? ⟨g, i * 2 + 1, none⟩ = some (.string xs)) [0, 1, 2, 3, 4, 5, 6, 7, 8, 9, 10, 11] (by kernel_rfl) ⟨z1, e1, e2⟩ (fun hHeld => ?_)
      refine wpAnyT_take (i := 0) (oi := _) (v := ?_) rfl rfl (by kernel_rfl) (by kernel_rfl) (by kernel_rfl) (fun _ _ _ h => h) (Or.inl ⟨by rfl, ?_⟩) (by assumption) ?_
      rotate_left
      · intro w hSw
        try dsimp only at hSw
        go_simp
        try with_reducible rfl
      refine wpAnyT_take (i := 1) (oi := _) (v := ?_) rfl rfl (by kernel_rfl) (by kernel_rfl) (by kernel_rfl) (fun _ _ _ h => h) (Or.inl ⟨by rfl, ?_⟩) (by assumption) ?_
      rotate_left
      · intro w hSw
        try dsimp only at hSw
        go_simp
        try with_reducible rfl
      refine wpAnyT_take (i := 2) (oi := _) (v := ?_) rfl rfl (by kernel_rfl) (by kernel_rfl) (by kernel_rfl) (fun _ _ _ h => h) (Or.inl ⟨by rfl, ?_⟩) (by assumption) ?_
      rotate_left
      · intro w hSw
        try dsimp only at hSw
        go_simp
        try with_reducible rfl
      refine wpAnyT_take (i := 3) (oi := _) (v := ?_) rfl rfl (by kernel_rfl) (by kernel_rfl) (by kernel_rfl) (fun _ _ _ h => h) (Or.inl ⟨by rfl, ?_⟩) (by assumption) ?_
      rotate_left
      · intro w hSw
        try dsimp only at hSw
        go_simp
        try with_reducible rfl
      refine wpAnyT_take (i := 4) (oi := _) (v := ?_) rfl rfl (by kernel_rfl) (by kernel_rfl) (by kernel_rfl) (fun _ _ _ h => h) (Or.inl ⟨by rfl, ?_⟩) (by assumption) ?_
      rotate_left
      · intro w hSw
        try dsimp only at hSw
        go_simp
        try with_reducible rfl
      refine wpAnyT_take (i := 5) (oi := _) (v := ?_) rfl rfl (by kernel_rfl) (by kernel_rfl) (by kernel_rfl) (fun _ _ _ h => h) (Or.inl ⟨by rfl, ?_⟩) (by assumption) ?_
      rotate_left
      · intro w hSw
        try dsimp only at hSw
        go_simp
        try with_reducible rfl
      refine wpAnyT_take (i := 6) (oi := _) (v := ?_) rfl rfl (by kernel_rfl) (by kernel_rfl) (by kernel_rfl) (fun _ _ _ h => h) (Or.inl ⟨by rfl, ?_⟩) (by assumption) ?_
      rotate_left
      · intro w hSw
        try dsimp only at hSw
        go_simp
        try with_reducible rfl
      refine wpAnyT_take (i := 7) (oi := _) (v := ?_) rfl rfl (by kernel_rfl) (by kernel_rfl) (by kernel_rfl) (fun _ _ _ h => h) (Or.inl ⟨by rfl, ?_⟩) (by assumption) ?_
      rotate_left
      · intro w hSw
        try dsimp only at hSw
        go_simp
        try with_reducible rfl
      refine wpAnyT_take (i := 8) (oi := _) (v := ?_) rfl rfl (by kernel_rfl) (by kernel_rfl) (by kernel_rfl) (fun _ _ _ h => h) (Or.inl ⟨by rfl, ?_⟩) (by assumption) ?_
      rotate_left
      · intro w hSw
        try dsimp only at hSw
        go_simp
        try with_reducible rfl
      refine wpAnyT_take (i := 9) (oi := _) (v := ?_) rfl rfl (by kernel_rfl) (by kernel_rfl) (by kernel_rfl) (fun _ _ _ h => h) (Or.inl ⟨by rfl, ?_⟩) (by assumption) ?_
      rotate_left
      · intro w hSw
        try dsimp only at hSw
        go_simp
        try with_reducible rfl
      refine wpAnyT_take (i := 10) (oi := _) (v := ?_) rfl rfl (by kernel_rfl) (by kernel_rfl) (by kernel_rfl) (fun _ _ _ h => h) (Or.inl ⟨by rfl, ?_⟩) (by assumption) ?_
      rotate_left
      · intro w hSw
        try dsimp only at hSw
        go_simp
        try with_reducible rfl
      refine wpAnyT_take (i := 11) (oi := _) (v := ?_) rfl rfl (by kernel_rfl) (by kernel_rfl) (by kernel_rfl) (fun _ _ _ h => h) (Or.inl ⟨by rfl, ?_⟩) (by assumption) ?_
      rotate_left
      · intro w hSw
        try dsimp only at hSw
        go_simp
        try with_reducible rfl
      refine wpAnyT_one (i := 12) (o := _) (by kernel_rfl) rfl (fun K hK => ?_)
      go_simp
      go_wp2_with (go_at_call 47; go_loud (refine (hone.out (xv, xs) _ (hkp.out _ hP.out.bel.drew).2.2).mono ?_); rintro e w3 ⟨rfl, hbb⟩
                   have hP3 := Lib.hid (hP.out.below ((Below.refl _ _).drew.trans hbb))
                   obtain ⟨⟨fv, fs⟩, hf0⟩ : ∃ t, F (xv, xs) = t := ⟨_, rfl⟩
                   rw [hf0]
                   have hf := Lib.hid hf0
                   have hfs : Hid (fs.size ≤ 1048576) := Lib.hid (by have := hF.out (xv, xs) hxs.out; rw [hf0] at this; exact this)
                   unfold tmV
                   obtain ⟨y0, y1, y2⟩ := hP3.out.cells rfl
                   obtain ⟨d1, d2⟩ := hP3.out.cp.t.at (partL_at ex.out)
                   have l0 := hP3.out.cp.t.live
                   clear hbb hf0)

      refine hK.out _ _ ⟨y1, d1, d2⟩ ?_
      clear hK K
      refine wpAnyT_free (i := 13) (o := _) (by kernel_rfl) rfl (by kernel_rfl) (fun K hK => ?_)
      go_simp
      refine hK.out _ _ ?_
      clear hK K
      refine wpAnyT_free (i := 14) (o := _) (by kernel_rfl) rfl (by kernel_rfl) (fun K hK => ?_)
      go_simp
      refine hK.out _ _ ?_
      clear hK K
      refine wpAnyT_done (by kernel_rfl) ?_ _
      clear hHeld
      refine ‹∀ (a : Act) (w : World), Code.wp _ _ _ a w → _› _ _ ?_
      go_wp2_with fail
      go_roundw
      case rel => exact ⟨i + 1, by omega, by go_num, by
        have h1 := hP3.out.head (i := i) (by rw [partL_len F r.a i hi]; exact hlt) (fv, fs) hfs.out
        rw [show (partL F r.a i).set i (fv, fs) = partL F r.a (i + 1) by rw [← hf.out]; exact partL_succ ex.out] at h1
        exact Lib.hid h1⟩
      case measure => simp [intOf]; omega
    · have hq1 : ¬ (i : Int) < (r.a.length : Int) := by omega
      have hie : i = r.a.length := by omega
      have hP1 : Hid (PW W0 G #[.string r.h, .slice (some ⟨g, 0, none⟩) r.a.length gc, .slice (some ⟨B, 0, none⟩) r.b.length cB] g gc B cB (r.a.map F) L wr) := Lib.hid (by have := hP.out; rw [hie, partL_all] at this; exact this)
      clear hP
      go_wp2
      go_loopw [9, 10] (fun v _ ws => ∃ k : Nat, k ≤ r.b.length ∧ v = .int .i64 k ∧ Hid (PW W0 G #[.string r.h, .slice (some ⟨g, 0, none⟩) r.a.length gc, .slice (some ⟨B, 0, none⟩) r.b.length cB] g gc B cB (r.a.map F) (partL (mapY F) L k) ws)) (fun v _ _ => r.b.length - (intOf v).toNat)
      case atStart => exact ⟨0, Nat.zero_le _, rfl, Lib.hid (by rw [partL_zero]; exact hP1.out)⟩
      case round =>
        clear hP1 z0 z1 z2
        obtain ⟨k, hk, rfl, hP⟩ := hrel
        clear hq1 hie
        obtain ⟨z0, z1, z2⟩ := hP.out.cells rfl
        have hq0 : (0 : Int) ≤ (k : Int) := Int.natCast_nonneg _
        by_cases hlt : k < r.b.length
        · have hq1 : (k : Int) < (r.b.length : Int) := by omega
          obtain ⟨y, ey⟩ : ∃ y, L[k]? = some y := ⟨_, List.getElem?_eq_getElem (by rw [hLl.out]; exact hlt)⟩
          have hpk := Lib.hid (partL_at (F := mapY F) ey)
          have hps := Lib.hid (partL_succ (F := mapY F) ey)
          obtain ⟨hya, hyl, hyr⟩ := hLa.out _ (List.mem_of_getElem? ey)
          replace hya := Lib.hid hya
          replace hyl := Lib.hid hyl
          replace hyr := Lib.hid hyr
          obtain ⟨⟨yk, yp, ya, ⟨ylv, yls⟩, ⟨yrv, yrs⟩⟩, yg, yc⟩ := y
          obtain ⟨c2, -, -⟩ := hP.out.cp.lit hpk.out
          have hyn := (hP.out.cp.b.inner _ (List.mem_of_getElem? hpk.out)).len
          dsimp only at c2 hya hyl hyr hyn
          clear ey
          go_wp2
          go_loopw [10] (fun v wt => ∃ i : Nat, i ≤ ya.length ∧ v = .int .i64 i ∧ Hid (PW W0 G #[.string r.h, .slice (some ⟨g, 0, none⟩) r.a.length gc, .slice (some ⟨B, 0, none⟩) r.b.length cB] g gc B cB (r.a.map F) ((partL (mapY F) L k).set k (⟨yk, yp, partL F ya i, (ylv, yls), (yrv, yrs)⟩, yg, yc)) wt)) (fun v _ => ya.length - (intOf v).toNat)
          case atStart => exact ⟨0, Nat.zero_le _, rfl, Lib.hid (by rw [partL_zero, set_self hpk.out]; exact hP.out)⟩
          case round =>
            clear hP z0 z1 z2 c2
            obtain ⟨i, hi, rfl, hP⟩ := hrel
            obtain ⟨z0, z1, z2⟩ := hP.out.cells rfl
            obtain ⟨c2, ⟨c3, c4⟩, ⟨c5, c6⟩⟩ := hP.out.cp.lit (set_at hpk.out)
            dsimp only at c2 c3 c4 c5 c6
            rw [partL_len F ya i hi] at c2
            have hp0 : (0 : Int) ≤ (i : Int) := Int.natCast_nonneg _
            by_cases hlt2 : i < ya.length
            · have hp1 : (i : Int) < (ya.length : Int) := by omega
              obtain ⟨x, ex0⟩ : ∃ x, ya[i]? = some x := ⟨_, List.getElem?_eq_getElem hlt2⟩
              obtain ⟨xv, xs⟩ := x
              have ex := Lib.hid ex0
              have hxs : Hid (xs.size ≤ 1048576) := Lib.hid (hya.out _ (List.mem_of_getElem? ex0))
              obtain ⟨e1, e2⟩ := hP.out.cp.argAt (set_at hpk.out) (partL_at ex0)
              dsimp only at e1 e2
              clear ex0 c3 c4 c5 c6
              go_wp2_with fail
              refine wp_region_T (fun w' => w'.cell? ⟨G, 2, none⟩ = some (.slice (some ⟨B, 0, none⟩) r.b.length cB) ∧ w'.cell? ⟨B, k * 7 + 2, none⟩ = some (.slice (some ⟨yg, 0, none⟩) ya.length yc) ∧ w'.cell? ⟨yg, i * 2, none⟩ = some (.bool xv) ∧ w'.cell? ⟨yg, i * 2 + 1, none⟩ = some (.string xs)) [0, 1, 2, 3, 4, 5, 6, 7, 8, 9, 10, 11, 12, 13, 14, 15, 16, 17, 18, 19] (by kernel_rfl) ⟨z2, c2, e1, e2⟩ (fun hHeld => ?_)
              refine wpAnyT_take (i := 0) (oi := _) (v := ?_) rfl rfl (by kernel_rfl) (by kernel_rfl) (by kernel_rfl) (fun _ _ _ h => h) (Or.inl ⟨by rfl, ?_⟩) (by assumption) ?_
              rotate_left
              · intro w hSw
                try dsimp only at hSw
                go_simp
                try with_reducible rfl
              refine wpAnyT_take (i := 1) (oi := _) (v := ?_) rfl rfl (by kernel_rfl) (by kernel_rfl) (by kernel_rfl) (fun _ _ _ h => h) (Or.inl ⟨by rfl, ?_⟩) (by assumption) ?_
              rotate_left
              · intro w hSw
                try dsimp only at hSw
                go_simp
                try with_reducible rfl
              refine wpAnyT_take (i := 2) (oi := _) (v := ?_) rfl rfl (by kernel_rfl) (by kernel_rfl) (by kernel_rfl) (fun _ _ _ h => h) (Or.inl ⟨by rfl, ?_⟩) (by assumption) ?_
              rotate_left
              · intro w hSw
                try dsimp only at hSw
                go_simp
                try with_reducible rfl
              refine wpAnyT_take (i := 3) (oi := _) (v := ?_) rfl rfl (by kernel_rfl) (by kernel_rfl) (by kernel_rfl) (fun _ _ _ h => h) (Or.inl ⟨by rfl, ?_⟩) (by assumption) ?_
              rotate_left
              · intro w hSw
                try dsimp only at hSw
                go_simp
                try with_reducible rfl
              refine wpAnyT_take (i := 4) (oi := _) (v := ?_) rfl rfl (by kernel_rfl) (by kernel_rfl) (by kernel_rfl) (fun _ _ _ h => h) (Or.inl ⟨by rfl, ?_⟩) (by assumption) ?_
              rotate_left
              · intro w hSw
                try dsimp only at hSw
                go_simp
                try with_reducible rfl
              refine wpAnyT_take (i := 5) (oi := _) (v := ?_) rfl rfl (by kernel_rfl) (by kernel_rfl) (by kernel_rfl) (fun _ _ _ h => h) (Or.inl ⟨by rfl, ?_⟩) (by assumption) ?_
              rotate_left
              · intro w hSw
                try dsimp only at hSw
                go_simp
                try with_reducible rfl
              refine wpAnyT_take (i := 6) (oi := _) (v := ?_) rfl rfl (by kernel_rfl) (by kernel_rfl) (by kernel_rfl) (fun _ _ _ h => h) (Or.inl ⟨by rfl, ?_⟩) (by assumption) ?_
              rotate_left
              · intro w hSw
                try dsimp only at hSw
                go_simp
                try with_reducible rfl
              refine wpAnyT_take (i := 7) (oi := _) (v := ?_) rfl rfl (by kernel_rfl) (by kernel_rfl) (by kernel_rfl) (fun _ _ _ h => h) (Or.inl ⟨by rfl, ?_⟩) (by assumption) ?_
              rotate_left
              · intro w hSw
                try dsimp only at hSw
                go_simp
                try with_reducible rfl
              refine wpAnyT_take (i := 8) (oi := _) (v := ?_) rfl rfl (by kernel_rfl) (by kernel_rfl) (by kernel_rfl) (fun _ _ _ h => h) (Or.inl ⟨by rfl, ?_⟩) (by assumption) ?_
              rotate_left
              · intro w hSw
                try dsimp only at hSw
                go_simp
                try with_reducible rfl
              refine wpAnyT_take (i := 9) (oi := _) (v := ?_) rfl rfl (by kernel_rfl) (by kernel_rfl) (by kernel_rfl) (fun _ _ _ h => h) (Or.inl ⟨by rfl, ?_⟩) (by assumption) ?_
              rotate_left
              · intro w hSw
                try dsimp only at hSw
                go_simp
                try with_reducible rfl
              refine wpAnyT_take (i := 10) (oi := _) (v := ?_) rfl rfl (by kernel_rfl) (by kernel_rfl) (by kernel_rfl) (fun _ _ _ h => h) (Or.inl ⟨by rfl, ?_⟩) (by assumption) ?_
              rotate_left
              · intro w hSw
                try dsimp only at hSw
                go_simp
                try with_reducible rfl
              refine wpAnyT_take (i := 11) (oi := _) (v := ?_) rfl rfl (by kernel_rfl) (by kernel_rfl) (by kernel_rfl) (fun _ _ _ h => h) (Or.inl ⟨by rfl, ?_⟩) (by assumption) ?_
              rotate_left
              · intro w hSw
                try dsimp only at hSw
                go_simp
                try with_reducible rfl
              refine wpAnyT_take (i := 12) (oi := _) (v := ?_) rfl rfl (by kernel_rfl) (by kernel_rfl) (by kernel_rfl) (fun _ _ _ h => h) (Or.inl ⟨by rfl, ?_⟩) (by assumption) ?_
              rotate_left
              · intro w hSw
                try dsimp only at hSw
                go_simp
                try with_reducible rfl
              refine wpAnyT_take (i := 13) (oi := _) (v := ?_) rfl rfl (by kernel_rfl) (by kernel_rfl) (by kernel_rfl) (fun _ _ _ h => h) (Or.inl ⟨by rfl, ?_⟩) (by assumption) ?_
              rotate_left
              · intro w hSw
                try dsimp only at hSw
                go_simp
                try with_reducible rfl
              refine wpAnyT_take (i := 14) (oi := _) (v := ?_) rfl rfl (by kernel_rfl) (by kernel_rfl) (by kernel_rfl) (fun _ _ _ h => h) (Or.inl ⟨by rfl, ?_⟩) (by assumption) ?_
              rotate_left
              · intro w hSw
                try dsimp only at hSw
                go_simp
                try with_reducible rfl
              refine wpAnyT_take (i := 15) (oi := _) (v := ?_) rfl rfl (by kernel_rfl) (by kernel_rfl) (by kernel_rfl) (fun _ _ _ h => h) (Or.inl ⟨by rfl, ?_⟩) (by assumption) ?_
              rotate_left
              · intro w hSw
                try dsimp only at hSw
                go_simp
                try with_reducible rfl
              refine wpAnyT_take (i := 16) (oi := _) (v := ?_) rfl rfl (by kernel_rfl) (by kernel_rfl) (by kernel_rfl) (fun _ _ _ h => h) (Or.inl ⟨by rfl, ?_⟩) (by assumption) ?_
              rotate_left
              · intro w hSw
                try dsimp only at hSw
                go_simp
                try with_reducible rfl
              refine wpAnyT_take (i := 17) (oi := _) (v := ?_) rfl rfl (by kernel_rfl) (by kernel_rfl) (by kernel_rfl) (fun _ _ _ h => h) (Or.inl ⟨by rfl, ?_⟩) (by assumption) ?_
              rotate_left
              · intro w hSw
                try dsimp only at hSw
                go_simp
                try with_reducible rfl
              refine wpAnyT_take (i := 18) (oi := _) (v := ?_) rfl rfl (by kernel_rfl) (by kernel_rfl) (by kernel_rfl) (fun _ _ _ h => h) (Or.inl ⟨by rfl, ?_⟩) (by assumption) ?_
              rotate_left
              · intro w hSw
                try dsimp only at hSw
                go_simp
                try with_reducible rfl
              refine wpAnyT_take (i := 19) (oi := _) (v := ?_) rfl rfl (by kernel_rfl) (by kernel_rfl) (by kernel_rfl) (fun _ _ _ h => h) (Or.inl ⟨by rfl, ?_⟩) (by assumption) ?_
              rotate_left
              · intro w hSw
                try dsimp only at hSw
                go_simp
                try with_reducible rfl
              refine wpAnyT_one (i := 20) (o := _) (by kernel_rfl) rfl (fun K hK => ?_)
              go_simp
              go_wp2_with (go_at_call 47; go_loud (refine (hone.out (xv, xs) _ (hkp.out _ hP.out.bel.drew).2.2).mono ?_); rintro e w3 ⟨rfl, hbb⟩
                           have hP3 := Lib.hid (hP.out.below ((Below.refl _ _).drew.trans hbb))
                           obtain ⟨⟨fv, fs⟩, hf0⟩ : ∃ t, F (xv, xs) = t := ⟨_, rfl⟩
                           rw [hf0]
                           have hf := Lib.hid hf0
                           have hfs : Hid (fs.size ≤ 1048576) := Lib.hid (by have := hF.out (xv, xs) hxs.out; rw [hf0] at this; exact this)
                           unfold tmV
                           obtain ⟨y0, y1, y2⟩ := hP3.out.cells rfl
                           obtain ⟨c2, -, -⟩ := hP3.out.cp.lit (set_at hpk.out)
                           obtain ⟨d1, d2⟩ := hP3.out.cp.argAt (set_at hpk.out) (partL_at ex.out)
                           have l0 := (hP3.out.cp.b.inner _ (List.mem_of_getElem? (set_at hpk.out))).live
                           dsimp only at c2 d1 d2 l0
                           rw [partL_len F ya i hi] at c2
                           clear hbb hf0)

              refine hK.out _ _ ⟨y2, c2, d1, d2⟩ ?_
              clear hK K
              refine wpAnyT_free (i := 21) (o := _) (by kernel_rfl) rfl (by kernel_rfl) (fun K hK => ?_)
              go_simp
              refine hK.out _ _ ?_
              clear hK K
              refine wpAnyT_free (i := 22) (o := _) (by kernel_rfl) rfl (by kernel_rfl) (fun K hK => ?_)
              go_simp
              refine hK.out _ _ ?_
              clear hK K
              refine wpAnyT_done (by kernel_rfl) ?_ _
              clear hHeld
              refine ‹∀ (a : Act) (w : World), Code.wp _ _ _ a w → _› _ _ ?_
              go_wp2_with fail
              go_roundw
              case rel => exact ⟨i + 1, by omega, by go_num, by
                have h1 := hP3.out.arg (i := i) (set_at hpk.out) (by dsimp only; rw [partL_len F ya i hi]; exact hlt2) (fv, fs) hfs.out
                dsimp only at h1
                rw [List.set_set, show (partL F ya i).set i (fv, fs) = partL F ya (i + 1) by rw [← hf.out]; exact partL_succ ex.out] at h1
                exact Lib.hid h1⟩
              case measure => simp [intOf]; omega
            · have hp1 : ¬ (i : Int) < (ya.length : Int) := by omega
              have hie : i = ya.length := by omega
              have hP1 : Hid (PW W0 G #[.string r.h, .slice (some ⟨g, 0, none⟩) r.a.length gc, .slice (some ⟨B, 0, none⟩) r.b.length cB] g gc B cB (r.a.map F) ((partL (mapY F) L k).set k (⟨yk, yp, ya.map F, (ylv, yls), (yrv, yrs)⟩, yg, yc)) wr) := Lib.hid (by have := hP.out; rw [hie, partL_all] at this; exact this)
              clear hP
              go_wp2_with fail
              clear c2 c3 c4 c5 c6 z0 z1 z2
              have hxsL : Hid (yls.size ≤ 1048576) := hyl
              have hxsR : Hid (yrs.size ≤ 1048576) := hyr
              have hq3 := Lib.hid hlt2
              clear hp1 hlt2 hp0 hie hi
              obtain ⟨z0, z1, z2⟩ := hP1.out.cells rfl
              obtain ⟨-, ⟨e1, e2⟩, -⟩ := hP1.out.cp.lit (set_at hpk.out)
              dsimp only at e1 e2
              refine wp_region_T (fun w' => w'.cell? ⟨G, 2, none⟩ = some (.slice (some ⟨B, 0, none⟩) r.b.length cB) ∧ w'.cell? ⟨B, k * 7 + 3, none⟩ = some (.bool ylv) ∧ w'.cell? ⟨B, k * 7 + 4, none⟩ = some (.string yls)) [0, 1, 2, 3, 4, 5, 6, 7, 8, 9, 10] (by kernel_rfl) ⟨z2, e1, e2⟩ (fun hHeld => ?_)
              refine wpAnyT_take (i := 0) (oi := _) (v := ?_) rfl rfl (by kernel_rfl) (by kernel_rfl) (by kernel_rfl) (fun _ _ _ h => h) (Or.inl ⟨by rfl, ?_⟩) (by assumption) ?_
              rotate_left
              · intro w hSw
                try dsimp only at hSw
                go_simp
                try with_reducible rfl
              refine wpAnyT_take (i := 1) (oi := _) (v := ?_) rfl rfl (by kernel_rfl) (by kernel_rfl) (by kernel_rfl) (fun _ _ _ h => h) (Or.inl ⟨by rfl, ?_⟩) (by assumption) ?_
              rotate_left
              · intro w hSw
                try dsimp only at hSw
                go_simp
                try with_reducible rfl
              refine wpAnyT_take (i := 2) (oi := _) (v := ?_) rfl rfl (by kernel_rfl) (by kernel_rfl) (by kernel_rfl) (fun _ _ _ h => h) (Or.inl ⟨by rfl, ?_⟩) (by assumption) ?_
              rotate_left
              · intro w hSw
                try dsimp only at hSw
                go_simp
                try with_reducible rfl
              refine wpAnyT_take (i := 3) (oi := _) (v := ?_) rfl rfl (by kernel_rfl) (by kernel_rfl) (by kernel_rfl) (fun _ _ _ h => h) (Or.inl ⟨by rfl, ?_⟩) (by assumption) ?_
              rotate_left
              · intro w hSw
                try dsimp only at hSw
                go_simp
                try with_reducible rfl
              refine wpAnyT_take (i := 4) (oi := _) (v := ?_) rfl rfl (by kernel_rfl) (by kernel_rfl) (by kernel_rfl) (fun _ _ _ h => h) (Or.inl ⟨by rfl, ?_⟩) (by assumption) ?_
              rotate_left
              · intro w hSw
                try dsimp only at hSw
                go_simp
                try with_reducible rfl
              refine wpAnyT_take (i := 5) (oi := _) (v := ?_) rfl rfl (by kernel_rfl) (by kernel_rfl) (by kernel_rfl) (fun _ _ _ h => h) (Or.inl ⟨by rfl, ?_⟩) (by assumption) ?_
              rotate_left
              · intro w hSw
                try dsimp only at hSw
                go_simp
                try with_reducible rfl
              refine wpAnyT_take (i := 6) (oi := _) (v := ?_) rfl rfl (by kernel_rfl) (by kernel_rfl) (by kernel_rfl) (fun _ _ _ h => h) (Or.inl ⟨by rfl, ?_⟩) (by assumption) ?_
              rotate_left
              · intro w hSw
                try dsimp only at hSw
                go_simp
                try with_reducible rfl
              refine wpAnyT_take (i := 7) (oi := _) (v := ?_) rfl rfl (by kernel_rfl) (by kernel_rfl) (by kernel_rfl) (fun _ _ _ h => h) (Or.inl ⟨by rfl, ?_⟩) (by assumption) ?_
              rotate_left
              · intro w hSw
                try dsimp only at hSw
                go_simp
                try with_reducible rfl
              refine wpAnyT_take (i := 8) (oi := _) (v := ?_) rfl rfl (by kernel_rfl) (by kernel_rfl) (by kernel_rfl) (fun _ _ _ h => h) (Or.inl ⟨by rfl, ?_⟩) (by assumption) ?_
              rotate_left
              · intro w hSw
                try dsimp only at hSw
                go_simp
                try with_reducible rfl
              refine wpAnyT_take (i := 9) (oi := _) (v := ?_) rfl rfl (by kernel_rfl) (by kernel_rfl) (by kernel_rfl) (fun _ _ _ h => h) (Or.inl ⟨by rfl, ?_⟩) (by assumption) ?_
              rotate_left
              · intro w hSw
                try dsimp only at hSw
                go_simp
                try with_reducible rfl
              refine wpAnyT_take (i := 10) (oi := _) (v := ?_) rfl rfl (by kernel_rfl) (by kernel_rfl) (by kernel_rfl) (fun _ _ _ h => h) (Or.inl ⟨by rfl, ?_⟩) (by assumption) ?_
              rotate_left
              · intro w hSw
                try dsimp only at hSw
                go_simp
                try with_reducible rfl
              refine wpAnyT_one (i := 11) (o := _) (by kernel_rfl) rfl (fun K hK => ?_)
              go_simp
              go_wp2_with (go_at_call 47; go_loud (refine (hone.out (ylv, yls) _ (hkp.out _ hP1.out.bel.drew).2.2).mono ?_); rintro e w4 ⟨rfl, hbb⟩
                           have hPL := Lib.hid (hP1.out.below ((Below.refl _ _).drew.trans hbb))
                           obtain ⟨⟨fvL, fsL⟩, hf0⟩ : ∃ t, F (ylv, yls) = t := ⟨_, rfl⟩
                           rw [hf0]
                           have hfL := Lib.hid hf0
                           have hfsL : Hid (fsL.size ≤ 1048576) := Lib.hid (by have := hF.out (ylv, yls) hxsL.out; rw [hf0] at this; exact this)
                           unfold tmV
                           obtain ⟨y0, y1, y2⟩ := hPL.out.cells rfl
                           obtain ⟨-, ⟨d1, d2⟩, -⟩ := hPL.out.cp.lit (set_at hpk.out)
                           have l0 := hPL.out.cp.b.live
                           dsimp only at d1 d2
                           clear hbb hf0)

              refine hK.out _ _ ⟨y2, d1, d2⟩ ?_
              clear hK K
              refine wpAnyT_free (i := 12) (o := _) (by kernel_rfl) rfl (by kernel_rfl) (fun K hK => ?_)
              go_simp
              refine hK.out _ _ ?_
              clear hK K
              refine wpAnyT_free (i := 13) (o := _) (by kernel_rfl) rfl (by kernel_rfl) (fun K hK => ?_)
              go_simp
              refine hK.out _ _ ?_
              clear hK K
              refine wpAnyT_free (i := 14) (o := _) (by kernel_rfl) rfl (by kernel_rfl) (fun K hK => ?_)
              go_simp
              refine hK.out _ _ ?_
              clear hK K
              refine wpAnyT_done (by kernel_rfl) ?_ _
              clear hHeld
              refine ‹∀ (a : Act) (w : World), Code.wp _ _ _ a w → _› _ _ ?_
              have hP5 : Hid (PW W0 G #[.string r.h, .slice (some ⟨g, 0, none⟩) r.a.length gc, .slice (some ⟨B, 0, none⟩) r.b.length cB] g gc B cB (r.a.map F) ((partL (mapY F) L k).set k (⟨yk, yp, ya.map F, F (ylv, yls), (yrv, yrs)⟩, yg, yc)) ((w4.setCell ⟨B, k * 7 + 3, none⟩ (.bool fvL)).setCell ⟨B, k * 7 + 4, none⟩ (.string fsL))) := Lib.hid (by
                have h1 := hPL.out.left (set_at hpk.out) (fvL, fsL) hfsL.out
                dsimp only at h1
                rw [List.set_set] at h1
                rw [hfL.out]
                exact h1)
              generalize (w4.setCell ⟨B, k * 7 + 3, none⟩ (.bool fvL)).setCell ⟨B, k * 7 + 4, none⟩ (.string fsL) = w5 at hP5 ⊢
              clear y0 y1 y2 d1 d2 l0 e1 e2 z0 z1 z2 hPL hP1 hfsL hfL
              clear w4
              obtain ⟨z0, z1, z2⟩ := hP5.out.cells rfl
              obtain ⟨-, -, ⟨e1, e2⟩⟩ := hP5.out.cp.lit (set_at hpk.out)
              dsimp only at e1 e2
              go_wp2_with fail
              refine wp_region_T (fun w' => w'.cell? ⟨G, 2, none⟩ = some (.slice (some ⟨B, 0, none⟩) r.b.length cB) ∧ w'.cell? ⟨B, k * 7 + 5, none⟩ = some (.bool yrv) ∧ w'.cell? ⟨B, k * 7 + 6, none⟩ = some (.string yrs)) [0, 1, 2, 3, 4, 5, 6, 7, 8, 9, 10] (by kernel_rfl) ⟨z2, e1, e2⟩ (fun hHeld => ?_)
              refine wpAnyT_take (i := 0) (oi := _) (v := ?_) rfl rfl (by kernel_rfl) (by kernel_rfl) (by kernel_rfl) (fun _ _ _ h => h) (Or.inl ⟨by rfl, ?_⟩) (by assumption) ?_
              rotate_left
              · intro w hSw
                try dsimp only at hSw
                go_simp
                try with_reducible rfl
              refine wpAnyT_take (i := 1) (oi := _) (v := ?_) rfl rfl (by kernel_rfl) (by kernel_rfl) (by kernel_rfl) (fun _ _ _ h => h) (Or.inl ⟨by rfl, ?_⟩) (by assumption) ?_
              rotate_left
              · intro w hSw
                try dsimp only at hSw
                go_simp
                try with_reducible rfl
              refine wpAnyT_take (i := 2) (oi := _) (v := ?_) rfl rfl (by kernel_rfl) (by kernel_rfl) (by kernel_rfl) (fun _ _ _ h => h) (Or.inl ⟨by rfl, ?_⟩) (by assumption) ?_
              rotate_left
              · intro w hSw
                try dsimp only at hSw
                go_simp
                try with_reducible rfl
              refine wpAnyT_take (i := 3) (oi := _) (v := ?_) rfl rfl (by kernel_rfl) (by kernel_rfl) (by kernel_rfl) (fun _ _ _ h => h) (Or.inl ⟨by rfl, ?_⟩) (by assumption) ?_
              rotate_left
              · intro w hSw
                try dsimp only at hSw
                go_simp
                try with_reducible rfl
              refine wpAnyT_take (i := 4) (oi := _) (v := ?_) rfl rfl (by kernel_rfl) (by kernel_rfl) (by kernel_rfl) (fun _ _ _ h => h) (Or.inl ⟨by rfl, ?_⟩) (by assumption) ?_
              rotate_left
              · intro w hSw
                try dsimp only at hSw
                go_simp
                try with_reducible rfl
              refine wpAnyT_take (i := 5) (oi := _) (v := ?_) rfl rfl (by kernel_rfl) (by kernel_rfl) (by kernel_rfl) (fun _ _ _ h => h) (Or.inl ⟨by rfl, ?_⟩) (by assumption) ?_
              rotate_left
              · intro w hSw
                try dsimp only at hSw
                go_simp
                try with_reducible rfl
              refine wpAnyT_take (i := 6) (oi := _) (v := ?_) rfl rfl (by kernel_rfl) (by kernel_rfl) (by kernel_rfl) (fun _ _ _ h => h) (Or.inl ⟨by rfl, ?_⟩) (by assumption) ?_
              rotate_left
              · intro w hSw
                try dsimp only at hSw
                go_simp
                try with_reducible rfl
              refine wpAnyT_take (i := 7) (oi := _) (v := ?_) rfl rfl (by kernel_rfl) (by kernel_rfl) (by kernel_rfl) (fun _ _ _ h => h) (Or.inl ⟨by rfl, ?_⟩) (by assumption) ?_
              rotate_left
              · intro w hSw
                try dsimp only at hSw
                go_simp
                try with_reducible rfl
              refine wpAnyT_take (i := 8) (oi := _) (v := ?_) rfl rfl (by kernel_rfl) (by kernel_rfl) (by kernel_rfl) (fun _ _ _ h => h) (Or.inl ⟨by rfl, ?_⟩) (by assumption) ?_
              rotate_left
              · intro w hSw
                try dsimp only at hSw
                go_simp
                try with_reducible rfl
              refine wpAnyT_take (i := 9) (oi := _) (v := ?_) rfl rfl (by kernel_rfl) (by kernel_rfl) (by kernel_rfl) (fun _ _ _ h => h) (Or.inl ⟨by rfl, ?_⟩) (by assumption) ?_
              rotate_left
              · intro w hSw
                try dsimp only at hSw
                go_simp
                try with_reducible rfl
              refine wpAnyT_take (i := 10) (oi := _) (v := ?_) rfl rfl (by kernel_rfl) (by kernel_rfl) (by kernel_rfl) (fun _ _ _ h => h) (Or.inl ⟨by rfl, ?_⟩) (by assumption) ?_
              rotate_left
              · intro w hSw
                try dsimp only at hSw
                go_simp
                try with_reducible rfl
              refine wpAnyT_one (i := 11) (o := _) (by kernel_rfl) rfl (fun K hK => ?_)
              go_simp
              go_wp2_with (go_at_call 47; go_loud (refine (hone.out (yrv, yrs) _ (hkp.out _ hP5.out.bel.drew).2.2).mono ?_); rintro e w6 ⟨rfl, hbb⟩
                           have hPR := Lib.hid (hP5.out.below ((Below.refl _ _).drew.trans hbb))
                           obtain ⟨⟨fvR, fsR⟩, hf0⟩ : ∃ t, F (yrv, yrs) = t := ⟨_, rfl⟩
                           rw [hf0]
                           have hfR := Lib.hid hf0
                           have hfsR : Hid (fsR.size ≤ 1048576) := Lib.hid (by have := hF.out (yrv, yrs) hxsR.out; rw [hf0] at this; exact this)
                           unfold tmV
                           obtain ⟨y0, y1, y2⟩ := hPR.out.cells rfl
                           obtain ⟨-, -, ⟨d1, d2⟩⟩ := hPR.out.cp.lit (set_at hpk.out)
                           have l0 := hPR.out.cp.b.live
                           dsimp only at d1 d2
                           clear hbb hf0)

              refine hK.out _ _ ⟨y2, d1, d2⟩ ?_
              clear hK K
              refine wpAnyT_free (i := 12) (o := _) (by kernel_rfl) rfl (by kernel_rfl) (fun K hK => ?_)
              go_simp
              refine hK.out _ _ ?_
              clear hK K
              refine wpAnyT_free (i := 13) (o := _) (by kernel_rfl) rfl (by kernel_rfl) (fun K hK => ?_)
              go_simp
              refine hK.out _ _ ?_
              clear hK K
              refine wpAnyT_free (i := 14) (o := _) (by kernel_rfl) rfl (by kernel_rfl) (fun K hK => ?_)
              go_simp
              refine hK.out _ _ ?_
              clear hK K
              refine wpAnyT_done (by kernel_rfl) ?_ _
              clear hHeld
              refine ‹∀ (a : Act) (w : World), Code.wp _ _ _ a w → _› _ _ ?_
              have hP7 : Hid (PW W0 G #[.string r.h, .slice (some ⟨g, 0, none⟩) r.a.length gc, .slice (some ⟨B, 0, none⟩) r.b.length cB] g gc B cB (r.a.map F) ((partL (mapY F) L k).set k (⟨yk, yp, ya.map F, F (ylv, yls), F (yrv, yrs)⟩, yg, yc)) ((w6.setCell ⟨B, k * 7 + 5, none⟩ (.bool fvR)).setCell ⟨B, k * 7 + 6, none⟩ (.string fsR))) := Lib.hid (by
                have h1 := hPR.out.right (set_at hpk.out) (fvR, fsR) hfsR.out
                dsimp only at h1
                rw [List.set_set] at h1
                rw [hfR.out]
                exact h1)
              generalize (w6.setCell ⟨B, k * 7 + 5, none⟩ (.bool fvR)).setCell ⟨B, k * 7 + 6, none⟩ (.string fsR) = w7 at hP7 ⊢
              go_wp2_with fail
              go_roundw
              case rel => exact ⟨k + 1, by omega, by go_num, by
                have h1 := hP7.out
                rw [show (partL (mapY F) L k).set k (⟨yk, yp, ya.map F, F (ylv, yls), F (yrv, yrs)⟩, yg, yc) = partL (mapY F) L (k + 1) from hps.out] at h1
                exact Lib.hid h1⟩
              case measure => simp [intOf]; omega
        · have hq1 : ¬ (k : Int) < (r.b.length : Int) := by omega
          have hke : k = L.length := by rw [hLl.out]; omega
          have hP2 : Hid (PW W0 G #[.string r.h, .slice (some ⟨g, 0, none⟩) r.a.length gc, .slice (some ⟨B, 0, none⟩) r.b.length cB] g gc B cB (r.a.map F) (L.map (mapY F)) wr) := Lib.hid (by have := hP.out; rw [hke, partL_all] at this; exact this)
          have hx := Lib.hid (hkp.out _ hP.out.bel)
          have hmap2 : Hid ((L.map (mapY F)).map (·.1) = r.b.map (mapL F)) := Lib.hid (by rw [← hmap.out, List.map_map, List.map_map]; rfl)
          obtain ⟨x0, x1, x2⟩ := box_cells hx.out.2.1
          have g0 : wr.frozen? ⟨w.heap.size + 1, 0, none⟩ = false := by simp [World.frozen?, hx.out.2.1]
          have g1 : wr.frozen? ⟨w.heap.size + 1, 1, none⟩ = false := by simp [World.frozen?, hx.out.2.1]
          have g2 : wr.frozen? ⟨w.heap.size + 1, 2, none⟩ = false := by simp [World.frozen?, hx.out.2.1]
          clear hP
          go_wp2_with fail
          obtain ⟨V, hV, hVb, hVg, hVw⟩ := rule_stored hx.out.2.1 (.string r.h) (.slice (some ⟨g, 0, none⟩) r.a.length gc) (.slice (some ⟨B, 0, none⟩) r.b.length cB) (Nat.le_refl w.heap.size) (Nat.le_succ _) hx.out.2.2
          rw [← hV]
          refine bodyPost_ret (v := .agg #[.string r.h, .slice (some ⟨g, 0, none⟩) r.a.length gc, .slice (some ⟨B, 0, none⟩) r.b.length cB]) (results_cell_row rfl _ _ (w.heap.size + 1) 27 _ (0, 0) _ rfl hVb Tryd.underlying27 rfl pr_sizeRule) rfl ?_
          have hge := hP2.out.ge
          have hb1' := hB1.out
          exact ⟨g, gc, B, cB, rfl, _, hP2.out.cp.keep (lo := W0.heap.size) (fun b h1 h2 => hVg.block b h2 (fun e => by injection e with e; have := hB1.out; omega)) hge.1 hge.2, hmap2.out, ⟨by have := hB1.out; omega, by have := hB1.out; omega⟩, hVw⟩
end Go.Proofs.YtoklbofobcloaaaDoor
