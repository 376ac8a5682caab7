/- Index: the document's table: Put and Take. -/
import Derived.Test.YtjeeljolhcoeoaaMxA
import Derived.Deep.AppendLies
import Derived.Deep.Cut
namespace Go.Proofs.Ytjeeljolhcoeoaa
open Go.RowKit Go.Shelf

theorem infoPair : (Try.prog.info? 111).map (fun i => (i.zero, i.size, i.bytes)) = some (some (.agg #[.int .i64 0, .int .i64 0]), 2, 16) := by kernel_rfl
theorem prCs_set (ps : List (Int × Int)) (i : Nat) (hi : i < ps.length) (y : Int) : (prCs ps).set (i * 2 + 1) (.int .i64 y) = prCs (ps.set i (ps[i].1, y)) := by
  induction ps generalizing i with
  | nil => simp at hi
  | cons x ps ih =>
    cases i with
    | zero => rfl
    | succ i =>
      have e : prCs (x :: ps) = .int .i64 x.1 :: .int .i64 x.2 :: prCs ps := rfl
      have := ih i (by simpa using hi)
      rw [e, show (i + 1) * 2 + 1 = (i * 2 + 1) + 1 + 1 from by omega, List.set_cons_succ, List.set_cons_succ, this]
      rfl
/-- the blocks of a table of the document's -/
def rfB (Rt : Nat) (v : Value) (b : Nat) : Prop := b = Rt ∨ v.ownBlock = some b
section
variable {w w' : World} {base Rt : Nat} {way : Int} {sz : Nat} {v : Value} {ps : List (Int × Int)}
theorem RF.ne (h : RF w base Rt way sz v ps) : v.ownBlock ≠ some Rt := by
  intro e
  rcases h.row.2 with ⟨hv, _⟩ | ⟨g, cap, cur, hv, _, hh, _⟩
  · rw [hv] at e; cases e
  · rw [hv] at e
    injection e with e; subst e
    rw [h.hR] at hh
    injection hh with hh
    injection hh with _ hh _
    exact absurd hh (by decide)
theorem RF.setV (h : RF w base Rt way sz v ps) {g c : Nat} (hv : v = .slice (some ⟨g, 0, none⟩) ps.length c) (i : Nat) (hi : i < ps.length) (y : Int) : RF (w.setCell ⟨g, i * 2 + 1, none⟩ (.int .i64 y)) base Rt way sz v (ps.set i (ps[i].1, y)) ∧ KeptR (rfB Rt v) w (w.setCell ⟨g, i * 2 + 1, none⟩ (.int .i64 y)) := by
  have hn := h.ne
  subst hv
  refine ⟨⟨?_, ?_⟩, (KeptR.refl _ w).set (.inl (.inr rfl))⟩
  · rw [heap_setCell_other _ _ _ _ (by show Rt ≠ g; intro e; subst e; exact hn rfl)]; exact h.hR
  · have := own_putI (j := i * 2 + 1) (u := .int .i64 y) h.row
    rw [prCs_set ps i hi y] at this
    rw [List.length_set]
    exact this
theorem RF.setS (h : RF w base Rt way sz v ps) (s2 : Nat) : RF (w.setCell ⟨Rt, 2, none⟩ (.int .i64 s2)) base Rt way s2 v ps ∧ KeptR (rfB Rt v) w (w.setCell ⟨Rt, 2, none⟩ (.int .i64 s2)) :=
  ⟨⟨by rw [heap_setCell_same _ _ _ _ _ _ h.hR]; rfl, own_setOther h.row h.ne⟩, (KeptR.refl _ w).set (.inl (.inl rfl))⟩
theorem RF.frozen (h : RF w base Rt way sz v ps) (i : Nat) : w.frozen? ⟨Rt, i, none⟩ = false := by
  unfold World.frozen?
  dsimp only
  rw [h.hR]
  rfl
theorem fz_row {w : World} {b : Nat} {cs : Array Value} {t : TypeId} (h : w.heap[b]? = some (.cells cs t)) (i : Nat) : w.frozen? ⟨b, i, none⟩ = false := by
  unfold World.frozen?
  dsimp only
  rw [h]
  rfl
/-- one pair more -/
theorem RF.more {w1 : World} {g c : Nat} {tmp : Obj} {x : Int × Int} (h : RF w base Rt way sz v ps) (hown : w1.ownsRow base 111 2 (.slice (some ⟨g, 0, none⟩) (ps.length + 1) c) (ps.length + 1) (prCs ps ++ [.int .i64 x.1, .int .i64 x.2])) (hgrow : (w.alloc tmp).grownBy w1 v.ownBlock) :
    w1.heap[Rt]? = some (.cells #[.int .i64 way, v, .int .i64 sz] 79) ∧ RF (w1.setCell ⟨Rt, 1, none⟩ (.slice (some ⟨g, 0, none⟩) (ps.length + 1) c)) base Rt way sz (.slice (some ⟨g, 0, none⟩) (ps.length + 1) c) (ps ++ [x]) ∧ KeptR (rfB Rt v) w (w1.setCell ⟨Rt, 1, none⟩ (.slice (some ⟨g, 0, none⟩) (ps.length + 1) c)) := by
  have hlt := (Array.getElem?_eq_some_iff.1 h.hR).1
  have hR1 : w1.heap[Rt]? = some (.cells #[.int .i64 way, v, .int .i64 sz] 79) := by
    rw [hgrow.block Rt (by rw [World.size_alloc]; omega) (fun e => h.ne e.symm), heap_alloc_old _ _ hlt]
    exact h.hR
  have hr1 : RF w1 base Rt way sz (.slice (some ⟨g, 0, none⟩) (ps.length + 1) c) (ps ++ [x]) → True := fun _ => trivial
  have hgR : g ≠ Rt := by
    rintro rfl
    rcases hown.2 with ⟨hv, _⟩ | ⟨g', cap, cur, hv, _, hh, _⟩
    · cases hv
    · injection hv with hv _ _; injection hv with hv; injection hv with hv _ _; subst hv
      rw [hR1] at hh; injection hh with hh; injection hh with _ hh _; exact absurd hh (by decide)
  refine ⟨hR1, ⟨by rw [heap_setCell_same _ _ _ _ _ _ hR1]; rfl, ?_⟩, (((KeptR.refl _ w).al tmp).grown hgrow (fun b e => .inl (.inr e))).set (.inl (.inl rfl))⟩
  rw [List.length_append, prCs_snoc]
  exact own_setOther hown (by intro e; injection e with e; exact hgR e)

set_option maxRecDepth 100000 in
set_option maxHeartbeats 4000000 in
theorem rf_Put (h : RF w base Rt way sz v ps) (hb : base ≤ w.heap.size) (key value : Int) (hl : ps.length ≤ 8388608) (hs : sz ≤ 16777216) : Calls Try.prog 34 #[.pointer (some ⟨Rt, 0, none⟩), .int .i64 key, .int .i64 value] w fun e w' =>
    (∃ i, ∃ hi : i < ps.length, sameF way ps[i].1 key = true ∧ e = .returned (.tuple #[.int .i64 ps[i].2, .bool true]) ∧ RF w' base Rt way sz v (ps.set i (ps[i].1, value)) ∧ KeptR (rfB Rt v) w w') ∨
    ((∀ j (hj : j < ps.length), sameF way ps[j].1 key = false) ∧ e = .returned (.tuple #[.int .i64 0, .bool false]) ∧ ∃ v', RF w' base Rt way (if 4 * (ps.length + 1) ≤ 3 * sz then sz else 2 * sz) v' (ps ++ [(key, value)]) ∧ (∀ b, v'.ownBlock = some b → v.ownBlock = some b ∨ w.heap.size ≤ b) ∧ KeptR (rfB Rt v) w w') := by
  obtain ⟨S2, hS2⟩ : ∃ S2, (if 4 * (ps.length + 1) ≤ 3 * sz then sz else 2 * sz) = S2 := ⟨_, rfl⟩
  rw [hS2]
  replace hS2 := Lib.hid hS2
  rcases rAt_cases way ps key with ⟨i, hi, hm, hbf, hr⟩ | ⟨hno, hr⟩
  · go_enter Try.func34, Try.ntmps34
    go_wp2_with fail
    refine (rf_At h key).mono ?_
    rintro e w1 ⟨rfl, hd⟩
    rw [hr]
    have h1 := h.below (hd.below _)
    have c1 := h1.c1
    obtain ⟨g, c, hv, _, p1⟩ := h1.pair i hi
    obtain ⟨h2, k2⟩ := h1.setV hv i hi value
    subst hv
    have f1 := own_frozenI h1.row (i * 2 + 1)
    obtain ⟨V, hV⟩ : ∃ V, ps[i].2 = V := ⟨_, rfl⟩
    rw [hV] at p1
    replace hr := Lib.hid hr
    replace hV := Lib.hid hV
    replace h2 := Lib.hid h2
    replace k2 := Lib.hid k2
    clear h1 hbf
    go_wp2_with fail
    go_ret2
    refine .inl ⟨i, hi, hm, by rw [hV.out]; rfl, h2.out, ?_⟩
    obtain ⟨n, rfl⟩ := hd
    exact kr_trans ((KeptR.refl _ w).drewN n) k2.out
  · have hw1 : IntKind.i64.wrap ((ps.length : Int) + 1) = (ps.length : Int) + 1 := IntWalk.i64_in _ (by omega)
    have hw4 : IntKind.i64.wrap (4 * ((ps.length : Int) + 1)) = 4 * ((ps.length : Int) + 1) := IntWalk.i64_in _ (by omega)
    have hw3 : IntKind.i64.wrap (3 * (sz : Int)) = 3 * (sz : Int) := IntWalk.i64_in _ (by omega)
    have hw2 : IntKind.i64.wrap (2 * (sz : Int)) = 2 * (sz : Int) := IntWalk.i64_in _ (by omega)
    obtain ⟨i0, hi, hz0, hz1, hz2⟩ := info_parts infoPair
    replace hno := Lib.hid hno
    go_enter Try.func34, Try.ntmps34
    go_wp2_with fail
    refine (rf_At h key).mono ?_
    rintro e w1 ⟨rfl, hd⟩
    rw [hr]
    have h1 := h.below (hd.below _)
    obtain ⟨va, vc, rfl, -⟩ := own_sliceI h1.row
    have c1 := h1.c1
    have c2 := h1.c2
    replace hr := Lib.hid hr
    go_wp2_with fail
    go_quiet (fail)
    have hd2 := hd.step nq
    have h3 := h.below (hd2.below _)
    generalize w1.drewN nq = W at hd2 h3 ⊢
    clear c1 c2 h1 hd
    by_cases hroom : 4 * (ps.length + 1) ≤ 3 * sz
    · have hgt : decide (3 * (sz : Int) < 4 * ((ps.length : Int) + 1)) = false := decide_eq_false (by omega)
      have c1 := h3.c1
      have c2 := h3.c2
      have f1 := h3.frozen 1
      replace hS2 := hS2.out
      rw [if_pos hroom] at hS2
      subst hS2
      have hbW : base ≤ W.heap.size := Nat.le_trans hb (hd2.below w.heap.size).size
      go_wp2_with (at_builtin; refine wpList_append_lies _ rfl (.tmp 57) (.tmp 61) 77 rfl base 111 i0 _ 2 16 Try.underlying77 hi hz0 hz1 hz2 rfl (by decide) _ ps.length _ rfl (h3.row.alloc _) ⟨W.heap.size, 0, none⟩ 1 1 [.int .i64 key, .int .i64 value] rfl rfl (World.news_of_block (cs := #[.int .i64 key, .int .i64 value]) (t := 111) (fr := (0, 0)) (heap_alloc_new W _)) (by simp [Value.oneCell']) (by decide) (by unfold maxLen; omega) (by omega) (by rw [World.size_alloc]; omega) (W.heap.size + 1) (by simp) ?_; intro g c wz hown1 hgrow hat hlt1; obtain ⟨m1, m2, m3⟩ := h3.more (x := (key, value)) hown1 hgrow; have cR1 : wz.cell? ⟨Rt, 1, none⟩ = some _ := cell_of_row _ _ _ _ _ _ m1; have fR1 := fz_row m1 1)
      go_ret2
      have hgl : g = W.heap.size + 1 ∨ (Value.slice va ps.length vc).ownBlock = some g := hat.symm
      refine .inr ⟨hno.out, rfl, _, m2, fun b hb2 => ?_, kr_trans (by obtain ⟨n, rfl⟩ := hd2; exact (KeptR.refl _ w).drewN n) m3⟩
      have hb2' : some g = some b := hb2
      injection hb2' with hb3; subst hb3
      rcases hgl with e | e
      · exact .inr (by have := (hd2.below w.heap.size).size; omega)
      · exact .inl e
    · have hgt : decide (3 * (sz : Int) < 4 * ((ps.length : Int) + 1)) = true := decide_eq_true (by omega)
      have c1 := h3.c1
      have c2 := h3.c2
      have f2 := h3.frozen 2
      replace hS2 := hS2.out
      rw [if_neg hroom] at hS2
      subst hS2
      have hbW : base ≤ W.heap.size := Nat.le_trans hb (hd2.below w.heap.size).size
      obtain ⟨h4, k4⟩ := h3.setS (2 * sz)
      have e2 : (((2 * sz : Nat)) : Int) = 2 * (sz : Int) := by omega
      rw [e2] at h4 k4
      have c4 := h4.c1
      have hbX : base ≤ (W.setCell ⟨Rt, 2, none⟩ (.int .i64 (2 * (sz : Int)))).heap.size := by rw [World.size_setCell]; exact hbW
      go_upto_region 8 with fail
      generalize W.setCell ⟨Rt, 2, none⟩ (.int .i64 (2 * (sz : Int))) = X at h4 k4 c4 hbX ⊢
      have hsX := k4.size
      clear c1 c2 f2 h3
      have c1 := h4.c1
      go_wp2_with (at_builtin; refine wpList_append_lies _ rfl (.tmp 57) (.tmp 61) 77 rfl base 111 i0 _ 2 16 Try.underlying77 hi hz0 hz1 hz2 rfl (by decide) _ ps.length _ rfl (h4.row.alloc _) ⟨X.heap.size, 0, none⟩ 1 1 [.int .i64 key, .int .i64 value] rfl rfl (World.news_of_block (cs := #[.int .i64 key, .int .i64 value]) (t := 111) (fr := (0, 0)) (heap_alloc_new X _)) (by simp [Value.oneCell']) (by decide) (by unfold maxLen; omega) (by omega) (by rw [World.size_alloc]; omega) (X.heap.size + 1) (by simp) ?_; intro g c wz hown1 hgrow hat hlt1; obtain ⟨m1, m2, m3⟩ := h4.more (x := (key, value)) hown1 hgrow; have cR1 : wz.cell? ⟨Rt, 1, none⟩ = some _ := cell_of_row _ _ _ _ _ _ m1; have fR1 := fz_row m1 1)
      go_ret2
      have hgl : g = X.heap.size + 1 ∨ (Value.slice va ps.length vc).ownBlock = some g := hat.symm
      refine .inr ⟨hno.out, rfl, _, m2, fun b hb2 => ?_, kr_trans (by obtain ⟨n, rfl⟩ := hd2; exact (KeptR.refl _ w).drewN n) (kr_trans k4 m3)⟩
      have hb2' : some g = some b := hb2
      injection hb2' with hb3; subst hb3
      rcases hgl with e | e
      · exact .inr (by have := (hd2.below w.heap.size).size; omega)
      · exact .inl e
end
end Go.Proofs.Ytjeeljolhcoeoaa
