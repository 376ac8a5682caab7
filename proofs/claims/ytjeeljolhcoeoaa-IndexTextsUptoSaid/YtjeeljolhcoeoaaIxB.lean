/- Index: a table that is not there does nothing. -/
import Derived.Test.YtjeeljolhcoeoaaIxA
import Derived.Test.YtjeeljolhcoeoaaRange
namespace Go.Proofs.Ytjeeljolhcoeoaa
open Go.RowKit Go.Shelf
attribute [local go_sem] Oper.semAt_some eql_fn_h eql_nn_h eql_fn_s eql_nn_s eql_fn_i eql_nn_i

theorem bx_below {W W' : World} {B : Nat} {t : TypeId} {v : Value} (h : Boxed W B t v) (hb : Below W.heap.size W W') : Boxed W' B t v := (hb.block B h.lt).trans h
theorem bx_own {W W' : World} {B : Nat} {t : TypeId} {v : Value} {row : Option Nat} (h : Boxed W B t v) (hg : W.grownBy W' row) (hr : ∀ r, row = some r → ∃ o : Obj, W.heap[r]? = some o ∧ o.isCells = false) : Boxed W' B t v :=
  boxed_own B t (fun (_ : Unit) => v) () W W' row h hg hr
theorem NT.own {W W' : World} {p : Option Addr} {row : Option Nat} (h : NT W p) (hg : W.grownBy W' row) (hr : ∀ r, row = some r → ∃ o : Obj, W.heap[r]? = some o ∧ o.isCells = false) : NT W' p := by
  rcases h with rfl | ⟨Z, rfl, hc⟩
  · exact .inl rfl
  · exact .inr ⟨Z, rfl, cell_kept hc hg hr⟩
theorem name_frame {P : Program} {c : Code} {Q : Exit → Act → World → Prop} {tm : Array Value} {ds : List Deferred} {w : World} (h : ∀ t, t = tm → c.wp P Q { tmps := t, defers := ds } w) : c.wp P Q { tmps := tm, defers := ds } w := h tm rfl
theorem own_def {A B : World} {row : Option Nat} {D Bd : Nat} {o : Obj} (h : A.heap[D]? = some o) (hD : D < Bd) (hg : A.grownBy B row) (hr : ∀ r, row = some r → Bd ≤ r ∧ ∃ o : Obj, A.heap[r]? = some o ∧ o.isCells = false) : B.heap[D]? = some o :=
  (hg.block D (Array.getElem?_eq_some_iff.1 h).1 (fun e => by have := (hr D e.symm).1; omega)).trans h
theorem al_heap {W : World} {k : Nat} {o : Obj} (ob : Obj) (h : W.heap[k]? = some o) : (W.alloc ob).heap[k]? = some o := (((Below.refl W.heap.size W).alloc (Nat.le_refl _) ob).block k (Array.getElem?_eq_some_iff.1 h).1).trans h
theorem set_def {W : World} {b D : Nat} {t : TypeId} {v u : Value} {ds : Option (List Deferred)} (h : W.heap[D]? = some (.deferred ds)) (hb : Boxed W b t v) : (W.setCell ⟨b, 0, none⟩ u).heap[D]? = some (.deferred ds) := by
  rw [heap_setCell_other _ _ _ _ (by show D ≠ b; intro e; subst e; rw [show W.heap[D]? = _ from hb] at h; cases h)]; exact h
theorem put_box {W : World} {b D : Nat} {t : TypeId} {v : Value} {ds : Option (List Deferred)} {o : Obj} (hb : Boxed W b t v) (h : W.heap[D]? = some (.deferred ds)) : Boxed (W.putObj D o) b t v := by
  show (W.putObj D o).heap[b]? = _
  rw [World.putObj_heap_other (by intro e; subst e; rw [show W.heap[b]? = _ from hb] at h; cases h)]; exact hb
theorem results_bool {P : Program} {fn : Func} {p : Tmp} {ty : TypeId} (h : fn.results = #[.cell p ty]) (hu : P.underlying ty = some .bool) (tmps : Array Value) (w : World) (g : Nat) (v : Value) (hp : tmps.getD p undef = .pointer (some ⟨g, 0, none⟩)) (hc : w.cell? ⟨g, 0, none⟩ = some v) :
    (results fn tmps).run P w = .ok v w := by
  have hp' : tmps[p]?.getD undef = .pointer (some ⟨g, 0, none⟩) := by simpa using hp
  have hu' : (underlying ty).run P w = .ok .bool w := run_underlying hu w
  simp [results, h, hp', asAddr, go_sem, isAgg, hu', hc]

theorem nt_stops_all (n Bt : Nat) (p : Option Addr) (w : World) (hB : Bt < w.heap.size) (hc : w.cell? ⟨Bt, 0, none⟩ = some (.pointer p)) (hn : NT w p) :
    SeqStopsK Fence.wide n Try.prog 52 #[.pointer (some ⟨Bt, 0, none⟩)] (fun x : Int × Int => #[.int .i64 x.1, .int .i64 x.2]) (fun _ _ => True) (fun xs => xs = []) (fun _ => False) 0 w := by
  intro l J Jx W hW _ _ _ h0
  have hc2 := (hW.cell (p := ⟨Bt, 0, none⟩) hB).trans hc
  have hn2 := hn.below hW
  refine callsIn_wide.2 ?_
  go_enter Try.func52, Try.ntmps52
  go_wp2_with (go_at_call 46; refine (ix_none_nt _ _ hn2).mono ?_; rintro e w' ⟨rfl, rfl⟩)
  refine bodyPost_ret (results_none rfl _ _ _) rfl ?_
  exact ⟨⟨_, rfl⟩, .inl ⟨_, rfl, h0⟩⟩
theorem nt_stops_lay (n Bt : Nat) (p : Option Addr) (w : World) (hB : Bt < w.heap.size) (hc : w.cell? ⟨Bt, 0, none⟩ = some (.pointer p)) (hn : NT w p) :
    SeqStopsK Fence.wide n Try.prog 51 #[.pointer (some ⟨Bt, 0, none⟩)] (fun x : Int × Int => #[.int .i64 x.1, .int .i64 x.2]) (fun _ _ => True) (fun xs => xs = []) (fun _ => False) 0 w := by
  intro l J Jx W hW _ _ _ h0
  have hc2 := (hW.cell (p := ⟨Bt, 0, none⟩) hB).trans hc
  have hn2 := hn.below hW
  refine callsIn_wide.2 ?_
  go_enter Try.func51, Try.ntmps51
  go_wp2_with (go_at_call 46; refine (ix_none_nt _ _ hn2).mono ?_; rintro e w' ⟨rfl, rfl⟩)
  refine bodyPost_ret (results_none rfl _ _ _) rfl ?_
  exact ⟨⟨_, rfl⟩, .inl ⟨_, rfl, h0⟩⟩

set_option maxRecDepth 100000 in
set_option maxHeartbeats 4000000 in
theorem ix_nothing (p : Option Addr) (k v : Int) (w : World) (h : NT w p) : Calls Try.prog 35 #[.pointer p, .int .i64 k, .int .i64 v] w fun e w' => e = .returned (.bool true) ∧ Below w.heap.size w w' := by
  refine callsIn_wide.1 (callsIn_of_wp_marks (n := 9) Try.func35 rfl trivial ?_ rfl)
  simp only [Try.ntmps35, List.size_toArray, List.length_cons, List.length_nil, Nat.reduceAdd, Nat.reduceSub, Array.replicate_succ, Array.replicate_zero, List.push_toArray, List.append_toArray, List.nil_append, List.cons_append]
  refine wpIn_wide.2 ?_
  have bR := Boxed.new w 4 (.bool false)
  have hb0 := (Below.refl w.heap.size w).alloc (Nat.le_refl _) (.cells #[.bool false] 4)
  have hn := h.below hb0
  have hn1 := (hn.below ((Below.refl _ _).alloc (Nat.le_refl _) (.cells #[.pointer p] 43)))
  go_wp2_with (first
    | (go_at_call 20; refine (ix_put_nt _ _ _ _ hn).mono ?_; rintro e w' ⟨rfl, rfl⟩)
    | (go_at_call 27; refine (ix_get_nt _ _ _ hn).mono ?_; rintro e w' ⟨rfl, rfl⟩)
    | (go_at_call 21; refine (ix_take_nt _ _ _ hn).mono ?_; rintro e w' ⟨rfl, rfl⟩)
    | (go_at_call 25; refine (ix_place_nt _ _ _ hn).mono ?_; rintro e w' ⟨rfl, rfl⟩)
    | (go_at_call 28; refine (ix_all _ _).mono ?_; rintro e w' ⟨rfl, rfl⟩)
    | (go_at_call 24; refine (ix_layout _ _).mono ?_; rintro e w' ⟨rfl, rfl⟩))
  have hb2 := ((((Below.refl w.heap.size w).alloc (Nat.le_refl _) (.cells #[.bool false] 4)).al (.cells #[.pointer p] 43)).al (.cells #[.pointer p] 43))
  have b1 := (Boxed.new (w.alloc (.cells #[.bool false] 4)) 43 (.pointer p)).alloc (.cells #[.pointer p] 43)
  have b2 := Boxed.new ((w.alloc (.cells #[.bool false] 4)).alloc (.cells #[.pointer p] 43)) 43 (.pointer p)
  have bR0 := (bR.alloc (.cells #[.pointer p] 43)).alloc (.cells #[.pointer p] 43)
  rw [World.size_alloc] at b1
  rw [World.size_alloc, World.size_alloc] at b2
  have hn0 := h.below hb2
  have hb0 := hb2
  clear hn hn1 hb2
  generalize ((w.alloc (.cells #[.bool false] 4)).alloc (.cells #[.pointer p] 43)).alloc (.cells #[.pointer p] 43) = W3 at b1 b2 bR0 hb0 hn0 ⊢
  refine name_frame ?_
  intro tm htm
  refine range_wide (P := Try.prog) (tm := tm) (ds := _) (gf := 52) (lb := #[.pointer (some ⟨w.heap.size + 1, 0, none⟩)]) (by rw [htm]; rfl) (enters_of Try.func52 (by kernel_rfl) rfl)
    (nt_stops_all 8 (w.heap.size + 1) p W3 b1.lt b1.cell hn0) (fun _ _ => trivial) (fun _ _ _ _ _ _ _ _ => trivial) (fun _ => rfl)
    (fun _ W => Boxed W w.heap.size 4 (.bool false) ∧ Boxed W (w.heap.size + 2) 43 (.pointer p) ∧ NT W p ∧ Below w.heap.size w W)
    (fun _ _ _ => False)
    (fun _ A B row hs hg hr => ⟨bx_own hs.1 hg (fun r e => (hr r e).2), bx_own hs.2.1 hg (fun r e => (hr r e).2), hs.2.2.1.own hg (fun r e => (hr r e).2), hs.2.2.2.grown hg hs.2.2.2.size (fun k e => Nat.le_trans hb0.size (hr k e).1)⟩)
    (fun _ _ _ _ _ h _ _ => h.elim)
    ⟨bR0, b2, hn0, hb0⟩
    (fun _ _ _ => True) (fun _ _ _ _ _ _ h _ _ => h)
    (fun x _ tm => ((#[55, 56] : Array Tmp).zip #[.int .i64 x.1, .int .i64 x.2]).foldl (fun t (p, v) => t.setIfInBounds p v) tm)
    ?assign0 ?body0 ?done0 ?stop0
  case assign0 =>
    intro l pre x W K hi hK
    refine wpIn_skip ?_
    exact hK 0 W (KeepsFrom.refl _ _) trivial hi trivial
  case body0 =>
    intro l pre x b W _ _ _ _ hlt
    exact absurd hlt (Nat.not_lt_zero _)
  case stop0 =>
    intro D c pre W _ h
    exact h.elim
  case done0 =>
    rintro D0 xs W hDl rfl ⟨bR1, b2, hn1, hb1⟩ hD0
    have hD0l : W3.heap.size ≤ D0 := hDl
    rw [htm]
    clear htm
    go_wp2_with fail
    have hD0s := (Array.getElem?_eq_some_iff.1 hD0).1
    refine name_frame ?_
    intro tm htm
    refine range_wide (P := Try.prog) (tm := tm) (ds := _) (gf := 51) (lb := #[.pointer (some ⟨w.heap.size + 2, 0, none⟩)]) (by rw [htm]; rfl) (enters_of Try.func51 (by kernel_rfl) rfl)
      (nt_stops_lay 8 (w.heap.size + 2) p W b2.lt b2.cell hn1) (fun _ _ => trivial) (fun _ _ _ _ _ _ _ _ => trivial) (fun _ => rfl)
      (fun _ W => Boxed W w.heap.size 4 (.bool false) ∧ Boxed W (w.heap.size + 2) 43 (.pointer p) ∧ NT W p ∧ Below w.heap.size w W ∧ W.heap[D0]? = some (.deferred (some [])))
      (fun _ _ _ => False)
      (fun _ A B row hs hg hr => ⟨bx_own hs.1 hg (fun r e => (hr r e).2), bx_own hs.2.1 hg (fun r e => (hr r e).2), hs.2.2.1.own hg (fun r e => (hr r e).2), hs.2.2.2.1.grown hg hs.2.2.2.1.size (fun k e => Nat.le_trans hb1.size (hr k e).1), own_def hs.2.2.2.2 (by omega) hg hr⟩)
      (fun _ _ _ _ _ h _ _ => h.elim)
      ⟨bR1, b2, hn1, hb1, hD0⟩
      (fun _ _ _ => True) (fun _ _ _ _ _ _ h _ _ => h)
      (fun x _ tm => ((#[58, 59] : Array Tmp).zip #[.int .i64 x.1, .int .i64 x.2]).foldl (fun t (p, v) => t.setIfInBounds p v) tm)
      ?assign1 ?body1 ?done1 ?stop1
    case assign1 =>
      intro l pre x W K hi hK
      refine wpIn_skip ?_
      exact hK 0 W (KeepsFrom.refl _ _) trivial hi trivial
    case body1 =>
      intro l pre x b W _ _ _ _ hlt
      exact absurd hlt (Nat.not_lt_zero _)
    case stop1 =>
      intro D c pre W _ h
      exact h.elim
    case done1 =>
      rintro D1 xs V hDl rfl ⟨bR2, b2, hn2, hb2, hD0⟩ hD1
      rw [htm]
      clear htm
      have cR := bR2.cell
      have fR := bR2.frozen
      go_wp2_with (first
        | (go_at_call 23; refine (ix_len_nt _ _ hn2).mono ?_; rintro e w' ⟨rfl, rfl⟩)
        | (go_at_call 22; refine (ix_size_nt _ _ hn2).mono ?_; rintro e w' ⟨rfl, rfl⟩)
        | (go_at_call 26; refine (ix_probes_nt _ _ _ hn2).mono ?_; rintro e w' ⟨rfl, rfl⟩)
        | (go_at_call 59; refine (ix_clone_nt _ _ hn2).mono ?_; rintro e w' ⟨rfl, rfl⟩))
      have hd5 := set_def (u := .bool true) hD0 bR2
      have hK5 := set_def (u := .bool true) hD1 bR2
      have bR5 := bR2.set (.bool true)
      have hb5 := hb2.setCell (p := ⟨w.heap.size, 0, none⟩) (by simp) (.bool true)
      have hne : D0 ≠ D1 := by omega
      have hq0 := hb0.size
      have hq1 := hb1.size
      clear hD0 hD1 cR fR
      generalize V.setCell ⟨w.heap.size, 0, none⟩ (.bool true) = w10 at hd5 hK5 bR5 hb5 ⊢
      refine ⟨by simp, .inl ⟨D1, _, rfl, run_takeDeferred hK5, ?_⟩⟩
      have hd6 : (w10.putObj D1 (.deferred none)).heap[D0]? = some (.deferred (some [])) := by rw [World.putObj_heap_other hne]; exact hd5
      refine ⟨by simp, .inl ⟨D0, _, rfl, run_takeDeferred hd6, ?_⟩⟩
      have bR6 : Boxed ((w10.putObj D1 (.deferred none)).putObj D0 (.deferred none)) w.heap.size 4 (.bool true) := put_box (put_box bR5 hK5) hd6
      have hb6 : Below w.heap.size w ((w10.putObj D1 (.deferred none)).putObj D0 (.deferred none)) := (hb5.trans (belowK_b (w := w) (Nat.le_refl _) w10 D1 _ _ (by omega) hK5 rfl rfl)).trans (belowK_b (w := w) (Nat.le_refl _) _ D0 _ _ (by omega) hd6 rfl rfl)
      exact ⟨.bool true, results_bool rfl Try.underlying4 _ _ _ _ rfl bR6.cell, rfl, hb6⟩

end Go.Proofs.Ytjeeljolhcoeoaa
