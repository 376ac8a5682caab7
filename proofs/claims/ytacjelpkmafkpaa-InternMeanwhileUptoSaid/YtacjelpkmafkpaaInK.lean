/- Intern: goes: All gone through, and once more. -/
import Derived.Test.YtacjelpkmafkpaaInJ
import Derived.RegionIn
import Derived.LoopN
import Derived.BigQuiet
import Derived.Deep.QuietTactic
import Derived.Deep.RegionHeld3
namespace Go.Proofs.Ytacjelpkmafkpaa
open Go.RowKit Go.Shelf It
attribute [local go_sem] Oper.semAt_some neq_map
theorem eql_func_nil (w : World) (B : Nat) : (binOp .eql 36 (.func (.func 26) #[] #[.pointer (some ⟨B, 0, none⟩)]) .nilFunc).run Try.prog w = .ok (.bool false) w := rfl
attribute [local go_sem] eql_func_nil
theorem bx_below {W W' : World} {B : Nat} {t : TypeId} {v : Value} (h : Boxed W B t v) (hb : Below W.heap.size W W') : Boxed W' B t v := (hb.block B h.lt).trans h
theorem bx_own {W W' : World} {B : Nat} {t : TypeId} {v : Value} {row : Option Nat} (h : Boxed W B t v) (hg : W.grownBy W' row) (hr : ∀ r, row = some r → ∃ o : Obj, W.heap[r]? = some o ∧ o.isCells = false) : Boxed W' B t v :=
  boxed_own B t (fun (_ : Unit) => v) () W W' row h hg hr
theorem name_frame {P : Program} {c : Code} {Q : Exit → Act → World → Prop} {tm : Array Value} {ds : List Deferred} {w : World} (h : ∀ t, t = tm → c.wp P Q { tmps := t, defers := ds } w) : c.wp P Q { tmps := tm, defers := ds } w := h tm rfl
theorem own_def {A B : World} {row : Option Nat} {D Bd : Nat} {o : Obj} (h : A.heap[D]? = some o) (hD : D < Bd) (hg : A.grownBy B row) (hr : ∀ r, row = some r → Bd ≤ r ∧ ∃ o : Obj, A.heap[r]? = some o ∧ o.isCells = false) : B.heap[D]? = some o :=
  (hg.block D (Array.getElem?_eq_some_iff.1 h).1 (fun e => by have := (hr D e.symm).1; omega)).trans h
theorem al_heap {W : World} {k : Nat} {o : Obj} (ob : Obj) (h : W.heap[k]? = some o) : (W.alloc ob).heap[k]? = some o := (((Below.refl W.heap.size W).alloc (Nat.le_refl _) ob).block k (Array.getElem?_eq_some_iff.1 h).1).trans h
theorem set_def {W : World} {b D : Nat} {t : TypeId} {v u : Value} {ds : Option (List Deferred)} (h : W.heap[D]? = some (.deferred ds)) (hb : Boxed W b t v) : (W.setCell ⟨b, 0, none⟩ u).heap[D]? = some (.deferred ds) := by
  rw [heap_setCell_other _ _ _ _ (by show D ≠ b; intro e; subst e; rw [show W.heap[D]? = _ from hb] at h; cases h)]; exact h
theorem own_drew {W : World} {D : Nat} {o : Obj} (h : W.heap[D]? = some o) : W.drew.heap[D]? = some o := h
theorem put_box {W : World} {b D : Nat} {t : TypeId} {v : Value} {ds : Option (List Deferred)} {o : Obj} (hb : Boxed W b t v) (h : W.heap[D]? = some (.deferred ds)) : Boxed (W.putObj D o) b t v := by
  show (W.putObj D o).heap[b]? = _
  rw [World.putObj_heap_other (by intro e; subst e; rw [show W.heap[b]? = _ from hb] at h; cases h)]; exact hb
theorem results_bool {P : Program} {fn : Func} {p : Tmp} {ty : TypeId} (h : fn.results = #[.cell p ty]) (hu : P.underlying ty = some .bool) (tmps : Array Value) (w : World) (g : Nat) (v : Value) (hp : tmps.getD p undef = .pointer (some ⟨g, 0, none⟩)) (hc : w.cell? ⟨g, 0, none⟩ = some v) :
    (results fn tmps).run P w = .ok v w := by
  have hp' : tmps[p]?.getD undef = .pointer (some ⟨g, 0, none⟩) := by simpa using hp
  have hu' : (underlying ty).run P w = .ok .bool w := run_underlying hu w
  simp [results, h, hp', asAddr, go_sem, isAgg, hu', hc]
theorem ko_below {A B : World} (h : Below A.heap.size A B) : KeepsOthers A B := ⟨h.size, fun j _ e _ => (h.block j (Array.getElem?_eq_some_iff.1 e).1).trans e⟩
theorem prefix_snoc {pre l : List Nat} {x : Nat} (h : pre <+: l) (hlt : pre.length < l.length) (hx : l[pre.length] = x) : pre ++ [x] <+: l := by
  obtain ⟨t, rfl⟩ := h
  cases t with
  | nil => simp at hlt
  | cons y t =>
    rw [List.getElem_append_right (by omega)] at hx
    simp at hx
    subst hx
    exact ⟨t, by simp⟩
theorem prefix_get {pre l : List Nat} {x T : Nat} (h : pre ++ [x] <+: l) (hlt : pre.length < l.length) (hx : l[pre.length] = T) : x = T := by
  obtain ⟨t, rfl⟩ := h
  rw [← hx]
  simp
section
variable {w W W' : World} {B b mb Br rb : Nat} {v rv : Value} {L : List ByteArray}
theorem Tab.own (h : Tab W B b v mb L) {M : Nat} (hM : ∀ k, TabB b v mb k → k < M) {row : Option Nat} (hg : W.grownBy W' row) (hr : ∀ r, row = some r → M ≤ r ∧ ∃ o : Obj, W.heap[r]? = some o ∧ o.isCells = false) : Tab W' B b v mb L :=
  h.kept (S := fun k => row = some k) ((KeptR.refl _ W).grown hg fun _ hk => .inl hk) fun k hk e => by have := (hr k e).1; have := hM k hk; omega
theorem RTab.own (h : RTab W Br rb rv L) {M : Nat} (hM : ∀ k, RTabB rb rv k → k < M) {row : Option Nat} (hg : W.grownBy W' row) (hr : ∀ r, row = some r → M ≤ r ∧ ∃ o : Obj, W.heap[r]? = some o ∧ o.isCells = false) : RTab W' Br rb rv L :=
  h.kept (S := fun k => row = some k) ((KeptR.refl _ W).grown hg fun _ hk => .inl hk) fun k hk e => by have := (hr k e).1; have := hM k hk; omega
theorem Tab.set (h : Tab W B b v mb L) {g i : Nat} {u : Value} (hg : ¬ TabB b v mb g) : Tab (W.setCell ⟨g, i, none⟩ u) B b v mb L :=
  h.kept (S := (· = g)) ((KeptR.refl _ W).set (.inl rfl)) fun _ hk e => hg (e ▸ hk)
theorem RTab.set (h : RTab W Br rb rv L) {g i : Nat} {u : Value} (hg : ¬ RTabB rb rv g) : RTab (W.setCell ⟨g, i, none⟩ u) Br rb rv L :=
  h.kept (S := (· = g)) ((KeptR.refl _ W).set (.inl rfl)) fun _ hk e => hg (e ▸ hk)
/-- what stands while a table is gone through: the boxes of r, of leave, of the answer, of t; both tables -/
structure GS (w : World) (B4 B5 B6 BT B b : Nat) (v : Value) (mb Br rb : Nat) (rv : Value) (L : List ByteArray) (W : World) : Prop where
  b4 : Boxed W B4 25 (.pointer (some ⟨rb, 0, none⟩))
  b5 : Boxed W B5 3 (.int .i64 0)
  b6 : Boxed W B6 4 (.bool false)
  bT : Boxed W BT 23 (.pointer (some ⟨b, 0, none⟩))
  tab : Tab W B b v mb L
  rt : RTab W Br rb rv L
  bel : Below w.heap.size w W
  lt : ∀ k, TabB b v mb k ∨ RTabB rb rv k → k < w.heap.size
  h4 : w.heap.size ≤ B4 ∧ B4 < B5 ∧ B5 < B6 ∧ B6 < BT
variable {B4 B5 B6 BT : Nat}
theorem GS.below (h : GS w B4 B5 B6 BT B b v mb Br rb rv L W) (hb : Below W.heap.size W W') : GS w B4 B5 B6 BT B b v mb Br rb rv L W' :=
  ⟨bx_below h.b4 hb, bx_below h.b5 hb, bx_below h.b6 hb, bx_below h.bT hb, h.tab.below hb, h.rt.below hb, h.bel.trans (hb.mono h.bel.size), h.lt, h.h4⟩
theorem GS.own (h : GS w B4 B5 B6 BT B b v mb Br rb rv L W) {M : Nat} (hM : w.heap.size ≤ M) {row : Option Nat} (hg : W.grownBy W' row) (hr : ∀ r, row = some r → M ≤ r ∧ ∃ o : Obj, W.heap[r]? = some o ∧ o.isCells = false) : GS w B4 B5 B6 BT B b v mb Br rb rv L W' := by
  have hr2 := fun r e => (hr r e).2
  exact ⟨bx_own h.b4 hg hr2, bx_own h.b5 hg hr2, bx_own h.b6 hg hr2, bx_own h.bT hg hr2, h.tab.own (fun k hk => Nat.lt_of_lt_of_le (h.lt k (.inl hk)) hM) hg hr, h.rt.own (fun k hk => Nat.lt_of_lt_of_le (h.lt k (.inr hk)) hM) hg hr, h.bel.grown hg h.bel.size (fun k e => Nat.le_trans hM (hr k e).1), h.lt, h.h4⟩
theorem GS.set (h : GS w B4 B5 B6 BT B b v mb Br rb rv L W) {g : Nat} (u : Value) (hg : BT < g) : GS w B4 B5 B6 BT B b v mb Br rb rv L (W.setCell ⟨g, 0, none⟩ u) := by
  obtain ⟨h1, h2, h3, h4⟩ := h.h4
  exact ⟨h.b4.other (by omega) _, h.b5.other (by omega) _, h.b6.other (by omega) _, h.bT.other (by omega) _, h.tab.set (fun hk => by have := h.lt _ (.inl hk); omega), h.rt.set (fun hk => by have := h.lt _ (.inr hk); omega), h.bel.setCell (p := ⟨g, 0, none⟩) (by show w.heap.size ≤ g; omega) _, h.lt, h.h4⟩
end
theorem KpS.put {va : Option Addr} {n N : Nat} (hv : ∀ g, va = some ⟨g, 0, none⟩ → g < N) (W : World) (l : Nat) (o' : Obj) (hl : N ≤ l) : KpS va n W (W.putObj l o') := by
  refine ⟨(grownBy_putObj' W l o').size, fun g j e _ => World.cell?_of_block ?_⟩
  have hg := hv g e
  have hne : g ≠ l := by omega
  first | exact World.putObj_heap_other hne | exact World.putObj_heap_other hne.symm
theorem KpS.set {va : Option Addr} {n N : Nat} (hv : ∀ g, va = some ⟨g, 0, none⟩ → g < N) (W : World) (l : Nat) (u : Value) (hl : N ≤ l) : KpS va n W (W.setCell ⟨l, 0, none⟩ u) := by
  refine ⟨by rw [World.size_setCell]; exact Nat.le_refl _, fun g j e _ => ?_⟩
  have hg := hv g e
  exact World.cell?_of_block (heap_setCell_other _ _ _ _ (by show g ≠ l; omega))
set_option maxRecDepth 100000 in
set_option maxHeartbeats 8000000 in
theorem w1_goes {w : World} {B b mb Br rb : Nat} {va : Option Addr} {vc : Nat} {rv : Value} {L : List ByteArray} (hT : Tab w B b (.slice va L.length vc) mb L) (hR : RTab w Br rb rv L) :
    Calls Try.prog 15 #[.pointer (some ⟨b, 0, none⟩), .pointer (some ⟨rb, 0, none⟩), .int .i64 0] w fun e w' => e = .returned (.bool true) ∧ Below w.heap.size w w' := by
  obtain ⟨ra, rc, rfl, -⟩ := own_slice hR.row
  have hLn := hT.len
  have hT0 := Lib.hid hT
  have hR0 := Lib.hid hR
  clear hT hR
  refine callsIn_wide.1 (callsIn_of_wp_marks (n := 9) Try.func15 rfl trivial ?_ rfl)
  simp only [Try.ntmps15, List.size_toArray, List.length_cons, List.length_nil, Nat.reduceAdd, Nat.reduceSub, Array.replicate_succ, Array.replicate_zero, List.push_toArray, List.append_toArray, List.nil_append, List.cons_append]
  refine wpIn_wide.2 ?_
  go_wp2_with (go_at_call 10; refine (in_All _ _).mono ?_; rintro e w1 ⟨rfl, rfl⟩)
  have hG0 : GS w w.heap.size (w.heap.size + 1) (w.heap.size + 1 + 1) (w.heap.size + 1 + 1 + 1) B b (.slice va L.length vc) mb Br rb (.slice ra L.length rc) L (((((w.alloc (.cells #[.pointer (some ⟨rb, 0, none⟩)] 25)).alloc (.cells #[.int .i64 0] 3)).alloc (.cells #[.bool false] 4)).alloc (.cells #[.pointer (some ⟨b, 0, none⟩)] 23)).alloc (.cells #[.int .i64 0] 3)) ∧ Boxed (((((w.alloc (.cells #[.pointer (some ⟨rb, 0, none⟩)] 25)).alloc (.cells #[.int .i64 0] 3)).alloc (.cells #[.bool false] 4)).alloc (.cells #[.pointer (some ⟨b, 0, none⟩)] 23)).alloc (.cells #[.int .i64 0] 3)) (w.heap.size + 1 + 1 + 1 + 1) 3 (.int .i64 0) := by
    have e1 := World.size_alloc w (.cells #[.pointer (some ⟨rb, 0, none⟩)] 25)
    have b4 := Boxed.new w 25 (.pointer (some ⟨rb, 0, none⟩))
    have h1 : Below w.heap.size w (w.alloc (.cells #[.pointer (some ⟨rb, 0, none⟩)] 25)) := (Below.refl _ _).al _
    generalize w.alloc (.cells #[.pointer (some ⟨rb, 0, none⟩)] 25) = X1 at *
    have e2 := World.size_alloc X1 (.cells #[.int .i64 0] 3)
    have b5 := Boxed.new X1 3 (.int .i64 0)
    replace b4 := b4.alloc (.cells #[.int .i64 0] 3)
    have h2 := h1.al (.cells #[.int .i64 0] 3)
    generalize X1.alloc (.cells #[.int .i64 0] 3) = X2 at *
    have e3 := World.size_alloc X2 (.cells #[.bool false] 4)
    have b6 := Boxed.new X2 4 (.bool false)
    replace b4 := b4.alloc (.cells #[.bool false] 4)
    replace b5 := b5.alloc (.cells #[.bool false] 4)
    have h3 := h2.al (.cells #[.bool false] 4)
    generalize X2.alloc (.cells #[.bool false] 4) = X3 at *
    have e4 := World.size_alloc X3 (.cells #[.pointer (some ⟨b, 0, none⟩)] 23)
    have bT := Boxed.new X3 23 (.pointer (some ⟨b, 0, none⟩))
    have al := (Below.refl X3.heap.size X3).al (.cells #[.pointer (some ⟨b, 0, none⟩)] 23)
    replace b4 := bx_below b4 al
    replace b5 := bx_below b5 al
    replace b6 := bx_below b6 al
    have h4 := h3.al (.cells #[.pointer (some ⟨b, 0, none⟩)] 23)
    generalize X3.alloc (.cells #[.pointer (some ⟨b, 0, none⟩)] 23) = X4 at *
    have bN := Boxed.new X4 3 (.int .i64 0)
    have al := (Below.refl X4.heap.size X4).al (.cells #[.int .i64 0] 3)
    have h5 := h4.al (.cells #[.int .i64 0] 3)
    replace b4 := bx_below b4 al
    replace b5 := bx_below b5 al
    replace b6 := bx_below b6 al
    replace bT := bx_below bT al
    generalize X4.alloc (.cells #[.int .i64 0] 3) = X5 at *
    rw [e1] at b5 e2
    rw [e2] at b6 e3
    rw [e3] at bT e4
    rw [e4] at bN
    exact ⟨⟨b4, b5, b6, bT, hT0.out.below h5, hR0.out.below h5, h5, (fun k hk => hk.elim (fun h => (hT0.out.lt k h).2) (fun h => (hR0.out.lt k h).2)), by omega⟩, bN⟩
  generalize (((((w.alloc (.cells #[.pointer (some ⟨rb, 0, none⟩)] 25)).alloc (.cells #[.int .i64 0] 3)).alloc (.cells #[.bool false] 4)).alloc (.cells #[.pointer (some ⟨b, 0, none⟩)] 23)).alloc (.cells #[.int .i64 0] 3)) = W1 at hG0 ⊢
  obtain ⟨hG1, hn1⟩ := hG0
  have hsz1 := hG1.bel.size
  refine name_frame ?_
  intro tm htm
  refine range_wide (P := Try.prog) (tm := tm) (ds := _) (gf := 26) (lb := #[.pointer (some ⟨(w.heap.size + 1 + 1 + 1), 0, none⟩)]) (by rw [htm]; rfl) (enters_of Try.func26 (by kernel_rfl) rfl)
    (all_stops 8 (w.heap.size + 1 + 1 + 1) W1 hG1.tab hG1.bT.lt hG1.bT.cell) KpS.trans (fun W l _ o' hl _ _ _ => KpS.put (fun g e => (own_lt hG1.tab.row g (by rw [e]; rfl)).2) W l o' hl) (fun _ => rfl)
    (fun pre W => GS w w.heap.size (w.heap.size + 1) (w.heap.size + 1 + 1) (w.heap.size + 1 + 1 + 1) B b (.slice va L.length vc) mb Br rb (.slice ra L.length rc) L W ∧ Boxed W (w.heap.size + 1 + 1 + 1 + 1) 3 (.int .i64 (pre.length : Nat)) ∧ pre <+: List.range L.length)
    (fun c pre W => c = .ret ∧ ¬ pre <+: List.range L.length)
    (fun pre A B' row hs hg hr => ⟨hs.1.own hsz1 hg hr, bx_own hs.2.1 hg (fun r e => (hr r e).2), hs.2.2⟩)
    (fun c pre A B' row hs hg hr => hs)
    ⟨hG1, hn1, List.nil_prefix⟩
    (fun _ _ _ => True) (fun _ _ _ _ _ _ _ _ _ => trivial)
    (fun x _ tm => (((tm.setIfInBounds 16 (.int .i64 (x : Int))).setIfInBounds 17 (.string (L.getD x ⟨#[]⟩))).setIfInBounds 9 (.int .i64 (x : Int))).setIfInBounds 10 (.string (L.getD x ⟨#[]⟩)))
    ?assign1 ?body1 ?done1 ?stop1
  case assign1 =>
    rintro l pre x W K hi hK
    rw [htm] at hK ⊢
    simp only [itemE]
    gi_wp2
    exact hK 0 _ ((KeepsOthers.refl _).from _) (KpS.refl _ _ _) hi trivial
  case body1 =>
    rintro l pre x _ W hl hr ⟨hG, hbn, hpre⟩ _ hlt
    rw [htm]
    have cn := hbn.cell
    have fn := hbn.frozen
    have c4 := hG.b4.cell
    have c5 := hG.b5.cell
    have c6 := hG.b6.cell
    have f6 := hG.b6.frozen
    have cr := hG.rt.cells.1
    have hvl := Lib.hid fun (g : Nat) (e : va = some ⟨g, 0, none⟩) => hG.lt g (.inl (.inr (.inr (show (Value.slice va L.length vc).ownBlock = some g by rw [e]; rfl))))
    have hL : Hid (∀ n, Calls Try.prog 11 #[.pointer (some ⟨rb, 0, none⟩)] (W.drewN n) fun e w' => e = .returned (.int .i64 L.length) ∧ ∃ m, w' = W.drewN m) := Lib.hid fun n => (rf_Len (hG.rt.below (below_drewN (Below.refl _ _) n))).mono fun e w' h => ⟨h.1, n, h.2.symm⟩
    obtain ⟨g, hra, q0⟩ := row_txt hG.rt.row pre.length hlt
    have hge2 : decide (L.length ≤ pre.length) = false := decide_eq_false (by omega)
    have hge : decide ((L.length : Int) ≤ (pre.length : Int)) = false := decide_eq_false (by omega)
    have hwn : IntKind.i64.wrap ((pre.length : Int) + 1) = (pre.length : Int) + 1 := IntWalk.i64_in _ (by omega)
    have hz0 : ((pre.length : Int) + 1 == 0) = false := by rw [beq_eq_false_iff_ne]; omega
    have hk0 : (0 : Int) ≤ (pre.length : Int) := Int.natCast_nonneg _
    have hki : (pre.length : Int) < (L.length : Int) := by omega
    have hrl : (List.range L.length)[pre.length]'(by rw [List.length_range]; exact hlt) = pre.length := List.getElem_range _
    simp only [List.setIfInBounds_toArray, List.set_cons_succ, List.set_cons_zero]
    replace hG := Lib.hid hG
    rw [hra] at cr
    by_cases hx : x = pre.length
    · have hpre2 := Lib.hid (prefix_snoc hpre (by rw [List.length_range]; exact hlt) hrl)
      rw [hx]
      have hss : ∀ s : ByteArray, (s.toList != s.toList) = false := fun s => by simp
      have hnn : ((pre.length : Int) != (pre.length : Int)) = false := by simp
      clear hrl hx
      obtain ⟨s, hs⟩ : ∃ s, L.getD pre.length ⟨#[]⟩ = s := ⟨_, rfl⟩
      rw [hs] at q0 ⊢
      replace hs := Lib.hid hs
      have hs1 := hss s
      clear hss
      gi_wp2
      refine wpIn_region_quiet_round (by kernel_rfl) (by kernel_rfl) (by kernel_rfl) ?_
      repeat (first | go_big_quiet_step ((go_at_call 11; with_reducible exact hL.out _)) | quiet_step (fail))
      refine wpQuiet_nil ?_
      rintro _ ⟨nq, rfl⟩
      have hdr : Below W.heap.size W (W.drewN nq) := below_drewN (Below.refl _ _) _
      generalize W.drewN nq = X at hdr ⊢
      replace cn := cell_below hdr rfl cn
      replace fn := (hdr.frozen (p := ⟨w.heap.size + 1 + 1 + 1 + 1, 0, none⟩) hbn.lt).trans fn
      replace c5 := cell_below hdr rfl c5
      clear c4 c6 f6 cr q0 hs1 hL
      have hGv := Lib.hid (hG.out.below hdr)
      replace hbn := bx_below hbn hdr
      have hGs := Lib.hid (hGv.out.set (g := w.heap.size + 1 + 1 + 1 + 1) (.int .i64 ((pre.length : Int) + 1)) (by omega))
      have hbn2 := hbn.set (.int .i64 ((pre.length : Int) + 1))
      have c52 := hGs.out.b5.cell
      have cn2 := hbn2.cell
      have hkf := Lib.hid (((ko_below hdr).trans (KeepsOthers.setCell X ⟨w.heap.size + 1 + 1 + 1 + 1, 0, none⟩ (.int .i64 ((pre.length : Int) + 1)))).from W1.heap.size)
      have hkp := Lib.hid (KpS.trans (KpS.below (va := va) (n := L.length) hdr (fun g e => Nat.lt_of_lt_of_le (hvl.out g e) hG.out.bel.size)) (KpS.set (N := w.heap.size) hvl.out X (w.heap.size + 1 + 1 + 1 + 1) (.int .i64 ((pre.length : Int) + 1)) (by omega)))
      gi_wp2
      exact ⟨hkf.out, hkp.out, hGs.out, by rw [List.length_append]; exact hbn2, hpre2.out⟩
    · have hnn : ((x : Int) != (pre.length : Int)) = true := by simp; omega
      have hno := Lib.hid fun h => hx (prefix_get h (by rw [List.length_range]; exact hlt) hrl)
      clear hrl hx
      generalize L.getD x ⟨#[]⟩ = sx
      gi_wp2
      refine wpIn_region_quiet_round (by kernel_rfl) (by kernel_rfl) (by kernel_rfl) ?_
      repeat (first | go_big_quiet_step ((go_at_call 11; with_reducible exact hL.out _)) | quiet_step (fail))
      refine wpQuiet_nil ?_
      rintro _ ⟨nq, rfl⟩
      have hdr : Below W.heap.size W (W.drewN nq) := below_drewN (Below.refl _ _) _
      generalize W.drewN nq = X at hdr ⊢
      replace c6 := cell_below hdr rfl c6
      replace f6 := (hdr.frozen (p := ⟨w.heap.size + 1 + 1, 0, none⟩) hG.out.b6.lt).trans f6
      clear cn fn c4 c5 cr q0 hL
      gi_wp2
      exact ⟨((ko_below hdr).trans (KeepsOthers.setCell X _ _)).from _, rfl, hno.out⟩
  case done1 =>
    rintro D0 xs W hD0 rfl ⟨hG, hbn, -⟩ hK
    rw [List.length_range] at hbn
    rw [htm]
    have cn := hbn.cell
    have fn := hbn.frozen
    have c4 := hG.b4.cell
    have c5 := hG.b5.cell
    have hL : Hid (∀ n, Calls Try.prog 11 #[.pointer (some ⟨rb, 0, none⟩)] (W.drewN n) fun e w' => e = .returned (.int .i64 L.length) ∧ ∃ m, w' = W.drewN m) := Lib.hid fun n => (rf_Len (hG.rt.below (below_drewN (Below.refl _ _) n))).mono fun e w' h => ⟨h.1, n, h.2.symm⟩
    have hnn : ((L.length : Int) != (L.length : Int)) = false := by simp
    replace hG := Lib.hid hG
    clear htm
    go_wp2_with fail
    go_quiet ((go_at_call 11; with_reducible exact hL.out _))
    have hdr : Below W.heap.size W (W.drewN nq) := below_drewN (Below.refl _ _) _
    generalize W.drewN nq = X at hdr ⊢
    have hGv := hG.out.below hdr
    replace hbn := bx_below hbn hdr
    replace hK := (hdr.block _ (Array.getElem?_eq_some_iff.1 hK).1).trans hK
    replace cn := hbn.cell
    replace fn := hbn.frozen
    clear c4 c5 hL hnn hG hdr
    have hG2 := hGv.set (g := w.heap.size + 1 + 1 + 1 + 1) (.int .i64 0) (by omega)
    have hbn2 := hbn.set (.int .i64 0)
    have hD2 := set_def (u := .int .i64 0) hK hbn
    replace hGv := Lib.hid hGv
    clear hbn hK
    go_wp2_with fail
    clear cn fn hGv
    generalize X.setCell ⟨w.heap.size + 1 + 1 + 1 + 1, 0, none⟩ (.int .i64 0) = X2 at hG2 hbn2 hD2 ⊢
    have hsz2 := hG2.bel.size
    have hDl := (Array.getElem?_eq_some_iff.1 hD2).1
    refine name_frame ?_
    intro tm2 htm2
    refine range_wide (P := Try.prog) (tm := tm2) (ds := _) (gf := 26) (lb := #[.pointer (some ⟨(w.heap.size + 1 + 1 + 1), 0, none⟩)]) (by rw [htm2]; rfl) (enters_of Try.func26 (by kernel_rfl) rfl)
      (all_stops 8 (w.heap.size + 1 + 1 + 1) X2 hG2.tab hG2.bT.lt hG2.bT.cell) KpS.trans (fun W l _ o' hl _ _ _ => KpS.put (fun g e => (own_lt hG2.tab.row g (by rw [e]; rfl)).2) W l o' hl) (fun _ => rfl)
      (fun pre W => GS w w.heap.size (w.heap.size + 1) (w.heap.size + 1 + 1) (w.heap.size + 1 + 1 + 1) B b (.slice va L.length vc) mb Br rb (.slice ra L.length rc) L W ∧ Boxed W (w.heap.size + 1 + 1 + 1 + 1) 3 (.int .i64 (pre.length : Nat)) ∧ W.heap[D0]? = some (.deferred (some [])))
      (fun c pre W => False)
      (fun pre A B' row hs hg hr => ⟨hs.1.own hsz2 hg hr, bx_own hs.2.1 hg (fun r e => (hr r e).2), own_def hs.2.2 hDl hg hr⟩)
      (fun c pre A B' row hs hg hr => hs)
      ⟨hG2, hbn2, hD2⟩
      (fun _ _ _ => True) (fun _ _ _ _ _ _ _ _ _ => trivial)
      (fun x _ tm => (tm.setIfInBounds 64 (.int .i64 (x : Int))).setIfInBounds 65 (.string (L.getD x ⟨#[]⟩)))
      ?assign2 ?body2 ?done2 ?stop2
    case assign2 =>
      rintro l pre x W K hi hK
      rw [htm2] at hK ⊢
      simp only [itemE]
      gi_wp2
      go_simp
      exact hK 0 _ ((KeepsOthers.refl _).from _) (KpS.refl _ _ _) hi trivial
    case body2 =>
      rintro l pre x _ W hl hr ⟨hG, hbn, hD⟩ _ hlt
      rw [htm2]
      have cn := hbn.cell
      have fn := hbn.frozen
      have hvl := Lib.hid fun (g : Nat) (e : va = some ⟨g, 0, none⟩) => hG.lt g (.inl (.inr (.inr (show (Value.slice va L.length vc).ownBlock = some g by rw [e]; rfl))))
      have hwn : IntKind.i64.wrap ((pre.length : Int) + 1) = (pre.length : Int) + 1 := IntWalk.i64_in _ (by omega)
      have hGs := Lib.hid (hG.set (g := w.heap.size + 1 + 1 + 1 + 1) (.int .i64 ((pre.length : Int) + 1)) (by omega))
      have hbn2 := Lib.hid (hbn.set (.int .i64 ((pre.length : Int) + 1)))
      have hD3 := Lib.hid (set_def (u := .int .i64 ((pre.length : Int) + 1)) hD hbn)
      have hkf := Lib.hid ((KeepsOthers.setCell W ⟨w.heap.size + 1 + 1 + 1 + 1, 0, none⟩ (.int .i64 ((pre.length : Int) + 1))).from X2.heap.size)
      have hkp := Lib.hid (KpS.set (n := L.length) (N := w.heap.size) hvl.out W (w.heap.size + 1 + 1 + 1 + 1) (.int .i64 ((pre.length : Int) + 1)) (by omega))
      simp only [List.setIfInBounds_toArray, List.set_cons_succ, List.set_cons_zero]
      clear hG hbn hD
      gi_wp2
      exact ⟨hkf.out, hkp.out, hGs.out, by rw [List.length_append]; exact hbn2.out, hD3.out⟩
    case done2 =>
      rintro D1 xs W hD1 rfl ⟨hG, hbn, hD⟩ hK
      rw [List.length_range] at hbn
      rw [htm2]
      have cn := hbn.cell
      have c4 := hG.b4.cell
      have c6 := hG.b6.cell
      have f6 := hG.b6.frozen
      have hne : D0 ≠ D1 := by omega
      have hdr : Below W.heap.size W W.drew := (Below.refl _ _).drew
      have hL : Hid (Calls Try.prog 11 #[.pointer (some ⟨rb, 0, none⟩)] W.drew fun e w' => e = .returned (.int .i64 L.length) ∧ W.drew = w') := Lib.hid (rf_Len (hG.rt.below hdr))
      have hee : ((L.length : Int) == (L.length : Int)) = true := by simp
      replace hG := Lib.hid hG
      clear htm2
      go_wp2_with fail
      refine wp_region_noPanic ?_
      go_region_with (go_at_call 11; refine hL.out.mono ?_; rintro e w' ⟨rfl, rfl⟩)
      all_goals refine NoPanic.normal ?_
      all_goals go_wp2_with fail
      all_goals
        have hd5 := own_drew (set_def (u := .bool true) hD hG.out.b6)
        have hK5 := own_drew (set_def (u := .bool true) hK hG.out.b6)
        have bR5 : Boxed (W.setCell ⟨w.heap.size + 1 + 1, 0, none⟩ (.bool true)).drew (w.heap.size + 1 + 1) 4 (.bool true) := hG.out.b6.set (.bool true)
        have hb5 := (hG.out.bel.setCell (p := ⟨w.heap.size + 1 + 1, 0, none⟩) (by simp; omega) (.bool true)).drew
        have hszD := hG.out.bel.size
        clear hG cn c4 c6 f6 hdr hL hee hD hK
        generalize (W.setCell ⟨w.heap.size + 1 + 1, 0, none⟩ (.bool true)).drew = w10 at hd5 hK5 bR5 hb5 ⊢
        refine ⟨by simp, .inl ⟨D1, _, rfl, run_takeDeferred hK5, ?_⟩⟩
        have hd6 : (w10.putObj D1 (.deferred none)).heap[D0]? = some (.deferred (some [])) := by rw [World.putObj_heap_other hne]; exact hd5
        refine ⟨by simp, .inl ⟨D0, _, rfl, run_takeDeferred hd6, ?_⟩⟩
        have bR6 : Boxed ((w10.putObj D1 (.deferred none)).putObj D0 (.deferred none)) (w.heap.size + 1 + 1) 4 (.bool true) := put_box (put_box bR5 hK5) hd6
        have hb6 : Below w.heap.size w ((w10.putObj D1 (.deferred none)).putObj D0 (.deferred none)) := (hb5.trans (belowK_b (w := w) (Nat.le_refl _) w10 D1 _ _ (by omega) hK5 rfl rfl)).trans (belowK_b (w := w) (Nat.le_refl _) _ D0 _ _ (by omega) hd6 rfl rfl)
        exact ⟨.bool true, results_bool rfl Try.underlying4 _ _ _ _ rfl bR6.cell, rfl, hb6⟩
    case stop2 =>
      rintro D c pre W _ hsp hno hK
      exact hno.elim
  case stop1 =>
    rintro D c pre W _ hsp ⟨_, hno⟩ hK
    exact absurd hsp hno
end Go.Proofs.Ytacjelpkmafkpaa
