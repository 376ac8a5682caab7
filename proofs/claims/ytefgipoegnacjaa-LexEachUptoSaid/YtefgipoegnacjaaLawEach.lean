/- LexEach: the law walked. -/
import Derived.Test.YtefgipoegnacjaaEach
import Derived.Test.YtefgipoegnacjaaRange
import Derived.RegionIn
import Derived.LoopN
import Derived.Test.YtefgipoegnacjaaLexZ
import Derived.Test.YtefgipoegnacjaaKnown
namespace Go.Proofs.Ytefgipoegnacjaa
open Go.RowKit Go.Shelf Lx
attribute [local go_sem] Oper.semAt_some

theorem eql_func_nil (w : World) (B : Nat) : (binOp .eql 43 (.func (.func 40) #[] #[.pointer (some ⟨B, 0, none⟩)]) .nilFunc).run Try.prog w = .ok (.bool false) w := rfl
attribute [local go_sem] eql_func_nil
theorem bx_below {W W' : World} {B : Nat} {t : TypeId} {v : Value} (h : Boxed W B t v) (hb : Below W.heap.size W W') : Boxed W' B t v := (hb.block B h.lt).trans h
structure ES (BL BR B5 BT L0 : Nat) (leave : Int) (s : ByteArray) (va : Option Addr) (ca : Nat) (toks : List Tok) (w W : World) : Prop where
  bL : Boxed W BL 3 (.int .i64 leave)
  bR : Boxed W BR 4 (.bool false)
  b5 : Boxed W B5 22 (.slice va toks.length ca)
  bT : Boxed W BT 9 (.string s)
  row : TokRow W va toks
  bel : Below w.heap.size w W
  hL : BL < L0 ∧ BR < L0 ∧ B5 < L0 ∧ BT < L0 ∧ w.heap.size ≤ L0
  hv : ∀ ad, va = some ad → ad.block < L0
theorem ES.below {BL BR B5 BT L0 : Nat} {leave : Int} {s : ByteArray} {va : Option Addr} {ca : Nat} {toks : List Tok} {w W W' : World} (h : ES BL BR B5 BT L0 leave s va ca toks w W) (hb : Below W.heap.size W W') : ES BL BR B5 BT L0 leave s va ca toks w W' :=
  ⟨bx_below h.bL hb, bx_below h.bR hb, bx_below h.b5 hb, bx_below h.bT hb, h.row.below hb, h.bel.trans (hb.mono h.bel.size), h.hL, h.hv⟩
theorem row_own {W W' : World} {va : Option Addr} {toks : List Tok} {row : Option Nat} (h : TokRow W va toks) (hg : W.grownBy W' row) (hr : ∀ r, row = some r → ∃ o : Obj, W.heap[r]? = some o ∧ o.isCells = false) : TokRow W' va toks :=
  ⟨fun i hi => let ⟨g, e, h0, h1, h2, h3⟩ := h.at_ i hi; ⟨g, e, cell_kept h0 hg hr, cell_kept h1 hg hr, cell_kept h2 hg hr, cell_kept h3 hg hr⟩⟩
theorem bx_own {W W' : World} {B : Nat} {t : TypeId} {v : Value} {row : Option Nat} (h : Boxed W B t v) (hg : W.grownBy W' row) (hr : ∀ r, row = some r → ∃ o : Obj, W.heap[r]? = some o ∧ o.isCells = false) : Boxed W' B t v :=
  boxed_own B t (fun (_ : Unit) => v) () W W' row h hg hr
theorem ES.own {BL BR B5 BT L0 : Nat} {leave : Int} {s : ByteArray} {va : Option Addr} {ca : Nat} {toks : List Tok} {w W W' : World} {row : Option Nat} {B : Nat} (h : ES BL BR B5 BT L0 leave s va ca toks w W) (hB : w.heap.size ≤ B) (hg : W.grownBy W' row) (hr : ∀ r, row = some r → B ≤ r ∧ ∃ o : Obj, W.heap[r]? = some o ∧ o.isCells = false) : ES BL BR B5 BT L0 leave s va ca toks w W' := by
  have hr2 := fun r e => (hr r e).2
  exact ⟨bx_own h.bL hg hr2, bx_own h.bR hg hr2, bx_own h.b5 hg hr2, bx_own h.bT hg hr2, row_own h.row hg hr2, h.bel.grown hg h.bel.size (fun k e => Nat.le_trans hB (hr k e).1), h.hL, h.hv⟩
theorem row_set {W : World} {va : Option Addr} {toks : List Tok} {B : Nat} {u : Value} (h : TokRow W va toks) (hn : ∀ ad, va = some ad → ad.block ≠ B) : TokRow (W.setCell ⟨B, 0, none⟩ u) va toks := by
  refine ⟨fun i hi => let ⟨g, e, h0, h1, h2, h3⟩ := h.at_ i hi; ⟨g, e, ?_, ?_, ?_, ?_⟩⟩
  all_goals (have hne : g ≠ B := hn _ e; rw [World.cell?_setCell_other (w := W) (a := ⟨B, 0, none⟩) (h := by intro he; injection he with he _ _; omega)]; assumption)
theorem ES.set {BL BR B5 BT L0 : Nat} {leave : Int} {s : ByteArray} {va : Option Addr} {ca : Nat} {toks : List Tok} {w W : World} {B : Nat} (u : Value) (h : ES BL BR B5 BT L0 leave s va ca toks w W) (hB : L0 ≤ B) : ES BL BR B5 BT L0 leave s va ca toks w (W.setCell ⟨B, 0, none⟩ u) := by
  obtain ⟨h1, h2, h3, h4, h5⟩ := h.hL
  exact ⟨h.bL.other (by omega) _, h.bR.other (by omega) _, h.b5.other (by omega) _, h.bT.other (by omega) _, row_set h.row (fun ad e => by have := h.hv ad e; omega), h.bel.setCell (p := ⟨B, 0, none⟩) (by show w.heap.size ≤ B; omega) _, h.hL, h.hv⟩


theorem name_frame {P : Program} {c : Code} {Q : Exit → Act → World → Prop} {tm : Array Value} {ds : List Deferred} {w : World} (h : ∀ t, t = tm → c.wp P Q { tmps := t, defers := ds } w) : c.wp P Q { tmps := tm, defers := ds } w := h tm rfl
theorem own_def {A B : World} {row : Option Nat} {D Bd : Nat} {o : Obj} (h : A.heap[D]? = some o) (hD : D < Bd) (hg : A.grownBy B row) (hr : ∀ r, row = some r → Bd ≤ r ∧ ∃ o : Obj, A.heap[r]? = some o ∧ o.isCells = false) : B.heap[D]? = some o :=
  (hg.block D (Array.getElem?_eq_some_iff.1 h).1 (fun e => by have := (hr D e.symm).1; omega)).trans h
theorem al_heap {W : World} {k : Nat} {o : Obj} (ob : Obj) (h : W.heap[k]? = some o) : (W.alloc ob).heap[k]? = some o := (((Below.refl W.heap.size W).alloc (Nat.le_refl _) ob).block k (Array.getElem?_eq_some_iff.1 h).1).trans h
theorem set_def {W : World} {b D : Nat} {t : TypeId} {v u : Value} {ds : Option (List Deferred)} (h : W.heap[D]? = some (.deferred ds)) (hb : Boxed W b t v) : (W.setCell ⟨b, 0, none⟩ u).heap[D]? = some (.deferred ds) := by
  rw [heap_setCell_other _ _ _ _ (by show D ≠ b; intro e; subst e; rw [show W.heap[D]? = _ from hb] at h; cases h)]; exact h
theorem put_box {W : World} {b D : Nat} {t : TypeId} {v : Value} {ds : Option (List Deferred)} {o : Obj} (hb : Boxed W b t v) (h : W.heap[D]? = some (.deferred ds)) : Boxed (W.putObj D o) b t v := by
  show (W.putObj D o).heap[b]? = _
  rw [World.putObj_heap_other (by intro e; subst e; rw [show W.heap[b]? = _ from hb] at h; cases h)]; exact hb
theorem results_bool {P : Program} {fn : Func} {p : Tmp} {ty : TypeId} (h : fn.results = #[.cell p ty]) (hu : P.underlying ty = some .bool) (tmps : Array Value) (w : World) (g : Nat) (v : Value) (hp : tmps.getD p undef = .pointer (some ⟨g, 0, none⟩)) (hc : w.cell? ⟨g, 0, none⟩ = some v) :
    (results fn tmps).run P w = .ok v w := by
  have hp' : tmps[p]?.getD undef = .pointer (some ⟨g, 0, none⟩) := by simpa using hp
  have hu' : (underlying ty).run P w = .ok .bool w := run_underlying hu w
  simp [results, h, hp', asAddr, go_sem, isAgg, hu', hc]
theorem ko_below {A B : World} (h : Below A.heap.size A B) : KeepsOthers A B := ⟨h.size, fun j _ e _ => (h.block j (Array.getElem?_eq_some_iff.1 e).1).trans e⟩
theorem prefix_snoc {pre l : List Tok} {x : Tok} (h : pre <+: l) (hlt : pre.length < l.length) (hx : l[pre.length] = x) : pre ++ [x] <+: l := by
  obtain ⟨t, rfl⟩ := h
  cases t with
  | nil => simp at hlt
  | cons y t =>
    rw [List.getElem_append_right (by omega)] at hx
    simp at hx
    subst hx
    exact ⟨t, by simp⟩
theorem prefix_get {pre l : List Tok} {x T : Tok} (h : pre ++ [x] <+: l) (hlt : pre.length < l.length) (hx : l[pre.length] = T) : x = T := by
  obtain ⟨t, rfl⟩ := h
  rw [← hx]
  simp

set_option maxRecDepth 100000 in
set_option maxHeartbeats 8000000 in
theorem law_LexEach (s : ByteArray) (leave : Int) (w : World) (hs : s.size ≤ 1048576) :
    Calls Try.prog 9 #[.string s, .int .i64 leave] w fun e w' => e = .returned (.bool true) ∧ Below w.heap.size w w' := by
  obtain ⟨R, hR⟩ : ∃ R, R = tokens (bl s) := ⟨_, rfl⟩
  have hRl : R.toks.length ≤ 1048576 := by
    rw [hR, tokens_tk]; have := (tk_far (bl s) 0 false).2.2.2; rw [bl_length] at this; omega
  replace hR := Lib.hid hR
  obtain ⟨C, hC⟩ : ∃ C : Int, C = if R.ok then 0 else 11 := ⟨_, rfl⟩
  replace hC := Lib.hid hC
  refine callsIn_wide.1 (callsIn_of_wp_marks (n := 9) Try.func9 rfl trivial ?_ rfl)
  simp only [Try.ntmps9, List.size_toArray, List.length_cons, List.length_nil, Nat.reduceAdd, Nat.reduceSub, Array.replicate_succ, Array.replicate_zero, List.push_toArray, List.append_toArray, List.nil_append, List.cons_append]
  refine wpIn_wide.2 ?_
  have bL := (Boxed.new w 3 (.int .i64 leave)).alloc (.cells #[.bool false] 4)
  have bR := Boxed.new (w.alloc (.cells #[.int .i64 leave] 3)) 4 (.bool false)
  have hb0 : Below w.heap.size w ((w.alloc (.cells #[.int .i64 leave] 3)).alloc (.cells #[.bool false] 4)) := ((Below.refl _ w).al _).al _
  rw [World.size_alloc] at bR
  go_wp2_with fail
  generalize hW0 : ((w.alloc (.cells #[.int .i64 leave] 3)).alloc (.cells #[.bool false] 4)) = W0 at bL bR hb0 ⊢
  have hsz0 : W0.heap.size = w.heap.size + 2 := by rw [← hW0]; simp
  clear hW0
  refine (rx_Tokens s _ (by omega)).mono ?_
  rintro e w1 ⟨v1, he, own1, hb1⟩
  rw [← hR.out] at he own1
  rw [← hC.out] at he
  subst he
  obtain ⟨va, ca, rfl, hva⟩ := own_slice own1
  clear hva
  replace bL := bx_below bL hb1
  replace bR := bx_below bR hb1
  go_wp2_with (refine wpList_store_rowA rfl 25 (.tmp 6) (.tmp 17) rfl (w1.heap.size + 1) (tokC R.open_) rfl rfl 25 (tokCs 0 [] 0 0) (heap_alloc2_new _ _ _) sizeTok rfl (tokCs_one _ _ _ _) ?_)
  intro w2 hg2 hgr hsz
  have hb12 : Below w1.heap.size w1 w2 := (((Below.refl _ _).al _).al _).grown hgr (by simp; omega) (by intro k hk; injection hk with hk; omega)
  have b5 : Boxed w2 w1.heap.size 22 (.slice va R.toks.length ca) := ((Boxed.new w1 _ _).alloc _).kept hgr (by intro he; injection he with he; omega)
  have hs12 : w1.heap.size < w2.heap.size := b5.lt
  clear hgr hsz hg2
  go_wp2_with fail
  refine (lx_Each s _).mono ?_
  rintro e w3 ⟨rfl, rfl⟩
  have hb23 := (Below.refl w2.heap.size w2).alloc (Nat.le_refl _) (.cells #[.string s] 9)
  have hE : ES w.heap.size (w.heap.size + 1) w1.heap.size w2.heap.size (w2.heap.size + 1) leave s va ca R.toks w (w2.alloc (.cells #[.string s] 9)) := by
    have b1 := hb1.size
    refine ⟨bx_below (bx_below bL hb12) hb23, bx_below (bx_below bR hb12) hb23, bx_below b5 hb23, Boxed.new _ _ _, ((TokRow.own own1).2.below hb12).below hb23, ((hb0.trans (hb1.mono hb0.size)).trans (hb12.mono (by omega))).al _, ⟨by omega, by omega, by omega, by omega, by omega⟩, fun ad e => ?_⟩
    subst e
    rcases own1.2 with ⟨he, _⟩ | ⟨g, cap, cur, he, hg1, hh, _⟩
    · cases he
    · injection he with he _ _; injection he with he; subst he
      have := (Array.getElem?_eq_some_iff.1 hh).1
      show g < _
      omega
  have hsz3 : (w2.alloc (.cells #[.string s] 9)).heap.size = w2.heap.size + 1 := World.size_alloc _ _
  generalize hW3 : w2.alloc (.cells #[.string s] 9) = W3 at hE hsz3 ⊢
  clear hW3
  generalize w2.heap.size = BT at hE hsz3 ⊢
  -- turn 0
  have hEa := hE.below ((Below.refl W3.heap.size W3).alloc (Nat.le_refl _) (.cells #[.int .i64 0] 3))
  have bt0 := Boxed.new W3 3 (.int .i64 0)
  have hs0 := World.size_alloc W3 (.cells #[.int .i64 0] 3)
  clear hE bL bR hb0 hsz0 hb1 own1 hb12 b5 hs12 hb23
  go_wp2_with fail
  generalize W3.alloc (.cells #[.int .i64 0] 3) = WA at hEa bt0 hs0 ⊢
  rw [hsz3] at bt0 hs0
  refine wp_loop_rounds 3 ?_
  rw [rounds_succ]
  have ct0 := bt0.cell
  go_wp2_with fail
  have hEn0 := hEa.below ((Below.refl WA.heap.size WA).alloc (Nat.le_refl _) (.cells #[.int .i64 0] 3))
  have btn0 := bt0.alloc (.cells #[.int .i64 0] 3)
  have bn0 := Boxed.new WA 3 (.int .i64 0)
  have hsn0 := World.size_alloc WA (.cells #[.int .i64 0] 3)
  generalize WA.alloc (.cells #[.int .i64 0] 3) = WB at hEn0 btn0 bn0 hsn0 ⊢
  rw [hs0] at bn0 hsn0
  try rw [hs0]
  clear hEa bt0 ct0
  rename_i K1 hK1
  refine name_frame ?_
  intro tm htm
  have key0 : ∀ (D0 n : Nat) (W : World), BT < D0 → ES w.heap.size (w.heap.size + 1) w1.heap.size BT (BT + 1) leave s va ca R.toks w W → Boxed W (BT + 1) 3 (.int .i64 0) → Boxed W ((BT + 1) + 1) 3 (.int .i64 n) → n ≤ R.toks.length →
      ((0 < leave ∧ (n : Int) = min leave R.toks.length) ∨ (leave ≤ 0 ∧ n = R.toks.length)) → W.heap[D0]? = some (.deferred (some [])) → K1 { tmps := tm, defers := [{ target := .collected D0, args := #[] }] } W := by
    intro D0 n W hD0 hE hbt hbn hn hm hD
    rw [htm]
    refine hK1 _ _ ?_
    have cn := hbn.cell
    have ct := hbt.cell
    have cL := hE.bL.cell
    have c5 := hE.b5.cell
    have hnn : ((n : Int) != (n : Int)) = false := by simp
    rcases (show (0 < leave ∧ leave ≤ (R.toks.length : Int) ∧ leave = (n : Int)) ∨ (0 < leave ∧ ¬ leave ≤ (R.toks.length : Int) ∧ n = R.toks.length) ∨ (¬ 0 < leave ∧ n = R.toks.length) from by omega) with ⟨hl0, hml, hle⟩ | ⟨hl0, hml, hle⟩ | ⟨hl0, hle⟩
    · rw [← hle] at cn
      have hnl : (leave != leave) = false := by simp
      replace hle := Lib.hid hle
      go_wp2_with fail
      have hb1x := (Below.refl W.heap.size W).alloc (Nat.le_refl _) (.cells #[.int .i64 1] 3)
      have hEb := hE.below hb1x
      have bt1 := Boxed.new W 3 (.int .i64 1)
      have hs1 := World.size_alloc W (.cells #[.int .i64 1] 3)
      have hDl := (Array.getElem?_eq_some_iff.1 hD).1
      have hD1 := al_heap (.cells #[.int .i64 1] 3) hD
      have hBZ : BT + 2 < W.heap.size := hbn.lt
      clear hb1x hE hbt hbn hD cn ct cL c5 hnl hnn
      generalize W.alloc (.cells #[.int .i64 1] 3) = WX at hEb bt1 hs1 hD1 ⊢
      generalize W.heap.size = BZ at bt1 hs1 hDl hBZ ⊢
      rw [rounds_succ]
      have ct1 := bt1.cell
      go_wp2_with fail
      have hEn1 := hEb.below ((Below.refl WX.heap.size WX).alloc (Nat.le_refl _) (.cells #[.int .i64 0] 3))
      have btn1 := bt1.alloc (.cells #[.int .i64 0] 3)
      have bn1 := Boxed.new WX 3 (.int .i64 0)
      have hsn1 := World.size_alloc WX (.cells #[.int .i64 0] 3)
      replace hD1 := al_heap (.cells #[.int .i64 0] 3) hD1
      generalize WX.alloc (.cells #[.int .i64 0] 3) = WB at hEn1 btn1 bn1 hsn1 hD1 ⊢
      rw [hs1] at bn1 hsn1
      try rw [hs1]
      clear hEb bt1 ct1
      refine name_frame ?_
      intro tm htm
      refine range_wide (P := Try.prog) (tm := tm) (ds := _) (gf := 40) (lb := #[.pointer (some ⟨BT, 0, none⟩)]) (by rw [htm]; rfl) (enters_of Try.func40 (by kernel_rfl) rfl)
        (each_stops 8 s hs BT WB.heap.size WB (Nat.le_refl _) hEn1.bT.lt hEn1.bT.cell) KpM.trans (fun W l o o' _ h hc _ => KpM.put W l o o' h hc) (fun _ => rfl)
        (fun pre W => ES w.heap.size (w.heap.size + 1) w1.heap.size BT (BT + 1) leave s va ca R.toks w W ∧ Boxed W BZ 3 (.int .i64 1) ∧ Boxed W (BZ + 1) 3 (.int .i64 (pre.length : Nat)) ∧ pre <+: R.toks ∧ True ∧ W.heap[D0]? = some (.deferred (some [])))
        (fun c pre W => (c = .ret ∧ ¬ pre <+: R.toks) ∨ (c = .exit 2 ∧ ES w.heap.size (w.heap.size + 1) w1.heap.size BT (BT + 1) leave s va ca R.toks w W ∧ Boxed W BZ 3 (.int .i64 1) ∧ Boxed W (BZ + 1) 3 (.int .i64 (pre.length : Nat)) ∧ pre <+: R.toks ∧ (1 = 0 ∧ 0 < leave ∧ (pre.length : Int) = leave) ∧ W.heap[D0]? = some (.deferred (some []))))
        (fun pre A B row hs hg hr => ⟨hs.1.own hEn1.bel.size hg hr, bx_own hs.2.1 hg (fun r e => (hr r e).2), bx_own hs.2.2.1 hg (fun r e => (hr r e).2), hs.2.2.2.1, hs.2.2.2.2.1, own_def hs.2.2.2.2.2 (by omega) hg hr⟩)
        (fun c pre A B row hs hg hr => hs.imp id (fun hs => ⟨hs.1, hs.2.1.own hEn1.bel.size hg hr, bx_own hs.2.2.1 hg (fun r e => (hr r e).2), bx_own hs.2.2.2.1 hg (fun r e => (hr r e).2), hs.2.2.2.2.1, hs.2.2.2.2.2.1, own_def hs.2.2.2.2.2.2 (by omega) hg hr⟩))
        ⟨hEn1, btn1, bn1, List.nil_prefix, trivial, hD1⟩
        (fun x b W => WB.heap.size ≤ b ∧ W.heap[b]? = some (.cells (tokC x) 25))
        (fun x b _ X Y row hs hg hr => ⟨hs.1, by
          rw [hg.block b (Array.getElem?_eq_some_iff.1 hs.2).1 (fun e => by
            obtain ⟨_, ob, h1, h2⟩ := hr b e.symm
            rw [hs.2] at h1; injection h1 with h1; subst h1; simp [Obj.isCells] at h2)]
          exact hs.2⟩)
        (fun x b tm => (tm.setIfInBounds 29 (.agg (tokC x))).setIfInBounds 12 (.pointer (some ⟨b, 0, none⟩)))
        ?assign1 ?body1 ?done1 ?stop1
      case assign1 =>
        rintro l pre x W K hi hK
        rw [htm] at hK ⊢
        simp only [tokC, tokCs]
        gi_wp2
        have hal := (Below.refl W.heap.size W).alloc (Nat.le_refl _) (.cells #[.int .i64 x.kind, .string (mk x.text), .int .i64 x.at_, .int .i64 x.end_] 25)
        obtain ⟨i1, i2, i3, i4, i5, i6⟩ := hi
        exact hK W.heap.size _ ((KeepsOthers.alloc _ _).from _) (KpM.below hal) ⟨i1.below hal, bx_below i2 hal, bx_below i3 hal, i4, i5, (hal.block _ (Array.getElem?_eq_some_iff.1 i6).1).trans i6⟩ ⟨by have := i3.lt; omega, heap_alloc_new _ _⟩
      case body1 =>
        rintro l pre x b W hl hr ⟨hE, hbt, hbn, hpre, hc, hd⟩ ⟨hBb, hx⟩ hlt
        rw [htm]
        rw [← hR.out] at hlt
        have cn := hbn.cell
        have fn := hbn.frozen
        have ct := hbt.cell
        have cL := hE.bL.cell
        have c5 := hE.b5.cell
        have cR := hE.bR.cell
        have fR := hE.bR.frozen
        have x0 : W.cell? ⟨b, 0, none⟩ = some (.int .i64 x.kind) := cell_of_row _ _ _ _ _ _ hx
        have x1 : W.cell? ⟨b, 1, none⟩ = some (.string (mk x.text)) := cell_of_row _ _ _ _ _ _ hx
        have x2 : W.cell? ⟨b, 2, none⟩ = some (.int .i64 x.at_) := cell_of_row _ _ _ _ _ _ hx
        have x3 : W.cell? ⟨b, 3, none⟩ = some (.int .i64 x.end_) := cell_of_row _ _ _ _ _ _ hx
        obtain ⟨T, hT⟩ : ∃ T, R.toks[pre.length] = T := ⟨_, rfl⟩
        obtain ⟨g, rfl, k0, k1, k2, k3⟩ := hE.row.at_ pre.length hlt
        rw [hT] at k0 k1 k2 k3
        replace hT := Lib.hid hT
        replace hE := Lib.hid hE
        have hmx : Try.prog.follows .mixedOrders = true := by kernel_rfl
        have hge2 : decide (R.toks.length ≤ pre.length) = false := decide_eq_false (by omega)
        have hge : decide ((R.toks.length : Int) ≤ (pre.length : Int)) = false := decide_eq_false (by omega)
        have hwn : IntKind.i64.wrap ((pre.length : Int) + 1) = (pre.length : Int) + 1 := IntWalk.i64_in _ (by omega)
        simp only [List.setIfInBounds_toArray, List.set_cons_succ, List.set_cons_zero, tokC, tokCs]
        by_cases hxe : x = T
        · have hq : ∀ w, (binOp .neq 25 (.agg #[.int .i64 x.kind, .string (mk x.text), .int .i64 x.at_, .int .i64 x.end_]) (.agg #[.int .i64 T.kind, .string (mk T.text), .int .i64 T.at_, .int .i64 T.end_])).run Try.prog w = .ok (.bool false) w := fun w => by
            have := run_neq_tok x T w
            rw [hxe, tokB_self] at this
            rw [hxe]; exact this
          gi_wp2
          refine wpIn_region_quiet_round (by kernel_rfl) (by kernel_rfl) (by kernel_rfl) ?_
          repeat (first | go_big_quiet_step (fail) | quiet_step (fail))
          refine wpQuiet_nil ?_
          rintro _ ⟨nq, rfl⟩
          have hdr : Below W.heap.size W (W.drewN nq) := below_drewN (Below.refl _ _) _
          generalize W.drewN nq = V at hdr ⊢
          replace cn := cell_below hdr rfl cn
          replace fn := (hdr.frozen (p := ⟨BZ + 1, 0, none⟩) hbn.lt).trans fn
          replace ct := cell_below hdr rfl ct
          replace cL := cell_below hdr rfl cL
          clear cR fR c5 x0 x1 x2 x3 k0 k1 k2 k3 hq
          have hEv := Lib.hid (hE.out.below hdr)
          replace hbt := bx_below hbt hdr
          replace hbn := bx_below hbn hdr
          obtain ⟨q1, q2, q3, q4, q5⟩ := hEv.out.hL
          have hEs := Lib.hid (hEv.out.set (B := BZ + 1) (.int .i64 ((pre.length : Int) + 1)) (by omega))
          have hbt2 := hbt.other (B' := BZ + 1) (by omega) (.int .i64 ((pre.length : Int) + 1))
          have hbn2 := hbn.set (.int .i64 ((pre.length : Int) + 1))
          have cL2 := hEs.out.bL.cell
          have ct2 := hbt2.cell
          have cn2 := hbn2.cell
          replace q5 := Lib.hid q5
          clear q1 q2 q3 q4
          have hpre2 := Lib.hid (prefix_snoc hpre hlt (hT.out.trans hxe.symm))
          have hkf := Lib.hid (((ko_below hdr).trans (KeepsOthers.setCell V ⟨BZ + 1, 0, none⟩ (.int .i64 ((pre.length : Int) + 1)))).from WB.heap.size)
          have hkp := Lib.hid (KpM.trans (KpM.below (M := WB.heap.size) hdr) (KpM.set V (b := BZ + 1) (i := 0) (.int .i64 ((pre.length : Int) + 1)) (by omega)))
          have hD2 : (V.setCell ⟨BZ + 1, 0, none⟩ (.int .i64 ((pre.length : Int) + 1))).heap[D0]? = some (.deferred (some [])) := by
            rw [heap_setCell_other _ _ _ _ (by show D0 ≠ BZ + 1; omega)]
            exact (hdr.block _ (Array.getElem?_eq_some_iff.1 hd).1).trans hd
          replace hD2 := Lib.hid hD2
          gi_wp2
          exact ⟨hkf.out, hkp.out, hEs.out, hbt2, by rw [List.length_append]; exact hbn2, hpre2.out, trivial, hD2.out⟩
        · have hq : ∀ w, (binOp .neq 25 (.agg #[.int .i64 x.kind, .string (mk x.text), .int .i64 x.at_, .int .i64 x.end_]) (.agg #[.int .i64 T.kind, .string (mk T.text), .int .i64 T.at_, .int .i64 T.end_])).run Try.prog w = .ok (.bool true) w := fun w => by
            have := run_neq_tok x T w
            rw [show tokB x T = false from by cases h : tokB x T with | false => rfl | true => exact absurd ((tokB_iff _ _).1 h) hxe] at this
            exact this
          replace hxe := Lib.hid hxe
          gi_wp2
          refine wpIn_region_quiet_round (by kernel_rfl) (by kernel_rfl) (by kernel_rfl) ?_
          repeat (first | go_big_quiet_step (fail) | quiet_step (fail))
          refine wpQuiet_nil ?_
          rintro _ ⟨nq, rfl⟩
          have hdr : Below W.heap.size W (W.drewN nq) := below_drewN (Below.refl _ _) _
          generalize W.drewN nq = V at hdr ⊢
          replace cR := cell_below hdr rfl cR
          replace fR := (hdr.frozen (p := ⟨w.heap.size + 1, 0, none⟩) hE.out.bR.lt).trans fR
          clear cn fn ct cL c5 x0 x1 x2 x3 k0 k1 k2 k3 hq
          gi_wp2
          exact ⟨((ko_below hdr).trans (KeepsOthers.setCell V _ _)).from _, .inl ⟨rfl, fun h => hxe.out (prefix_get h hlt hT.out)⟩⟩
      case done1 =>
        rintro D1 xs W hDl hxs ⟨hE, hbt, hbn, hpre, hc, hd⟩ hK
        rw [← hR.out] at hxs
        subst hxs
        rw [htm]
        have cn := hbn.cell
        have ct := hbt.cell
        have cL := hE.bL.cell
        have c5 := hE.b5.cell
        have hnl : ((R.toks.length : Int) != (R.toks.length : Int)) = false := by simp
        go_wp2_with fail
        have hal := (Below.refl W.heap.size W).alloc (Nat.le_refl _) (.cells #[.int .i64 2] 3)
        have hE3 := hE.below hal
        have hd3 := al_heap (.cells #[.int .i64 2] 3) hd
        have hK3 := al_heap (.cells #[.int .i64 2] 3) hK
        have bt3 := Boxed.new W 3 (.int .i64 2)
        clear hal hE hd hK hbt hbn cn ct cL c5
        generalize W.alloc (.cells #[.int .i64 2] 3) = W9 at hE3 hd3 hK3 bt3 ⊢
        have ct3 := bt3.cell
        rw [rounds_succ]
        go_wp2_with fail
        refine (lw_known _).mono ?_
        rintro e w9 ⟨rfl, hb9⟩
        have hE4 := hE3.below hb9
        have hd4 := (hb9.block _ (Array.getElem?_eq_some_iff.1 hd3).1).trans hd3
        have hK4 := (hb9.block _ (Array.getElem?_eq_some_iff.1 hK3).1).trans hK3
        clear hE3 hd3 hK3 bt3 ct3
        have cR := hE4.bR.cell
        have fR := hE4.bR.frozen
        go_wp2_with fail
        have hd5 := set_def (u := .bool true) hd4 hE4.bR
        have hK5 := set_def (u := .bool true) hK4 hE4.bR
        have bR5 := hE4.bR.set (.bool true)
        have hb5 := hE4.bel.setCell (p := ⟨w.heap.size + 1, 0, none⟩) (by simp) (.bool true)
        have hne : D0 ≠ D1 := by omega
        have hq := hE4.hL.2.2.2.2
        clear hE4 hd4 hK4 hb9 cR fR
        generalize w9.setCell ⟨w.heap.size + 1, 0, none⟩ (.bool true) = w10 at hd5 hK5 bR5 hb5 ⊢
        refine ⟨by simp, .inl ⟨D1, _, rfl, run_takeDeferred hK5, ?_⟩⟩
        have hd6 : (w10.putObj D1 (.deferred none)).heap[D0]? = some (.deferred (some [])) := by rw [World.putObj_heap_other hne]; exact hd5
        refine ⟨by simp, .inl ⟨D0, _, rfl, run_takeDeferred hd6, ?_⟩⟩
        have bR6 : Boxed ((w10.putObj D1 (.deferred none)).putObj D0 (.deferred none)) (w.heap.size + 1) 4 (.bool true) := put_box (put_box bR5 hK5) hd6
        have hb6 : Below w.heap.size w ((w10.putObj D1 (.deferred none)).putObj D0 (.deferred none)) := (hb5.trans (belowK_b (w := w) (Nat.le_refl _) w10 D1 _ _ (by omega) hK5 rfl rfl)).trans (belowK_b (w := w) (Nat.le_refl _) _ D0 _ _ (by omega) hd6 rfl rfl)
        exact ⟨.bool true, results_bool rfl Try.underlying4 _ _ _ _ rfl bR6.cell, rfl, hb6⟩
      case stop1 =>
        rintro D c pre W _ hsp hix hK
        rw [← hR.out] at hsp
        rcases hix with ⟨_, hno⟩ | ⟨_, _, _, _, _, ⟨h01, _, _⟩, _⟩
        · exact absurd hsp hno
        · exact absurd h01 (by decide)
    · rw [hle] at cn
      have hnl : ((R.toks.length : Int) != (R.toks.length : Int)) = false := by simp
      replace hle := Lib.hid hle
      go_wp2_with fail
      have hb1x := (Below.refl W.heap.size W).alloc (Nat.le_refl _) (.cells #[.int .i64 1] 3)
      have hEb := hE.below hb1x
      have bt1 := Boxed.new W 3 (.int .i64 1)
      have hs1 := World.size_alloc W (.cells #[.int .i64 1] 3)
      have hDl := (Array.getElem?_eq_some_iff.1 hD).1
      have hD1 := al_heap (.cells #[.int .i64 1] 3) hD
      have hBZ : BT + 2 < W.heap.size := hbn.lt
      clear hb1x hE hbt hbn hD cn ct cL c5 hnl hnn
      generalize W.alloc (.cells #[.int .i64 1] 3) = WX at hEb bt1 hs1 hD1 ⊢
      generalize W.heap.size = BZ at bt1 hs1 hDl hBZ ⊢
      rw [rounds_succ]
      have ct1 := bt1.cell
      go_wp2_with fail
      have hEn1 := hEb.below ((Below.refl WX.heap.size WX).alloc (Nat.le_refl _) (.cells #[.int .i64 0] 3))
      have btn1 := bt1.alloc (.cells #[.int .i64 0] 3)
      have bn1 := Boxed.new WX 3 (.int .i64 0)
      have hsn1 := World.size_alloc WX (.cells #[.int .i64 0] 3)
      replace hD1 := al_heap (.cells #[.int .i64 0] 3) hD1
      generalize WX.alloc (.cells #[.int .i64 0] 3) = WB at hEn1 btn1 bn1 hsn1 hD1 ⊢
      rw [hs1] at bn1 hsn1
      try rw [hs1]
      clear hEb bt1 ct1
      refine name_frame ?_
      intro tm htm
      refine range_wide (P := Try.prog) (tm := tm) (ds := _) (gf := 40) (lb := #[.pointer (some ⟨BT, 0, none⟩)]) (by rw [htm]; rfl) (enters_of Try.func40 (by kernel_rfl) rfl)
        (each_stops 8 s hs BT WB.heap.size WB (Nat.le_refl _) hEn1.bT.lt hEn1.bT.cell) KpM.trans (fun W l o o' _ h hc _ => KpM.put W l o o' h hc) (fun _ => rfl)
        (fun pre W => ES w.heap.size (w.heap.size + 1) w1.heap.size BT (BT + 1) leave s va ca R.toks w W ∧ Boxed W BZ 3 (.int .i64 1) ∧ Boxed W (BZ + 1) 3 (.int .i64 (pre.length : Nat)) ∧ pre <+: R.toks ∧ True ∧ W.heap[D0]? = some (.deferred (some [])))
        (fun c pre W => (c = .ret ∧ ¬ pre <+: R.toks) ∨ (c = .exit 2 ∧ ES w.heap.size (w.heap.size + 1) w1.heap.size BT (BT + 1) leave s va ca R.toks w W ∧ Boxed W BZ 3 (.int .i64 1) ∧ Boxed W (BZ + 1) 3 (.int .i64 (pre.length : Nat)) ∧ pre <+: R.toks ∧ (1 = 0 ∧ 0 < leave ∧ (pre.length : Int) = leave) ∧ W.heap[D0]? = some (.deferred (some []))))
        (fun pre A B row hs hg hr => ⟨hs.1.own hEn1.bel.size hg hr, bx_own hs.2.1 hg (fun r e => (hr r e).2), bx_own hs.2.2.1 hg (fun r e => (hr r e).2), hs.2.2.2.1, hs.2.2.2.2.1, own_def hs.2.2.2.2.2 (by omega) hg hr⟩)
        (fun c pre A B row hs hg hr => hs.imp id (fun hs => ⟨hs.1, hs.2.1.own hEn1.bel.size hg hr, bx_own hs.2.2.1 hg (fun r e => (hr r e).2), bx_own hs.2.2.2.1 hg (fun r e => (hr r e).2), hs.2.2.2.2.1, hs.2.2.2.2.2.1, own_def hs.2.2.2.2.2.2 (by omega) hg hr⟩))
        ⟨hEn1, btn1, bn1, List.nil_prefix, trivial, hD1⟩
        (fun x b W => WB.heap.size ≤ b ∧ W.heap[b]? = some (.cells (tokC x) 25))
        (fun x b _ X Y row hs hg hr => ⟨hs.1, by
          rw [hg.block b (Array.getElem?_eq_some_iff.1 hs.2).1 (fun e => by
            obtain ⟨_, ob, h1, h2⟩ := hr b e.symm
            rw [hs.2] at h1; injection h1 with h1; subst h1; simp [Obj.isCells] at h2)]
          exact hs.2⟩)
        (fun x b tm => (tm.setIfInBounds 29 (.agg (tokC x))).setIfInBounds 12 (.pointer (some ⟨b, 0, none⟩)))
        ?assign1 ?body1 ?done1 ?stop1
      case assign1 =>
        rintro l pre x W K hi hK
        rw [htm] at hK ⊢
        simp only [tokC, tokCs]
        gi_wp2
        have hal := (Below.refl W.heap.size W).alloc (Nat.le_refl _) (.cells #[.int .i64 x.kind, .string (mk x.text), .int .i64 x.at_, .int .i64 x.end_] 25)
        obtain ⟨i1, i2, i3, i4, i5, i6⟩ := hi
        exact hK W.heap.size _ ((KeepsOthers.alloc _ _).from _) (KpM.below hal) ⟨i1.below hal, bx_below i2 hal, bx_below i3 hal, i4, i5, (hal.block _ (Array.getElem?_eq_some_iff.1 i6).1).trans i6⟩ ⟨by have := i3.lt; omega, heap_alloc_new _ _⟩
      case body1 =>
        rintro l pre x b W hl hr ⟨hE, hbt, hbn, hpre, hc, hd⟩ ⟨hBb, hx⟩ hlt
        rw [htm]
        rw [← hR.out] at hlt
        have cn := hbn.cell
        have fn := hbn.frozen
        have ct := hbt.cell
        have cL := hE.bL.cell
        have c5 := hE.b5.cell
        have cR := hE.bR.cell
        have fR := hE.bR.frozen
        have x0 : W.cell? ⟨b, 0, none⟩ = some (.int .i64 x.kind) := cell_of_row _ _ _ _ _ _ hx
        have x1 : W.cell? ⟨b, 1, none⟩ = some (.string (mk x.text)) := cell_of_row _ _ _ _ _ _ hx
        have x2 : W.cell? ⟨b, 2, none⟩ = some (.int .i64 x.at_) := cell_of_row _ _ _ _ _ _ hx
        have x3 : W.cell? ⟨b, 3, none⟩ = some (.int .i64 x.end_) := cell_of_row _ _ _ _ _ _ hx
        obtain ⟨T, hT⟩ : ∃ T, R.toks[pre.length] = T := ⟨_, rfl⟩
        obtain ⟨g, rfl, k0, k1, k2, k3⟩ := hE.row.at_ pre.length hlt
        rw [hT] at k0 k1 k2 k3
        replace hT := Lib.hid hT
        replace hE := Lib.hid hE
        have hmx : Try.prog.follows .mixedOrders = true := by kernel_rfl
        have hge2 : decide (R.toks.length ≤ pre.length) = false := decide_eq_false (by omega)
        have hge : decide ((R.toks.length : Int) ≤ (pre.length : Int)) = false := decide_eq_false (by omega)
        have hwn : IntKind.i64.wrap ((pre.length : Int) + 1) = (pre.length : Int) + 1 := IntWalk.i64_in _ (by omega)
        simp only [List.setIfInBounds_toArray, List.set_cons_succ, List.set_cons_zero, tokC, tokCs]
        by_cases hxe : x = T
        · have hq : ∀ w, (binOp .neq 25 (.agg #[.int .i64 x.kind, .string (mk x.text), .int .i64 x.at_, .int .i64 x.end_]) (.agg #[.int .i64 T.kind, .string (mk T.text), .int .i64 T.at_, .int .i64 T.end_])).run Try.prog w = .ok (.bool false) w := fun w => by
            have := run_neq_tok x T w
            rw [hxe, tokB_self] at this
            rw [hxe]; exact this
          gi_wp2
          refine wpIn_region_quiet_round (by kernel_rfl) (by kernel_rfl) (by kernel_rfl) ?_
          repeat (first | go_big_quiet_step (fail) | quiet_step (fail))
          refine wpQuiet_nil ?_
          rintro _ ⟨nq, rfl⟩
          have hdr : Below W.heap.size W (W.drewN nq) := below_drewN (Below.refl _ _) _
          generalize W.drewN nq = V at hdr ⊢
          replace cn := cell_below hdr rfl cn
          replace fn := (hdr.frozen (p := ⟨BZ + 1, 0, none⟩) hbn.lt).trans fn
          replace ct := cell_below hdr rfl ct
          replace cL := cell_below hdr rfl cL
          clear cR fR c5 x0 x1 x2 x3 k0 k1 k2 k3 hq
          have hEv := Lib.hid (hE.out.below hdr)
          replace hbt := bx_below hbt hdr
          replace hbn := bx_below hbn hdr
          obtain ⟨q1, q2, q3, q4, q5⟩ := hEv.out.hL
          have hEs := Lib.hid (hEv.out.set (B := BZ + 1) (.int .i64 ((pre.length : Int) + 1)) (by omega))
          have hbt2 := hbt.other (B' := BZ + 1) (by omega) (.int .i64 ((pre.length : Int) + 1))
          have hbn2 := hbn.set (.int .i64 ((pre.length : Int) + 1))
          have cL2 := hEs.out.bL.cell
          have ct2 := hbt2.cell
          have cn2 := hbn2.cell
          replace q5 := Lib.hid q5
          clear q1 q2 q3 q4
          have hpre2 := Lib.hid (prefix_snoc hpre hlt (hT.out.trans hxe.symm))
          have hkf := Lib.hid (((ko_below hdr).trans (KeepsOthers.setCell V ⟨BZ + 1, 0, none⟩ (.int .i64 ((pre.length : Int) + 1)))).from WB.heap.size)
          have hkp := Lib.hid (KpM.trans (KpM.below (M := WB.heap.size) hdr) (KpM.set V (b := BZ + 1) (i := 0) (.int .i64 ((pre.length : Int) + 1)) (by omega)))
          have hD2 : (V.setCell ⟨BZ + 1, 0, none⟩ (.int .i64 ((pre.length : Int) + 1))).heap[D0]? = some (.deferred (some [])) := by
            rw [heap_setCell_other _ _ _ _ (by show D0 ≠ BZ + 1; omega)]
            exact (hdr.block _ (Array.getElem?_eq_some_iff.1 hd).1).trans hd
          replace hD2 := Lib.hid hD2
          gi_wp2
          exact ⟨hkf.out, hkp.out, hEs.out, hbt2, by rw [List.length_append]; exact hbn2, hpre2.out, trivial, hD2.out⟩
        · have hq : ∀ w, (binOp .neq 25 (.agg #[.int .i64 x.kind, .string (mk x.text), .int .i64 x.at_, .int .i64 x.end_]) (.agg #[.int .i64 T.kind, .string (mk T.text), .int .i64 T.at_, .int .i64 T.end_])).run Try.prog w = .ok (.bool true) w := fun w => by
            have := run_neq_tok x T w
            rw [show tokB x T = false from by cases h : tokB x T with | false => rfl | true => exact absurd ((tokB_iff _ _).1 h) hxe] at this
            exact this
          replace hxe := Lib.hid hxe
          gi_wp2
          refine wpIn_region_quiet_round (by kernel_rfl) (by kernel_rfl) (by kernel_rfl) ?_
          repeat (first | go_big_quiet_step (fail) | quiet_step (fail))
          refine wpQuiet_nil ?_
          rintro _ ⟨nq, rfl⟩
          have hdr : Below W.heap.size W (W.drewN nq) := below_drewN (Below.refl _ _) _
          generalize W.drewN nq = V at hdr ⊢
          replace cR := cell_below hdr rfl cR
          replace fR := (hdr.frozen (p := ⟨w.heap.size + 1, 0, none⟩) hE.out.bR.lt).trans fR
          clear cn fn ct cL c5 x0 x1 x2 x3 k0 k1 k2 k3 hq
          gi_wp2
          exact ⟨((ko_below hdr).trans (KeepsOthers.setCell V _ _)).from _, .inl ⟨rfl, fun h => hxe.out (prefix_get h hlt hT.out)⟩⟩
      case done1 =>
        rintro D1 xs W hDl hxs ⟨hE, hbt, hbn, hpre, hc, hd⟩ hK
        rw [← hR.out] at hxs
        subst hxs
        rw [htm]
        have cn := hbn.cell
        have ct := hbt.cell
        have cL := hE.bL.cell
        have c5 := hE.b5.cell
        have hnl : ((R.toks.length : Int) != (R.toks.length : Int)) = false := by simp
        go_wp2_with fail
        have hal := (Below.refl W.heap.size W).alloc (Nat.le_refl _) (.cells #[.int .i64 2] 3)
        have hE3 := hE.below hal
        have hd3 := al_heap (.cells #[.int .i64 2] 3) hd
        have hK3 := al_heap (.cells #[.int .i64 2] 3) hK
        have bt3 := Boxed.new W 3 (.int .i64 2)
        clear hal hE hd hK hbt hbn cn ct cL c5
        generalize W.alloc (.cells #[.int .i64 2] 3) = W9 at hE3 hd3 hK3 bt3 ⊢
        have ct3 := bt3.cell
        rw [rounds_succ]
        go_wp2_with fail
        refine (lw_known _).mono ?_
        rintro e w9 ⟨rfl, hb9⟩
        have hE4 := hE3.below hb9
        have hd4 := (hb9.block _ (Array.getElem?_eq_some_iff.1 hd3).1).trans hd3
        have hK4 := (hb9.block _ (Array.getElem?_eq_some_iff.1 hK3).1).trans hK3
        clear hE3 hd3 hK3 bt3 ct3
        have cR := hE4.bR.cell
        have fR := hE4.bR.frozen
        go_wp2_with fail
        have hd5 := set_def (u := .bool true) hd4 hE4.bR
        have hK5 := set_def (u := .bool true) hK4 hE4.bR
        have bR5 := hE4.bR.set (.bool true)
        have hb5 := hE4.bel.setCell (p := ⟨w.heap.size + 1, 0, none⟩) (by simp) (.bool true)
        have hne : D0 ≠ D1 := by omega
        have hq := hE4.hL.2.2.2.2
        clear hE4 hd4 hK4 hb9 cR fR
        generalize w9.setCell ⟨w.heap.size + 1, 0, none⟩ (.bool true) = w10 at hd5 hK5 bR5 hb5 ⊢
        refine ⟨by simp, .inl ⟨D1, _, rfl, run_takeDeferred hK5, ?_⟩⟩
        have hd6 : (w10.putObj D1 (.deferred none)).heap[D0]? = some (.deferred (some [])) := by rw [World.putObj_heap_other hne]; exact hd5
        refine ⟨by simp, .inl ⟨D0, _, rfl, run_takeDeferred hd6, ?_⟩⟩
        have bR6 : Boxed ((w10.putObj D1 (.deferred none)).putObj D0 (.deferred none)) (w.heap.size + 1) 4 (.bool true) := put_box (put_box bR5 hK5) hd6
        have hb6 : Below w.heap.size w ((w10.putObj D1 (.deferred none)).putObj D0 (.deferred none)) := (hb5.trans (belowK_b (w := w) (Nat.le_refl _) w10 D1 _ _ (by omega) hK5 rfl rfl)).trans (belowK_b (w := w) (Nat.le_refl _) _ D0 _ _ (by omega) hd6 rfl rfl)
        exact ⟨.bool true, results_bool rfl Try.underlying4 _ _ _ _ rfl bR6.cell, rfl, hb6⟩
      case stop1 =>
        rintro D c pre W _ hsp hix hK
        rw [← hR.out] at hsp
        rcases hix with ⟨_, hno⟩ | ⟨_, _, _, _, _, ⟨h01, _, _⟩, _⟩
        · exact absurd hsp hno
        · exact absurd h01 (by decide)
    · rw [hle] at cn
      have hnl : ((R.toks.length : Int) != (R.toks.length : Int)) = false := by simp
      replace hle := Lib.hid hle
      go_wp2_with fail
      have hb1x := (Below.refl W.heap.size W).alloc (Nat.le_refl _) (.cells #[.int .i64 1] 3)
      have hEb := hE.below hb1x
      have bt1 := Boxed.new W 3 (.int .i64 1)
      have hs1 := World.size_alloc W (.cells #[.int .i64 1] 3)
      have hDl := (Array.getElem?_eq_some_iff.1 hD).1
      have hD1 := al_heap (.cells #[.int .i64 1] 3) hD
      have hBZ : BT + 2 < W.heap.size := hbn.lt
      clear hb1x hE hbt hbn hD cn ct cL c5 hnl hnn
      generalize W.alloc (.cells #[.int .i64 1] 3) = WX at hEb bt1 hs1 hD1 ⊢
      generalize W.heap.size = BZ at bt1 hs1 hDl hBZ ⊢
      rw [rounds_succ]
      have ct1 := bt1.cell
      go_wp2_with fail
      have hEn1 := hEb.below ((Below.refl WX.heap.size WX).alloc (Nat.le_refl _) (.cells #[.int .i64 0] 3))
      have btn1 := bt1.alloc (.cells #[.int .i64 0] 3)
      have bn1 := Boxed.new WX 3 (.int .i64 0)
      have hsn1 := World.size_alloc WX (.cells #[.int .i64 0] 3)
      replace hD1 := al_heap (.cells #[.int .i64 0] 3) hD1
      generalize WX.alloc (.cells #[.int .i64 0] 3) = WB at hEn1 btn1 bn1 hsn1 hD1 ⊢
      rw [hs1] at bn1 hsn1
      try rw [hs1]
      clear hEb bt1 ct1
      refine name_frame ?_
      intro tm htm
      refine range_wide (P := Try.prog) (tm := tm) (ds := _) (gf := 40) (lb := #[.pointer (some ⟨BT, 0, none⟩)]) (by rw [htm]; rfl) (enters_of Try.func40 (by kernel_rfl) rfl)
        (each_stops 8 s hs BT WB.heap.size WB (Nat.le_refl _) hEn1.bT.lt hEn1.bT.cell) KpM.trans (fun W l o o' _ h hc _ => KpM.put W l o o' h hc) (fun _ => rfl)
        (fun pre W => ES w.heap.size (w.heap.size + 1) w1.heap.size BT (BT + 1) leave s va ca R.toks w W ∧ Boxed W BZ 3 (.int .i64 1) ∧ Boxed W (BZ + 1) 3 (.int .i64 (pre.length : Nat)) ∧ pre <+: R.toks ∧ True ∧ W.heap[D0]? = some (.deferred (some [])))
        (fun c pre W => (c = .ret ∧ ¬ pre <+: R.toks) ∨ (c = .exit 2 ∧ ES w.heap.size (w.heap.size + 1) w1.heap.size BT (BT + 1) leave s va ca R.toks w W ∧ Boxed W BZ 3 (.int .i64 1) ∧ Boxed W (BZ + 1) 3 (.int .i64 (pre.length : Nat)) ∧ pre <+: R.toks ∧ (1 = 0 ∧ 0 < leave ∧ (pre.length : Int) = leave) ∧ W.heap[D0]? = some (.deferred (some []))))
        (fun pre A B row hs hg hr => ⟨hs.1.own hEn1.bel.size hg hr, bx_own hs.2.1 hg (fun r e => (hr r e).2), bx_own hs.2.2.1 hg (fun r e => (hr r e).2), hs.2.2.2.1, hs.2.2.2.2.1, own_def hs.2.2.2.2.2 (by omega) hg hr⟩)
        (fun c pre A B row hs hg hr => hs.imp id (fun hs => ⟨hs.1, hs.2.1.own hEn1.bel.size hg hr, bx_own hs.2.2.1 hg (fun r e => (hr r e).2), bx_own hs.2.2.2.1 hg (fun r e => (hr r e).2), hs.2.2.2.2.1, hs.2.2.2.2.2.1, own_def hs.2.2.2.2.2.2 (by omega) hg hr⟩))
        ⟨hEn1, btn1, bn1, List.nil_prefix, trivial, hD1⟩
        (fun x b W => WB.heap.size ≤ b ∧ W.heap[b]? = some (.cells (tokC x) 25))
        (fun x b _ X Y row hs hg hr => ⟨hs.1, by
          rw [hg.block b (Array.getElem?_eq_some_iff.1 hs.2).1 (fun e => by
            obtain ⟨_, ob, h1, h2⟩ := hr b e.symm
            rw [hs.2] at h1; injection h1 with h1; subst h1; simp [Obj.isCells] at h2)]
          exact hs.2⟩)
        (fun x b tm => (tm.setIfInBounds 29 (.agg (tokC x))).setIfInBounds 12 (.pointer (some ⟨b, 0, none⟩)))
        ?assign1 ?body1 ?done1 ?stop1
      case assign1 =>
        rintro l pre x W K hi hK
        rw [htm] at hK ⊢
        simp only [tokC, tokCs]
        gi_wp2
        have hal := (Below.refl W.heap.size W).alloc (Nat.le_refl _) (.cells #[.int .i64 x.kind, .string (mk x.text), .int .i64 x.at_, .int .i64 x.end_] 25)
        obtain ⟨i1, i2, i3, i4, i5, i6⟩ := hi
        exact hK W.heap.size _ ((KeepsOthers.alloc _ _).from _) (KpM.below hal) ⟨i1.below hal, bx_below i2 hal, bx_below i3 hal, i4, i5, (hal.block _ (Array.getElem?_eq_some_iff.1 i6).1).trans i6⟩ ⟨by have := i3.lt; omega, heap_alloc_new _ _⟩
      case body1 =>
        rintro l pre x b W hl hr ⟨hE, hbt, hbn, hpre, hc, hd⟩ ⟨hBb, hx⟩ hlt
        rw [htm]
        rw [← hR.out] at hlt
        have cn := hbn.cell
        have fn := hbn.frozen
        have ct := hbt.cell
        have cL := hE.bL.cell
        have c5 := hE.b5.cell
        have cR := hE.bR.cell
        have fR := hE.bR.frozen
        have x0 : W.cell? ⟨b, 0, none⟩ = some (.int .i64 x.kind) := cell_of_row _ _ _ _ _ _ hx
        have x1 : W.cell? ⟨b, 1, none⟩ = some (.string (mk x.text)) := cell_of_row _ _ _ _ _ _ hx
        have x2 : W.cell? ⟨b, 2, none⟩ = some (.int .i64 x.at_) := cell_of_row _ _ _ _ _ _ hx
        have x3 : W.cell? ⟨b, 3, none⟩ = some (.int .i64 x.end_) := cell_of_row _ _ _ _ _ _ hx
        obtain ⟨T, hT⟩ : ∃ T, R.toks[pre.length] = T := ⟨_, rfl⟩
        obtain ⟨g, rfl, k0, k1, k2, k3⟩ := hE.row.at_ pre.length hlt
        rw [hT] at k0 k1 k2 k3
        replace hT := Lib.hid hT
        replace hE := Lib.hid hE
        have hmx : Try.prog.follows .mixedOrders = true := by kernel_rfl
        have hge2 : decide (R.toks.length ≤ pre.length) = false := decide_eq_false (by omega)
        have hge : decide ((R.toks.length : Int) ≤ (pre.length : Int)) = false := decide_eq_false (by omega)
        have hwn : IntKind.i64.wrap ((pre.length : Int) + 1) = (pre.length : Int) + 1 := IntWalk.i64_in _ (by omega)
        simp only [List.setIfInBounds_toArray, List.set_cons_succ, List.set_cons_zero, tokC, tokCs]
        by_cases hxe : x = T
        · have hq : ∀ w, (binOp .neq 25 (.agg #[.int .i64 x.kind, .string (mk x.text), .int .i64 x.at_, .int .i64 x.end_]) (.agg #[.int .i64 T.kind, .string (mk T.text), .int .i64 T.at_, .int .i64 T.end_])).run Try.prog w = .ok (.bool false) w := fun w => by
            have := run_neq_tok x T w
            rw [hxe, tokB_self] at this
            rw [hxe]; exact this
          gi_wp2
          refine wpIn_region_quiet_round (by kernel_rfl) (by kernel_rfl) (by kernel_rfl) ?_
          repeat (first | go_big_quiet_step (fail) | quiet_step (fail))
          refine wpQuiet_nil ?_
          rintro _ ⟨nq, rfl⟩
          have hdr : Below W.heap.size W (W.drewN nq) := below_drewN (Below.refl _ _) _
          generalize W.drewN nq = V at hdr ⊢
          replace cn := cell_below hdr rfl cn
          replace fn := (hdr.frozen (p := ⟨BZ + 1, 0, none⟩) hbn.lt).trans fn
          replace ct := cell_below hdr rfl ct
          replace cL := cell_below hdr rfl cL
          clear cR fR c5 x0 x1 x2 x3 k0 k1 k2 k3 hq
          have hEv := Lib.hid (hE.out.below hdr)
          replace hbt := bx_below hbt hdr
          replace hbn := bx_below hbn hdr
          obtain ⟨q1, q2, q3, q4, q5⟩ := hEv.out.hL
          have hEs := Lib.hid (hEv.out.set (B := BZ + 1) (.int .i64 ((pre.length : Int) + 1)) (by omega))
          have hbt2 := hbt.other (B' := BZ + 1) (by omega) (.int .i64 ((pre.length : Int) + 1))
          have hbn2 := hbn.set (.int .i64 ((pre.length : Int) + 1))
          have cL2 := hEs.out.bL.cell
          have ct2 := hbt2.cell
          have cn2 := hbn2.cell
          replace q5 := Lib.hid q5
          clear q1 q2 q3 q4
          have hpre2 := Lib.hid (prefix_snoc hpre hlt (hT.out.trans hxe.symm))
          have hkf := Lib.hid (((ko_below hdr).trans (KeepsOthers.setCell V ⟨BZ + 1, 0, none⟩ (.int .i64 ((pre.length : Int) + 1)))).from WB.heap.size)
          have hkp := Lib.hid (KpM.trans (KpM.below (M := WB.heap.size) hdr) (KpM.set V (b := BZ + 1) (i := 0) (.int .i64 ((pre.length : Int) + 1)) (by omega)))
          have hD2 : (V.setCell ⟨BZ + 1, 0, none⟩ (.int .i64 ((pre.length : Int) + 1))).heap[D0]? = some (.deferred (some [])) := by
            rw [heap_setCell_other _ _ _ _ (by show D0 ≠ BZ + 1; omega)]
            exact (hdr.block _ (Array.getElem?_eq_some_iff.1 hd).1).trans hd
          replace hD2 := Lib.hid hD2
          gi_wp2
          exact ⟨hkf.out, hkp.out, hEs.out, hbt2, by rw [List.length_append]; exact hbn2, hpre2.out, trivial, hD2.out⟩
        · have hq : ∀ w, (binOp .neq 25 (.agg #[.int .i64 x.kind, .string (mk x.text), .int .i64 x.at_, .int .i64 x.end_]) (.agg #[.int .i64 T.kind, .string (mk T.text), .int .i64 T.at_, .int .i64 T.end_])).run Try.prog w = .ok (.bool true) w := fun w => by
            have := run_neq_tok x T w
            rw [show tokB x T = false from by cases h : tokB x T with | false => rfl | true => exact absurd ((tokB_iff _ _).1 h) hxe] at this
            exact this
          replace hxe := Lib.hid hxe
          gi_wp2
          refine wpIn_region_quiet_round (by kernel_rfl) (by kernel_rfl) (by kernel_rfl) ?_
          repeat (first | go_big_quiet_step (fail) | quiet_step (fail))
          refine wpQuiet_nil ?_
          rintro _ ⟨nq, rfl⟩
          have hdr : Below W.heap.size W (W.drewN nq) := below_drewN (Below.refl _ _) _
          generalize W.drewN nq = V at hdr ⊢
          replace cR := cell_below hdr rfl cR
          replace fR := (hdr.frozen (p := ⟨w.heap.size + 1, 0, none⟩) hE.out.bR.lt).trans fR
          clear cn fn ct cL c5 x0 x1 x2 x3 k0 k1 k2 k3 hq
          gi_wp2
          exact ⟨((ko_below hdr).trans (KeepsOthers.setCell V _ _)).from _, .inl ⟨rfl, fun h => hxe.out (prefix_get h hlt hT.out)⟩⟩
      case done1 =>
        rintro D1 xs W hDl hxs ⟨hE, hbt, hbn, hpre, hc, hd⟩ hK
        rw [← hR.out] at hxs
        subst hxs
        rw [htm]
        have cn := hbn.cell
        have ct := hbt.cell
        have cL := hE.bL.cell
        have c5 := hE.b5.cell
        have hnl : ((R.toks.length : Int) != (R.toks.length : Int)) = false := by simp
        go_wp2_with fail
        have hal := (Below.refl W.heap.size W).alloc (Nat.le_refl _) (.cells #[.int .i64 2] 3)
        have hE3 := hE.below hal
        have hd3 := al_heap (.cells #[.int .i64 2] 3) hd
        have hK3 := al_heap (.cells #[.int .i64 2] 3) hK
        have bt3 := Boxed.new W 3 (.int .i64 2)
        clear hal hE hd hK hbt hbn cn ct cL c5
        generalize W.alloc (.cells #[.int .i64 2] 3) = W9 at hE3 hd3 hK3 bt3 ⊢
        have ct3 := bt3.cell
        rw [rounds_succ]
        go_wp2_with fail
        refine (lw_known _).mono ?_
        rintro e w9 ⟨rfl, hb9⟩
        have hE4 := hE3.below hb9
        have hd4 := (hb9.block _ (Array.getElem?_eq_some_iff.1 hd3).1).trans hd3
        have hK4 := (hb9.block _ (Array.getElem?_eq_some_iff.1 hK3).1).trans hK3
        clear hE3 hd3 hK3 bt3 ct3
        have cR := hE4.bR.cell
        have fR := hE4.bR.frozen
        go_wp2_with fail
        have hd5 := set_def (u := .bool true) hd4 hE4.bR
        have hK5 := set_def (u := .bool true) hK4 hE4.bR
        have bR5 := hE4.bR.set (.bool true)
        have hb5 := hE4.bel.setCell (p := ⟨w.heap.size + 1, 0, none⟩) (by simp) (.bool true)
        have hne : D0 ≠ D1 := by omega
        have hq := hE4.hL.2.2.2.2
        clear hE4 hd4 hK4 hb9 cR fR
        generalize w9.setCell ⟨w.heap.size + 1, 0, none⟩ (.bool true) = w10 at hd5 hK5 bR5 hb5 ⊢
        refine ⟨by simp, .inl ⟨D1, _, rfl, run_takeDeferred hK5, ?_⟩⟩
        have hd6 : (w10.putObj D1 (.deferred none)).heap[D0]? = some (.deferred (some [])) := by rw [World.putObj_heap_other hne]; exact hd5
        refine ⟨by simp, .inl ⟨D0, _, rfl, run_takeDeferred hd6, ?_⟩⟩
        have bR6 : Boxed ((w10.putObj D1 (.deferred none)).putObj D0 (.deferred none)) (w.heap.size + 1) 4 (.bool true) := put_box (put_box bR5 hK5) hd6
        have hb6 : Below w.heap.size w ((w10.putObj D1 (.deferred none)).putObj D0 (.deferred none)) := (hb5.trans (belowK_b (w := w) (Nat.le_refl _) w10 D1 _ _ (by omega) hK5 rfl rfl)).trans (belowK_b (w := w) (Nat.le_refl _) _ D0 _ _ (by omega) hd6 rfl rfl)
        exact ⟨.bool true, results_bool rfl Try.underlying4 _ _ _ _ rfl bR6.cell, rfl, hb6⟩
      case stop1 =>
        rintro D c pre W _ hsp hix hK
        rw [← hR.out] at hsp
        rcases hix with ⟨_, hno⟩ | ⟨_, _, _, _, _, ⟨h01, _, _⟩, _⟩
        · exact absurd hsp hno
        · exact absurd h01 (by decide)
  refine range_wide (P := Try.prog) (tm := tm) (ds := _) (gf := 40) (lb := #[.pointer (some ⟨BT, 0, none⟩)]) (by rw [htm]; rfl) (enters_of Try.func40 (by kernel_rfl) rfl)
    (each_stops 8 s hs BT WB.heap.size WB (Nat.le_refl _) hEn0.bT.lt hEn0.bT.cell) KpM.trans (fun W l o o' _ h hc _ => KpM.put W l o o' h hc) (fun _ => rfl)
    (fun pre W => ES w.heap.size (w.heap.size + 1) w1.heap.size BT (BT + 1) leave s va ca R.toks w W ∧ Boxed W (BT + 1) 3 (.int .i64 0) ∧ Boxed W ((BT + 1) + 1) 3 (.int .i64 (pre.length : Nat)) ∧ pre <+: R.toks ∧ (0 < leave → (pre.length : Int) < leave) ∧ True)
    (fun c pre W => (c = .ret ∧ ¬ pre <+: R.toks) ∨ (c = .exit 2 ∧ ES w.heap.size (w.heap.size + 1) w1.heap.size BT (BT + 1) leave s va ca R.toks w W ∧ Boxed W (BT + 1) 3 (.int .i64 0) ∧ Boxed W ((BT + 1) + 1) 3 (.int .i64 (pre.length : Nat)) ∧ pre <+: R.toks ∧ (0 = 0 ∧ 0 < leave ∧ (pre.length : Int) = leave) ∧ True))
    (fun pre A B row hs hg hr => ⟨hs.1.own hEn0.bel.size hg hr, bx_own hs.2.1 hg (fun r e => (hr r e).2), bx_own hs.2.2.1 hg (fun r e => (hr r e).2), hs.2.2.2.1, hs.2.2.2.2.1, trivial⟩)
    (fun c pre A B row hs hg hr => hs.imp id (fun hs => ⟨hs.1, hs.2.1.own hEn0.bel.size hg hr, bx_own hs.2.2.1 hg (fun r e => (hr r e).2), bx_own hs.2.2.2.1 hg (fun r e => (hr r e).2), hs.2.2.2.2.1, hs.2.2.2.2.2.1, trivial⟩))
    ⟨hEn0, btn0, bn0, List.nil_prefix, fun h => by simpa using h, trivial⟩
    (fun x b W => WB.heap.size ≤ b ∧ W.heap[b]? = some (.cells (tokC x) 25))
    (fun x b _ X Y row hs hg hr => ⟨hs.1, by
      rw [hg.block b (Array.getElem?_eq_some_iff.1 hs.2).1 (fun e => by
        obtain ⟨_, ob, h1, h2⟩ := hr b e.symm
        rw [hs.2] at h1; injection h1 with h1; subst h1; simp [Obj.isCells] at h2)]
      exact hs.2⟩)
    (fun x b tm => (tm.setIfInBounds 29 (.agg (tokC x))).setIfInBounds 12 (.pointer (some ⟨b, 0, none⟩)))
    ?assign0 ?body0 ?done0 ?stop0
  case assign0 =>
    rintro l pre x W K hi hK
    rw [htm] at hK ⊢
    simp only [tokC, tokCs]
    gi_wp2
    have hal := (Below.refl W.heap.size W).alloc (Nat.le_refl _) (.cells #[.int .i64 x.kind, .string (mk x.text), .int .i64 x.at_, .int .i64 x.end_] 25)
    obtain ⟨i1, i2, i3, i4, i5, i6⟩ := hi
    exact hK W.heap.size _ ((KeepsOthers.alloc _ _).from _) (KpM.below hal) ⟨i1.below hal, bx_below i2 hal, bx_below i3 hal, i4, i5, trivial⟩ ⟨by have := i3.lt; omega, heap_alloc_new _ _⟩
  case body0 =>
    rintro l pre x b W hl hr ⟨hE, hbt, hbn, hpre, hc, hd⟩ ⟨hBb, hx⟩ hlt
    rw [htm]
    rw [← hR.out] at hlt
    have cn := hbn.cell
    have fn := hbn.frozen
    have ct := hbt.cell
    have cL := hE.bL.cell
    have c5 := hE.b5.cell
    have cR := hE.bR.cell
    have fR := hE.bR.frozen
    have x0 : W.cell? ⟨b, 0, none⟩ = some (.int .i64 x.kind) := cell_of_row _ _ _ _ _ _ hx
    have x1 : W.cell? ⟨b, 1, none⟩ = some (.string (mk x.text)) := cell_of_row _ _ _ _ _ _ hx
    have x2 : W.cell? ⟨b, 2, none⟩ = some (.int .i64 x.at_) := cell_of_row _ _ _ _ _ _ hx
    have x3 : W.cell? ⟨b, 3, none⟩ = some (.int .i64 x.end_) := cell_of_row _ _ _ _ _ _ hx
    obtain ⟨T, hT⟩ : ∃ T, R.toks[pre.length] = T := ⟨_, rfl⟩
    obtain ⟨g, rfl, k0, k1, k2, k3⟩ := hE.row.at_ pre.length hlt
    rw [hT] at k0 k1 k2 k3
    replace hT := Lib.hid hT
    replace hE := Lib.hid hE
    have hmx : Try.prog.follows .mixedOrders = true := by kernel_rfl
    have hge2 : decide (R.toks.length ≤ pre.length) = false := decide_eq_false (by omega)
    have hge : decide ((R.toks.length : Int) ≤ (pre.length : Int)) = false := decide_eq_false (by omega)
    have hwn : IntKind.i64.wrap ((pre.length : Int) + 1) = (pre.length : Int) + 1 := IntWalk.i64_in _ (by omega)
    simp only [List.setIfInBounds_toArray, List.set_cons_succ, List.set_cons_zero, tokC, tokCs]
    by_cases hxe : x = T
    · have hq : ∀ w, (binOp .neq 25 (.agg #[.int .i64 x.kind, .string (mk x.text), .int .i64 x.at_, .int .i64 x.end_]) (.agg #[.int .i64 T.kind, .string (mk T.text), .int .i64 T.at_, .int .i64 T.end_])).run Try.prog w = .ok (.bool false) w := fun w => by
        have := run_neq_tok x T w
        rw [hxe, tokB_self] at this
        rw [hxe]; exact this
      gi_wp2
      refine wpIn_region_quiet_round (by kernel_rfl) (by kernel_rfl) (by kernel_rfl) ?_
      repeat (first | go_big_quiet_step (fail) | quiet_step (fail))
      refine wpQuiet_nil ?_
      rintro _ ⟨nq, rfl⟩
      have hdr : Below W.heap.size W (W.drewN nq) := below_drewN (Below.refl _ _) _
      generalize W.drewN nq = V at hdr ⊢
      replace cn := cell_below hdr rfl cn
      replace fn := (hdr.frozen (p := ⟨(BT + 1) + 1, 0, none⟩) hbn.lt).trans fn
      replace ct := cell_below hdr rfl ct
      replace cL := cell_below hdr rfl cL
      clear cR fR c5 x0 x1 x2 x3 k0 k1 k2 k3 hq
      have hEv := Lib.hid (hE.out.below hdr)
      replace hbt := bx_below hbt hdr
      replace hbn := bx_below hbn hdr
      obtain ⟨q1, q2, q3, q4, q5⟩ := hEv.out.hL
      have hEs := Lib.hid (hEv.out.set (B := (BT + 1) + 1) (.int .i64 ((pre.length : Int) + 1)) (by omega))
      have hbt2 := hbt.other (B' := (BT + 1) + 1) (by omega) (.int .i64 ((pre.length : Int) + 1))
      have hbn2 := hbn.set (.int .i64 ((pre.length : Int) + 1))
      have cL2 := hEs.out.bL.cell
      have ct2 := hbt2.cell
      have cn2 := hbn2.cell
      replace q5 := Lib.hid q5
      clear q1 q2 q3 q4
      have hpre2 := Lib.hid (prefix_snoc hpre hlt (hT.out.trans hxe.symm))
      have hkf := Lib.hid (((ko_below hdr).trans (KeepsOthers.setCell V ⟨(BT + 1) + 1, 0, none⟩ (.int .i64 ((pre.length : Int) + 1)))).from WB.heap.size)
      have hkp := Lib.hid (KpM.trans (KpM.below (M := WB.heap.size) hdr) (KpM.set V (b := (BT + 1) + 1) (i := 0) (.int .i64 ((pre.length : Int) + 1)) (by omega)))
      by_cases hlv : (pre.length : Int) + 1 = leave
      · have hlb : (((pre.length : Int) + 1) == leave) = true := beq_iff_eq.2 hlv
        replace hlv := Lib.hid hlv
        gi_wp2
        exact ⟨hkf.out, .inr ⟨rfl, hEs.out, hbt2, by rw [List.length_append]; exact hbn2, hpre2.out, ⟨by trivial, by have := hlv.out; omega, by rw [List.length_append]; have := hlv.out; simpa using this⟩, trivial⟩⟩
      · have hlb : (((pre.length : Int) + 1) == leave) = false := beq_eq_false_iff_ne.2 hlv
        replace hlv := Lib.hid hlv
        gi_wp2
        exact ⟨hkf.out, hkp.out, hEs.out, hbt2, by rw [List.length_append]; exact hbn2, hpre2.out, (fun h => by have := hc h; have := hlv.out; rw [List.length_append]; simp; omega), trivial⟩
    · have hq : ∀ w, (binOp .neq 25 (.agg #[.int .i64 x.kind, .string (mk x.text), .int .i64 x.at_, .int .i64 x.end_]) (.agg #[.int .i64 T.kind, .string (mk T.text), .int .i64 T.at_, .int .i64 T.end_])).run Try.prog w = .ok (.bool true) w := fun w => by
        have := run_neq_tok x T w
        rw [show tokB x T = false from by cases h : tokB x T with | false => rfl | true => exact absurd ((tokB_iff _ _).1 h) hxe] at this
        exact this
      replace hxe := Lib.hid hxe
      gi_wp2
      refine wpIn_region_quiet_round (by kernel_rfl) (by kernel_rfl) (by kernel_rfl) ?_
      repeat (first | go_big_quiet_step (fail) | quiet_step (fail))
      refine wpQuiet_nil ?_
      rintro _ ⟨nq, rfl⟩
      have hdr : Below W.heap.size W (W.drewN nq) := below_drewN (Below.refl _ _) _
      generalize W.drewN nq = V at hdr ⊢
      replace cR := cell_below hdr rfl cR
      replace fR := (hdr.frozen (p := ⟨w.heap.size + 1, 0, none⟩) hE.out.bR.lt).trans fR
      clear cn fn ct cL c5 x0 x1 x2 x3 k0 k1 k2 k3 hq
      gi_wp2
      exact ⟨((ko_below hdr).trans (KeepsOthers.setCell V _ _)).from _, .inl ⟨rfl, fun h => hxe.out (prefix_get h hlt hT.out)⟩⟩
  case done0 =>
    rintro D xs W hDl hxs ⟨hE, hbt, hbn, hpre, hc, _⟩ hK
    rw [← hR.out] at hxs
    subst hxs
    refine key0 D R.toks.length W (by omega) hE hbt hbn (Nat.le_refl _) ?_ hK
    by_cases hl0 : 0 < leave
    · have := hc hl0; exact .inl ⟨hl0, by omega⟩
    · exact .inr ⟨by omega, rfl⟩
  case stop0 =>
    rintro D c pre W hDl hsp hix hK
    rw [← hR.out] at hsp
    rcases hix with ⟨_, hno⟩ | ⟨rfl, hE, hbt, hbn, hpre, ⟨_, hl0, he⟩, _⟩
    · exact absurd hsp hno
    · refine wp_exit ?_
      have := hpre.length_le
      exact key0 D pre.length W (by omega) hE hbt hbn this (.inl ⟨hl0, by omega⟩) hK

end Go.Proofs.Ytefgipoegnacjaa
