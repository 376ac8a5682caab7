/- Intern: Rising. -/
import Derived.Test.YtacjelpkmafkpaaInM
namespace Go.Proofs.Ytacjelpkmafkpaa
open Go.RowKit Go.Shelf It
attribute [local go_sem] Oper.semAt_some neq_map
theorem box_ne {W : World} {g c n base B : Nat} {xs : List Value} {t : TypeId} {u : Value} (hb : Boxed W B t u) (h : W.ownsRow base 3 1 (.slice (some ⟨g, 0, none⟩) n c) n xs) (ht : t ≠ 3) : B ≠ g := by
  rintro rfl
  rcases h.2 with ⟨e, -⟩ | ⟨g', cap, cur, e, -, hh, -⟩
  · cases e
  · injection e with e _ _
    injection e with e
    injection e with e
    subst e
    rw [show W.heap[B]? = _ from hb] at hh
    injection hh with hh
    injection hh with _ h2
    exact ht h2
/-- what stands while the numbers are gathered: the boxes of t and of the list, the list, the table -/
structure RS (w : World) (Bt Bo B b : Nat) (v : Value) (mb : Nat) (L : List ByteArray) (n : Nat) (xs : List Value) (g c : Nat) (W : World) : Prop where
  bt : Boxed W Bt 23 (.pointer (some ⟨b, 0, none⟩))
  bo : Boxed W Bo 28 (.slice (some ⟨g, 0, none⟩) n c)
  row : W.ownsRow w.heap.size 3 1 (.slice (some ⟨g, 0, none⟩) n c) n xs
  tab : Tab W B b v mb L
  bel : Below w.heap.size w W
  lt : ∀ k, TabB b v mb k → k < w.heap.size
  hb : w.heap.size ≤ Bt ∧ w.heap.size ≤ Bo ∧ Bt ≠ Bo
section
variable {w W W' : World} {Bt Bo B b mb n g c : Nat} {v : Value} {L : List ByteArray} {xs : List Value}
theorem RS.below (h : RS w Bt Bo B b v mb L n xs g c W) (hb : Below W.heap.size W W') : RS w Bt Bo B b v mb L n xs g c W' :=
  ⟨bx_below h.bt hb, bx_below h.bo hb, own_below h.row hb, h.tab.below hb, h.bel.trans (hb.mono h.bel.size), h.lt, h.hb⟩
theorem RS.own (h : RS w Bt Bo B b v mb L n xs g c W) {M : Nat} (hM : w.heap.size ≤ M) {row : Option Nat} (hg : W.grownBy W' row) (hr : ∀ r, row = some r → M ≤ r ∧ ∃ o : Obj, W.heap[r]? = some o ∧ o.isCells = false) : RS w Bt Bo B b v mb L n xs g c W' := by
  have hr2 := fun r e => (hr r e).2
  refine ⟨bx_own h.bt hg hr2, bx_own h.bo hg hr2, own_grownOther h.row hg (fun k hk e => ?_), h.tab.own (fun k hk => Nat.lt_of_lt_of_le (h.lt k hk) hM) hg hr, h.bel.grown hg h.bel.size (fun k e => Nat.le_trans hM (hr k e).1), h.lt, h.hb⟩
  obtain ⟨o, ho, hc⟩ := hr2 k e
  injection hk with hk
  rcases h.row.2 with ⟨e1, -⟩ | ⟨g', cap, cur, e1, -, hh, -⟩
  · cases e1
  · injection e1 with e1 _ _
    injection e1 with e1
    injection e1 with e1
    have hk2 : g = k := hk
    rw [← e1, hk2, ho] at hh
    injection hh with hh
    rw [hh] at hc
    cases hc
end
theorem ko_grown {A C : World} {g : Nat} {cs : Array Value} {t : TypeId} {fz : Nat × Nat} (hg : A.grownBy C (some g)) (h : A.heap[g]? = some (.cells cs t fz)) : KeepsOthers A C :=
  ⟨hg.size, fun j o e ho => (hg.block j (Array.getElem?_eq_some_iff.1 e).1 (fun e2 => by injection e2 with e2; rw [e2, h] at e; injection e with e; rw [← e] at ho; cases ho)).trans e⟩
theorem RS.push {w W w3 : World} {Bt Bo B b mb n g c vc vn : Nat} {va : Option Addr} {L : List ByteArray} {xs : List Value} {x u : Value} {v3 : Value} (h : RS w Bt Bo B b (.slice va vn vc) mb L n xs g c W) (hown : w3.ownsRow w.heap.size 3 1 v3 (n + 1) (xs ++ [x]))
    (hg : (W.alloc (.cells #[u] 3)).grownBy w3 (Value.slice (some ⟨g, 0, none⟩) n c).ownBlock) :
    ∃ g3 c3, v3 = .slice (some ⟨g3, 0, none⟩) (n + 1) c3 ∧ Boxed w3 Bo 28 (.slice (some ⟨g, 0, none⟩) n c) ∧ Hid (RS w Bt Bo B b (.slice va vn vc) mb L (n + 1) (xs ++ [x]) g3 c3 (w3.setCell ⟨Bo, 0, none⟩ (.slice (some ⟨g3, 0, none⟩) (n + 1) c3))) ∧
      Hid (KeepsOthers W (w3.setCell ⟨Bo, 0, none⟩ (.slice (some ⟨g3, 0, none⟩) (n + 1) c3))) ∧ Hid (∀ m, KpS va m W (w3.setCell ⟨Bo, 0, none⟩ (.slice (some ⟨g3, 0, none⟩) (n + 1) c3))) := by
  obtain ⟨g3, c3, rfl, hge3, hlt3, -, -⟩ := own_shape hown (by omega)
  have al := (Below.refl W.heap.size W).al (.cells #[u] 3)
  have hA := h.below al
  replace hg : (W.alloc (.cells #[u] 3)).grownBy w3 (some g) := hg
  have hgl := (own_lt hA.row g rfl)
  have ht := box_ne hA.bt hA.row (by decide)
  have ho := box_ne hA.bo hA.row (by decide)
  have bt3 : Boxed w3 Bt _ _ := (hg.block Bt hA.bt.lt (fun e => ht (by injection e))).trans hA.bt
  have bo3 : Boxed w3 Bo _ _ := (hg.block Bo hA.bo.lt (fun e => ho (by injection e))).trans hA.bo
  have hTg : ∀ k, TabB b (.slice va vn vc) mb k → k ≠ g := fun k hk e => by have := h.lt k hk; omega
  have tab3 : Tab w3 B b (.slice va vn vc) mb L := hA.tab.kept (S := fun k => some g = some k) ((KeptR.refl _ _).grown hg (fun j hj => .inl hj)) fun k hk e => hTg k hk (by injection e with e; exact e.symm)
  have bel3 : Below w.heap.size w w3 := hA.bel.grown hg hA.bel.size (fun k e => by injection e with e; omega)
  have ho3 := box_ne bo3 hown (by decide)
  have hsz3 : W.heap.size ≤ w3.heap.size := Nat.le_trans al.size hg.size
  obtain ⟨k1, k2, k3⟩ := h.hb
  refine ⟨g3, c3, rfl, bo3, Lib.hid ⟨bt3.other k3 _, bo3.set _, own_setOther hown (fun e => ho3 (by injection e with e; exact e.symm)), tab3.set (fun hk => by have := h.lt _ hk; omega), bel3.setCell (p := ⟨Bo, 0, none⟩) k2 _, h.lt, h.hb⟩, Lib.hid ?_, Lib.hid fun m => ?_⟩
  · have hc : ∃ cs fz, (W.alloc (.cells #[u] 3)).heap[g]? = some (.cells cs 3 fz) := by
      rcases hA.row.2 with ⟨e, -⟩ | ⟨g', cap, cur, e, -, hh, -⟩
      · cases e
      · injection e with e _ _
        injection e with e
        injection e with e
        exact ⟨cur, (0, 0), e ▸ hh⟩
    obtain ⟨cs, fz, hc⟩ := hc
    exact ((ko_below al).trans (ko_grown hg hc)).trans (KeepsOthers.setCell w3 _ _)
  · have hv : ∀ q, va = some ⟨q, 0, none⟩ → q < w.heap.size := fun q e => h.lt q (.inr (.inr (by rw [e]; rfl)))
    have s1 : KpS va m W (W.alloc (.cells #[u] 3)) := KpS.below al fun q e => Nat.lt_of_lt_of_le (hv q e) h.bel.size
    have s2 : KpS va m (W.alloc (.cells #[u] 3)) w3 := ⟨hg.size, fun q j e _ => World.cell?_of_block (hg.block q (Nat.lt_of_lt_of_le (hv q e) hA.bel.size) (fun e2 => by injection e2 with e2; have := hv q e; omega))⟩
    exact (s1.trans s2).trans (KpS.set (N := w.heap.size) hv w3 Bo _ k2)
def RisP (w : World) (L : List ByteArray) (e : Ending) (w' : World) : Prop :=
  ∃ o, ∃ a : List Int, e = .returned o ∧ Risen L a ∧ w'.ownsRow w.heap.size 3 1 o L.length (a.map (Value.int .i64)) ∧ Below w.heap.size w w'
set_option maxRecDepth 100000 in
set_option maxHeartbeats 8000000 in
theorem in_Rising {w : World} {B b mb : Nat} {va : Option Addr} {vc : Nat} {L : List ByteArray} (hT : Tab w B b (.slice va L.length vc) mb L) :
    Calls Try.prog 17 #[.pointer (some ⟨b, 0, none⟩)] w (RisP w L) := by
  have hLn := hT.len
  have hT0 := Lib.hid hT
  clear hT
  refine callsIn_wide.1 (callsIn_of_wp_marks (n := 9) Try.func17 rfl trivial ?_ rfl)
  simp only [Try.ntmps17, List.size_toArray, List.length_cons, List.length_nil, Nat.reduceAdd, Nat.reduceSub, Array.replicate_succ, Array.replicate_zero, List.push_toArray, List.append_toArray, List.nil_append, List.cons_append]
  refine wpIn_wide.2 ?_
  go_wp2_with (go_at_call 10; refine (in_All _ _).mono ?_; rintro e w1 ⟨rfl, rfl⟩)
  have hR0 : RS w w.heap.size (w.heap.size + 1 + 1) B b (.slice va L.length vc) mb L 0 [] (w.heap.size + 1) 0 ((((w.alloc (.cells #[.pointer (some ⟨b, 0, none⟩)] 23)).alloc (.cells #[] 3)).alloc (.cells #[.slice (some ⟨w.heap.size + 1, 0, none⟩) 0 0] 28)).alloc (.cells #[.pointer (some ⟨b, 0, none⟩)] 23)) ∧
      Boxed ((((w.alloc (.cells #[.pointer (some ⟨b, 0, none⟩)] 23)).alloc (.cells #[] 3)).alloc (.cells #[.slice (some ⟨w.heap.size + 1, 0, none⟩) 0 0] 28)).alloc (.cells #[.pointer (some ⟨b, 0, none⟩)] 23)) (w.heap.size + 1 + 1 + 1) 23 (.pointer (some ⟨b, 0, none⟩)) := by
    have e1 := World.size_alloc w (.cells #[.pointer (some ⟨b, 0, none⟩)] 23)
    have bt := Boxed.new w 23 (.pointer (some ⟨b, 0, none⟩))
    have h1 : Below w.heap.size w (w.alloc (.cells #[.pointer (some ⟨b, 0, none⟩)] 23)) := (Below.refl _ _).al _
    generalize w.alloc (.cells #[.pointer (some ⟨b, 0, none⟩)] 23) = X1 at *
    have e2 := World.size_alloc X1 (.cells #[] 3)
    have row : (X1.alloc (.cells #[] 3)).ownsRow w.heap.size 3 1 (.slice (some ⟨w.heap.size + 1, 0, none⟩) 0 0) 0 [] :=
      ⟨rfl, .inr ⟨w.heap.size + 1, 0, #[], rfl, by omega, by rw [← e1]; exact heap_alloc_new X1 _, Nat.le_refl _, by decide, rfl, rfl⟩⟩
    replace bt := bt.alloc (.cells #[] 3)
    have h2 := h1.al (.cells #[] 3)
    generalize X1.alloc (.cells #[] 3) = X2 at *
    have e3 := World.size_alloc X2 (.cells #[.slice (some ⟨w.heap.size + 1, 0, none⟩) 0 0] 28)
    have bo := Boxed.new X2 28 (.slice (some ⟨w.heap.size + 1, 0, none⟩) 0 0)
    have al := (Below.refl X2.heap.size X2).al (.cells #[.slice (some ⟨w.heap.size + 1, 0, none⟩) 0 0] 28)
    replace bt := bx_below bt al
    replace row := own_below row al
    have h3 := h2.al (.cells #[.slice (some ⟨w.heap.size + 1, 0, none⟩) 0 0] 28)
    generalize X2.alloc (.cells #[.slice (some ⟨w.heap.size + 1, 0, none⟩) 0 0] 28) = X3 at *
    have bN := Boxed.new X3 23 (.pointer (some ⟨b, 0, none⟩))
    have al := (Below.refl X3.heap.size X3).al (.cells #[.pointer (some ⟨b, 0, none⟩)] 23)
    have h4 := h3.al (.cells #[.pointer (some ⟨b, 0, none⟩)] 23)
    replace bt := bx_below bt al
    replace bo := bx_below bo al
    replace row := own_below row al
    generalize X3.alloc (.cells #[.pointer (some ⟨b, 0, none⟩)] 23) = X4 at *
    rw [e2, e1] at bo
    rw [e3, e2, e1] at bN
    exact ⟨⟨bt, bo, row, hT0.out.below h4, h4, fun k hk => (hT0.out.lt k hk).2, by omega⟩, bN⟩
  generalize (((w.alloc (.cells #[.pointer (some ⟨b, 0, none⟩)] 23)).alloc (.cells #[] 3)).alloc (.cells #[.slice (some ⟨w.heap.size + 1, 0, none⟩) 0 0] 28)).alloc (.cells #[.pointer (some ⟨b, 0, none⟩)] 23) = W1 at hR0 ⊢
  obtain ⟨hR1, hbA⟩ := hR0
  have hsz1 := hR1.bel.size
  refine name_frame ?_
  intro tm htm
  refine range_wide (P := Try.prog) (tm := tm) (ds := _) (gf := 26) (lb := #[.pointer (some ⟨(w.heap.size + 1 + 1 + 1), 0, none⟩)]) (by rw [htm]; rfl) (enters_of Try.func26 (by kernel_rfl) rfl)
    (all_stops 8 (w.heap.size + 1 + 1 + 1) W1 hR1.tab hbA.lt hbA.cell) KpS.trans (fun W l _ o' hl _ _ _ => KpS.put (fun g e => (own_lt hR1.tab.row g (by rw [e]; rfl)).2) W l o' hl) (fun _ => rfl)
    (fun pre W => ∃ g c, RS w w.heap.size (w.heap.size + 1 + 1) B b (.slice va L.length vc) mb L pre.length (ints pre) g c W)
    (fun c pre W => False)
    (fun pre A B' row hs hg hr => by obtain ⟨g, c, hs⟩ := hs; exact ⟨g, c, hs.own hsz1 hg hr⟩)
    (fun c pre A B' row hs hg hr => hs)
    ⟨_, _, hR1⟩
    (fun _ _ _ => True) (fun _ _ _ _ _ _ _ _ _ => trivial)
    (fun x _ tm => ((tm.setIfInBounds 8 (.int .i64 (x : Int))).setIfInBounds 9 (.string (L.getD x ⟨#[]⟩))).setIfInBounds 4 (.int .i64 (x : Int)))
    ?assign1 ?body1 ?done1 ?stop1
  case assign1 =>
    rintro l pre x W K hi hK
    rw [htm] at hK ⊢
    simp only [itemE]
    gi_wp2
    exact hK 0 _ ((KeepsOthers.refl _).from _) (KpS.refl _ _ _) hi trivial
  case body1 =>
    rintro l pre x _ W hl hr ⟨g, c, hG⟩ _ hlt
    rw [htm]
    obtain ⟨ii, hii, hi0, hi1, hi2⟩ := info_parts infoIntN
    have co := hG.bo.cell
    generalize L.getD x ⟨#[]⟩ = sx
    have hGh := Lib.hid hG
    have hbs : Hid (w.heap.size ≤ W.heap.size) := Lib.hid hG.bel.size
    have h63 : Hid (pre.length + 1 ≤ maxLen) := Lib.hid (by unfold maxLen; omega)
    have h64 : Hid ((pre.length + 1) * 8 ≤ 140737488355328) := Lib.hid (by omega)
    clear hG
    simp only [List.setIfInBounds_toArray, List.set_cons_succ, List.set_cons_zero]
    gi_wp2_with (gi_at_builtin; refine wpListIn_append_own _ rfl (.tmp 10) (.tmp 12) 28 rfl w.heap.size 3 ii (.int .i64 0) 1 8 Try.underlying28 hii hi0 hi1 hi2 rfl (by decide) _ pre.length (ints pre) rfl (hGh.out.row.alloc _) ⟨W.heap.size, 0, none⟩ 1 1 [.int .i64 (x : Int)] rfl rfl (cell_one_new _ _ _) (by intro u hu; simp at hu; subst hu; rfl) h63.out h64.out (by rw [World.size_alloc]; have := hbs.out; omega) ?_)
    intro v3 w3 hown3 hg3 _
    obtain ⟨g3, c3, rfl, bo3, hG3, hko3, hkp3⟩ := hGh.out.push hown3 hg3
    have co3 := bo3.cell
    have fo3 := bo3.frozen
    clear hown3 hg3 co bo3 hGh
    gi_wp2
    refine ⟨hko3.out.from _, hkp3.out _, g3, c3, ?_⟩
    rw [ints_snoc, List.length_append]
    exact hG3.out
  case done1 =>
    rintro D0 xs W hD0 rfl ⟨g, c, hG⟩ hK
    rw [List.length_range] at hG
    rw [htm]
    have co := hG.bo.cell
    have hgl := own_lt hG.row g rfl
    have hgT : ¬ TabB b (.slice va L.length vc) mb g := fun hk => by have := hG.lt g hk; omega
    have hDg : D0 ≠ g := by
      rintro rfl
      rcases hG.row.2 with ⟨e, -⟩ | ⟨g', cap, cur, e, -, hh, -⟩
      · cases e
      · injection e with e _ _
        injection e with e
        injection e with e
        rw [← e, hK] at hh
        cases hh
    have hT1 := box_ne hG.bt hG.row (by decide)
    have ho1 := box_ne hG.bo hG.row (by decide)
    have hs := Lib.hid (in_sort hG.tab hG.bt hG.bo hG.row hgT hT1 ho1)
    replace hG := Lib.hid hG
    clear htm
    go_wp2_with (first
      | (go_at_call 29
         refine hs.out.mono ?_
         unfold SortP
         rintro e w2 ⟨rfl, a, hra, hown, hgr⟩
         have bo2 : Boxed w2 (w.heap.size + 1 + 1) _ _ := (hgr.block _ hG.out.bo.lt (fun e => ho1 (by injection e))).trans hG.out.bo
         have co2 := bo2.cell
         have hK2 := (hgr.block D0 (Array.getElem?_eq_some_iff.1 hK).1 (fun e => hDg (by injection e))).trans hK
         have hs2 := hgr.size
         have hb2 := Lib.hid (hG.out.bel.grown hgr hG.out.bel.size (fun k e => by injection e with e; omega))
         clear co bo2 hs hgr))
    have hown3 := own_grownOther hown (grownBy_putObj' w2 D0 (.deferred none)) (fun k hk e => by
      injection hk with hk
      injection e with e
      exact hDg (e.trans hk.symm))
    have hb3 : Below w.heap.size w (w2.putObj D0 (.deferred none)) := hb2.out.trans (belowK_b (w := w) (Nat.le_refl _) w2 D0 _ _ (by omega) hK2 rfl rfl)
    refine ⟨by simp, .inl ⟨D0, _, rfl, run_takeDeferred hK2, ?_⟩⟩
    exact ⟨.slice (some ⟨g, 0, none⟩) L.length c, results_tmp (t := 2) rfl _ _ _, .slice (some ⟨g, 0, none⟩) L.length c, a, rfl, hra, hown3, hb3⟩
  case stop1 =>
    rintro D c pre W _ hsp hno hK
    exact hno.elim
end Go.Proofs.Ytacjelpkmafkpaa
