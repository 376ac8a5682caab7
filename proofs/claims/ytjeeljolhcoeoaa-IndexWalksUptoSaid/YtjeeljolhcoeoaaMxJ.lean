/- Index: walks: does a walk tell this? -/
import Derived.Test.YtjeeljolhcoeoaaMxI
import Derived.Test.YtjeeljolhcoeoaaKxB
import Derived.RangeFuncBox
namespace Go.Proofs.Ytjeeljolhcoeoaa
open Go.RowKit Go.Shelf
attribute [local go_sem] Oper.semAt_some
set_option maxRecDepth 100000 in
theorem eql_seq (w : World) (f : Nat) (lb : Array Value) : (binOp .eql 54 (.func (.func f) #[] lb) .nilFunc).run Try.prog w = .ok (.bool false) w := rfl
attribute [local go_sem] eql_seq

/-- a walk's own boxes -/
structure WK (w W : World) (t : Array Value) (leave : Int) (n : Nat) (r : Bool) : Prop where
  bel : Below w.heap.size w W
  b4 : W.heap[w.heap.size]? = some (.cells t 75)
  b5 : Boxed W (w.heap.size + 1) 3 (.int .i64 leave)
  b6 : Boxed W (w.heap.size + 2) 4 (.bool r)
  b7 : Boxed W (w.heap.size + 3) 3 (.int .i64 n)
section
variable {w W : World} {t : Array Value} {leave : Int} {n : Nat} {r : Bool}
theorem WK.below {W' : World} (h : WK w W t leave n r) (g : Gr W W') : WK w W' t leave n r :=
  ⟨h.bel.trans (Below.mono g h.bel.size), (Below.block g _ (Array.getElem?_eq_some_iff.1 h.b4).1).trans h.b4, bx_gr h.b5 g, bx_gr h.b6 g, bx_gr h.b7 g⟩
theorem WK.own {B : World} {row : Option Nat} {m : Nat} (h : WK w W t leave n r) (hn : w.heap.size ≤ m) (hg : W.grownBy B row) (hr : ∀ q, row = some q → m ≤ q ∧ ∃ o : Obj, W.heap[q]? = some o ∧ o.isCells = false) : WK w B t leave n r := by
  have hr2 := fun q e => (hr q e).2
  exact ⟨h.bel.grown hg h.bel.size (fun k e => Nat.le_trans hn (hr k e).1), cells_own h.b4 hg hr2, bx_own h.b5 hg hr2, bx_own h.b6 hg hr2, bx_own h.b7 hg hr2⟩
theorem WK.setN (h : WK w W t leave n r) (m : Nat) : WK w (W.setCell ⟨w.heap.size + 3, 0, none⟩ (.int .i64 m)) t leave m r :=
  ⟨h.bel.setCell (p := ⟨w.heap.size + 3, 0, none⟩) (Nat.le_add_right _ _) _, by rw [heap_setCell_other _ _ _ _ (by show w.heap.size ≠ w.heap.size + 3; omega)]; exact h.b4, h.b5.other (by omega) _, h.b6.other (by omega) _, h.b7.set _⟩
theorem WK.setR (h : WK w W t leave n r) (q : Bool) : WK w (W.setCell ⟨w.heap.size + 2, 0, none⟩ (.bool q)) t leave n q :=
  ⟨h.bel.setCell (p := ⟨w.heap.size + 2, 0, none⟩) (Nat.le_add_right _ _) _, by rw [heap_setCell_other _ _ _ _ (by show w.heap.size ≠ w.heap.size + 2; omega)]; exact h.b4, h.b5.other (by omega) _, h.b6.set _, h.b7.other (by omega) _⟩
end

set_option maxRecDepth 100000 in
set_option maxHeartbeats 8000000 in
theorem wk_walks {gf : Nat} {lb : Array Value} {Kp : World → World → Prop} {L : List (Int × Int)} {base : Nat} {v1 v2 : Value} {w : World} (leave : Int) (eg : Enters Try.prog gf)
    (hseq : ∀ W, Gr w W → SeqStopsK Fence.wide 8 Try.prog gf lb (fun x : Int × Int => #[.int .i64 x.1, .int .i64 x.2]) Kp (fun xs => xs = L) (fun pre => pre <+: L) L.length W)
    (hKt : ∀ {A B C : World}, Kp A B → Kp B C → Kp A C) (hKb : ∀ (W : World) (l : Nat) (o o' : Obj), w.heap.size ≤ l → W.heap[l]? = some o → o.isCells = false → Kp W (W.putObj l o'))
    (hKg : ∀ W W', Gr w W → Gr W W' → Kp W W') (hKs : ∀ W b u v, Gr w W → w.heap.size ≤ b → Boxed W b 3 v → Kp W (W.setCell ⟨b, 0, none⟩ u))
    (o1 : w.ownsRow base 3 1 v1 L.length (L.map fun x => .int .i64 x.1)) (o2 : w.ownsRow base 3 1 v2 L.length (L.map fun x => .int .i64 x.2)) (hl : L.length ≤ 16777216) :
    Calls Try.prog 31 #[.func (.func gf) #[] lb, .agg #[v1, v2], .int .i64 leave] w fun e w' => e = .returned (.bool true) ∧ Below w.heap.size w w' := by
  obtain ⟨a1, c1, rfl, -⟩ := own_sliceI o1
  obtain ⟨a2, c2, rfl, -⟩ := own_sliceI o2
  refine callsIn_wide.1 (callsIn_of_wp_marks (n := 9) Try.func31 rfl trivial ?_ rfl)
  simp only [Try.ntmps31, List.size_toArray, List.length_cons, List.length_nil, Nat.reduceAdd, Nat.reduceSub, Array.replicate_succ, Array.replicate_zero, List.push_toArray, List.append_toArray, List.nil_append, List.cons_append]
  refine wpIn_wide.2 ?_
  go_wp2_with fail
  have hW : Hid (WK w ((((w.alloc (.cells #[.slice a1 L.length c1, .slice a2 L.length c2] 75)).alloc (.cells #[.int .i64 leave] 3)).alloc (.cells #[.bool false] 4)).alloc (.cells #[.int .i64 0] 3)) #[.slice a1 L.length c1, .slice a2 L.length c2] leave 0 false) := Lib.hid (by
    have h4 : (w.alloc (.cells #[.slice a1 L.length c1, .slice a2 L.length c2] 75)).heap[w.heap.size]? = _ := heap_alloc_new w _
    have h5 := Boxed.new (w.alloc (.cells #[.slice a1 L.length c1, .slice a2 L.length c2] 75)) 3 (.int .i64 leave)
    have h6 := Boxed.new ((w.alloc (.cells #[.slice a1 L.length c1, .slice a2 L.length c2] 75)).alloc (.cells #[.int .i64 leave] 3)) 4 (.bool false)
    have h7 := Boxed.new (((w.alloc (.cells #[.slice a1 L.length c1, .slice a2 L.length c2] 75)).alloc (.cells #[.int .i64 leave] 3)).alloc (.cells #[.bool false] 4)) 3 (.int .i64 0)
    simp only [World.size_alloc] at h5 h6 h7
    exact ⟨((((Below.refl _ w).al _).al _).al _).al _, al_heap _ (al_heap _ (al_heap _ h4)), (h5.alloc _).alloc _, h6.alloc _, h7⟩)
  generalize (((w.alloc (.cells #[.slice a1 L.length c1, .slice a2 L.length c2] 75)).alloc (.cells #[.int .i64 leave] 3)).alloc (.cells #[.bool false] 4)).alloc (.cells #[.int .i64 0] 3) = W0 at hW ⊢
  refine name_frame ?_
  intro tm htm
  refine range_wide (P := Try.prog) (tm := tm) (ds := []) (gf := gf) (lb := lb) (by rw [htm]; rfl) eg
    (hseq W0 hW.out.bel) hKt (fun V l o o' hl h hc _ => hKb V l o o' (Nat.le_trans hW.out.bel.size hl) h hc) (fun _ => rfl)
    (fun pre V => WK w V #[.slice a1 L.length c1, .slice a2 L.length c2] leave pre.length false ∧ pre <+: L ∧ W0.heap.size ≤ V.heap.size)
    (fun c pre V => c = .ret ∧ (¬ pre <+: L ∨ (WK w V #[.slice a1 L.length c1, .slice a2 L.length c2] leave pre.length true ∧ W0.heap.size ≤ V.heap.size)))
    (fun pre A B row hs hg hr => ⟨hs.1.own hW.out.bel.size hg hr, hs.2.1, Nat.le_trans hs.2.2 hg.size⟩)
    (fun c pre A B row hs hg hr => ⟨hs.1, hs.2.imp id fun h => ⟨h.1.own hW.out.bel.size hg hr, Nat.le_trans h.2 hg.size⟩⟩)
    ⟨hW.out, List.nil_prefix, Nat.le_refl _⟩
    (fun _ _ _ => True) (fun _ _ _ _ _ _ _ _ _ => trivial)
    (fun x _ tm => ((((tm.setIfInBounds 13 (.int .i64 x.1)).setIfInBounds 14 (.int .i64 x.2)).setIfInBounds 8 (.int .i64 x.1)).setIfInBounds 9 (.int .i64 x.2)))
    ?assignA ?bodyA ?doneA ?stopA
  case assignA =>
    rintro l pre x V K hi hK
    rw [htm] at hK ⊢
    gi_wp2
    exact hK 0 V ((ko_gr (Gr.refl V)).from _) (hKg _ _ hi.1.bel (Gr.refl _)) hi trivial
  case bodyA =>
    rintro l pre x b V hlo hr ⟨hK, hpre, hsV⟩ _ hlt
    rw [htm]
    obtain ⟨g1, d1, he1, -⟩ := own_shape o1 (by omega)
    obtain ⟨g2, d2, he2, -⟩ := own_shape o2 (by omega)
    injection he1 with he1 _ hd1
    injection he2 with he2 _ hd2
    subst he1 hd1 he2 hd2
    obtain ⟨kv, hkv⟩ : ∃ kv, L[pre.length] = kv := ⟨_, rfl⟩
    have k1 : w.cell? ⟨g1, pre.length, none⟩ = some (.int .i64 kv.1) := by
      have := o1.cells (g := g1) rfl pre.length (Value.int .i64 kv.1) (by simp [hlt, hkv])
      simpa [addr_add] using this
    have k2 : w.cell? ⟨g2, pre.length, none⟩ = some (.int .i64 kv.2) := by
      have := o2.cells (g := g2) rfl pre.length (Value.int .i64 kv.2) (by simp [hlt, hkv])
      simpa [addr_add] using this
    replace k1 := cell_below hK.bel rfl k1
    replace k2 := cell_below hK.bel rfl k2
    have c40 : V.cell? ⟨w.heap.size, 0, none⟩ = some (.slice (some ⟨g1, 0, none⟩) L.length c1) := cell_of_row _ _ _ _ _ _ hK.b4
    have c41 : V.cell? ⟨w.heap.size, 1, none⟩ = some (.slice (some ⟨g2, 0, none⟩) L.length c2) := cell_of_row _ _ _ _ _ _ hK.b4
    have cn := hK.b7.cell
    have fn := hK.b7.frozen
    have cR := hK.b6.cell
    have fR := hK.b6.frozen
    have hge : decide ((L.length : Int) ≤ (pre.length : Int)) = false := decide_eq_false (by omega)
    have hwn : IntKind.i64.wrap ((pre.length : Int) + 1) = (pre.length : Int) + 1 := IntWalk.i64_in _ (by omega)
    have e1 : (((pre.length + 1 : Nat)) : Int) = (pre.length : Int) + 1 := by omega
    have hK2 := hK.setN (pre.length + 1)
    rw [e1] at hK2
    have d5 := hK2.b5.cell
    have d7 := hK2.b7.cell
    rw [e1] at d7
    have dR := hK2.b6.cell
    have dfR := hK2.b6.frozen
    have hK3 := hK2.setR true
    have hkp : Hid (Kp V (V.setCell ⟨w.heap.size + 3, 0, none⟩ (.int .i64 ((pre.length : Int) + 1)))) := Lib.hid (hKs V _ _ _ hK.bel (Nat.le_add_right _ _) hK.b7)
    have hs2 : Hid (W0.heap.size ≤ (V.setCell ⟨w.heap.size + 3, 0, none⟩ (.int .i64 ((pre.length : Int) + 1))).heap.size) := Lib.hid (by rw [World.size_setCell]; exact hsV)
    obtain ⟨x1, x2⟩ := x
    have hpx : pre ++ [(x1, x2)] <+: L → (x1, x2) = kv := fun h => by
      obtain ⟨t, ht⟩ := h
      rw [← hkv]
      simp [← ht]
    have hpk : pre ++ [kv] <+: L := by
      obtain ⟨t, ht⟩ := hpre
      cases t with
      | nil => simp at ht; subst ht; omega
      | cons y t =>
        have : y = kv := by rw [← hkv]; simp [← ht]
        exact ⟨t, by rw [← this, ← ht]; simp⟩
    obtain ⟨y1, y2⟩ := kv
    dsimp only at *
    replace hpx := Lib.hid hpx
    replace hpk := Lib.hid hpk
    replace hK := Lib.hid hK
    replace hK2 := Lib.hid hK2
    replace hK3 := Lib.hid hK3
    clear hkv o1 o2
    simp only [List.setIfInBounds_toArray, List.set_cons_succ, List.set_cons_zero]
    by_cases h1 : x1 = y1
    · have n1 : (x1 != y1) = false := by simp [h1]
      by_cases h2 : x2 = y2
      · have n2 : (x2 != y2) = false := by simp [h2]
        have hxk : Hid ((x1, x2) = (y1, y2)) := Lib.hid (by rw [h1, h2])
        clear h1 h2 cR fR
        by_cases hle : (pre.length : Int) + 1 = leave
        · have hlb : ((pre.length : Int) + 1 == leave) = true := by simp [hle]
          replace hle := Lib.hid hle
          gi_wp2
          refine ⟨((KeepsOthers.setCell V _ _).trans (KeepsOthers.setCell _ _ _)).from _, rfl, .inr ⟨?_, ?_⟩⟩
          · rw [List.length_append]; exact hK3.out
          · rw [World.size_setCell]; exact hs2.out
        · have hlb : ((pre.length : Int) + 1 == leave) = false := by simp [hle]
          replace hle := Lib.hid hle
          clear dR dfR
          gi_wp2
          exact ⟨(KeepsOthers.setCell V _ _).from _, hkp.out, by rw [List.length_append]; exact hK2.out, by rw [hxk.out]; exact hpk.out, hs2.out⟩
      · have n2 : (x2 != y2) = true := by simp [h2]
        have hxk : Hid (¬ pre ++ [(x1, x2)] <+: L) := Lib.hid (fun h => by have := hpx.out h; injection this with _ e; exact h2 e)
        clear h1 h2 fn
        gi_wp2
        exact ⟨(KeepsOthers.setCell V _ _).from _, rfl, .inl hxk.out⟩
    · have n1 : (x1 != y1) = true := by simp [h1]
      have hxk : Hid (¬ pre ++ [(x1, x2)] <+: L) := Lib.hid (fun h => by have := hpx.out h; injection this with e _; exact h1 e)
      clear h1 fn
      gi_wp2
      exact ⟨(KeepsOthers.setCell V _ _).from _, rfl, .inl hxk.out⟩
  case doneA =>
    rintro D pre V hDl hxs ⟨hK, hpre, hsV⟩ hD
    subst hxs
    rw [htm]
    have c40 : V.cell? ⟨w.heap.size, 0, none⟩ = some (.slice a1 pre.length c1) := cell_of_row _ _ _ _ _ _ hK.b4
    have cn := hK.b7.cell
    have cR := hK.b6.cell
    have fR := hK.b6.frozen
    have heq : ((pre.length : Int) == (pre.length : Int)) = true := by simp
    have hK2 := hK.setR true
    have hD2 := set_def (u := .bool true) hD hK.b6
    have hbl := hK.bel.size
    have hge := hW.out.bel.size
    replace hK := Lib.hid hK
    go_wp2_with fail
    clear cR fR cn c40
    generalize V.setCell ⟨w.heap.size + 2, 0, none⟩ (.bool true) = V2 at hK2 hD2 ⊢
    refine ⟨by simp, .inl ⟨D, _, rfl, run_takeDeferred hD2, ?_⟩⟩
    have bR3 := put_box (o := .deferred none) hK2.b6 hD2
    have hb3 := hK2.bel.trans (belowK_b (w := w) (Nat.le_refl _) V2 D _ (.deferred none) (by omega) hD2 rfl rfl)
    exact ⟨.bool true, results_bool rfl Try.underlying4 _ _ _ _ rfl bR3.cell, rfl, hb3⟩
  case stopA =>
    rintro D c pre V hDl hsp ⟨rfl, hix⟩ hD
    rcases hix with hno | ⟨hK2, hsV⟩
    · exact absurd hsp hno
    · rw [htm]
      have hge := hW.out.bel.size
      refine wp_ret ?_
      refine ⟨by simp, .inl ⟨D, _, rfl, run_takeDeferred hD, ?_⟩⟩
      have bR3 := put_box (o := .deferred none) hK2.b6 hD
      have hb3 := hK2.bel.trans (belowK_b (w := w) (Nat.le_refl _) V D _ (.deferred none) (by omega) hD rfl rfl)
      exact ⟨.bool true, results_bool rfl Try.underlying4 _ _ _ _ rfl bR3.cell, rfl, hb3⟩
end Go.Proofs.Ytjeeljolhcoeoaa
