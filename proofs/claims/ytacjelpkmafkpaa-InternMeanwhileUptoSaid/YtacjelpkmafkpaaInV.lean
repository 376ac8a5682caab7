/- Intern: the law InternMeanwhile, walked. -/
import Derived.Test.YtacjelpkmafkpaaInU
import Derived.Sort.CutIn
namespace Go.Proofs.Ytacjelpkmafkpaa
open Go.RowKit Go.Shelf It
attribute [local go_sem] Oper.semAt_some neq_map eql_func_nil
theorem tab_base {w : World} {B B' b mb : Nat} {v : Value} {L : List ByteArray} (h : Tab w B b v mb L) (hb : B' ≤ B) : Tab w B' b v mb L :=
  ⟨h.blk, own_base h.row hb, h.map_, h.nodup, h.size, h.len, Nat.le_trans hb h.ge.1, Nat.le_trans hb h.ge.2⟩
theorem KpS.set_ne {va : Option Addr} {n l : Nat} (hv : ∀ g, va = some ⟨g, 0, none⟩ → g ≠ l) (W : World) (u : Value) : KpS va n W (W.setCell ⟨l, 0, none⟩ u) :=
  ⟨by rw [World.size_setCell]; exact Nat.le_refl _, fun g _ e _ => World.cell?_of_block (heap_setCell_other _ _ _ _ (by show g ≠ l; exact hv g e))⟩
theorem ms_step {w W : World} {x : Bx} {a1 va : Option Addr} {c1 b mb rb n j B Br : Nat} {m : List ByteArray} {v rv : Value} {LT LR : List ByteArray} (h : MS w x a1 c1 m b mb rb n va j B Br v rv LT LR W) :
    MS w x a1 c1 m b mb rb n va (j + 1) B Br v rv LT LR (W.setCell ⟨x.a, 0, none⟩ (.int .i64 ((j : Int) + 1))) ∧ KpS va n W (W.setCell ⟨x.a, 0, none⟩ (.int .i64 ((j : Int) + 1))) ∧ KeepsOthers W (W.setCell ⟨x.a, 0, none⟩ (.int .i64 ((j : Int) + 1))) :=
  ⟨h.next, KpS.set_ne (fun g e e2 => (h.hv g e).2.2.2.1 (.inr (.inr (.inr (.inr (.inr (.inr e2))))))) W _, KeepsOthers.setCell W _ _⟩
set_option maxRecDepth 100000 in
set_option maxHeartbeats 8000000 in
theorem law_Meanwhile (a0 a1 : Option Addr) (c0 c1 : Nat) (l m : List ByteArray) (w : World) (h0 : TxA w a0 l) (h1 : TxA w a1 m) (u0 : l.length ≤ 1048576) (u1 : m.length ≤ 1048576) :
    Calls Try.prog 3 #[.slice a0 l.length c0, .slice a1 m.length c1] w fun e w' => e = .returned (.bool true) ∧ Below w.heap.size w w' := by
  replace h0 := Lib.hid h0
  replace h1 := Lib.hid h1
  refine callsIn_wide.1 (callsIn_of_wp_marks (n := 9) Try.func3 rfl trivial ?_ rfl)
  simp only [Try.ntmps3, List.size_toArray, List.length_cons, List.length_nil, Nat.reduceAdd, Nat.reduceSub, Array.replicate_succ, Array.replicate_zero, List.push_toArray, List.append_toArray, List.nil_append, List.cons_append]
  refine wpIn_wide.2 ?_
  go_wp2_with (go_at_call 6; refine (in_New _).mono ?_; rintro e w1 ⟨b, mb, rfl, hT1, hb1⟩)
  have hV : Hid (Both w b (.slice none 0 0) mb (w1.heap.size + 1) (w1.heap.size + 1) (.slice none 0 0) [] (((w1.alloc (.cells #[.pointer (some ⟨b, 0, none⟩)] 23)).alloc (.cells #[.slice none 0 0] 27)).alloc (.cells #[.pointer (some ⟨w1.heap.size + 1, 0, none⟩)] 25)) ∧
      Boxed (((w1.alloc (.cells #[.pointer (some ⟨b, 0, none⟩)] 23)).alloc (.cells #[.slice none 0 0] 27)).alloc (.cells #[.pointer (some ⟨w1.heap.size + 1, 0, none⟩)] 25)) w.heap.size 22 (.slice a1 m.length c1) ∧
      Boxed (((w1.alloc (.cells #[.pointer (some ⟨b, 0, none⟩)] 23)).alloc (.cells #[.slice none 0 0] 27)).alloc (.cells #[.pointer (some ⟨w1.heap.size + 1, 0, none⟩)] 25)) (w.heap.size + 1) 4 (.bool false) ∧
      Boxed (((w1.alloc (.cells #[.pointer (some ⟨b, 0, none⟩)] 23)).alloc (.cells #[.slice none 0 0] 27)).alloc (.cells #[.pointer (some ⟨w1.heap.size + 1, 0, none⟩)] 25)) w1.heap.size 23 (.pointer (some ⟨b, 0, none⟩)) ∧
      Boxed (((w1.alloc (.cells #[.pointer (some ⟨b, 0, none⟩)] 23)).alloc (.cells #[.slice none 0 0] 27)).alloc (.cells #[.pointer (some ⟨w1.heap.size + 1, 0, none⟩)] 25)) (w1.heap.size + 1 + 1) 25 (.pointer (some ⟨w1.heap.size + 1, 0, none⟩)) ∧
      (∀ k, TabB b (.slice none 0 0) mb k → w.heap.size + 1 < k ∧ k < w1.heap.size) ∧ w.heap.size + 1 < w1.heap.size) := by
    have e1 := World.size_alloc w (.cells #[.slice a1 m.length c1] 22)
    have bm := Boxed.new w 22 (.slice a1 m.length c1)
    have b1 : Below w.heap.size w (w.alloc (.cells #[.slice a1 m.length c1] 22)) := (Below.refl _ _).al _
    generalize w.alloc (.cells #[.slice a1 m.length c1] 22) = X1 at *
    have e2 := World.size_alloc X1 (.cells #[.bool false] 4)
    have bq := Boxed.new X1 4 (.bool false)
    replace bm := bm.alloc (.cells #[.bool false] 4)
    have b2 := b1.al (.cells #[.bool false] 4)
    generalize X1.alloc (.cells #[.bool false] 4) = X2 at *
    replace bm := bx_below bm hb1
    replace bq := bx_below bq hb1
    have b3 := b2.trans (hb1.mono b2.size)
    have hl1 := hb1.size
    have e3 := World.size_alloc w1 (.cells #[.pointer (some ⟨b, 0, none⟩)] 23)
    have bt := Boxed.new w1 23 (.pointer (some ⟨b, 0, none⟩))
    have al := (Below.refl w1.heap.size w1).al (.cells #[.pointer (some ⟨b, 0, none⟩)] 23)
    have hT2 := hT1.below al
    replace bm := bx_below bm al
    replace bq := bx_below bq al
    have b4 := b3.al (.cells #[.pointer (some ⟨b, 0, none⟩)] 23)
    generalize w1.alloc (.cells #[.pointer (some ⟨b, 0, none⟩)] 23) = X3 at *
    have e4 := World.size_alloc X3 (.cells #[.slice none 0 0] 27)
    have br := heap_alloc_new X3 (.cells #[.slice none 0 0] 27)
    have al := (Below.refl X3.heap.size X3).al (.cells #[.slice none 0 0] 27)
    replace hT2 := hT2.below al
    replace bm := bx_below bm al
    replace bq := bx_below bq al
    replace bt := bx_below bt al
    have b5 := b4.al (.cells #[.slice none 0 0] 27)
    have hR : RTab (X3.alloc (.cells #[.slice none 0 0] 27)) X3.heap.size X3.heap.size (.slice none 0 0) [] := ⟨br, World.ownsRow_nil _ _ _ _, Nat.zero_le _, Nat.le_refl _⟩
    generalize X3.alloc (.cells #[.slice none 0 0] 27) = X4 at *
    have bp := Boxed.new X4 25 (.pointer (some ⟨w1.heap.size + 1, 0, none⟩))
    have al := (Below.refl X4.heap.size X4).al (.cells #[.pointer (some ⟨w1.heap.size + 1, 0, none⟩)] 25)
    replace hT2 := hT2.below al
    replace hR := hR.below al
    replace bm := bx_below bm al
    replace bq := bx_below bq al
    replace bt := bx_below bt al
    have b6 := b5.al (.cells #[.pointer (some ⟨w1.heap.size + 1, 0, none⟩)] 25)
    generalize X4.alloc (.cells #[.pointer (some ⟨w1.heap.size + 1, 0, none⟩)] 25) = X5 at *
    rw [e1] at bq e2
    rw [e3] at hR e4
    rw [e4] at bp
    rw [e2] at hT1 hT2 hl1
    exact Lib.hid ⟨⟨tab_base hT2 (by omega), hR, b6, by omega⟩, bm, bq, bt, bp, fun k hk => by have := hT1.lt k hk; omega, by omega⟩
  generalize ((w1.alloc (.cells #[.pointer (some ⟨b, 0, none⟩)] 23)).alloc (.cells #[.slice none 0 0] 27)).alloc (.cells #[.pointer (some ⟨w1.heap.size + 1, 0, none⟩)] 25) = V at hV ⊢
  clear hT1 hb1
  have ct := hV.out.2.2.2.1.cell
  have cp0 := hV.out.2.2.2.2.1.cell
  have hB2 := Lib.hid (hV.out.1.below (Below.refl V.heap.size V).drew)
  have hle := Lib.hid (w1_lent (c := c0) (h0.out.below hB2.out.bel) (by omega))
  have hkd := Lib.hid (fun k t u (h : Boxed V k t u) => bx_below h (Below.refl V.heap.size V).drew)
  have htd : V.drew.cell? ⟨w1.heap.size, 0, none⟩ = some (.pointer (some ⟨b, 0, none⟩)) := ct
  refine wp_region_noPanic ?_
  go_region_held3 (fun w' => w'.cell? ⟨w1.heap.size, 0, none⟩ = some (.pointer (some ⟨b, 0, none⟩)))
    (first
      | exact htd
      | exact ct3
      | exact ct4)
    (first
      | (go_at_call 8
         refine hle.out.mono ?_
         unfold LentP
         rintro e w3 ⟨g, cp, rfl, htx, hg1, hg2, hb3⟩
         have hB3 := Lib.hid (hB2.out.below hb3)
         have hpa := Lib.hid (in_PutAll hB3.out.tab (c := cp) htx (fun ad e _ hk => by
           injection e with e
           subst e
           have := (hB2.out.tab.lt _ hk).2
           exact absurd this (Nat.not_lt.2 hg1)) (by simp; omega))
         have hk3 := Lib.hid (fun k t u h => bx_below (hkd.out k t u h) hb3)
         have ct3 := (hk3.out _ _ _ hV.out.2.2.2.1).cell
         clear htx hg1 hg2 hle)
      | (go_at_call 7
         refine hpa.out.mono ?_
         unfold AllP
         rintro e w4 ⟨g4, cp4, v4, rfl, -, -, -, hT4, hk4, hv4⟩
         have hq4 := Lib.hid (both_put hB3.out (fun k hk e => by have := hV.out.2.2.2.2.2.1 k hk; omega) hk4 hT4)
         have hv4' := Lib.hid hv4
         have hk4' := Lib.hid (fun k t u h (hn : ¬ TabB b (.slice none 0 0) mb k) => bx_kept (hk3.out k t u h) hk4 hn)
         have ct4 := (hk4'.out _ _ _ hV.out.2.2.2.1 (fun hk => by have := hV.out.2.2.2.2.2.1 _ hk; omega)).cell
         have cr4 := (hk4'.out _ _ _ hV.out.2.2.2.2.1 (fun hk => by have := hV.out.2.2.2.2.2.1 _ hk; omega)).cell
         have hs4 := Lib.hid hk4.size
         have hrp := Lib.hid (rf_PutAll hq4.out.2.1 (c := c0) (h0.out.below hq4.out.2.2) (fun ad e hl hk => by
           have h5 := h0.out.lt ad e hl
           rcases hk with hk | hk
           · have := hB3.out.br
             have := hB3.out.rt.ge
             omega
           · cases hk) (by simp; omega))
         clear hT4 hk4 hv4 hpa))
  refine NoPanic.normal ?_
  go_wp2_with (first
    | (go_at_call 9
       refine hrp.out.mono ?_
       unfold RAllP
       rintro e w5 ⟨o5, v5, rfl, -, hR5, hk5, hv5⟩
       have hTL : Hid (∀ k, TabB b v4 mb k → (w.heap.size + 1 < k ∧ k < w1.heap.size) ∨ (w3.heap.size ≤ k ∧ k < w4.heap.size)) := Lib.hid (fun k hk => by
         have h6 := (hq4.out.1.lt k hk).2
         rcases hk with hk | hk | hk
         · exact .inl (hV.out.2.2.2.2.2.1 k (.inl hk))
         · exact .inl (hV.out.2.2.2.2.2.1 k (.inr (.inl hk)))
         · exact .inr ⟨(hv4'.out k hk).resolve_left (fun e => by cases e), h6⟩)
       have hRL : Hid (∀ k, RTabB (w1.heap.size + 1) v5 k → k = w1.heap.size + 1 ∨ (w4.heap.size ≤ k ∧ k < w5.heap.size)) := Lib.hid (fun k hk => by
         have h6 := (hR5.lt k hk).2
         rcases hk with hk | hk
         · exact .inl hk
         · exact .inr ⟨(hv5 k hk).resolve_left (fun e => by cases e), h6⟩)
       have hsV : Hid (w1.heap.size + 1 + 1 < V.heap.size ∧ V.heap.size ≤ w3.heap.size ∧ w3.heap.size ≤ w4.heap.size ∧ w4.heap.size ≤ w5.heap.size ∧ w.heap.size + 1 < w1.heap.size) := Lib.hid ⟨hV.out.2.2.2.2.1.lt, hb3.size, hs4.out, hk5.size, hV.out.2.2.2.2.2.2⟩
       have hB5 : Both w b v4 mb (w1.heap.size + 1) (w1.heap.size + 1) v5 (putAll [] l) w5 := by
         refine ⟨hq4.out.1.kept hk5 (fun k hk hs => ?_), hR5, hq4.out.2.2.trans (below_kept hk5 hq4.out.2.2.size (fun k hs => ?_)), hB3.out.br⟩
         · have hkr : k = w1.heap.size + 1 := hs.resolve_right (fun e => by cases e)
           have := hTL.out k hk
           have := hsV.out
           omega
         · have hkr : k = w1.heap.size + 1 := hs.resolve_right (fun e => by cases e)
           rw [hkr]; exact hB3.out.br
       replace hB5 := Lib.hid hB5
       have hk5' : Hid (∀ k t u, Boxed V k t u → ¬ TabB b (.slice none 0 0) mb k → k ≠ w1.heap.size + 1 → Boxed w5 k t u) := Lib.hid (fun k t u h h2 h3 => bx_kept (hk4'.out k t u h h2) hk5 (fun hs => h3 (hs.resolve_right (fun e => by cases e))))
       have hne : Hid (∀ k, TabB b (.slice none 0 0) mb k → w.heap.size + 1 < k ∧ k < w1.heap.size) := Lib.hid hV.out.2.2.2.2.2.1
       have bt5 := hk5'.out _ _ _ hV.out.2.2.2.1 (fun hk => by have := hne.out _ hk; omega) (by omega)
       have br5 := hk5'.out _ _ _ hV.out.2.2.2.2.1 (fun hk => by have := hne.out _ hk; omega) (by omega)
       have bm5 := Lib.hid (hk5'.out _ _ _ hV.out.2.1 (fun hk => by have := hne.out _ hk; omega) (by have := hsV.out; omega))
       have bq5 := Lib.hid (hk5'.out _ _ _ hV.out.2.2.1 (fun hk => by have := hne.out _ hk; omega) (by have := hsV.out; omega))
       have ct5 := bt5.cell
       have cr5 := br5.cell
       replace bt5 := Lib.hid bt5
       replace br5 := Lib.hid br5
       clear hR5 hk5 hv5 hrp hq4 hB3 hv4' hs4 ct4 cr4 hk4' hk3 hb3)
    | (go_at_call 10
       refine (in_All _ _).mono ?_
       rintro e w6 ⟨rfl, hw6⟩
       have al6 : Below w5.heap.size w5 w6 := by rw [hw6]; exact (Below.refl _ _).al _
       have bT6 : Boxed w6 w5.heap.size 23 (.pointer (some ⟨b, 0, none⟩)) := by rw [hw6]; exact Boxed.new _ _ _
       have hz6 : Hid (w6.heap.size = w5.heap.size + 1) := Lib.hid (by rw [hw6, World.size_alloc])
       have cr6 := (bx_below br5.out al6).cell
       have hB6 := Lib.hid (hB5.out.below al6)
       replace al6 := Lib.hid al6
       replace bT6 := Lib.hid bT6
       clear hw6 ct5 cr5)
    | (go_at_call 11
       refine (rf_Len hB6.out.rt).mono ?_
       rintro e w7 ⟨rfl, rfl⟩))
  obtain ⟨va, vc, rfl, -⟩ := own_slice hB6.out.tab.row
  have hX : Hid (MS w ⟨w.heap.size, w.heap.size + 1, w1.heap.size, w1.heap.size + 1 + 1, w5.heap.size, w6.heap.size, w6.heap.size + 1⟩ a1 c1 m b mb (w1.heap.size + 1) (putAll [] l).length va 0 w.heap.size (w1.heap.size + 1) (.slice va (putAll [] l).length vc) v5 (putAll [] l) (putAll [] l)
      ((w6.alloc (.cells #[.int .i64 ((putAll [] l).length : Nat)] 3)).alloc (.cells #[.int .i64 0] 3))) := by
    have e1 := World.size_alloc w6 (.cells #[.int .i64 ((putAll [] l).length : Nat)] 3)
    have bn := Boxed.new w6 3 (.int .i64 ((putAll [] l).length : Nat))
    have al := (Below.refl w6.heap.size w6).al (.cells #[.int .i64 ((putAll [] l).length : Nat)] 3)
    generalize w6.alloc (.cells #[.int .i64 ((putAll [] l).length : Nat)] 3) = Y1 at *
    have ba := Boxed.new Y1 3 (.int .i64 0)
    have al2 := (Below.refl Y1.heap.size Y1).al (.cells #[.int .i64 0] 3)
    replace bn := bx_below bn al2
    generalize Y1.alloc (.cells #[.int .i64 0] 3) = Y2 at *
    rw [e1] at ba
    have al3 := al.trans (al2.mono al.size)
    have al5 := al6.out.trans (al3.mono al6.out.size)
    have hBY := hB6.out.below al3
    have hs := hsV.out
    have h66 := hz6.out
    have hY := al3.size
    have haY : w6.heap.size + 1 < Y2.heap.size := ba.lt
    have hsep : ∀ k, TabB b (.slice va (putAll [] l).length vc) mb k → ¬ RTabB (w1.heap.size + 1) v5 k := fun k h2 h3 => by
      have := hTL.out k h2
      have := hRL.out k h3
      omega
    refine Lib.hid ⟨bx_below bm5.out al5, bx_below bq5.out al5, bx_below bt5.out al5, bx_below br5.out al5, bx_below bT6.out al3, bn, ba, h1.out.below hBY.bel, hBY.tab, hBY.rt, hBY.bel, ⟨Nat.le_refl _, by omega⟩, fun k hk => ?_, ?_, h1.out.lt, hsep, fun k hk => ⟨fun h2 => ?_, fun h2 => ?_⟩, fun g e => ?_, Nat.le_refl _⟩
    · simp only [Bx.In] at hk; omega
    · simp only; omega
    · have := hTL.out k h2
      simp only [Bx.In] at hk; omega
    · have := hRL.out k h2
      simp only [Bx.In] at hk; omega
    · have hg : TabB b (.slice va (putAll [] l).length vc) mb g := .inr (.inr (by rw [e]; rfl))
      have h9 := hTL.out g hg
      refine ⟨by omega, by omega, hsep g hg, fun hk => ?_, fun _ => ⟨vc, by rw [e]⟩⟩
      simp only [Bx.In] at hk; omega
  generalize (w6.alloc (.cells #[.int .i64 ((putAll [] l).length : Nat)] 3)).alloc (.cells #[.int .i64 0] 3) = W1 at hX ⊢
  have hLl := (putAll_len l []).2
  clear hTL hRL hB6 hB5 al6 bT6 bm5 bq5 bt5 br5 hV
  obtain ⟨x, hx⟩ : ∃ x : Bx, (⟨w.heap.size, w.heap.size + 1, w1.heap.size, w1.heap.size + 1 + 1, w5.heap.size, w6.heap.size, w6.heap.size + 1⟩ : Bx) = x := ⟨_, rfl⟩
  obtain ⟨L, hL⟩ : ∃ L, L = putAll [] l := ⟨_, rfl⟩
  rw [← hL] at hX hLl ⊢
  have hL1 : L.length ≤ 1048576 := by
    have h9 := hLl
    simp only [List.length_nil] at h9
    omega
  have hbM : b < W1.heap.size ∧ mb < W1.heap.size ∧ w1.heap.size + 1 < W1.heap.size := ⟨(hX.out.tab.lt b (.inl rfl)).2, (hX.out.tab.lt mb (.inr (.inl rfl))).2, (hX.out.rt.lt _ (.inl rfl)).2⟩
  have hsz1 := hX.out.bel.size
  rw [hx] at hX
  have hxm : w.heap.size = x.m := by rw [← hx]
  have hxq : w.heap.size + 1 = x.q := by rw [← hx]
  have hxt : w1.heap.size = x.t := by rw [← hx]
  have hxr : w1.heap.size + 1 + 1 = x.r := by rw [← hx]
  have hxT : w5.heap.size = x.T := by rw [← hx]
  have hxn : w6.heap.size = x.n := by rw [← hx]
  have hxa : w6.heap.size + 1 = x.a := by rw [← hx]
  refine name_frame ?_
  intro tm htm
  obtain ⟨rb, hrb⟩ : ∃ rb, w1.heap.size + 1 = rb := ⟨_, rfl⟩
  rw [hxq, hxr, hrb, hxt, hxa, hxn, hxT, hxm] at htm
  rw [hrb] at hX hbM
  clear hxq hxr hrb hxt hxa hxn hxT hxm hx hL
  refine range_wide (P := Try.prog) (tm := tm) (ds := _) (gf := 26) (lb := #[.pointer (some ⟨x.T, 0, none⟩)]) (by rw [htm]; rfl) (enters_of Try.func26 (by kernel_rfl) rfl)
    (all_stops 8 x.T W1 hX.out.tab hX.out.bT.lt hX.out.bT.cell) KpS.trans (fun W l _ o' hl _ _ _ => KpS.put (fun g e => (own_lt hX.out.tab.row g (by rw [e]; rfl)).2) W l o' hl) (fun _ => rfl)
    (fun pre W => ∃ v rv M, MS w x a1 c1 m b mb rb L.length va pre.length w.heap.size rb v rv (L ++ M) (L ++ M) W ∧ pre <+: List.range L.length ∧ M.length ≤ pre.length)
    (fun c pre W => c = .ret ∧ ¬ pre <+: List.range L.length)
    (fun pre A B' row hs hg hr => by obtain ⟨v, rv, M, hs, h2⟩ := hs; exact ⟨v, rv, M, hs.own hbM hsz1 hg hr, h2⟩)
    (fun c pre A B' row hs hg hr => hs)
    ⟨_, _, [], by rw [List.append_nil]; exact hX.out, List.nil_prefix, Nat.le_refl _⟩
    (fun _ _ _ => True) (fun _ _ _ _ _ _ _ _ _ => trivial)
    (fun y _ tm => (((tm.setIfInBounds 35 (.int .i64 (y : Int))).setIfInBounds 36 (.string (L.getD y ⟨#[]⟩))).setIfInBounds 10 (.int .i64 (y : Int))).setIfInBounds 11 (.string (L.getD y ⟨#[]⟩)))
    ?assign1 ?body1 ?done1 ?stop1
  case assign1 =>
    rintro l pre y W K hi hK
    rw [htm] at hK ⊢
    simp only [itemE]
    gi_wp2
    exact hK 0 _ ((KeepsOthers.refl _).from _) (KpS.refl _ _ _) hi trivial
  case stop1 =>
    rintro D c pre W _ hsp ⟨_, hno⟩ hK
    exact absurd hsp hno
  case done1 =>
    rintro D0 ys W hD0 rfl ⟨v, rv, M, hG, -, -⟩ hK
    rw [List.length_range] at hG
    rw [htm]
    have ca := hG.ba.cell
    have cn := hG.bn.cell
    have ct := hG.bt.cell
    have cr := hG.br.cell
    have hee : ((L.length : Int) == (L.length : Int)) = true := by simp
    replace hG := Lib.hid hG
    clear htm
    go_wp2_with (first
      | (go_at_call 15
         refine (w1_goes_any hG.out.tab hG.out.rt).mono ?_
         rintro e w13 ⟨rfl, hb13⟩
         have hG13 := Lib.hid (hG.out.below hb13)
         have hK13 := (hb13.block _ (Array.getElem?_eq_some_iff.1 hK).1).trans hK
         clear hb13)
      | (go_at_call 16
         refine (w1_known _).mono ?_
         rintro e w14 ⟨rfl, hb14⟩
         have hG14 := Lib.hid (hG13.out.below hb14)
         have hK14 := (hb14.block _ (Array.getElem?_eq_some_iff.1 hK13).1).trans hK13
         have cq := hG14.out.bq.cell
         have fq := hG14.out.bq.frozen
         clear hb14 hG13 hK13))
    have hK5 := set_def (u := .bool true) hK14 hG14.out.bq
    have bR5 := hG14.out.bq.set (.bool true)
    have hb5 := hG14.out.bel.setCell (p := ⟨x.q, 0, none⟩) (hG14.out.hx _ (.inr (.inl rfl))) (.bool true)
    generalize w14.setCell ⟨x.q, 0, none⟩ (.bool true) = w15 at hK5 bR5 hb5 ⊢
    refine ⟨by simp, .inl ⟨D0, _, rfl, run_takeDeferred hK5, ?_⟩⟩
    have bR6 : Boxed (w15.putObj D0 (.deferred none)) x.q 4 (.bool true) := put_box bR5 hK5
    have hb6 : Below w.heap.size w (w15.putObj D0 (.deferred none)) := hb5.trans (belowK_b (w := w) (Nat.le_refl _) w15 D0 _ _ (by omega) hK5 rfl rfl)
    exact ⟨.bool true, results_bool rfl Try.underlying4 _ _ _ _ rfl bR6.cell, rfl, hb6⟩
  case body1 =>
    rintro l pre y _ W hl hr ⟨v, rv, M, hG, hpre, hMl⟩ _ hlt
    rw [htm]
    obtain ⟨ra, rc, rfl, -⟩ := own_slice hG.rt.row
    have ca := hG.ba.cell
    have fa := hG.ba.frozen
    have cn := hG.bn.cell
    have cr := hG.br.cell
    have cm := hG.bm.cell
    have cq := hG.bq.cell
    have fq := hG.bq.frozen
    have crv := hG.rt.cells.1
    obtain ⟨g9, hra, q0⟩ := row_txt hG.rt.row pre.length (by rw [List.length_append]; omega)
    rw [hra] at crv
    have hgd : (L ++ M).getD pre.length ⟨#[]⟩ = L.getD pre.length ⟨#[]⟩ := by
      rw [List.getD_eq_getElem?_getD, List.getD_eq_getElem?_getD, List.getElem?_append_left hlt]
    rw [hgd] at q0
    clear hgd
    have hLM := hG.tab.len
    rw [List.length_append] at hLM
    have hge : decide ((L.length : Int) ≤ (pre.length : Int)) = false := decide_eq_false (by omega)
    have hwn : IntKind.i64.wrap ((pre.length : Int) + 1) = (pre.length : Int) + 1 := IntWalk.i64_in _ (by omega)
    have hk0 : (0 : Int) ≤ (pre.length : Int) := Int.natCast_nonneg _
    have hki : (pre.length : Int) < ((L ++ M).length : Int) := by rw [List.length_append]; omega
    have hrl : (List.range L.length)[pre.length]'(by rw [List.length_range]; exact hlt) = pre.length := List.getElem_range _
    simp only [List.setIfInBounds_toArray, List.set_cons_succ, List.set_cons_zero]
    replace hG := Lib.hid hG
    by_cases hy : y = pre.length
    · have hpre2 := Lib.hid (prefix_snoc hpre (by rw [List.length_range]; exact hlt) hrl)
      rw [hy]
      clear hrl hy
      obtain ⟨s, hs⟩ : ∃ s, L.getD pre.length ⟨#[]⟩ = s := ⟨_, rfl⟩
      rw [hs] at q0 ⊢
      replace hs := Lib.hid hs
      have hss : (s.toList != s.toList) = false := by simp
      have hnn : ((pre.length : Int) != (pre.length : Int)) = false := by simp
      obtain ⟨N, hN⟩ : ∃ N, (L ++ M).length = N := ⟨_, rfl⟩
      rw [hN] at crv hki
      gi_wp2
      refine wpIn_region_quiet_round (by kernel_rfl) (by kernel_rfl) (by kernel_rfl) ?_
      repeat (first | go_big_quiet_step (fail) | quiet_step (fail))
      refine wpQuiet_nil ?_
      rintro _ ⟨nq, rfl⟩
      have hdr : Below W.heap.size W (W.drewN nq) := below_drewN (Below.refl _ _) _
      generalize W.drewN nq = X at hdr ⊢
      have hGX := Lib.hid (hG.out.below hdr)
      have hkX := Lib.hid (KpS.below (va := va) (n := L.length) hdr (fun g e => (hG.out.hv g e).2.1))
      have hoX := Lib.hid ((ko_below hdr).from W1.heap.size)
      clear cq fq cr crv q0 hss hnn cn ca fa cm
      have ca := hGX.out.ba.cell
      have fa := hGX.out.ba.frozen
      have cm := hGX.out.bm.cell
      by_cases hm : pre.length < m.length
      · have hmi : (pre.length : Int) < (m.length : Int) := by omega
        obtain ⟨gm, om, rfl, q5⟩ := hGX.out.tx.cells pre.length hm
        have hz5 := hGX.out.tx.size pre.length
        obtain ⟨t, ht⟩ : ∃ t, m.getD pre.length ⟨#[]⟩ = t := ⟨_, rfl⟩
        have htt := Lib.hid ht
        rw [ht] at q5 hz5
        clear ht
        have ct := hGX.out.bt.cell
        have hGd := Lib.hid (hGX.out.below (Below.refl X.heap.size X).drew)
        have hpu := Lib.hid (in_Put hGd.out.tab t (by unfold maxLen; omega) (by rw [List.length_append]; omega))
        gi_wp2
        have hpo : Hid (∀ w8, PutP X.drew w.heap.size b v mb (L ++ M) (put (L ++ M) t) w8 → ∃ v', MS w x (some ⟨gm, om, none⟩) c1 m b mb rb L.length va pre.length w.heap.size rb v' (.slice ra (L ++ M).length rc) (put (L ++ M) t) (L ++ M) w8 ∧ KpS va L.length W w8 ∧ KeepsFrom W1.heap.size W w8) := Lib.hid (fun w8 h8 => by
          obtain ⟨v', k1, k2, k3⟩ := hGd.out.put1 hbM.2.1 h8
          exact ⟨v', k1, hkX.out.trans ((KpS.below ((Below.refl X.heap.size X).drew) (fun g e => (hGX.out.hv g e).2.1)).trans k2), hoX.out.trans (((ko_below ((Below.refl X.heap.size X).drew)).from _).trans k3)⟩)
        gi_cut [12, 13] from 16 (fun c e wc => c = .int .i64 ((L ++ M).idxOf t : Nat) ∧ e = .int .i64 0 ∧ Hid (∃ v', MS w x (some ⟨gm, om, none⟩) c1 m b mb rb L.length va pre.length w.heap.size rb v' (.slice ra (L ++ M).length rc) (put (L ++ M) t) (L ++ M) wc ∧ KpS va L.length W wc ∧ KeepsFrom W1.heap.size W wc))
        case first =>
          gi_region_with (first
            | (refine ⟨trivial, ?_⟩
               gi_at_call 12
               refine (CallsIn.inRound _ (callsIn_wide.2 hpu.out)).mono ?_
               rintro e w8 ⟨rfl, hp8⟩
               have hq8 := Lib.hid (hpo.out w8 hp8)
               clear hp8))
          all_goals gi_wp2
          all_goals
            gi_meet
            case rel => exact ⟨rfl, rfl, hq8⟩
        case rest =>
          obtain ⟨rfl, rfl, hq⟩ := hcut
          clear hpo hpu hGd ct ca fa cm q5 hGX hkX hoX
          obtain ⟨v8, hG80, hk80, ho80⟩ := hq.out
          have hG8 := Lib.hid hG80
          have hk8 := Lib.hid hk80
          have ho8 := Lib.hid ho80
          clear hG80 hk80 ho80 hq
          have ca := hG8.out.ba.cell
          have cm := hG8.out.bm.cell
          have cr := hG8.out.br.cell
          obtain ⟨gm2, om2, e9, q5⟩ := hG8.out.tx.cells pre.length hm
          obtain ⟨rfl, rfl⟩ : gm = gm2 ∧ om = om2 := by injection e9 with e9; injection e9 with e3 e4; exact ⟨e3, e4⟩
          clear e9
          rw [htt.out] at q5
          have hGd := Lib.hid (hG8.out.below (Below.refl wc.heap.size wc).drew)
          have hpu := Lib.hid (rf_Put hGd.out.rt t (by rw [List.length_append]; omega))
          have hpo : Hid (∀ w9, RPutP wc.drew rb rb (.slice ra (L ++ M).length rc) (put (L ++ M) t) w9 → ∃ rv', MS w x (some ⟨gm, om, none⟩) c1 m b mb rb L.length va pre.length w.heap.size rb v8 rv' (put (L ++ M) t) (put (L ++ M) t) w9 ∧ KpS va L.length W w9 ∧ KeepsFrom W1.heap.size W w9) := Lib.hid (fun w9 h9 => by
            obtain ⟨rv', k1, k2, k3⟩ := hGd.out.put2 h9
            exact ⟨rv', k1, hk8.out.trans ((KpS.below ((Below.refl wc.heap.size wc).drew) (fun g e => (hG8.out.hv g e).2.1)).trans k2), ho8.out.trans (((ko_below ((Below.refl wc.heap.size wc).drew)).from _).trans k3)⟩)
          gi_wp2
          gi_cut [14, 15] from 16 (fun c e wc => c = .int .i64 ((L ++ M).idxOf t : Nat) ∧ e = .int .i64 0 ∧ Hid (∃ rv', MS w x (some ⟨gm, om, none⟩) c1 m b mb rb L.length va pre.length w.heap.size rb v8 rv' (put (L ++ M) t) (put (L ++ M) t) wc ∧ KpS va L.length W wc ∧ KeepsFrom W1.heap.size W wc))
          case first =>
            gi_region_with (first
              | (refine ⟨trivial, ?_⟩
                 gi_at_call 13
                 refine (CallsIn.inRound _ (callsIn_wide.2 hpu.out)).mono ?_
                 rintro e w9 ⟨rfl, hp9⟩
                 have hq9 := Lib.hid (hpo.out w9 hp9)
                 clear hp9))
            all_goals gi_wp2
            all_goals
              gi_meet
              case rel => exact ⟨rfl, rfl, hq9⟩
          case rest =>
            obtain ⟨rfl, rfl, hq⟩ := hcut
            clear hpo hpu hGd ca cm cr q5 hG8 hk8 ho8
            obtain ⟨rv9, hG9, hk9, ho9⟩ := hq.out
            obtain ⟨z, hz⟩ := put_pre (L ++ M) t
            have hzl := (put_len (L ++ M) t).2
            rw [hz, List.length_append, List.length_append] at hzl
            rw [hz, List.append_assoc] at hG9
            clear hq hz
            replace hzl := Lib.hid hzl
            have ca := hG9.ba.cell
            have fa := hG9.ba.frozen
            have hnx := Lib.hid (ms_step (va := va) hG9)
            replace hk9 := Lib.hid hk9
            replace ho9 := Lib.hid ho9
            clear hG9
            have hii : ((((L ++ M).idxOf t : Nat) : Int) != (((L ++ M).idxOf t : Nat) : Int)) = false := by simp
            generalize (((L ++ M).idxOf t : Nat) : Int) = ix at hii ⊢
            gi_wp2_with (first
              | (refine ⟨trivial, ?_⟩
                 gi_at_call 14
                 refine (CallsIn.inRound _ (callsIn_wide.2 (w1_num _ _))).mono ?_
                 rintro e w10 ⟨rfl, rfl⟩))
            have hl1 : (pre ++ [pre.length]).length = pre.length + 1 := by simp
            exact ⟨ho9.out.trans (hnx.out.2.2.from _), hk9.out.trans hnx.out.2.1, v8, rv9, M ++ z, by rw [hl1]; exact hnx.out.1, hpre2.out, by have := hzl.out; rw [hl1, List.length_append]; omega⟩
      · have hmi : ¬ ((pre.length : Int) < (m.length : Int)) := by omega
        have hnx := Lib.hid (ms_step (va := va) hGX.out)
        gi_wp2
        exact ⟨(hoX.out.trans (hnx.out.2.2.from _)), hkX.out.trans hnx.out.2.1, v, _, M, by rw [List.length_append]; exact hnx.out.1, hpre2.out, by rw [List.length_append]; exact Nat.le_succ_of_le hMl⟩
    · have hnn : ((y : Int) != (pre.length : Int)) = true := by simp; omega
      have hno := Lib.hid fun h => hy (prefix_get h (by rw [List.length_range]; exact hlt) hrl)
      clear hrl hy
      generalize L.getD y ⟨#[]⟩ = sx
      obtain ⟨N, hN⟩ : ∃ N, (L ++ M).length = N := ⟨_, rfl⟩
      rw [hN] at crv hki
      gi_wp2
      refine wpIn_region_quiet_round (by kernel_rfl) (by kernel_rfl) (by kernel_rfl) ?_
      repeat (first | go_big_quiet_step (fail) | quiet_step (fail))
      refine wpQuiet_nil ?_
      rintro _ ⟨nq, rfl⟩
      have hdr : Below W.heap.size W (W.drewN nq) := below_drewN (Below.refl _ _) _
      generalize W.drewN nq = X at hdr ⊢
      replace cq := cell_below hdr rfl cq
      replace fq := (hdr.frozen (p := ⟨x.q, 0, none⟩) hG.out.bq.lt).trans fq
      clear ca fa cn cr cm crv q0
      gi_wp2
      exact ⟨((ko_below hdr).trans (KeepsOthers.setCell X _ _)).from _, rfl, hno.out⟩
end Go.Proofs.Ytacjelpkmafkpaa
