/- TupleKeys: the law walked. -/
import Derived.Test.YtgndogoaenlchaaDoorProg
import Derived.Test.YtgndogoaenlchaaDoorBase
import Derived.Test.YtgndogoaenlchaaDoorKit
import Derived.Test.YtgndogoaenlchaaDoorKey
import Derived.Test.YtgndogoaenlchaaDoorLend
import Derived.Test.YtgndogoaenlchaaDoorOf
import Derived.Test.YtgndogoaenlchaaDoorFam
import Derived.Test.YtgndogoaenlchaaDoorBook
import Derived.Test.YtgndogoaenlchaaDoorBookA
import Derived.Test.YtgndogoaenlchaaDoorBook3
import Derived.Test.YtgndogoaenlchaaDoorKeys
import Derived.Test.YtgndogoaenlchaaDoorWorks
namespace Go.Proofs.YtgndogoaenlchaaDoor
open Go.RowKit

theorem eqB_self (xs : List Int) : eqB xs xs = true := by unfold eqB; simp
theorem keyO_wf (zs : List Int) (h : ∀ i, i < zs.length → IntKind.i64.wrap (nth zs i) = nth zs i) (i : Nat) : IntKind.i64.wrap (nth (keyO zs) i) = nth (keyO zs) i := by
  have hl : ∀ ys : List Int, (∀ i, i < ys.length → IntKind.i64.wrap (nth ys i) = nth ys i) → IntKind.i64.wrap (nth (keyL ys) i) = nth (keyL ys) i := by
    intro ys hy
    rcases Nat.lt_or_ge i 16 with hi | hi
    · have : nth (keyL ys) i = nth ys i := by rw [nth_eq _ _ (by rw [keyL_length]; exact hi)]; simp [keyL]
      rw [this]
      rcases Nat.lt_or_ge i ys.length with h2 | h2
      · exact hy i h2
      · rw [nth_beyond ys i h2]; rfl
    · rw [nth_beyond _ _ (by rw [keyL_length]; exact hi)]; rfl
  unfold keyO
  split
  · exact hl zs h
  · exact hl [] (fun i hi => by simp at hi)
theorem Ints.ofOwn {k : IntKind} {w : World} {base : Nat} {e : TypeId} {a : Option Addr} {n c : Nat} {zs : List Int} (h : w.ownsRow base e 1 (.slice a n c) n (zs.map (Value.int k))) (hl : zs.length ≤ 17592186044200) (hw : ∀ i, i < zs.length → k.wrap (nth zs i) = nth zs i) : Ints k w a zs := by
  have hn : n = zs.length := by have := h.1; simp at this; omega
  rcases Nat.eq_zero_or_pos n with h0 | h0
  · exact ⟨hl, fun i hi => by omega, hw⟩
  · obtain ⟨g, cap, hv, _⟩ := own_shape h h0
    injection hv with hv _ hv3
    subst hv
    exact Ints.own h hl hw
theorem nth_take (l : List Int) (n i : Nat) (h : i < n) : nth (l.take n) i = nth l i := by
  simp [nth, List.getD_eq_getElem?_getD, h]
theorem take_wf {ks : List Int} (h : ∀ i, IntKind.i64.wrap (nth ks i) = nth ks i) (q : Nat) : ∀ i, i < (ks.take q).length → IntKind.i64.wrap (nth (ks.take q) i) = nth (ks.take q) i := by
  intro i hi
  rw [nth_take _ _ _ (by rw [List.length_take] at hi; omega)]; exact h i
theorem Ints.takeN {k : IntKind} {w : World} {a : Option Addr} {zs : List Int} (h : Ints k w a zs) (q : Nat) : Ints k w a (zs.take q) := by
  have := h
  rw [← List.take_append_drop q zs] at this
  exact this.front
theorem keyO_short (zs : List Int) (h : zs.length ≤ 16) : (keyO zs).take zs.length = zs ∧ keyE zs = 0 := by
  unfold keyO keyE
  rw [if_pos h, if_pos h, ← keyK_end zs h]
  unfold keyK
  refine ⟨?_, rfl⟩
  rw [List.take_of_length_le (Nat.le_refl zs.length), List.take_left]
theorem keyO_long (zs : List Int) (h : ¬ zs.length ≤ 16) : keyE zs = 3 := by unfold keyE; rw [if_neg h]
theorem sizeA16 (ks : List Int) (h : ks.length = 16) : (Tryd.prog.info? 36).map (fun i => i.size) = some (keyA ks).size := by rw [keyA_size, h]; exact sizeArr_int

set_option maxRecDepth 100000 in
set_option maxHeartbeats 8000000 in
theorem law_TupleKeys (a : Option Addr) (n : Int) (cap : Nat) (zs : List Int) (w : World) (ha : Ints .i64 w a zs) (hnw : IntKind.i64.wrap n = n) (hnil : a = none → zs = [] ∧ cap = 0) (hl : zs.length ≤ 17592186043904) :
    Calls Tryd.prog 4 #[.slice a zs.length cap, .int .i64 n] w fun e w' => e = .returned (.bool true) ∧ Below w.heap.size w w' := by
  obtain ⟨ks, hks⟩ : ∃ ks, ks = keyO zs := ⟨_, rfl⟩
  have hkl : ks.length = 16 := by rw [hks]; exact keyO_length zs
  have hkw : Hid (∀ i, IntKind.i64.wrap (nth ks i) = nth ks i) := by show ∀ i, _; rw [hks]; exact keyO_wf zs ha.wf
  obtain ⟨E, hE⟩ : ∃ E, E = keyE zs := ⟨_, rfl⟩
  have hwf := Lib.hid ha.wf
  have hsz16 := sizeA16 ks hkl
  replace hks := Lib.hid hks
  replace hE := Lib.hid hE
  replace hkl := Lib.hid hkl
  replace hsz16 := Lib.hid hsz16
  replace hnil := Lib.hid hnil
  replace hnw := Lib.hid hnw
  go_enter Tryd.func4, Tryd.ntmps4
  go_wp2_with fail
  refine (lend_any a cap zs w ha hnil.out).mono ?_
  rintro e w1 ⟨g, c, rfl, hc, hcm, hlent, hb1⟩
  have hx1 := hlent.ints (by omega) hwf.out
  replace hcm := Lib.hid hcm
  clear hlent
  go_wp2_with fail
  refine (key_all (some ⟨g, 0, none⟩) c zs w1 hx1.front).mono ?_
  rintro e w2 ⟨he, hb2⟩
  rw [← hks.out, ← hE.out] at he
  subst he
  have hx2 := hx1.below hb2
  have hb12 := hb1.trans (hb2.mono hb1.size)
  clear hb1 hb2 hx1
  go_wp2_with (refine wpList_store_rowA rfl 36 (.tmp 6) (.tmp 23) rfl w2.heap.size (keyA ks) rfl rfl 36 (keyV .i64 []) (heap_alloc_new _ _) hsz16.out (by rw [keyA_size, hkl.out]; rfl) (keyA_one ks) ?_)
  intro w3 hg3 hgr hsz
  have hb23 : Below w2.heap.size w2 w3 := ((Below.refl _ _).al _).grown hgr (by simp) (by intro k hk; injection hk with hk; omega)
  have hs3 : w2.heap.size < w3.heap.size := by have h := hsz.out; first | omega | (simp at h; omega)
  have hx3 := hx2.below hb23
  have hb13 := hb12.trans (hb23.mono hb12.size)
  clear hgr hsz hb12 hb23 hx2
  go_wp2_with fail
  refine (rkey a cap zs w3 (ha.below hb13)).mono ?_
  rintro e w4 ⟨gw, cw, he, hown4, hb34⟩
  rw [← hE.out] at he
  rw [← hks.out] at hown4
  subst he
  have hx4 := hx3.below hb34
  have hb4 := hb13.trans (hb34.mono hb13.size)
  have hg4 := (hb34.block _ hs3).trans hg3.out
  have hs4 : w2.heap.size < w4.heap.size := by have := hb34.size; omega
  have hgw := (own_lt hown4 gw rfl)
  have hw4 : Ints .i64 w4 (some ⟨gw, 0, none⟩) ks := Ints.own hown4 (by rw [hkl.out]; decide) (fun i _ => hkw.out i)
  have hcw : 16 ≤ cw := by
    obtain ⟨g', c', hv, _, _, h, _⟩ := own_shape hown4 (by decide)
    injection hv with _ _ hv
    omega
  clear hb34 hb13 hx3 hg3 hown4
  obtain ⟨B, hB⟩ : ∃ B, B = w2.heap.size := ⟨_, rfl⟩
  rw [← hB] at hg4 hs4 ⊢
  clear hB
  go_wp2_with (first
    | (go_at_call 17; refine (num_any _ _).mono ?_; rintro e w' ⟨rfl, rfl⟩))
  refine (kept_any g c a cap zs zs w4 hx4 (ha.below hb4) rfl hc).mono ?_
  rintro e w5 ⟨he, hd5⟩
  rw [eqB_self] at he
  subst he
  have hb45 : Below w4.heap.size w4 w5 := hd5.below _
  have hb5 := hb4.trans (hb45.mono hb4.size)
  have hg5 := (hb45.block _ hs4).trans hg4
  have hw5 := hw4.below hb45
  have hs5 : B < w5.heap.size := by have := hb45.size; omega
  clear hd5 hb45 hb4 hg4 hw4 hx4 hs4
  replace hb5 := Lib.hid hb5
  replace hg5 := Lib.hid hg5
  go_wp2
  go_loopw [10] (fun i wr => ∃ k : Nat, k ≤ 16 ∧ i = .int .i64 k ∧ Drawn w5 wr) (fun i _ => 16 - (intOf i).toNat)
  case atStart => exact ⟨0, Nat.zero_le _, rfl, Drawn.refl _⟩
  case round =>
    obtain ⟨k, hk, rfl, hd6⟩ := hrel
    by_cases hlt : k < 16
    · obtain ⟨nd, rfl⟩ := hd6
      have c1 : w5.cell? ⟨B, k, none⟩ = some (.int .i64 (nth ks k)) := by
        rw [cell_of_row _ _ _ _ _ _ hg5.out, nth_eq ks k (by rw [hkl.out]; exact hlt)]; simp [keyA, hkl.out, hlt]
      have c2 : w5.cell? ⟨gw, k, none⟩ = some (.int .i64 (nth ks k)) := by
        obtain ⟨b, off, e, h⟩ := hw5.cells k (by rw [hkl.out]; exact hlt)
        injection e with e
        injection e with e1 e2 _
        subst e1 e2
        rw [Nat.zero_add] at h; exact h
      have hi : (k : Int) < 16 := by omega
      go_wp2
      go_quiet (fail)
      go_wp2
      go_roundw
      case rel => exact ⟨k + 1, by omega, by go_num, by (repeat (refine Drawn.step ?_ _)); exact Drawn.refl _⟩
      case measure => simp [intOf]; omega
    · have hb56 : Below w5.heap.size w5 wr := hd6.below _
      have hg6 := Lib.hid ((hb56.block _ hs5).trans hg5.out)
      have hw6 := hw5.below hb56
      have hb6 := Lib.hid (hb5.out.trans (hb56.mono hb5.out.size))
      have hs6 : B < wr.heap.size := by have := hb56.size; omega
      have hw0 : w.heap.size ≤ wr.heap.size := hb6.out.size
      clear hd6 hb56 hg5 hw5 hb5 hs5
      by_cases hbad : n < 0 ∨ 16 < n
      · have hbad2 := Lib.hid hbad
        go_wp2_with (first
          | (with_reducible refine wpList_load_row rfl 36 (.tmp 6) rfl B rfl 36 (keyA ks) (0, 0) _ hg6.out Tryd.underlying36 rfl hsz16.out ?_))
        refine (from_bad ks n wr hkl.out hbad2.out).mono ?_
        rintro e w7 ⟨rfl, hb67⟩
        have hg7 := Lib.hid ((hb67.block _ hs6).trans hg6.out)
        have hb7 := Lib.hid (hb6.out.trans (hb67.mono hb6.out.size))
        clear hb67 hg6 hb6
        go_wp2_with (first
          | (with_reducible refine wpList_load_row rfl 36 (.tmp 6) rfl B rfl 36 (keyA ks) (0, 0) _ hg7.out Tryd.underlying36 rfl hsz16.out ?_))
        refine (from_bad ks n w7 hkl.out hbad2.out).mono ?_
        rintro e w8 ⟨rfl, hb78⟩
        have hb8 := Lib.hid (hb7.out.trans (hb78.mono hb7.out.size))
        clear hb78 hg7 hb7
        rcases hbad2.out with h | h
        · go_wp2_with (first
            | (go_at_call 17; refine (num_any _ _).mono ?_; rintro e w' ⟨rfl, rfl⟩)
            | (go_at_call 14; refine (works_any _).mono ?_; rintro e w16 ⟨rfl, hb16⟩))
          go_ret
          exact ⟨rfl, hb8.out.trans (hb16.mono hb8.out.size)⟩
        · have h0 : ¬ n < 0 := by omega
          go_wp2_with (first
            | (go_at_call 17; refine (num_any _ _).mono ?_; rintro e w' ⟨rfl, rfl⟩)
            | (go_at_call 14; refine (works_any _).mono ?_; rintro e w16 ⟨rfl, hb16⟩))
          go_ret
          exact ⟨rfl, hb8.out.trans (hb16.mono hb8.out.size)⟩
      · obtain ⟨q, hq⟩ : ∃ q : Nat, n = q := ⟨n.toNat, by omega⟩
        subst hq
        have hq16 : q ≤ 16 := by omega
        have hn1 : ¬ (q : Int) < 0 := by omega
        have hn2 : ¬ (16 : Int) < (q : Int) := by omega
        clear hbad
        go_wp2_with (first
          | (with_reducible refine wpList_load_row rfl 36 (.tmp 6) rfl B rfl 36 (keyA ks) (0, 0) _ hg6.out Tryd.underlying36 rfl hsz16.out ?_))
        refine (from_ok ks q wr hkl.out hq16).mono ?_
        rintro e w7 ⟨a1, c1, rfl, own1, hb67⟩
        have hg7 := Lib.hid ((hb67.block _ hs6).trans hg6.out)
        have hw7 := hw6.below hb67
        have hb7 := Lib.hid (hb6.out.trans (hb67.mono hb6.out.size))
        have hs7 : B < w7.heap.size := by have := hb67.size; omega
        have hz7 := hb67.size
        clear hb67 hg6 hw6 hb6
        go_wp2_with (first
          | (with_reducible refine wpList_load_row rfl 36 (.tmp 6) rfl B rfl 36 (keyA ks) (0, 0) _ hg7.out Tryd.underlying36 rfl hsz16.out ?_))
        refine (from_ok ks q w7 hkl.out hq16).mono ?_
        rintro e w8 ⟨a2, c2, rfl, own2, hb78⟩
        have hg8 := Lib.hid ((hb78.block _ hs7).trans hg7.out)
        have hw8 := hw7.below hb78
        have hb8 := Lib.hid (hb7.out.trans (hb78.mono hb7.out.size))
        have hs8 : B < w8.heap.size := by have := hb78.size; omega
        have hz8 := hb78.size
        have own18 := own_below own1 hb78
        have o1 := Lib.hid (own_lt own1)
        clear hb78 hg7 hw7 hb7 own1
        go_wp2_with (first
          | (go_at_call 17; refine (num_any _ _).mono ?_; rintro e w' ⟨rfl, rfl⟩))
        have lq : (ks.take q).length = q := by rw [List.length_take, hkl.out]; omega
        have i1 : Ints .i64 w8 a1 (ks.take q) := Ints.ofOwn own18 (by rw [lq]; omega) (take_wf hkw.out q)
        have i2 : Ints .i64 w8 a2 (ks.take q) := Ints.ofOwn own2 (by rw [lq]; omega) (take_wf hkw.out q)
        replace lq := Lib.hid lq
        refine (Calls.len2 lq.out lq.out (kints a1 (some ⟨gw, 0, none⟩) c1 cw (ks.take q) (ks.take q) w8 i1 (hw8.takeN q))).mono ?_
        rintro e w9 ⟨he, hd9⟩
        rw [eqB_self] at he
        subst he
        have hb89 : Below w8.heap.size w8 w9 := hd9.below _
        have hg9 := Lib.hid ((hb89.block _ hs8).trans hg8.out)
        have hb9 := Lib.hid (hb8.out.trans (hb89.mono hb8.out.size))
        have hs9 : B < w9.heap.size := by have := hb89.size; omega
        have hz9 := hb89.size
        have own19 := own_below own18 hb89
        have own29 := own_below own2 hb89
        have o2 := Lib.hid (own_lt own2)
        have j1 := i1.below hb89
        have j2 := i2.below hb89
        clear hd9 hb89 hg8 hb8 own18 own2 i1 i2 hw8 hs8
        go_wp2_with fail
        refine (Calls.len2 lq.out lq.out (kints a2 a1 c2 c1 (ks.take q) (ks.take q) w9 j2 j1)).mono ?_
        rintro e w10 ⟨he, hd10⟩
        rw [eqB_self] at he
        subst he
        have hb910 : Below w9.heap.size w9 w10 := hd10.below _
        have hg10 := Lib.hid ((hb910.block _ hs9).trans hg9.out)
        have hb10 := Lib.hid (hb9.out.trans (hb910.mono hb9.out.size))
        have hs10 : B < w10.heap.size := by have := hb910.size; omega
        have hz10 := hb910.size
        have own110 := own_below own19 hb910
        have own210 := own_below own29 hb910
        clear hd10 hb910 hg9 hb9 own19 own29 j1 j2 hs9
        by_cases hz : (zs.length : Int) ≤ 16
        · obtain ⟨hk1, hE1⟩ := keyO_short zs (by omega)
          rw [← hks.out] at hk1
          have hE0 : (E == 0) = true := by rw [hE.out, hE1]; rfl
          replace hk1 := Lib.hid hk1
          clear hE1
          go_wp2_with (first
            | (with_reducible refine wpList_load_row rfl 36 (.tmp 6) rfl B rfl 36 (keyA ks) (0, 0) _ hg10.out Tryd.underlying36 rfl hsz16.out ?_))
          refine (from_ok ks zs.length w10 hkl.out (by omega)).mono ?_
          rintro e w11 ⟨a3, c3, rfl, own3, hb1011⟩
          have hb11 := Lib.hid (hb10.out.trans (hb1011.mono hb10.out.size))
          have hz11 := hb1011.size
          have own111 := own_below own110 hb1011
          have own211 := own_below own210 hb1011
          have o3 := Lib.hid (own_lt own3)
          have lz : (ks.take zs.length).length = zs.length := by rw [hk1.out]
          have i3 : Ints .i64 w11 a3 (ks.take zs.length) := Ints.ofOwn own3 (by rw [lz]; omega) (take_wf hkw.out _)
          have e3 : Hid (eqB (ks.take zs.length) zs = true) := by show _ = _; rw [hk1.out]; exact eqB_self zs
          replace lz := Lib.hid lz
          clear hb1011 own110 own210 hg10 hb10
          go_wp2_with fail
          refine (Calls.len2 lz.out rfl (kints a3 a c3 cap (ks.take zs.length) zs w11 i3 (ha.below hb11.out))).mono ?_
          rintro e w12 ⟨he, hd12⟩
          rw [e3.out] at he
          subst he
          have hb1112 : Below w11.heap.size w11 w12 := hd12.below _
          have hbx := Lib.hid (hb11.out.trans (hb1112.mono hb11.out.size))
          have hz12 := hb1112.size
          have own1x := own_below own111 hb1112
          have own2x := own_below own211 hb1112
          have own3x := own_below own3 hb1112
          clear hd12 hb1112 hb11 own111 own211 own3 i3 e3
          go_wp2_with fail
          have hbk : Hid (((w12.alloc (.cells #[.slice none 0 0, .slice none 0 0, .slice none 0 0] 32)).alloc (.cells #[.slice a1 q c1, .slice a2 q c2, .slice a3 zs.length c3] 23)).heap[w12.heap.size]? = some (.cells #[.slice none 0 0, .slice none 0 0, .slice none 0 0] 32)) := heap_alloc2_old w12 _ _
          have hbn : Hid (((w12.alloc (.cells #[.slice none 0 0, .slice none 0 0, .slice none 0 0] 32)).alloc (.cells #[.slice a1 q c1, .slice a2 q c2, .slice a3 zs.length c3] 23)).heap[w12.heap.size + 1]? = some (.cells #[.slice a1 q c1, .slice a2 q c2, .slice a3 zs.length c3] 23)) := heap_alloc2_new w12 _ _
          have hbw : Below w.heap.size w ((w12.alloc (.cells #[.slice none 0 0, .slice none 0 0, .slice none 0 0] 32)).alloc (.cells #[.slice a1 q c1, .slice a2 q c2, .slice a3 zs.length c3] 23)) := (hbx.out.al _).al _
          have hss : w12.heap.size < ((w12.alloc (.cells #[.slice none 0 0, .slice none 0 0, .slice none 0 0] 32)).alloc (.cells #[.slice a1 q c1, .slice a2 q c2, .slice a3 zs.length c3] 23)).heap.size := by rw [World.size_alloc, World.size_alloc]; omega
          have w1own := own_lower (base' := w.heap.size) ((own1x.alloc (.cells #[.slice none 0 0, .slice none 0 0, .slice none 0 0] 32)).alloc (.cells #[.slice a1 q c1, .slice a2 q c2, .slice a3 zs.length c3] 23)) hw0
          have w2own := own_lower (base' := w.heap.size) ((own2x.alloc (.cells #[.slice none 0 0, .slice none 0 0, .slice none 0 0] 32)).alloc (.cells #[.slice a1 q c1, .slice a2 q c2, .slice a3 zs.length c3] 23)) (by omega)
          have w3own := own_lower (base' := w.heap.size) ((own3x.alloc (.cells #[.slice none 0 0, .slice none 0 0, .slice none 0 0] 32)).alloc (.cells #[.slice a1 q c1, .slice a2 q c2, .slice a3 zs.length c3] 23)) (by omega)
          clear own1x own2x own3x
          generalize (w12.alloc (.cells #[.slice none 0 0, .slice none 0 0, .slice none 0 0] 32)).alloc (.cells #[.slice a1 q c1, .slice a2 q c2, .slice a3 zs.length c3] 23) = U at hbk hbn hbw hss w1own w2own w3own ⊢
          refine (bk_Ints w12.heap.size (w12.heap.size + 1) 3 3 [.slice a1 q c1, .slice a2 q c2, .slice a3 zs.length c3] U hbk.out rfl ?hvs (by intro u hu; simp at hu; rcases hu with rfl | rfl | rfl <;> rfl) (by decide) (by decide)).mono ?_
          case hvs =>
            intro j u hu
            rw [cell_of_row _ _ _ _ _ _ hbn.out]
            simpa using hu
          rintro e w14 hp
          obtain ⟨he, hk, G, cN, hin, hT, hL⟩ := bk3_in (x := ⟨a1, q, c1, ks.take q⟩) (y := ⟨a2, q, c2, ks.take q⟩) (z := ⟨a3, zs.length, c3, ks.take zs.length⟩) (s1 := w7.heap.size) (s2 := w8.heap.size) (base := w.heap.size) (BB := w12.heap.size) w1own w2own w3own
            (fun b hb => (o1.out b hb).2) (fun b hb => o2.out b hb) (fun b hb => by have := o3.out b hb; omega) (by omega) (by omega) hss (by omega) ⟨by show q ≤ _; omega, by show q ≤ _; omega, by show zs.length ≤ _; omega⟩ hp
          subst he
          have b14 := hk.below hbw (fun b hb => by subst hb; omega)
          have bk := Lib.hid (bkB_base hin)
          clear hk hp w1own w2own w3own hbk hbn hbw
          go_wp2_with fail
          refine (bk_Apart _ _ _ _ _ _ _ _ hin hT hL).mono ?_
          rintro e w15 ⟨rfl, hk2⟩
          have b15 := hk2.below b14 bk.out
          clear hk2 b14 hin hT hL
          go_wp2_with (go_at_call 14; refine (works_any _).mono ?_; rintro e w16 ⟨rfl, hb16⟩)
          go_ret
          exact ⟨rfl, b15.trans (hb16.mono b15.size)⟩
        · have hE0 : (E == 0) = false := by rw [hE.out, keyO_long zs (by omega)]; rfl
          go_wp2_with (first
            | (with_reducible refine wpList_load_row rfl 36 (.tmp 6) rfl B rfl 36 (keyA ks) (0, 0) _ hg10.out Tryd.underlying36 rfl hsz16.out ?_))
          refine (from_ok ks 16 w10 hkl.out (by decide)).mono ?_
          rintro e w11 ⟨a3, c3, rfl, own3x, hb1011⟩
          have hbx := Lib.hid (hb10.out.trans (hb1011.mono hb10.out.size))
          have hz11 := hb1011.size
          have own1x := own_below own110 hb1011
          have own2x := own_below own210 hb1011
          have o3 := Lib.hid (own_lt own3x)
          clear hb1011 own110 own210 hg10 hb10
          go_wp2_with fail
          have hbk : Hid (((w11.alloc (.cells #[.slice none 0 0, .slice none 0 0, .slice none 0 0] 32)).alloc (.cells #[.slice a1 q c1, .slice a2 q c2, .slice a3 16 c3] 23)).heap[w11.heap.size]? = some (.cells #[.slice none 0 0, .slice none 0 0, .slice none 0 0] 32)) := heap_alloc2_old w11 _ _
          have hbn : Hid (((w11.alloc (.cells #[.slice none 0 0, .slice none 0 0, .slice none 0 0] 32)).alloc (.cells #[.slice a1 q c1, .slice a2 q c2, .slice a3 16 c3] 23)).heap[w11.heap.size + 1]? = some (.cells #[.slice a1 q c1, .slice a2 q c2, .slice a3 16 c3] 23)) := heap_alloc2_new w11 _ _
          have hbw : Below w.heap.size w ((w11.alloc (.cells #[.slice none 0 0, .slice none 0 0, .slice none 0 0] 32)).alloc (.cells #[.slice a1 q c1, .slice a2 q c2, .slice a3 16 c3] 23)) := (hbx.out.al _).al _
          have hss : w11.heap.size < ((w11.alloc (.cells #[.slice none 0 0, .slice none 0 0, .slice none 0 0] 32)).alloc (.cells #[.slice a1 q c1, .slice a2 q c2, .slice a3 16 c3] 23)).heap.size := by rw [World.size_alloc, World.size_alloc]; omega
          have w1own := own_lower (base' := w.heap.size) ((own1x.alloc (.cells #[.slice none 0 0, .slice none 0 0, .slice none 0 0] 32)).alloc (.cells #[.slice a1 q c1, .slice a2 q c2, .slice a3 16 c3] 23)) hw0
          have w2own := own_lower (base' := w.heap.size) ((own2x.alloc (.cells #[.slice none 0 0, .slice none 0 0, .slice none 0 0] 32)).alloc (.cells #[.slice a1 q c1, .slice a2 q c2, .slice a3 16 c3] 23)) (by omega)
          have w3own := own_lower (base' := w.heap.size) ((own3x.alloc (.cells #[.slice none 0 0, .slice none 0 0, .slice none 0 0] 32)).alloc (.cells #[.slice a1 q c1, .slice a2 q c2, .slice a3 16 c3] 23)) (by omega)
          clear own1x own2x own3x
          generalize (w11.alloc (.cells #[.slice none 0 0, .slice none 0 0, .slice none 0 0] 32)).alloc (.cells #[.slice a1 q c1, .slice a2 q c2, .slice a3 16 c3] 23) = U at hbk hbn hbw hss w1own w2own w3own ⊢
          refine (bk_Ints w11.heap.size (w11.heap.size + 1) 3 3 [.slice a1 q c1, .slice a2 q c2, .slice a3 16 c3] U hbk.out rfl ?hvs (by intro u hu; simp at hu; rcases hu with rfl | rfl | rfl <;> rfl) (by decide) (by decide)).mono ?_
          case hvs =>
            intro j u hu
            rw [cell_of_row _ _ _ _ _ _ hbn.out]
            simpa using hu
          rintro e w14 hp
          obtain ⟨he, hk, G, cN, hin, hT, hL⟩ := bk3_in (x := ⟨a1, q, c1, ks.take q⟩) (y := ⟨a2, q, c2, ks.take q⟩) (z := ⟨a3, 16, c3, ks.take 16⟩) (s1 := w7.heap.size) (s2 := w8.heap.size) (base := w.heap.size) (BB := w11.heap.size) w1own w2own w3own
            (fun b hb => (o1.out b hb).2) (fun b hb => o2.out b hb) (fun b hb => by have := o3.out b hb; omega) (by omega) (by omega) hss (by omega) ⟨by show q ≤ _; omega, by show q ≤ _; omega, by show 16 ≤ _; omega⟩ hp
          subst he
          have b14 := hk.below hbw (fun b hb => by subst hb; omega)
          have bk := Lib.hid (bkB_base hin)
          clear hk hp w1own w2own w3own hbk hbn hbw
          go_wp2_with fail
          refine (bk_Apart _ _ _ _ _ _ _ _ hin hT hL).mono ?_
          rintro e w15 ⟨rfl, hk2⟩
          have b15 := hk2.below b14 bk.out
          clear hk2 b14 hin hT hL
          go_wp2_with (go_at_call 14; refine (works_any _).mono ?_; rintro e w16 ⟨rfl, hb16⟩)
          go_ret
          exact ⟨rfl, b15.trans (hb16.mono b15.size)⟩

end Go.Proofs.YtgndogoaenlchaaDoor
