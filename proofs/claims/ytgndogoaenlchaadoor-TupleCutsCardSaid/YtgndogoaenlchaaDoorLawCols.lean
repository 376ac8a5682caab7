/- TupleColumns: the law walked. -/
import Derived.Test.YtgndogoaenlchaaDoorProg
import Derived.Test.YtgndogoaenlchaaDoorBase
import Derived.Test.YtgndogoaenlchaaDoorKit
import Derived.Test.YtgndogoaenlchaaDoorKey
import Derived.Test.YtgndogoaenlchaaDoorLend
import Derived.Test.YtgndogoaenlchaaDoorOf
import Derived.Test.YtgndogoaenlchaaDoorFam
import Derived.Test.YtgndogoaenlchaaDoorBook
import Derived.Test.YtgndogoaenlchaaDoorBookA
import Derived.Test.YtgndogoaenlchaaDoorBook3
import Derived.Test.YtgndogoaenlchaaDoorKeys
import Derived.Test.YtgndogoaenlchaaDoorWorks
import Derived.Test.YtgndogoaenlchaaDoorCols
import Derived.Test.YtgndogoaenlchaaDoorLawKeys
namespace Go.Proofs.YtgndogoaenlchaaDoor
open Go.RowKit

theorem ofV_parts (zs : List Int) : ∃ (d : Nat) (E : Int), d < 65536 ∧ ofV (ofL zs 0) = .tuple #[.int .u16 (d : Int), .int .i64 E] := by
  cases h : ofL zs 0 with
  | none => exact ⟨0, 2, by omega, rfl⟩
  | some r =>
    obtain ⟨d, hd, rfl⟩ := ofL_range zs 0 (by omega) r h
    exact ⟨d, 0, hd, rfl⟩
theorem wraps_i64 (n : Int) (h0 : 0 ≤ n) (h1 : n < 4611686018427387904) : IntKind.i64.wrap n = n := by
  rw [IntKind.wrap_i64]; omega
theorem u16_range {n : Int} (h : IntKind.u16.wrap n = n) : 0 ≤ n ∧ n < 65536 := by
  rw [← h]; simp [IntKind.wrap, IntKind.bits, IntKind.signed]; omega
theorem listL_len (c : Nat) : (listL c).length ≤ 16 := listR_len c 16 0
theorem nth_mem (l : List Int) (i : Nat) (h : i < l.length) : nth l i ∈ l := by
  have : nth l i = l[i] := by simp [nth, List.getD_eq_getElem?_getD, h]
  rw [this]; exact List.getElem_mem h
theorem listL_wf (c : Nat) : ∀ i, i < (listL c).length → IntKind.i64.wrap (nth (listL c) i) = nth (listL c) i := by
  intro i hi
  have h := listR_wf c 16 0 (by omega) _ (nth_mem (listL c) i hi)
  generalize nth (listL c) i = z at h
  exact wraps_i64 z (by omega) (by omega)

set_option maxRecDepth 100000 in
set_option maxHeartbeats 8000000 in
theorem law_TupleColumns (a : Option Addr) (cI : Int) (cap : Nat) (zs : List Int) (w : World) (ha : Ints .i64 w a zs) (hnw : IntKind.u16.wrap cI = cI) (hnil : a = none → zs = [] ∧ cap = 0) (hl : zs.length ≤ 17592186043904) :
    Calls Tryd.prog 6 #[.slice a zs.length cap, .int .u16 cI] w fun e w' => e = .returned (.bool true) ∧ Below w.heap.size w w' := by
  obtain ⟨c, hc, rfl⟩ : ∃ c : Nat, c < 65536 ∧ cI = (c : Int) := ⟨cI.toNat, by have := u16_range hnw; omega, by have := u16_range hnw; omega⟩
  obtain ⟨d, E, hd, hof⟩ := ofV_parts zs
  obtain ⟨n1, hn1⟩ : ∃ n, n = (listL c).length := ⟨_, rfl⟩
  obtain ⟨n2, hn2⟩ : ∃ n, n = (listL d).length := ⟨_, rfl⟩
  have hn1b : n1 ≤ 16 := by rw [hn1]; exact listL_len c
  have hn2b : n2 ≤ 16 := by rw [hn2]; exact listL_len d
  have hwf := Lib.hid ha.wf
  replace hn1 := Lib.hid hn1
  replace hn2 := Lib.hid hn2
  replace hof := Lib.hid hof
  replace hnil := Lib.hid hnil
  clear hnw
  go_enter Tryd.func6, Tryd.ntmps6
  go_wp2_with fail
  refine (lend_any a cap zs w ha hnil.out).mono ?_
  rintro e w1 ⟨g, cl, rfl, hcl, hcm, hlent, hb1⟩
  have hx1 := hlent.ints (by omega) hwf.out
  replace hcm := Lib.hid hcm
  clear hlent
  have hxf := Lib.hid hx1.front
  go_wp2_with (first
    | (go_at_call 23; refine (of_any (some ⟨g, 0, none⟩) cl zs w1 hxf.out).mono ?_; rintro e w' ⟨rfl, rfl⟩; rw [hof.out])
    | (go_at_call 24; refine (rOf a cap zs w1 (ha.below hb1)).mono ?_; rintro e w' ⟨rfl, rfl⟩; rw [hof.out]))
  refine (list_any c w1 hc).mono ?_
  rintro e w2 ⟨a1, c1, rfl, own1, hb12⟩
  rw [← hn1.out] at own1 ⊢
  go_wp2_with fail
  refine (list_any c w2 hc).mono ?_
  rintro e w3 ⟨a2, c2, rfl, own2, hb23⟩
  rw [← hn1.out] at own2 ⊢
  go_wp2_with fail
  refine (list_any d w3 hd).mono ?_
  rintro e w4 ⟨a3, c3, rfl, own3, hb34⟩
  rw [← hn2.out] at own3 ⊢
  have hb14 := hb12.trans ((hb23.trans (hb34.mono hb23.size)).mono hb12.size)
  have hx4 := hx1.below hb14
  have hb4 := hb1.trans (hb14.mono hb1.size)
  have hz12 := hb12.size
  have hz23 := hb23.size
  have hz34 := hb34.size
  have hz1 := hb1.size
  have o1 := Lib.hid (own_lt own1)
  have o2 := Lib.hid (own_lt own2)
  have o3 := Lib.hid (own_lt own3)
  have own14 := own_below own1 (hb23.trans (hb34.mono hb23.size))
  have own24 := own_below own2 hb34
  have i14 : Ints .i64 w4 a1 (listL c) := Ints.ofOwn own14 (by have := listL_len c; omega) (listL_wf c)
  have i24 : Ints .i64 w4 a2 (listL c) := Ints.ofOwn own24 (by have := listL_len c; omega) (listL_wf c)
  have i34 : Ints .i64 w4 a3 (listL d) := Ints.ofOwn own3 (by have := listL_len d; omega) (listL_wf d)
  clear hb12 hb23 hb34 own1 own2 hb14 hx1 hb1 hxf
  go_wp2_with (first
    | (go_at_call 17; refine (num_any _ _).mono ?_; rintro e w' ⟨rfl, rfl⟩))
  refine (kept_any g cl a cap zs zs w4 hx4 (ha.below hb4) rfl hcl).mono ?_
  rintro e w5 ⟨he, hd5⟩
  rw [eqB_self] at he
  subst he
  have hb45 : Below w4.heap.size w4 w5 := hd5.below _
  have hb5 := hb4.trans (hb45.mono hb4.size)
  have hz45 := hb45.size
  have own15 := own_below own14 hb45
  have own25 := own_below own24 hb45
  have own35 := own_below own3 hb45
  have i15 := i14.below hb45
  have i25 := i24.below hb45
  have i35 := i34.below hb45
  clear hd5 hb45 hb4 hx4 own14 own24 own3 i14 i24 i34
  go_wp2_with fail
  refine (rList c w5 hc).mono ?_
  rintro e w6 ⟨r1, k1, rfl, ownr, hb56⟩
  rw [← hn1.out] at ownr ⊢
  have ir : Ints .i64 w6 r1 (listL c) := Ints.ofOwn ownr (by have := listL_len c; omega) (listL_wf c)
  have hb6 := hb5.trans (hb56.mono hb5.size)
  have hz56 := hb56.size
  have own16 := own_below own15 hb56
  have own26 := own_below own25 hb56
  have own36 := own_below own35 hb56
  have i16 := i15.below hb56
  have i26 := i25.below hb56
  have i36 := i35.below hb56
  clear hb56 hb5 own15 own25 own35 i15 i25 i35 ownr
  go_wp2_with fail
  refine (Calls.len2 hn1.out.symm hn1.out.symm (kints a1 r1 c1 k1 (listL c) (listL c) w6 i16 ir)).mono ?_
  rintro e w7 ⟨he, hd7⟩
  rw [eqB_self] at he
  subst he
  have hb67 : Below w6.heap.size w6 w7 := hd7.below _
  have hb7 := hb6.trans (hb67.mono hb6.size)
  have hz67 := hb67.size
  have own17 := own_below own16 hb67
  have own27 := own_below own26 hb67
  have own37 := own_below own36 hb67
  have i17 := i16.below hb67
  have i27 := i26.below hb67
  have i37 := i36.below hb67
  clear hd7 hb67 hb6 own16 own26 own36 i16 i26 i36 ir
  go_wp2_with fail
  refine (Calls.len2 hn1.out.symm hn1.out.symm (kints a2 a1 c2 c1 (listL c) (listL c) w7 i27 i17)).mono ?_
  rintro e w8 ⟨he, hd8⟩
  rw [eqB_self] at he
  subst he
  have hb78 : Below w7.heap.size w7 w8 := hd8.below _
  have hb8 := hb7.trans (hb78.mono hb7.size)
  have hz78 := hb78.size
  have own18 := own_below own17 hb78
  have own28 := own_below own27 hb78
  have own38 := own_below own37 hb78
  have i38 := i37.below hb78
  clear hd8 hb78 hb7 own17 own27 own37 i17 i27 i37
  go_wp2_with fail
  refine (rList d w8 hd).mono ?_
  rintro e w9 ⟨r2, k2, rfl, ownr, hb89⟩
  rw [← hn2.out] at ownr ⊢
  have ir : Ints .i64 w9 r2 (listL d) := Ints.ofOwn ownr (by have := listL_len d; omega) (listL_wf d)
  have hb9 := hb8.trans (hb89.mono hb8.size)
  have hz89 := hb89.size
  have own19 := own_below own18 hb89
  have own29 := own_below own28 hb89
  have own39 := own_below own38 hb89
  have i39 := i38.below hb89
  clear hb89 hb8 own18 own28 own38 i38 ownr
  go_wp2_with fail
  refine (Calls.len2 hn2.out.symm hn2.out.symm (kints a3 r2 c3 k2 (listL d) (listL d) w9 i39 ir)).mono ?_
  rintro e w12 ⟨he, hd10⟩
  rw [eqB_self] at he
  subst he
  have hb910 : Below w9.heap.size w9 w12 := hd10.below _
  have hbx := Lib.hid (hb9.trans (hb910.mono hb9.size))
  have hz910 := hb910.size
  have own1x := own_below own19 hb910
  have own2x := own_below own29 hb910
  have own3x := own_below own39 hb910
  clear hd10 hb910 hb9 own19 own29 own39 i39 ir
  go_wp2_with fail
  have hbk : Hid (((w12.alloc (.cells #[.slice none 0 0, .slice none 0 0, .slice none 0 0] 32)).alloc (.cells #[.slice a1 n1 c1, .slice a2 n1 c2, .slice a3 n2 c3] 23)).heap[w12.heap.size]? = some (.cells #[.slice none 0 0, .slice none 0 0, .slice none 0 0] 32)) := heap_alloc2_old w12 _ _
  have hbn : Hid (((w12.alloc (.cells #[.slice none 0 0, .slice none 0 0, .slice none 0 0] 32)).alloc (.cells #[.slice a1 n1 c1, .slice a2 n1 c2, .slice a3 n2 c3] 23)).heap[w12.heap.size + 1]? = some (.cells #[.slice a1 n1 c1, .slice a2 n1 c2, .slice a3 n2 c3] 23)) := heap_alloc2_new w12 _ _
  have hbw : Below w.heap.size w ((w12.alloc (.cells #[.slice none 0 0, .slice none 0 0, .slice none 0 0] 32)).alloc (.cells #[.slice a1 n1 c1, .slice a2 n1 c2, .slice a3 n2 c3] 23)) := (hbx.out.al _).al _
  have hss : w12.heap.size < ((w12.alloc (.cells #[.slice none 0 0, .slice none 0 0, .slice none 0 0] 32)).alloc (.cells #[.slice a1 n1 c1, .slice a2 n1 c2, .slice a3 n2 c3] 23)).heap.size := by rw [World.size_alloc, World.size_alloc]; omega
  have w1own := own_lower (base' := w.heap.size) ((own1x.alloc (.cells #[.slice none 0 0, .slice none 0 0, .slice none 0 0] 32)).alloc (.cells #[.slice a1 n1 c1, .slice a2 n1 c2, .slice a3 n2 c3] 23)) (by omega)
  have w2own := own_lower (base' := w.heap.size) ((own2x.alloc (.cells #[.slice none 0 0, .slice none 0 0, .slice none 0 0] 32)).alloc (.cells #[.slice a1 n1 c1, .slice a2 n1 c2, .slice a3 n2 c3] 23)) (by omega)
  have w3own := own_lower (base' := w.heap.size) ((own3x.alloc (.cells #[.slice none 0 0, .slice none 0 0, .slice none 0 0] 32)).alloc (.cells #[.slice a1 n1 c1, .slice a2 n1 c2, .slice a3 n2 c3] 23)) (by omega)
  clear own1x own2x own3x
  generalize (w12.alloc (.cells #[.slice none 0 0, .slice none 0 0, .slice none 0 0] 32)).alloc (.cells #[.slice a1 n1 c1, .slice a2 n1 c2, .slice a3 n2 c3] 23) = U at hbk hbn hbw hss w1own w2own w3own ⊢
  refine (bk_Ints w12.heap.size (w12.heap.size + 1) 3 3 [.slice a1 n1 c1, .slice a2 n1 c2, .slice a3 n2 c3] U hbk.out rfl ?hvs (by intro u hu; simp at hu; rcases hu with rfl | rfl | rfl <;> rfl) (by decide) (by decide)).mono ?_
  case hvs =>
    intro j u hu
    rw [cell_of_row _ _ _ _ _ _ hbn.out]
    simpa using hu
  rintro e w14 hp
  obtain ⟨he, hk, G, cN, hin, hT, hL⟩ := bk3_in (x := ⟨a1, n1, c1, listL c⟩) (y := ⟨a2, n1, c2, listL c⟩) (z := ⟨a3, n2, c3, listL d⟩) (s1 := w2.heap.size) (s2 := w3.heap.size) (base := w.heap.size) (BB := w12.heap.size) w1own w2own w3own
    (fun b hb => (o1.out b hb).2) (fun b hb => o2.out b hb) (fun b hb => by have := o3.out b hb; omega) (by omega) (by omega) hss (by omega) ⟨by show n1 ≤ _; omega, by show n1 ≤ _; omega, by show n2 ≤ _; omega⟩ hp
  subst he
  have b14 := hk.below hbw (fun b hb => by subst hb; omega)
  have bk := Lib.hid (bkB_base hin)
  clear hk hp w1own w2own w3own hbk hbn hbw
  go_wp2_with fail
  refine (bk_Apart _ _ _ _ _ _ _ _ hin hT hL).mono ?_
  rintro e w15 ⟨rfl, hk2⟩
  have b15 := hk2.below b14 bk.out
  clear hk2 b14 hin hT hL
  go_wp2_with (go_at_call 14; refine (works_any _).mono ?_; rintro e w16 ⟨rfl, hb16⟩)
  go_ret
  exact ⟨rfl, b15.trans (hb16.mono b15.size)⟩

end Go.Proofs.YtgndogoaenlchaaDoor
