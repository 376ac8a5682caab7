/- TupleCuts: the law walked. -/
import Derived.Test.YtgndogoaenlchaaDoorProg
import Derived.Test.YtgndogoaenlchaaDoorBase
import Derived.Test.YtgndogoaenlchaaDoorKit
import Derived.Test.YtgndogoaenlchaaDoorKey
import Derived.Test.YtgndogoaenlchaaDoorLend
import Derived.Test.YtgndogoaenlchaaDoorOf
import Derived.Test.YtgndogoaenlchaaDoorFam
import Derived.Test.YtgndogoaenlchaaDoorBook
import Derived.Test.YtgndogoaenlchaaDoorBookA
import Derived.Test.YtgndogoaenlchaaDoorBook3
import Derived.Test.YtgndogoaenlchaaDoorKeys
import Derived.Test.YtgndogoaenlchaaDoorWorks
import Derived.Test.YtgndogoaenlchaaDoorCols
import Derived.Test.YtgndogoaenlchaaDoorLawKeys
import Derived.Test.YtgndogoaenlchaaDoorLawCols
import Derived.Test.YtgndogoaenlchaaDoorCuts
namespace Go.Proofs.YtgndogoaenlchaaDoor
open Go.RowKit

def CuP (A : List Int) (N : Int) (w : World) (e : Ending) (w' : World) : Prop :=
  ∃ a k, e = .returned (.tuple #[.slice a A.length k, .int .i64 N]) ∧ w'.ownsRow w.heap.size 3 1 (.slice a A.length k) A.length (A.map (Value.int .i64)) ∧ Below w.heap.size w w'
theorem CuPost.mk {zs A : List Int} {c : Nat} {N : Int} {w w' : World} {e : Ending} (h : CuPost zs c w e w') (hA : cutO zs c = A) (hN : cutN zs c = N) : CuP A N w e w' := by subst hA hN; exact h

structure CT (W2 : World) (A D : List Int) (a1 a2 a3 a4 a5 : Option Addr) (c1 c2 c3 c4 c5 b2 b3 : Nat) (w : World) : Prop where
  bel : Below W2.heap.size W2 w
  o1 : w.ownsRow W2.heap.size 3 1 (.slice a1 A.length c1) A.length (A.map (Value.int .i64))
  o2 : w.ownsRow b2 3 1 (.slice a2 A.length c2) A.length (A.map (Value.int .i64))
  o3 : w.ownsRow b3 3 1 (.slice a3 D.length c3) D.length (D.map (Value.int .i64))
  o4 : w.ownsRow W2.heap.size 3 1 (.slice a4 A.length c4) A.length (A.map (Value.int .i64))
  o5 : w.ownsRow W2.heap.size 3 1 (.slice a5 D.length c5) D.length (D.map (Value.int .i64))
  h1 : ∀ b, (Value.slice a1 A.length c1).ownBlock = some b → b < b2
  h2 : ∀ b, (Value.slice a2 A.length c2).ownBlock = some b → b < b3
  s2 : W2.heap.size ≤ b2
  s3 : b2 ≤ b3
  s4 : b3 ≤ w.heap.size
theorem CT.below {W2 : World} {A D : List Int} {a1 a2 a3 a4 a5 : Option Addr} {c1 c2 c3 c4 c5 b2 b3 : Nat} {w w' : World} (h : CT W2 A D a1 a2 a3 a4 a5 c1 c2 c3 c4 c5 b2 b3 w) (hb : Below w.heap.size w w') : CT W2 A D a1 a2 a3 a4 a5 c1 c2 c3 c4 c5 b2 b3 w' :=
  ⟨h.bel.trans (hb.mono h.bel.size), own_below h.o1 hb, own_below h.o2 hb, own_below h.o3 hb, own_below h.o4 hb, own_below h.o5 hb, h.h1, h.h2, h.s2, h.s3, Nat.le_trans h.s4 hb.size⟩

set_option maxRecDepth 100000 in
set_option maxHeartbeats 16000000 in
theorem law_TupleCuts (a b : Option Addr) (cI : Int) (cap capb : Nat) (zs ys : List Int) (w : World) (ha : Ints .i64 w a zs) (hb : Ints .i64 w b ys) (hnw : IntKind.u16.wrap cI = cI) (hnil : a = none → zs = [] ∧ cap = 0) (hnilb : b = none → ys = [] ∧ capb = 0) (hl : zs.length ≤ 17592186043904) (hly : ys.length ≤ 17592186043904) :
    Calls Tryd.prog 5 #[.slice a zs.length cap, .slice b ys.length capb, .int .u16 cI] w fun e w' => e = .returned (.bool true) ∧ Below w.heap.size w w' := by
  obtain ⟨c, hc, rfl⟩ : ∃ c : Nat, c < 65536 ∧ cI = (c : Int) := ⟨cI.toNat, by have := u16_range hnw; omega, by have := u16_range hnw; omega⟩
  have hag := agree_cuts zs ys c hc
  have hAl := cutO_len zs c
  have hDl := cutO_len ys c
  have hAw := cutO_wf zs c ha.wf
  have hDw := cutO_wf ys c hb.wf
  have hN1 : cutN zs c = 0 ∨ cutN zs c = 2 := by unfold cutN; split <;> simp
  have hN2 : cutN ys c = 0 ∨ cutN ys c = 2 := by unfold cutN; split <;> simp
  obtain ⟨A, hA⟩ : ∃ A, cutO zs c = A := ⟨_, rfl⟩
  obtain ⟨D, hD⟩ : ∃ A, cutO ys c = A := ⟨_, rfl⟩
  obtain ⟨N1, hE1⟩ : ∃ A, cutN zs c = A := ⟨_, rfl⟩
  obtain ⟨N2, hE2⟩ : ∃ A, cutN ys c = A := ⟨_, rfl⟩
  obtain ⟨G, hG⟩ : ∃ A, agL zs ys c = A := ⟨_, rfl⟩
  rw [hA] at hAl hAw hag
  rw [hD] at hDl hDw hag
  rw [hE1] at hN1 hag
  rw [hE2] at hN2 hag
  rw [hG] at hag
  have hwf := Lib.hid ha.wf
  have hwfb := Lib.hid hb.wf
  replace hA := Lib.hid hA
  replace hD := Lib.hid hD
  replace hE1 := Lib.hid hE1
  replace hE2 := Lib.hid hE2
  replace hG := Lib.hid hG
  replace hAw := Lib.hid hAw
  replace hDw := Lib.hid hDw
  replace hN1 := Lib.hid hN1
  replace hN2 := Lib.hid hN2
  replace hag := Lib.hid hag
  replace hnil := Lib.hid hnil
  replace hnilb := Lib.hid hnilb
  clear hnw
  go_enter Tryd.func5, Tryd.ntmps5
  go_wp2_with fail
  refine (lend_any a cap zs w ha hnil.out).mono ?_
  rintro e w1 ⟨g, cl, rfl, hcl, hcm, hlent, hb1⟩
  have hx1 := hlent.ints (by omega) hwf.out
  have hb1a := hb.below hb1
  have ha1 := ha.below hb1
  replace hcm := Lib.hid hcm
  clear hlent ha hb
  go_wp2_with fail
  refine (lend_any b capb ys w1 hb1a hnilb.out).mono ?_
  rintro e W2 ⟨gy, cy, rfl, hcy, hcmy, hlent, hb2⟩
  have hy := hlent.ints (by omega) hwfb.out
  have hx := hx1.below hb2
  have ht := ha1.below hb2
  have hu := hb1a.below hb2
  have hbW := Lib.hid (hb1.trans (hb2.mono hb1.size))
  have hzW := hbW.out.size
  replace hcmy := Lib.hid hcmy
  clear hlent ha1 hb1a hx1 hb1 hb2
  have hxf := hx.front
  have hyf := hy.front
  go_wp2_with fail
  refine (cut_all (some ⟨g, 0, none⟩) cl zs c W2 hxf hc).mono ?_
  intro e w3 hp
  obtain ⟨a1, c1, rfl, own1, hb3⟩ := hp.mk hA.out hE1.out
  clear hp
  go_wp2_with fail
  refine (cut_all (some ⟨g, 0, none⟩) cl zs c w3 (hxf.below hb3) hc).mono ?_
  intro e w4 hp
  obtain ⟨a2, c2, rfl, own2, hb34⟩ := hp.mk hA.out hE1.out
  have hb4 := hb3.trans (hb34.mono hb3.size)
  clear hp
  go_wp2_with fail
  refine (cut_all (some ⟨gy, 0, none⟩) cy ys c w4 (hyf.below hb4) hc).mono ?_
  intro e w5 hp
  obtain ⟨a3, c3, rfl, own3, hb45⟩ := hp.mk hD.out hE2.out
  have hb5 := hb4.trans (hb45.mono hb4.size)
  clear hp
  go_wp2_with fail
  refine (rCut a cap zs c w5 (ht.below hb5) hc).mono ?_
  intro e w6 hp
  obtain ⟨a4, c4, rfl, own4, hb56⟩ := hp.mk hA.out hE1.out
  have hb6 := hb5.trans (hb56.mono hb5.size)
  clear hp
  go_wp2_with fail
  refine (rCut b capb ys c w6 (hu.below hb6) hc).mono ?_
  intro e w7 hp
  obtain ⟨a5, c5, rfl, own5, hb67⟩ := hp.mk hD.out hE2.out
  have hb7 := hb6.trans (hb67.mono hb6.size)
  clear hp
  have hT7 : CT W2 A D a1 a2 a3 a4 a5 c1 c2 c3 c4 c5 w3.heap.size w4.heap.size w7 := by
    have b57 := hb56.trans (hb67.mono hb56.size)
    have b47 := hb45.trans (b57.mono hb45.size)
    have b37 := hb34.trans (b47.mono hb34.size)
    refine ⟨hb7, own_below own1 b37, own_below own2 b47, own_below own3 b57, own_lower (own_below own4 hb67) (by have := hb5.size; omega), own_lower own5 (by have := hb6.size; omega), fun b h => (own_lt own1 b h).2, fun b h => (own_lt own2 b h).2, hb3.size, hb34.size, b47.size⟩
  clear own1 own2 own3 own4 own5 hb3 hb34 hb45 hb56 hb67 hb4 hb5 hb6 hb7
  have i1 : Ints .i64 w7 a1 A := Ints.ofOwn hT7.o1 (by omega) hAw.out
  have i4 : Ints .i64 w7 a4 A := Ints.ofOwn hT7.o4 (by omega) hAw.out
  go_wp2_with (first
    | (go_at_call 17; refine (num_any _ _).mono ?_; rintro e w' ⟨rfl, rfl⟩))
  refine (kints a1 a4 c1 c4 A A w7 i1 i4).mono ?_
  rintro e w8 ⟨he, hd⟩
  rw [eqB_self] at he
  subst he
  have hT8 := hT7.below (hd.below _)
  clear hT7 hd i1 i4
  have i2 : Ints .i64 w8 a2 A := Ints.ofOwn hT8.o2 (by omega) hAw.out
  have i4 : Ints .i64 w8 a4 A := Ints.ofOwn hT8.o4 (by omega) hAw.out
  go_wp2_with fail
  refine (kints a2 a4 c2 c4 A A w8 i2 i4).mono ?_
  rintro e w9 ⟨he, hd⟩
  rw [eqB_self] at he
  subst he
  have hT9 := hT8.below (hd.below _)
  clear hT8 hd i2 i4
  have i3 : Ints .i64 w9 a3 D := Ints.ofOwn hT9.o3 (by omega) hDw.out
  have i5 : Ints .i64 w9 a5 D := Ints.ofOwn hT9.o5 (by omega) hDw.out
  go_wp2_with fail
  refine (kints a3 a5 c3 c5 D D w9 i3 i5).mono ?_
  rintro e w10 ⟨he, hd⟩
  rw [eqB_self] at he
  subst he
  have hT10 := hT9.below (hd.below _)
  clear hT9 hd i3 i5
  go_wp2_with fail
  refine (kept_any g cl a cap zs zs w10 (hx.below hT10.bel) (ht.below hT10.bel) rfl hcl).mono ?_
  rintro e w11 ⟨he, hd⟩
  rw [eqB_self] at he
  subst he
  have hT11 := hT10.below (hd.below _)
  clear hT10 hd
  go_wp2_with fail
  refine (kept_any gy cy b capb ys ys w11 (hy.below hT11.bel) (hu.below hT11.bel) rfl hcy).mono ?_
  rintro e w13 ⟨he, hd⟩
  rw [eqB_self] at he
  subst he
  have hT13 := hT11.below (hd.below _)
  clear hT11 hd
  go_wp2_with fail
  refine (agree_all (some ⟨g, 0, none⟩) (some ⟨gy, 0, none⟩) cl cy zs ys c w13 (hxf.below hT13.bel) (hyf.below hT13.bel) hc).mono ?_
  rintro e w14 ⟨he, hd⟩
  rw [hG.out] at he
  subst he
  have hT14 := hT13.below (hd.below _)
  clear hT13 hd
  go_wp2_with fail
  refine (rAgree a b cap capb zs ys c w14 (ht.below hT14.bel) (hu.below hT14.bel) hc).mono ?_
  rintro e w15 ⟨he, hd⟩
  rw [hG.out] at he
  subst he
  have hT15 := hT14.below hd
  clear hT14 hd
  -- THE BRANCHES
  go_wp2_with fail
  refine (agree_all (some ⟨g, 0, none⟩) (some ⟨gy, 0, none⟩) cl cy zs ys c w15 (hxf.below hT15.bel) (hyf.below hT15.bel) hc).mono ?_
  rintro e w16 ⟨he, hd⟩
  rw [hG.out] at he
  subst he
  have hT16 := hT15.below (hd.below _)
  clear hT15 hd
  have hcase : (N1 = 0 ∧ N2 = 0 ∧ G = true ∧ eqB A D = true) ∨ (N1 = 0 ∧ N2 = 0 ∧ G = false ∧ eqB A D = false) ∨ (N1 = 0 ∧ N2 = 2 ∧ G = false) ∨ (N1 = 2 ∧ G = false) := by
    rcases hN1.out with h1 | h1
    · rcases hN2.out with h2 | h2
      · cases hE : eqB A D with
        | true => left; refine ⟨h1, h2, ?_, rfl⟩; rw [hag.out, h1, h2, hE]; rfl
        | false => right; left; refine ⟨h1, h2, ?_, rfl⟩; rw [hag.out, h1, h2, hE]; rfl
      · right; right; left; refine ⟨h1, h2, ?_⟩; rw [hag.out, h1, h2]; rfl
    · right; right; right; refine ⟨h1, ?_⟩; rw [hag.out, h1]; rfl
  have i4 : Ints .i64 w16 a4 A := Ints.ofOwn hT16.o4 (by omega) hAw.out
  have i5 : Ints .i64 w16 a5 D := Ints.ofOwn hT16.o5 (by omega) hDw.out
  rcases hcase with ⟨rfl, rfl, rfl, hEq⟩ | ⟨rfl, rfl, rfl, hEq⟩ | ⟨rfl, rfl, rfl⟩ | ⟨rfl, rfl⟩
  · go_wp2_with fail
    refine (kints a4 a5 c4 c5 A D w16 i4 i5).mono ?_
    rintro e w12 ⟨he, hd⟩
    rw [hEq] at he
    subst he
    have hTX := hT16.below (hd.below _)
    clear hd hT16 i4 i5 hEq
    go_wp2_with fail
    have hT := hTX
    clear hTX
    have o1 := Lib.hid hT.h1
    have o2 := Lib.hid hT.h2
    have o3 := Lib.hid (own_lt hT.o3)
    have hs2 := hT.s2
    have hs3 := hT.s3
    have hs4 := hT.s4
    have hbk : Hid (((w12.alloc (.cells #[.slice none 0 0, .slice none 0 0, .slice none 0 0] 32)).alloc (.cells #[.slice a1 A.length c1, .slice a2 A.length c2, .slice a3 D.length c3] 23)).heap[w12.heap.size]? = some (.cells #[.slice none 0 0, .slice none 0 0, .slice none 0 0] 32)) := heap_alloc2_old w12 _ _
    have hbn : Hid (((w12.alloc (.cells #[.slice none 0 0, .slice none 0 0, .slice none 0 0] 32)).alloc (.cells #[.slice a1 A.length c1, .slice a2 A.length c2, .slice a3 D.length c3] 23)).heap[w12.heap.size + 1]? = some (.cells #[.slice a1 A.length c1, .slice a2 A.length c2, .slice a3 D.length c3] 23)) := heap_alloc2_new w12 _ _
    have hbw : Below W2.heap.size W2 ((w12.alloc (.cells #[.slice none 0 0, .slice none 0 0, .slice none 0 0] 32)).alloc (.cells #[.slice a1 A.length c1, .slice a2 A.length c2, .slice a3 D.length c3] 23)) := (hT.bel.al _).al _
    have hss : w12.heap.size < ((w12.alloc (.cells #[.slice none 0 0, .slice none 0 0, .slice none 0 0] 32)).alloc (.cells #[.slice a1 A.length c1, .slice a2 A.length c2, .slice a3 D.length c3] 23)).heap.size := by rw [World.size_alloc, World.size_alloc]; omega
    have w1own := own_lower (base' := W2.heap.size) ((hT.o1.alloc (.cells #[.slice none 0 0, .slice none 0 0, .slice none 0 0] 32)).alloc (.cells #[.slice a1 A.length c1, .slice a2 A.length c2, .slice a3 D.length c3] 23)) (by omega)
    have w2own := own_lower (base' := W2.heap.size) ((hT.o2.alloc (.cells #[.slice none 0 0, .slice none 0 0, .slice none 0 0] 32)).alloc (.cells #[.slice a1 A.length c1, .slice a2 A.length c2, .slice a3 D.length c3] 23)) (by omega)
    have w3own := own_lower (base' := W2.heap.size) ((hT.o3.alloc (.cells #[.slice none 0 0, .slice none 0 0, .slice none 0 0] 32)).alloc (.cells #[.slice a1 A.length c1, .slice a2 A.length c2, .slice a3 D.length c3] 23)) (by omega)
    generalize (w12.alloc (.cells #[.slice none 0 0, .slice none 0 0, .slice none 0 0] 32)).alloc (.cells #[.slice a1 A.length c1, .slice a2 A.length c2, .slice a3 D.length c3] 23) = U at hbk hbn hbw hss w1own w2own w3own ⊢
    refine (bk_Ints w12.heap.size (w12.heap.size + 1) 3 3 [.slice a1 A.length c1, .slice a2 A.length c2, .slice a3 D.length c3] U hbk.out rfl ?hvs (by intro u hu; simp at hu; rcases hu with rfl | rfl | rfl <;> rfl) (by decide) (by decide)).mono ?_
    case hvs =>
      intro j u hu
      rw [cell_of_row _ _ _ _ _ _ hbn.out]
      simpa using hu
    rintro e w24 hp
    obtain ⟨he, hk, G, cN, hin, hT, hL⟩ := bk3_in (x := ⟨a1, A.length, c1, A⟩) (y := ⟨a2, A.length, c2, A⟩) (z := ⟨a3, D.length, c3, D⟩) (s1 := w3.heap.size) (s2 := w4.heap.size) (base := W2.heap.size) (BB := w12.heap.size) w1own w2own w3own
      (fun b hb => o1.out b hb) (fun b hb => ⟨(own_lt hT.o2 b hb).1, o2.out b hb⟩) (fun b hb => o3.out b hb) (by omega) (by omega) hss (by omega) ⟨by show A.length ≤ _; omega, by show A.length ≤ _; omega, by show D.length ≤ _; omega⟩ hp
    subst he
    have b14 := hk.below hbw (fun b hb => by subst hb; omega)
    have bk := Lib.hid (bkB_base hin)
    clear hk hp w1own w2own w3own hbk hbn hbw
    go_wp2_with fail
    refine (bk_Apart _ _ _ _ _ _ _ _ hin hT hL).mono ?_
    rintro e w25 ⟨rfl, hk2⟩
    have b15 := hk2.below b14 bk.out
    clear hk2 b14 hin hT hL
    go_wp2_with fail
    refine (kept_any g cl a cap zs zs w25 (hx.below b15) (ht.below b15) rfl hcl).mono ?_
    rintro e w26 ⟨he, hd⟩
    rw [eqB_self] at he
    subst he
    have b26 := b15.trans ((hd.below _).mono b15.size)
    clear hd b15
    go_wp2_with fail
    refine (kept_any gy cy b capb ys ys w26 (hy.below b26) (hu.below b26) rfl hcy).mono ?_
    rintro e w27 ⟨he, hd⟩
    rw [eqB_self] at he
    subst he
    have b27 := b26.trans ((hd.below _).mono b26.size)
    clear hd b26
    go_wp2_with (go_at_call 14; refine (works_any _).mono ?_; rintro e w28 ⟨rfl, hb28⟩)
    go_ret
    exact ⟨rfl, hbW.out.trans ((b27.trans (hb28.mono b27.size)).mono hbW.out.size)⟩
  · go_wp2_with fail
    refine (kints a4 a5 c4 c5 A D w16 i4 i5).mono ?_
    rintro e w12 ⟨he, hd⟩
    rw [hEq] at he
    subst he
    have hTX := hT16.below (hd.below _)
    clear hd hT16 i4 i5 hEq
    go_wp2_with fail
    have hT := hTX
    clear hTX
    have o1 := Lib.hid hT.h1
    have o2 := Lib.hid hT.h2
    have o3 := Lib.hid (own_lt hT.o3)
    have hs2 := hT.s2
    have hs3 := hT.s3
    have hs4 := hT.s4
    have hbk : Hid (((w12.alloc (.cells #[.slice none 0 0, .slice none 0 0, .slice none 0 0] 32)).alloc (.cells #[.slice a1 A.length c1, .slice a2 A.length c2, .slice a3 D.length c3] 23)).heap[w12.heap.size]? = some (.cells #[.slice none 0 0, .slice none 0 0, .slice none 0 0] 32)) := heap_alloc2_old w12 _ _
    have hbn : Hid (((w12.alloc (.cells #[.slice none 0 0, .slice none 0 0, .slice none 0 0] 32)).alloc (.cells #[.slice a1 A.length c1, .slice a2 A.length c2, .slice a3 D.length c3] 23)).heap[w12.heap.size + 1]? = some (.cells #[.slice a1 A.length c1, .slice a2 A.length c2, .slice a3 D.length c3] 23)) := heap_alloc2_new w12 _ _
    have hbw : Below W2.heap.size W2 ((w12.alloc (.cells #[.slice none 0 0, .slice none 0 0, .slice none 0 0] 32)).alloc (.cells #[.slice a1 A.length c1, .slice a2 A.length c2, .slice a3 D.length c3] 23)) := (hT.bel.al _).al _
    have hss : w12.heap.size < ((w12.alloc (.cells #[.slice none 0 0, .slice none 0 0, .slice none 0 0] 32)).alloc (.cells #[.slice a1 A.length c1, .slice a2 A.length c2, .slice a3 D.length c3] 23)).heap.size := by rw [World.size_alloc, World.size_alloc]; omega
    have w1own := own_lower (base' := W2.heap.size) ((hT.o1.alloc (.cells #[.slice none 0 0, .slice none 0 0, .slice none 0 0] 32)).alloc (.cells #[.slice a1 A.length c1, .slice a2 A.length c2, .slice a3 D.length c3] 23)) (by omega)
    have w2own := own_lower (base' := W2.heap.size) ((hT.o2.alloc (.cells #[.slice none 0 0, .slice none 0 0, .slice none 0 0] 32)).alloc (.cells #[.slice a1 A.length c1, .slice a2 A.length c2, .slice a3 D.length c3] 23)) (by omega)
    have w3own := own_lower (base' := W2.heap.size) ((hT.o3.alloc (.cells #[.slice none 0 0, .slice none 0 0, .slice none 0 0] 32)).alloc (.cells #[.slice a1 A.length c1, .slice a2 A.length c2, .slice a3 D.length c3] 23)) (by omega)
    generalize (w12.alloc (.cells #[.slice none 0 0, .slice none 0 0, .slice none 0 0] 32)).alloc (.cells #[.slice a1 A.length c1, .slice a2 A.length c2, .slice a3 D.length c3] 23) = U at hbk hbn hbw hss w1own w2own w3own ⊢
    refine (bk_Ints w12.heap.size (w12.heap.size + 1) 3 3 [.slice a1 A.length c1, .slice a2 A.length c2, .slice a3 D.length c3] U hbk.out rfl ?hvs (by intro u hu; simp at hu; rcases hu with rfl | rfl | rfl <;> rfl) (by decide) (by decide)).mono ?_
    case hvs =>
      intro j u hu
      rw [cell_of_row _ _ _ _ _ _ hbn.out]
      simpa using hu
    rintro e w24 hp
    obtain ⟨he, hk, G, cN, hin, hT, hL⟩ := bk3_in (x := ⟨a1, A.length, c1, A⟩) (y := ⟨a2, A.length, c2, A⟩) (z := ⟨a3, D.length, c3, D⟩) (s1 := w3.heap.size) (s2 := w4.heap.size) (base := W2.heap.size) (BB := w12.heap.size) w1own w2own w3own
      (fun b hb => o1.out b hb) (fun b hb => ⟨(own_lt hT.o2 b hb).1, o2.out b hb⟩) (fun b hb => o3.out b hb) (by omega) (by omega) hss (by omega) ⟨by show A.length ≤ _; omega, by show A.length ≤ _; omega, by show D.length ≤ _; omega⟩ hp
    subst he
    have b14 := hk.below hbw (fun b hb => by subst hb; omega)
    have bk := Lib.hid (bkB_base hin)
    clear hk hp w1own w2own w3own hbk hbn hbw
    go_wp2_with fail
    refine (bk_Apart _ _ _ _ _ _ _ _ hin hT hL).mono ?_
    rintro e w25 ⟨rfl, hk2⟩
    have b15 := hk2.below b14 bk.out
    clear hk2 b14 hin hT hL
    go_wp2_with fail
    refine (kept_any g cl a cap zs zs w25 (hx.below b15) (ht.below b15) rfl hcl).mono ?_
    rintro e w26 ⟨he, hd⟩
    rw [eqB_self] at he
    subst he
    have b26 := b15.trans ((hd.below _).mono b15.size)
    clear hd b15
    go_wp2_with fail
    refine (kept_any gy cy b capb ys ys w26 (hy.below b26) (hu.below b26) rfl hcy).mono ?_
    rintro e w27 ⟨he, hd⟩
    rw [eqB_self] at he
    subst he
    have b27 := b26.trans ((hd.below _).mono b26.size)
    clear hd b26
    go_wp2_with (go_at_call 14; refine (works_any _).mono ?_; rintro e w28 ⟨rfl, hb28⟩)
    go_ret
    exact ⟨rfl, hbW.out.trans ((b27.trans (hb28.mono b27.size)).mono hbW.out.size)⟩
  · have hTX := hT16
    clear hT16 i4 i5
    obtain ⟨w12, hw12⟩ : ∃ x, x = w16 := ⟨_, rfl⟩
    subst hw12
    go_wp2_with fail
    have hT := hTX
    clear hTX
    have o1 := Lib.hid hT.h1
    have o2 := Lib.hid hT.h2
    have o3 := Lib.hid (own_lt hT.o3)
    have hs2 := hT.s2
    have hs3 := hT.s3
    have hs4 := hT.s4
    have hbk : Hid (((w12.alloc (.cells #[.slice none 0 0, .slice none 0 0, .slice none 0 0] 32)).alloc (.cells #[.slice a1 A.length c1, .slice a2 A.length c2, .slice a3 D.length c3] 23)).heap[w12.heap.size]? = some (.cells #[.slice none 0 0, .slice none 0 0, .slice none 0 0] 32)) := heap_alloc2_old w12 _ _
    have hbn : Hid (((w12.alloc (.cells #[.slice none 0 0, .slice none 0 0, .slice none 0 0] 32)).alloc (.cells #[.slice a1 A.length c1, .slice a2 A.length c2, .slice a3 D.length c3] 23)).heap[w12.heap.size + 1]? = some (.cells #[.slice a1 A.length c1, .slice a2 A.length c2, .slice a3 D.length c3] 23)) := heap_alloc2_new w12 _ _
    have hbw : Below W2.heap.size W2 ((w12.alloc (.cells #[.slice none 0 0, .slice none 0 0, .slice none 0 0] 32)).alloc (.cells #[.slice a1 A.length c1, .slice a2 A.length c2, .slice a3 D.length c3] 23)) := (hT.bel.al _).al _
    have hss : w12.heap.size < ((w12.alloc (.cells #[.slice none 0 0, .slice none 0 0, .slice none 0 0] 32)).alloc (.cells #[.slice a1 A.length c1, .slice a2 A.length c2, .slice a3 D.length c3] 23)).heap.size := by rw [World.size_alloc, World.size_alloc]; omega
    have w1own := own_lower (base' := W2.heap.size) ((hT.o1.alloc (.cells #[.slice none 0 0, .slice none 0 0, .slice none 0 0] 32)).alloc (.cells #[.slice a1 A.length c1, .slice a2 A.length c2, .slice a3 D.length c3] 23)) (by omega)
    have w2own := own_lower (base' := W2.heap.size) ((hT.o2.alloc (.cells #[.slice none 0 0, .slice none 0 0, .slice none 0 0] 32)).alloc (.cells #[.slice a1 A.length c1, .slice a2 A.length c2, .slice a3 D.length c3] 23)) (by omega)
    have w3own := own_lower (base' := W2.heap.size) ((hT.o3.alloc (.cells #[.slice none 0 0, .slice none 0 0, .slice none 0 0] 32)).alloc (.cells #[.slice a1 A.length c1, .slice a2 A.length c2, .slice a3 D.length c3] 23)) (by omega)
    generalize (w12.alloc (.cells #[.slice none 0 0, .slice none 0 0, .slice none 0 0] 32)).alloc (.cells #[.slice a1 A.length c1, .slice a2 A.length c2, .slice a3 D.length c3] 23) = U at hbk hbn hbw hss w1own w2own w3own ⊢
    refine (bk_Ints w12.heap.size (w12.heap.size + 1) 3 3 [.slice a1 A.length c1, .slice a2 A.length c2, .slice a3 D.length c3] U hbk.out rfl ?hvs (by intro u hu; simp at hu; rcases hu with rfl | rfl | rfl <;> rfl) (by decide) (by decide)).mono ?_
    case hvs =>
      intro j u hu
      rw [cell_of_row _ _ _ _ _ _ hbn.out]
      simpa using hu
    rintro e w24 hp
    obtain ⟨he, hk, G, cN, hin, hT, hL⟩ := bk3_in (x := ⟨a1, A.length, c1, A⟩) (y := ⟨a2, A.length, c2, A⟩) (z := ⟨a3, D.length, c3, D⟩) (s1 := w3.heap.size) (s2 := w4.heap.size) (base := W2.heap.size) (BB := w12.heap.size) w1own w2own w3own
      (fun b hb => o1.out b hb) (fun b hb => ⟨(own_lt hT.o2 b hb).1, o2.out b hb⟩) (fun b hb => o3.out b hb) (by omega) (by omega) hss (by omega) ⟨by show A.length ≤ _; omega, by show A.length ≤ _; omega, by show D.length ≤ _; omega⟩ hp
    subst he
    have b14 := hk.below hbw (fun b hb => by subst hb; omega)
    have bk := Lib.hid (bkB_base hin)
    clear hk hp w1own w2own w3own hbk hbn hbw
    go_wp2_with fail
    refine (bk_Apart _ _ _ _ _ _ _ _ hin hT hL).mono ?_
    rintro e w25 ⟨rfl, hk2⟩
    have b15 := hk2.below b14 bk.out
    clear hk2 b14 hin hT hL
    go_wp2_with fail
    refine (kept_any g cl a cap zs zs w25 (hx.below b15) (ht.below b15) rfl hcl).mono ?_
    rintro e w26 ⟨he, hd⟩
    rw [eqB_self] at he
    subst he
    have b26 := b15.trans ((hd.below _).mono b15.size)
    clear hd b15
    go_wp2_with fail
    refine (kept_any gy cy b capb ys ys w26 (hy.below b26) (hu.below b26) rfl hcy).mono ?_
    rintro e w27 ⟨he, hd⟩
    rw [eqB_self] at he
    subst he
    have b27 := b26.trans ((hd.below _).mono b26.size)
    clear hd b26
    go_wp2_with (go_at_call 14; refine (works_any _).mono ?_; rintro e w28 ⟨rfl, hb28⟩)
    go_ret
    exact ⟨rfl, hbW.out.trans ((b27.trans (hb28.mono b27.size)).mono hbW.out.size)⟩
  · have hTX := hT16
    clear hT16 i4 i5
    obtain ⟨w12, hw12⟩ : ∃ x, x = w16 := ⟨_, rfl⟩
    subst hw12
    go_wp2_with fail
    have hT := hTX
    clear hTX
    have o1 := Lib.hid hT.h1
    have o2 := Lib.hid hT.h2
    have o3 := Lib.hid (own_lt hT.o3)
    have hs2 := hT.s2
    have hs3 := hT.s3
    have hs4 := hT.s4
    have hbk : Hid (((w12.alloc (.cells #[.slice none 0 0, .slice none 0 0, .slice none 0 0] 32)).alloc (.cells #[.slice a1 A.length c1, .slice a2 A.length c2, .slice a3 D.length c3] 23)).heap[w12.heap.size]? = some (.cells #[.slice none 0 0, .slice none 0 0, .slice none 0 0] 32)) := heap_alloc2_old w12 _ _
    have hbn : Hid (((w12.alloc (.cells #[.slice none 0 0, .slice none 0 0, .slice none 0 0] 32)).alloc (.cells #[.slice a1 A.length c1, .slice a2 A.length c2, .slice a3 D.length c3] 23)).heap[w12.heap.size + 1]? = some (.cells #[.slice a1 A.length c1, .slice a2 A.length c2, .slice a3 D.length c3] 23)) := heap_alloc2_new w12 _ _
    have hbw : Below W2.heap.size W2 ((w12.alloc (.cells #[.slice none 0 0, .slice none 0 0, .slice none 0 0] 32)).alloc (.cells #[.slice a1 A.length c1, .slice a2 A.length c2, .slice a3 D.length c3] 23)) := (hT.bel.al _).al _
    have hss : w12.heap.size < ((w12.alloc (.cells #[.slice none 0 0, .slice none 0 0, .slice none 0 0] 32)).alloc (.cells #[.slice a1 A.length c1, .slice a2 A.length c2, .slice a3 D.length c3] 23)).heap.size := by rw [World.size_alloc, World.size_alloc]; omega
    have w1own := own_lower (base' := W2.heap.size) ((hT.o1.alloc (.cells #[.slice none 0 0, .slice none 0 0, .slice none 0 0] 32)).alloc (.cells #[.slice a1 A.length c1, .slice a2 A.length c2, .slice a3 D.length c3] 23)) (by omega)
    have w2own := own_lower (base' := W2.heap.size) ((hT.o2.alloc (.cells #[.slice none 0 0, .slice none 0 0, .slice none 0 0] 32)).alloc (.cells #[.slice a1 A.length c1, .slice a2 A.length c2, .slice a3 D.length c3] 23)) (by omega)
    have w3own := own_lower (base' := W2.heap.size) ((hT.o3.alloc (.cells #[.slice none 0 0, .slice none 0 0, .slice none 0 0] 32)).alloc (.cells #[.slice a1 A.length c1, .slice a2 A.length c2, .slice a3 D.length c3] 23)) (by omega)
    generalize (w12.alloc (.cells #[.slice none 0 0, .slice none 0 0, .slice none 0 0] 32)).alloc (.cells #[.slice a1 A.length c1, .slice a2 A.length c2, .slice a3 D.length c3] 23) = U at hbk hbn hbw hss w1own w2own w3own ⊢
    refine (bk_Ints w12.heap.size (w12.heap.size + 1) 3 3 [.slice a1 A.length c1, .slice a2 A.length c2, .slice a3 D.length c3] U hbk.out rfl ?hvs (by intro u hu; simp at hu; rcases hu with rfl | rfl | rfl <;> rfl) (by decide) (by decide)).mono ?_
    case hvs =>
      intro j u hu
      rw [cell_of_row _ _ _ _ _ _ hbn.out]
      simpa using hu
    rintro e w24 hp
    obtain ⟨he, hk, G, cN, hin, hT, hL⟩ := bk3_in (x := ⟨a1, A.length, c1, A⟩) (y := ⟨a2, A.length, c2, A⟩) (z := ⟨a3, D.length, c3, D⟩) (s1 := w3.heap.size) (s2 := w4.heap.size) (base := W2.heap.size) (BB := w12.heap.size) w1own w2own w3own
      (fun b hb => o1.out b hb) (fun b hb => ⟨(own_lt hT.o2 b hb).1, o2.out b hb⟩) (fun b hb => o3.out b hb) (by omega) (by omega) hss (by omega) ⟨by show A.length ≤ _; omega, by show A.length ≤ _; omega, by show D.length ≤ _; omega⟩ hp
    subst he
    have b14 := hk.below hbw (fun b hb => by subst hb; omega)
    have bk := Lib.hid (bkB_base hin)
    clear hk hp w1own w2own w3own hbk hbn hbw
    go_wp2_with fail
    refine (bk_Apart _ _ _ _ _ _ _ _ hin hT hL).mono ?_
    rintro e w25 ⟨rfl, hk2⟩
    have b15 := hk2.below b14 bk.out
    clear hk2 b14 hin hT hL
    go_wp2_with fail
    refine (kept_any g cl a cap zs zs w25 (hx.below b15) (ht.below b15) rfl hcl).mono ?_
    rintro e w26 ⟨he, hd⟩
    rw [eqB_self] at he
    subst he
    have b26 := b15.trans ((hd.below _).mono b15.size)
    clear hd b15
    go_wp2_with fail
    refine (kept_any gy cy b capb ys ys w26 (hy.below b26) (hu.below b26) rfl hcy).mono ?_
    rintro e w27 ⟨he, hd⟩
    rw [eqB_self] at he
    subst he
    have b27 := b26.trans ((hd.below _).mono b26.size)
    clear hd b26
    go_wp2_with (go_at_call 14; refine (works_any _).mono ?_; rintro e w28 ⟨rfl, hb28⟩)
    go_ret
    exact ⟨rfl, hbW.out.trans ((b27.trans (hb28.mono b27.size)).mono hbW.out.size)⟩

end Go.Proofs.YtgndogoaenlchaaDoor
