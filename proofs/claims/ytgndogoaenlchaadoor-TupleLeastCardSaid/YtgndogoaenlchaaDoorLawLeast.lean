/- TupleLeast: the law walked. -/
import Derived.Test.YtgndogoaenlchaaDoorProg
import Derived.Test.YtgndogoaenlchaaDoorBase
import Derived.Test.YtgndogoaenlchaaDoorKit
import Derived.Test.YtgndogoaenlchaaDoorKey
import Derived.Test.YtgndogoaenlchaaDoorLend
import Derived.Test.YtgndogoaenlchaaDoorOf
import Derived.Test.YtgndogoaenlchaaDoorLeast
import Derived.Test.YtgndogoaenlchaaDoorFam
import Derived.Test.YtgndogoaenlchaaDoorBook
import Derived.Test.YtgndogoaenlchaaDoorBookA
import Derived.Test.YtgndogoaenlchaaDoorBook3
import Derived.Test.YtgndogoaenlchaaDoorKeys
import Derived.Test.YtgndogoaenlchaaDoorWorks
import Derived.Test.YtgndogoaenlchaaDoorLawKeys
import Derived.Test.YtgndogoaenlchaaDoorLeastR
import Derived.Test.YtgndogoaenlchaaDoorLeastL
namespace Go.Proofs.YtgndogoaenlchaaDoor
open Go.RowKit

structure CL (W2 : World) (A : List Int) (a1 a2 a4 : Option Addr) (c1 c2 c4 b2 : Nat) (w : World) : Prop where
  bel : Below W2.heap.size W2 w
  o1 : w.ownsRow W2.heap.size 3 1 (.slice a1 A.length c1) A.length (A.map (Value.int .i64))
  o2 : w.ownsRow b2 3 1 (.slice a2 A.length c2) A.length (A.map (Value.int .i64))
  o4 : w.ownsRow W2.heap.size 3 1 (.slice a4 A.length c4) A.length (A.map (Value.int .i64))
  h1 : ∀ b, (Value.slice a1 A.length c1).ownBlock = some b → b < b2
  h2 : ∀ b, (Value.slice a2 A.length c2).ownBlock = some b → b < w.heap.size
  s2 : W2.heap.size ≤ b2
  s3 : b2 ≤ w.heap.size
theorem CL.below {W2 : World} {A : List Int} {a1 a2 a4 : Option Addr} {c1 c2 c4 b2 : Nat} {w w' : World} (h : CL W2 A a1 a2 a4 c1 c2 c4 b2 w) (hb : Below w.heap.size w w') : CL W2 A a1 a2 a4 c1 c2 c4 b2 w' :=
  ⟨h.bel.trans (hb.mono h.bel.size), own_below h.o1 hb, own_below h.o2 hb, own_below h.o4 hb, h.h1, fun b e => Nat.lt_of_lt_of_le (h.h2 b e) hb.size, h.s2, Nat.le_trans h.s3 hb.size⟩

set_option maxRecDepth 100000 in
set_option maxHeartbeats 16000000 in
theorem law_TupleLeast (a : Option Addr) (cap : Nat) (rs : List IRow) (w : World) (hr : IRows w a cap rs) (hrl : rs.length ≤ 5864062014804) (hzl : ∀ i, i < rs.length → (rth rs i).zs.length ≤ 17592186043904) :
    Calls Tryd.prog 3 #[.slice a rs.length cap] w fun e w' => e = .returned (.bool true) ∧ Below w.heap.size w w' := by
  obtain ⟨is, his, hy0, hy1, hy2⟩ := info_parts infoSl
  obtain ⟨hMl, hMw⟩ := leastO_ints hr
  obtain ⟨M, hM⟩ : ∃ M, leastO rs = M := ⟨_, rfl⟩
  obtain ⟨bb, hB⟩ : ∃ M, leastB rs = M := ⟨_, rfl⟩
  have hMl2 : M.length ≤ 17592186043904 := by
    rw [← hM]
    rcases leastO_mem rs with e | ⟨i, hi, e⟩
    · rw [e]; simp
    · rw [e]; exact hzl i hi
  rw [hM] at hMw
  replace hM := Lib.hid hM
  replace hB := Lib.hid hB
  replace hMw := Lib.hid hMw
  replace hzl := Lib.hid hzl
  clear hMl
  go_enter Tryd.func3, Tryd.ntmps3
  go_wp2
  go_loopw [3, 4] (fun o i wr => ∃ k : Nat, k ≤ rs.length ∧ i = .int .i64 k ∧ Hid (∃ gs, LdG w rs wr o k gs)) (fun _ i _ => rs.length - (intOf i).toNat)
  case atStart => exact ⟨0, Nat.zero_le _, rfl, [], rfl, fun k h => by omega, World.ownsRow_nil _ _ _ _, Below.refl _ _⟩
  case round =>
    obtain ⟨k, hk, rfl, hA⟩ := hrel
    by_cases hlt : k < rs.length
    · obtain ⟨gs, hG⟩ := hA.out
      have hbw := hG.2.2.2
      obtain ⟨b, off, rfl, hcell0⟩ := hr.at_ k hlt
      have hcell : wr.cell? ⟨b, off + k, none⟩ = some (.slice (rth rs k).a (rth rs k).zs.length (rth rs k).cap) := cell_below hbw rfl hcell0
      have hrow := (hr.row k hlt).below hbw
      have hnil := Lib.hid (hr.nil k hlt)
      have hz := hzl.out k hlt
      have hzw := Lib.hid hrow.wf
      replace hG := Lib.hid hG
      clear hA hbw hcell0
      go_wp2_with fail
      refine (lend_any _ _ _ wr hrow hnil.out).mono ?_
      rintro e w1 ⟨gl, cl, rfl, hcl, hcm, hlent, hb1⟩
      have hgl := own_lt (show w1.ownsRow wr.heap.size 3 1 _ _ _ from hlent) gl rfl
      have hx1 := Lib.hid (hlent.ints (by omega) hzw.out)
      have hh := Lib.hid hgl
      replace hb1 := Lib.hid hb1
      replace hcm := Lib.hid hcm
      clear hlent hcell hrow hgl
      have ho1 := Lib.hid (own_below hG.out.2.2.1 hb1.out)
      have hws := Lib.hid (Nat.le_trans hG.out.2.2.2.size hb1.out.size)
      go_wp2_with (first
        | (at_builtin; refine wpList_append_two _ rfl (.tmp 19) (.tmp 25) 22 rfl w.heap.size 23 is (.slice none 0 0) 1 24 Tryd.underlying22 his hy0 hy1 hy2 rfl (by decide) _ k _ rfl (ho1.out.alloc _) ⟨w1.heap.size, 0, none⟩ 1 1 [.slice (some ⟨gl, 0, none⟩) (rth rs k).zs.length cl] rfl rfl own_cells_one (by intro u hu; simp at hu; subst hu; rfl) (by decide) (by unfold maxLen; omega) (by omega) (by rw [World.size_alloc]; have := hws.out; omega) ?_))
      intro g c w2 hown hg
      have hA2 : Hid (∃ gs, LdG w rs w2 (.slice (some ⟨g, 0, none⟩) (k + 1) c) (k + 1) gs) := ⟨_, hG.out.next hb1.out hx1.out hh.out.1 hh.out.2 hcl hown hg⟩
      clear hown hg
      go_wp2
      go_roundw
      case rel => exact ⟨k + 1, by omega, by go_num, hA2⟩
      case measure => simp [intOf]; omega
    · have hkn : k = rs.length := by omega
      subst hkn
      obtain ⟨gs, hG⟩ := hA.out
      have ho := Lib.hid hG.2.2.1
      have hws := Lib.hid hG.2.2.2.size
      replace hG := Lib.hid hG
      clear hA
      go_wp2_with (first
        | (at_builtin; refine wpList_append_two _ rfl (.tmp 27) (.tmp 29) 22 rfl w.heap.size 23 is (.slice none 0 0) 1 24 Tryd.underlying22 his hy0 hy1 hy2 rfl (by decide) _ rs.length _ rfl ((ho.out.alloc _).alloc _) ⟨(wr.alloc (.cells #[.int .i64 (-9)] 3)).heap.size, 0, none⟩ 1 1 [.slice (some ⟨wr.heap.size, 0, none⟩) 1 1] (by first | rfl | (rw [World.size_alloc]; rfl)) rfl own_cells_one (by intro u hu; simp at hu; subst hu; rfl) (by decide) (by unfold maxLen; omega) (by omega) (by rw [World.size_alloc, World.size_alloc]; have := hws.out; omega) ?_))
      intro gx cx W2 hown hg
      have hF : LdFin w rs gs gx cx wr.heap.size W2 := by
        refine LdFin.mk2 (by rw [World.size_alloc, World.size_alloc]) hG.out (((Below.refl _ _).al _).al _) (Nat.le_refl _) ?_ hown hg
        exact cell_of_row _ _ _ _ _ _ (heap_alloc2_old wr _ _)
      obtain ⟨hI, hcm, hcx⟩ := hF.rows hrl
      have hMg : Hid (leastO gs = M) := (leastO_zs gs rs hF.zs).1.trans hM.out
      have hBg : Hid (leastB gs = bb) := (leastO_zs gs rs hF.zs).2.trans hB.out
      have hlast := hF.last
      have hcb := hF.cb
      have hbW := Lib.hid hF.bel
      have hWs := hF.bel.size
      have hlen := Lib.hid hF.len
      have hFrow := Lib.hid hF.row
      have hcx1 : rs.length ≤ cx := by omega
      replace hcm := Lib.hid hcm
      clear hown hg hG ho hws hF
      replace hlast := Lib.hid hlast
      replace hcb := Lib.hid hcb
      go_wp2_with fail
      refine (least_all gx 0 cx rs.length gs M bb W2 hI hlen.out hcm.out hMg.out hBg.out).mono ?_
      rintro e w3 ⟨a1, c1, rfl, own1, hb3⟩
      go_wp2_with fail
      refine (least_all gx 0 cx rs.length gs M bb w3 (hI.below hb3) hlen.out hcm.out hMg.out hBg.out).mono ?_
      rintro e w4 ⟨a2, c2, rfl, own2, hb34⟩
      have hb4 := hb3.trans (hb34.mono hb3.size)
      go_wp2_with fail
      refine (rleast_all a cap rs.length rs M bb w4 (hr.below (hbW.out.trans (hb4.mono hbW.out.size))) rfl hM.out hB.out).mono ?_
      rintro e w5 ⟨a4, c4, rfl, own4, hb45⟩
      have hC5 : CL W2 M a1 a2 a4 c1 c2 c4 w3.heap.size w5 := by
        have b35 := hb34.trans (hb45.mono hb34.size)
        have q1 := hb3.size
        have q2 := hb34.size
        have q3 := hb45.size
        refine ⟨hb4.trans (hb45.mono hb4.size), own_below own1 b35, own_below own2 hb45, own_lower own4 (by omega), fun b h => (own_lt own1 b h).2, fun b h => by have := (own_lt own2 b h).2; omega, by omega, by omega⟩
      clear own1 own2 own4 hb3 hb34 hb45 hb4
      have i1 : Ints .i64 w5 a1 M := Ints.ofOwn hC5.o1 (by omega) hMw.out
      have i4 : Ints .i64 w5 a4 M := Ints.ofOwn hC5.o4 (by omega) hMw.out
      go_wp2_with fail
      refine (kints a1 a4 c1 c4 M M w5 i1 i4).mono ?_
      rintro e w6 ⟨he, hd⟩
      rw [eqB_self] at he
      subst he
      have hC6 := hC5.below (hd.below _)
      clear hC5 hd i1 i4
      have i2 : Ints .i64 w6 a2 M := Ints.ofOwn hC6.o2 (by omega) hMw.out
      have i4 : Ints .i64 w6 a4 M := Ints.ofOwn hC6.o4 (by omega) hMw.out
      go_wp2_with fail
      refine (kints a2 a4 c2 c4 M M w6 i2 i4).mono ?_
      rintro e w12 ⟨he, hd⟩
      rw [eqB_self] at he
      subst he
      have hC := hC6.below (hd.below _)
      clear hC6 hd i2 i4
      have q1 : w12.cell? ⟨gx, rs.length, none⟩ = some (.slice (some ⟨wr.heap.size, 0, none⟩) 1 1) := cell_below hC.bel rfl hlast.out
      have q2 : w12.cell? ⟨wr.heap.size, 0, none⟩ = some (.int .i64 (-9)) := cell_below hC.bel rfl hcb.out
      have o1 := Lib.hid hC.h1
      have o2 : Hid (∀ b, (Value.slice a2 M.length c2).ownBlock = some b → w3.heap.size ≤ b ∧ b < w12.heap.size) := fun b h => ⟨(own_lt hC.o2 b h).1, hC.h2 b h⟩
      have hs2 := hC.s2
      have hs3 := hC.s3
      go_wp2_with fail
      have hbk : Hid (((w12.alloc (.cells #[.slice none 0 0, .slice none 0 0, .slice none 0 0] 32)).alloc (.cells #[.slice a1 M.length c1, .slice a2 M.length c2] 23)).heap[w12.heap.size]? = some (.cells #[.slice none 0 0, .slice none 0 0, .slice none 0 0] 32)) := heap_alloc2_old w12 _ _
      have hbn : Hid (((w12.alloc (.cells #[.slice none 0 0, .slice none 0 0, .slice none 0 0] 32)).alloc (.cells #[.slice a1 M.length c1, .slice a2 M.length c2] 23)).heap[w12.heap.size + 1]? = some (.cells #[.slice a1 M.length c1, .slice a2 M.length c2] 23)) := heap_alloc2_new w12 _ _
      have hbw : Below W2.heap.size W2 ((w12.alloc (.cells #[.slice none 0 0, .slice none 0 0, .slice none 0 0] 32)).alloc (.cells #[.slice a1 M.length c1, .slice a2 M.length c2] 23)) := (hC.bel.al _).al _
      have hss : w12.heap.size < ((w12.alloc (.cells #[.slice none 0 0, .slice none 0 0, .slice none 0 0] 32)).alloc (.cells #[.slice a1 M.length c1, .slice a2 M.length c2] 23)).heap.size := by rw [World.size_alloc, World.size_alloc]; omega
      have w1own := own_lower (base' := W2.heap.size) ((hC.o1.alloc (.cells #[.slice none 0 0, .slice none 0 0, .slice none 0 0] 32)).alloc (.cells #[.slice a1 M.length c1, .slice a2 M.length c2] 23)) (by omega)
      have w2own := own_lower (base' := W2.heap.size) ((hC.o2.alloc (.cells #[.slice none 0 0, .slice none 0 0, .slice none 0 0] 32)).alloc (.cells #[.slice a1 M.length c1, .slice a2 M.length c2] 23)) (by omega)
      generalize (w12.alloc (.cells #[.slice none 0 0, .slice none 0 0, .slice none 0 0] 32)).alloc (.cells #[.slice a1 M.length c1, .slice a2 M.length c2] 23) = U at hbk hbn hbw hss w1own w2own  ⊢
      refine (bk_Ints w12.heap.size (w12.heap.size + 1) 2 2 [.slice a1 M.length c1, .slice a2 M.length c2] U hbk.out rfl ?hvs (by intro u hu; simp at hu; rcases hu with rfl | rfl <;> rfl) (by decide) (by decide)).mono ?_
      case hvs =>
        intro j u hu
        rw [cell_of_row _ _ _ _ _ _ hbn.out]
        simpa using hu
      rintro e w24 hp
      obtain ⟨he, hk, G, cN, hin, hT, hL⟩ := bk2_in (x := ⟨a1, M.length, c1, M⟩) (y := ⟨a2, M.length, c2, M⟩) (s1 := w3.heap.size) (base := W2.heap.size) (BB := w12.heap.size) w1own w2own 
        (fun b hb => o1.out b hb) (fun b hb => o2.out b hb) (by omega) hss (by omega) ⟨by show M.length ≤ _; omega, by show M.length ≤ _; omega⟩ hp
      subst he
      have b14 := hk.below hbw (fun b hb => by subst hb; omega)
      have bk := Lib.hid (bkB_base hin)
      clear hk hp w1own w2own  hbk hbn hbw
      go_wp2_with fail
      refine (bk_Apart _ _ _ _ _ _ _ _ hin hT hL).mono ?_
      rintro e w25 ⟨rfl, hk2⟩
      have b15 := hk2.below b14 bk.out
      clear hk2 b14 hin hT hL
      replace b15 := Lib.hid b15
      go_wp2
      go_loopw [12] (fun i wr => ∃ k : Nat, k ≤ rs.length ∧ i = .int .i64 k ∧ Drawn w25 wr) (fun i _ => rs.length - (intOf i).toNat)
      case atStart => exact ⟨0, Nat.zero_le _, rfl, Drawn.refl _⟩
      case round =>
        obtain ⟨k, hk, rfl, hd⟩ := hrel
        have hbx : Below W2.heap.size W2 wr := b15.out.trans ((hd.below _).mono b15.out.size)
        have hbz : Below w.heap.size w wr := hbW.out.trans (hbx.mono hbW.out.size)
        replace hd := Lib.hid hd
        by_cases hlt : k < rs.length
        · obtain ⟨b, off, rfl, hcell0⟩ := hr.at_ k hlt
          have hcell : wr.cell? ⟨b, off + k, none⟩ = some (.slice (rth rs k).a (rth rs k).zs.length (rth rs k).cap) := cell_below hbz rfl hcell0
          obtain ⟨g, r1, r2, r3, r4, _⟩ := hFrow.out k hlt
          have hcellx : wr.cell? ⟨gx, k, none⟩ = some (.slice (some ⟨g, 0, none⟩) (rth rs k).zs.length (rth gs k).cap) := by
            obtain ⟨b', off', e, h⟩ := hI.at_ k (by rw [hlen.out]; exact hlt)
            injection e with e
            injection e with e1 e2 _
            subst e1 e2
            rw [Nat.zero_add] at h
            have h := cell_below hbx rfl h
            rw [h]; unfold IRow.v; rw [r1, r2]
          have hlx : k < rs.length + 1 := by omega
          have hzk := hzl.out k hlt
          have hkk : Hid (∀ n, Calls Tryd.prog 13 #[.slice (some ⟨g, 0, none⟩) (rth rs k).zs.length (rth gs k).cap, .slice (rth rs k).a (rth rs k).zs.length (rth rs k).cap] (wr.drewN n) fun e w' => e = .returned (.bool true) ∧ ∃ m, w' = (wr.drewN n).drewN m) := by
            intro n
            have b1 : Below wr.heap.size wr (wr.drewN n) := (Below.refl _ _).drewN n
            refine (kept_any g (rth gs k).cap (rth rs k).a (rth rs k).cap (rth rs k).zs (rth rs k).zs (wr.drewN n) ((r4.below hbx).below b1) (((hr.row k hlt).below hbz).below b1) rfl r3).mono ?_
            rintro e w' ⟨rfl, hd⟩
            exact ⟨by rw [eqB_self], hd⟩
          clear hcell0 hbx hbz r1 r2 r3 r4
          go_wp2
          go_quiet ((go_at_call 13; exact Calls.quiet_of (hkk.out _)))
          go_wp2
          go_roundw
          case rel => exact ⟨k + 1, by omega, by go_num, by (repeat (refine Drawn.step ?_ _)); exact hd.out⟩
          case measure => simp [intOf]; omega
        · replace hbz := Lib.hid hbz
          clear hbx
          go_wp2_with (go_at_call 14; refine (works_any _).mono ?_; rintro e w28 ⟨rfl, hb28⟩)
          go_ret
          exact ⟨rfl, hbz.out.trans (hb28.mono hbz.out.size)⟩

end Go.Proofs.YtgndogoaenlchaaDoor
