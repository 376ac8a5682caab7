/- TupleKinds: the law walked (gen_lawkinds.py). -/
import Derived.Test.YtgndogoaenlchaaProg
import Derived.Test.YtgndogoaenlchaaBase
import Derived.Test.YtgndogoaenlchaaKit
import Derived.Test.YtgndogoaenlchaaHash
import Derived.Test.YtgndogoaenlchaaCmp
import Derived.Test.YtgndogoaenlchaaKey
import Derived.Test.YtgndogoaenlchaaEqual
import Derived.Test.YtgndogoaenlchaaLend
import Derived.Test.YtgndogoaenlchaaFam
import Derived.Test.YtgndogoaenlchaaFamK
import Derived.Test.YtgndogoaenlchaaKindsL
import Derived.Deep.RegionLaw
import Derived.Deep.RegionHeld3
import Derived.Deep.DeepCutAuto
import Derived.Deep.QuietTactic
import Derived.BigQuiet
import Derived.Deep.DrawnRows
import Derived.Test.YtgndogoaenlchaaKinds
import Derived.Test.YtgndogoaenlchaaWorks
import Derived.Test.YtgndogoaenlchaaOwn1
namespace Go.Proofs.Ytgndogoaenlchaa
open Go.RowKit

theorem info_int8 : (Try.prog.info? 33).map (fun i => (i.zero, i.size, i.bytes)) = some (some (.int .i8 0), 1, 1) := by kernel_rfl
theorem info_uint16 : (Try.prog.info? 34).map (fun i => (i.zero, i.size, i.bytes)) = some (some (.int .u16 0), 1, 2) := by kernel_rfl
theorem info_mine : (Try.prog.info? 35).map (fun i => (i.zero, i.size, i.bytes)) = some (some (.int .i32 0), 1, 4) := by kernel_rfl
theorem info_uint32 : (Try.prog.info? 36).map (fun i => (i.zero, i.size, i.bytes)) = some (some (.int .u32 0), 1, 4) := by kernel_rfl

set_option maxRecDepth 100000 in
set_option maxHeartbeats 16000000 in
theorem law_TupleKinds (a b : Option Addr) (cap capb : Nat) (zs ys : List Int) (w : World) (ha : Ints .i64 w a zs) (hb : Ints .i64 w b ys) (hl : zs.length ≤ 17592186043904) (hly : ys.length ≤ 17592186043904) :
    Calls Try.prog 4 #[.slice a zs.length cap, .slice b ys.length capb] w fun e w' => e = .returned (.bool true) ∧ Below w.heap.size w w' := by
  obtain ⟨j0, ja0, jb0, jc0, jd0⟩ := info_parts info_int8
  obtain ⟨j1, ja1, jb1, jc1, jd1⟩ := info_parts info_uint16
  obtain ⟨j2, ja2, jb2, jc2, jd2⟩ := info_parts info_mine
  obtain ⟨j3, ja3, jb3, jc3, jd3⟩ := info_parts info_uint32
  obtain ⟨ji, jia, jib, jic, jid⟩ := info_parts infoInt
  go_enter Try.func4, Try.ntmps4
  go_wp2
  go_loopw [5, 7, 9, 11, 13] (fun s5 s7 s9 s11 i wr => ∃ (k : Nat) (V : Nat → Value), k ≤ zs.length ∧ i = .int .i64 k ∧ s5 = V 0 ∧ s7 = V 2 ∧ s9 = V 4 ∧ s11 = V 6 ∧ Hid (∀ i, i = 1 ∨ i = 3 ∨ i = 5 ∨ i = 7 ∨ 8 ≤ i → V i = .slice none 0 0) ∧ Hid (KS w V (XX zs ys k 0 0 0) wr)) (fun _ _ _ _ i _ => zs.length - (intOf i).toNat)
  case atStart => exact ⟨0, fun _ => .slice none 0 0, Nat.zero_le _, rfl, rfl, rfl, rfl, rfl, fun _ _ => rfl, KS.start w zs ys⟩
  case round =>
    obtain ⟨k, V, hk, rfl, rfl, rfl, rfl, rfl, hV, hS⟩ := hrel
    by_cases hlt : k < zs.length
    · obtain ⟨b, off, rfl, hcell0⟩ := ha.cells k hlt
      have hcell : wr.cell? ⟨b, off + k, none⟩ = some (.int .i64 (nth zs k)) := cell_below hS.out.bel rfl hcell0
      have ho0 : Hid (wr.ownsRow w.heap.size 33 1 (V 0) k ((wl .i8 zs k).map (Value.int .i8))) := hS.out.row 0 k (by decide) (wl_len _ _ _ (by omega))
      have hz0 := Lib.hid hS.out.bel.size
      go_wp2_with (at_builtin; refine wpList_append_lies _ rfl (.tmp 24) (.tmp 30) 29 rfl w.heap.size 33 j0 (.int .i8 0) 1 1 Try.underlying29 ja0 jb0 jc0 jd0 rfl (by decide) (V 0) k _ rfl (ho0.out.alloc _) ⟨wr.heap.size, 0, none⟩ 1 1 [.int .i8 (IntKind.i8.wrap (nth zs k))] rfl rfl own_cells_one (by intro u hu; simp at hu; subst hu; rfl) (by decide) (by unfold maxLen; omega) (by omega) (by rw [World.size_alloc]; have := hz0.out; omega) (wr.heap.size + 1) (by simp) ?_)
      intro g1 c1 w1 hown hgrow hat hlt1
      have hS1 := hS.out.app 0 (by decide) (wl_len _ _ _ (by omega)) hown hgrow hat
      have hcell1 : w1.cell? ⟨b, off + k, none⟩ = some (.int .i64 (nth zs k)) := cell_below hS1.bel rfl hcell0
      replace hS1 := Lib.hid hS1
      clear hown hgrow hat hlt1
      have ho1 : Hid (w1.ownsRow w.heap.size 34 1 (V 2) k ((wl .u16 zs k).map (Value.int .u16))) := hS1.out.row 2 k (by decide) (wl_len _ _ _ (by omega))
      have hz1 := Lib.hid hS1.out.bel.size
      go_wp2_with (at_builtin; refine wpList_append_lies _ rfl (.tmp 32) (.tmp 38) 30 rfl w.heap.size 34 j1 (.int .u16 0) 1 2 Try.underlying30 ja1 jb1 jc1 jd1 rfl (by decide) (V 2) k _ rfl (ho1.out.alloc _) ⟨w1.heap.size, 0, none⟩ 1 1 [.int .u16 (IntKind.u16.wrap (nth zs k))] rfl rfl own_cells_one (by intro u hu; simp at hu; subst hu; rfl) (by decide) (by unfold maxLen; omega) (by omega) (by rw [World.size_alloc]; have := hz1.out; omega) (w1.heap.size + 1) (by simp) ?_)
      intro g2 c2 w2 hown hgrow hat hlt2
      have hS2 := hS1.out.app 2 (by decide) (wl_len _ _ _ (by omega)) hown hgrow hat
      have hcell2 : w2.cell? ⟨b, off + k, none⟩ = some (.int .i64 (nth zs k)) := cell_below hS2.bel rfl hcell0
      replace hS2 := Lib.hid hS2
      clear hown hgrow hat hlt2
      have ho2 : Hid (w2.ownsRow w.heap.size 35 1 (V 4) k ((wl .i32 zs k).map (Value.int .i32))) := hS2.out.row 4 k (by decide) (wl_len _ _ _ (by omega))
      have hz2 := Lib.hid hS2.out.bel.size
      go_wp2_with (at_builtin; refine wpList_append_lies _ rfl (.tmp 40) (.tmp 46) 31 rfl w.heap.size 35 j2 (.int .i32 0) 1 4 Try.underlying31 ja2 jb2 jc2 jd2 rfl (by decide) (V 4) k _ rfl (ho2.out.alloc _) ⟨w2.heap.size, 0, none⟩ 1 1 [.int .i32 (wrap32 (nth zs k))] rfl rfl own_cells_one (by intro u hu; simp at hu; subst hu; rfl) (by decide) (by unfold maxLen; omega) (by omega) (by rw [World.size_alloc]; have := hz2.out; omega) (w2.heap.size + 1) (by simp) ?_)
      intro g3 c3 w3 hown hgrow hat hlt3
      have hS3 := hS2.out.app 4 (by decide) (wl_len _ _ _ (by omega)) hown hgrow hat
      have hcell3 : w3.cell? ⟨b, off + k, none⟩ = some (.int .i64 (nth zs k)) := cell_below hS3.bel rfl hcell0
      replace hS3 := Lib.hid hS3
      clear hown hgrow hat hlt3
      have ho3 : Hid (w3.ownsRow w.heap.size 36 1 (V 6) k ((wl .u32 zs k).map (Value.int .u32))) := hS3.out.row 6 k (by decide) (wl_len _ _ _ (by omega))
      have hz3 := Lib.hid hS3.out.bel.size
      go_wp2_with (at_builtin; refine wpList_append_lies _ rfl (.tmp 48) (.tmp 54) 32 rfl w.heap.size 36 j3 (.int .u32 0) 1 4 Try.underlying32 ja3 jb3 jc3 jd3 rfl (by decide) (V 6) k _ rfl (ho3.out.alloc _) ⟨w3.heap.size, 0, none⟩ 1 1 [.int .u32 (IntKind.u32.wrap (nth zs k))] rfl rfl own_cells_one (by intro u hu; simp at hu; subst hu; rfl) (by decide) (by unfold maxLen; omega) (by omega) (by rw [World.size_alloc]; have := hz3.out; omega) (w3.heap.size + 1) (by simp) ?_)
      intro g4 c4 w4 hown hgrow hat hlt4
      have hS4 := hS3.out.app 6 (by decide) (wl_len _ _ _ (by omega)) hown hgrow hat
      have hcell4 : w4.cell? ⟨b, off + k, none⟩ = some (.int .i64 (nth zs k)) := cell_below hS4.bel rfl hcell0
      replace hS4 := Lib.hid hS4
      clear hown hgrow hat hlt4
      have hS5 : Hid (KS w (upd (upd (upd (upd V 0 (.slice (some ⟨g1, 0, none⟩) (k + 1) c1)) 2 (.slice (some ⟨g2, 0, none⟩) (k + 1) c2)) 4 (.slice (some ⟨g3, 0, none⟩) (k + 1) c3)) 6 (.slice (some ⟨g4, 0, none⟩) (k + 1) c4)) (XX zs ys (k + 1) 0 0 0) w4) := by
        rw [← XX_a zs ys k 0 0 0, wl_succ .i8 zs k hlt, wl_succ .u16 zs k hlt, wl_succ .i32 zs k hlt, wl_succ .u32 zs k hlt, IntWalk.i32_left]
        exact hS4
      clear hS hS1 hS2 hS3 hS4 hcell hcell0 hcell1 hcell2 hcell3 hcell4
      go_wp2
      go_roundw
      case rel =>
        refine ⟨k + 1, _, by omega, by go_num, ?_, ?_, ?_, ?_, ?_, hS5⟩
        all_goals first | rfl | skip
        show ∀ i, _
        intro i hi
        rw [upd_other _ _ (by omega), upd_other _ _ (by omega), upd_other _ _ (by omega), upd_other _ _ (by omega)]
        exact hV.out i hi
      case measure => simp [intOf]; omega
    · obtain rfl : k = zs.length := by omega
      replace hS := hS.out
      go_wp2
      go_loopw [6, 8, 10, 12, 14] (fun s6 s8 s10 s12 i wr => ∃ (k : Nat) (V2 : Nat → Value), k ≤ ys.length ∧ i = .int .i64 k ∧ s6 = V2 1 ∧ s8 = V2 3 ∧ s10 = V2 5 ∧ s12 = V2 7 ∧ Hid (∀ i, i = 0 ∨ i = 2 ∨ i = 4 ∨ i = 6 → V2 i = V i) ∧ Hid (∀ i, 8 ≤ i → V2 i = .slice none 0 0) ∧ Hid (KS w V2 (XX zs ys zs.length k 0 0) wr)) (fun _ _ _ _ i _ => ys.length - (intOf i).toNat)
      case atStart =>
        refine ⟨0, V, Nat.zero_le _, rfl, ?_, ?_, ?_, ?_, fun _ _ => rfl, fun i hi => hV.out i (by omega), hS⟩
        all_goals (rw [hV.out _ (by omega)])
      case round =>
        obtain ⟨k, V2, hk, rfl, rfl, rfl, rfl, rfl, hV1, hV2, hS⟩ := hrel
        by_cases hlt : k < ys.length
        · obtain ⟨b, off, rfl, hcell0⟩ := hb.cells k hlt
          have hcell : wr.cell? ⟨b, off + k, none⟩ = some (.int .i64 (nth ys k)) := cell_below hS.out.bel rfl hcell0
          have ho0 : Hid (wr.ownsRow w.heap.size 33 1 (V2 1) k ((wl .i8 ys k).map (Value.int .i8))) := hS.out.row 1 k (by decide) (wl_len _ _ _ (by omega))
          have hz0 := Lib.hid hS.out.bel.size
          go_wp2_with (at_builtin; refine wpList_append_lies _ rfl (.tmp 62) (.tmp 68) 29 rfl w.heap.size 33 j0 (.int .i8 0) 1 1 Try.underlying29 ja0 jb0 jc0 jd0 rfl (by decide) (V2 1) k _ rfl (ho0.out.alloc _) ⟨wr.heap.size, 0, none⟩ 1 1 [.int .i8 (IntKind.i8.wrap (nth ys k))] rfl rfl own_cells_one (by intro u hu; simp at hu; subst hu; rfl) (by decide) (by unfold maxLen; omega) (by omega) (by rw [World.size_alloc]; have := hz0.out; omega) (wr.heap.size + 1) (by simp) ?_)
          intro g1 c1 w1 hown hgrow hat hlt1
          have hS1 := hS.out.app 1 (by decide) (wl_len _ _ _ (by omega)) hown hgrow hat
          have hcell1 : w1.cell? ⟨b, off + k, none⟩ = some (.int .i64 (nth ys k)) := cell_below hS1.bel rfl hcell0
          replace hS1 := Lib.hid hS1
          clear hown hgrow hat hlt1
          have ho1 : Hid (w1.ownsRow w.heap.size 34 1 (V2 3) k ((wl .u16 ys k).map (Value.int .u16))) := hS1.out.row 3 k (by decide) (wl_len _ _ _ (by omega))
          have hz1 := Lib.hid hS1.out.bel.size
          go_wp2_with (at_builtin; refine wpList_append_lies _ rfl (.tmp 70) (.tmp 76) 30 rfl w.heap.size 34 j1 (.int .u16 0) 1 2 Try.underlying30 ja1 jb1 jc1 jd1 rfl (by decide) (V2 3) k _ rfl (ho1.out.alloc _) ⟨w1.heap.size, 0, none⟩ 1 1 [.int .u16 (IntKind.u16.wrap (nth ys k))] rfl rfl own_cells_one (by intro u hu; simp at hu; subst hu; rfl) (by decide) (by unfold maxLen; omega) (by omega) (by rw [World.size_alloc]; have := hz1.out; omega) (w1.heap.size + 1) (by simp) ?_)
          intro g2 c2 w2 hown hgrow hat hlt2
          have hS2 := hS1.out.app 3 (by decide) (wl_len _ _ _ (by omega)) hown hgrow hat
          have hcell2 : w2.cell? ⟨b, off + k, none⟩ = some (.int .i64 (nth ys k)) := cell_below hS2.bel rfl hcell0
          replace hS2 := Lib.hid hS2
          clear hown hgrow hat hlt2
          have ho2 : Hid (w2.ownsRow w.heap.size 35 1 (V2 5) k ((wl .i32 ys k).map (Value.int .i32))) := hS2.out.row 5 k (by decide) (wl_len _ _ _ (by omega))
          have hz2 := Lib.hid hS2.out.bel.size
          go_wp2_with (at_builtin; refine wpList_append_lies _ rfl (.tmp 78) (.tmp 84) 31 rfl w.heap.size 35 j2 (.int .i32 0) 1 4 Try.underlying31 ja2 jb2 jc2 jd2 rfl (by decide) (V2 5) k _ rfl (ho2.out.alloc _) ⟨w2.heap.size, 0, none⟩ 1 1 [.int .i32 (wrap32 (nth ys k))] rfl rfl own_cells_one (by intro u hu; simp at hu; subst hu; rfl) (by decide) (by unfold maxLen; omega) (by omega) (by rw [World.size_alloc]; have := hz2.out; omega) (w2.heap.size + 1) (by simp) ?_)
          intro g3 c3 w3 hown hgrow hat hlt3
          have hS3 := hS2.out.app 5 (by decide) (wl_len _ _ _ (by omega)) hown hgrow hat
          have hcell3 : w3.cell? ⟨b, off + k, none⟩ = some (.int .i64 (nth ys k)) := cell_below hS3.bel rfl hcell0
          replace hS3 := Lib.hid hS3
          clear hown hgrow hat hlt3
          have ho3 : Hid (w3.ownsRow w.heap.size 36 1 (V2 7) k ((wl .u32 ys k).map (Value.int .u32))) := hS3.out.row 7 k (by decide) (wl_len _ _ _ (by omega))
          have hz3 := Lib.hid hS3.out.bel.size
          go_wp2_with (at_builtin; refine wpList_append_lies _ rfl (.tmp 86) (.tmp 92) 32 rfl w.heap.size 36 j3 (.int .u32 0) 1 4 Try.underlying32 ja3 jb3 jc3 jd3 rfl (by decide) (V2 7) k _ rfl (ho3.out.alloc _) ⟨w3.heap.size, 0, none⟩ 1 1 [.int .u32 (IntKind.u32.wrap (nth ys k))] rfl rfl own_cells_one (by intro u hu; simp at hu; subst hu; rfl) (by decide) (by unfold maxLen; omega) (by omega) (by rw [World.size_alloc]; have := hz3.out; omega) (w3.heap.size + 1) (by simp) ?_)
          intro g4 c4 w4 hown hgrow hat hlt4
          have hS4 := hS3.out.app 7 (by decide) (wl_len _ _ _ (by omega)) hown hgrow hat
          have hcell4 : w4.cell? ⟨b, off + k, none⟩ = some (.int .i64 (nth ys k)) := cell_below hS4.bel rfl hcell0
          replace hS4 := Lib.hid hS4
          clear hown hgrow hat hlt4
          have hS5 : Hid (KS w (upd (upd (upd (upd V2 1 (.slice (some ⟨g1, 0, none⟩) (k + 1) c1)) 3 (.slice (some ⟨g2, 0, none⟩) (k + 1) c2)) 5 (.slice (some ⟨g3, 0, none⟩) (k + 1) c3)) 7 (.slice (some ⟨g4, 0, none⟩) (k + 1) c4)) (XX zs ys zs.length (k + 1) 0 0) w4) := by
            rw [← XX_b zs ys zs.length k 0 0, wl_succ .i8 ys k hlt, wl_succ .u16 ys k hlt, wl_succ .i32 ys k hlt, wl_succ .u32 ys k hlt, IntWalk.i32_left]
            exact hS4
          clear hS hS1 hS2 hS3 hS4 hcell hcell0 hcell1 hcell2 hcell3 hcell4
          go_wp2
          go_roundw
          case rel =>
            refine ⟨k + 1, _, by omega, by go_num, ?_, ?_, ?_, ?_, ?_, ?_, hS5⟩
            all_goals first | rfl | skip
            · show ∀ i, _
              intro i hi
              rw [upd_other _ _ (by omega), upd_other _ _ (by omega), upd_other _ _ (by omega), upd_other _ _ (by omega)]
              exact hV1.out i hi
            · show ∀ i, _
              intro i hi
              rw [upd_other _ _ (by omega), upd_other _ _ (by omega), upd_other _ _ (by omega), upd_other _ _ (by omega)]
              exact hV2.out i hi
          case measure => simp [intOf]; omega
        · obtain rfl : k = ys.length := by omega
          rw [← hV1.out 0 (by omega), ← hV1.out 2 (by omega), ← hV1.out 4 (by omega), ← hV1.out 6 (by omega)]
          clear hV hV1
          obtain ⟨a0, c0, e0, _⟩ := own_slice1 (hS.out.row 0 zs.length (by decide) (wl_len _ _ _ (Nat.le_refl _)))
          obtain ⟨a1, c1, e1, _⟩ := own_slice1 (hS.out.row 1 ys.length (by decide) (wl_len _ _ _ (Nat.le_refl _)))
          obtain ⟨a2, c2, e2, _⟩ := own_slice1 (hS.out.row 2 zs.length (by decide) (wl_len _ _ _ (Nat.le_refl _)))
          obtain ⟨a3, c3, e3, _⟩ := own_slice1 (hS.out.row 3 ys.length (by decide) (wl_len _ _ _ (Nat.le_refl _)))
          obtain ⟨a4, c4, e4, _⟩ := own_slice1 (hS.out.row 4 zs.length (by decide) (wl_len _ _ _ (Nat.le_refl _)))
          obtain ⟨a5, c5, e5, _⟩ := own_slice1 (hS.out.row 5 ys.length (by decide) (wl_len _ _ _ (Nat.le_refl _)))
          obtain ⟨a6, c6, e6, _⟩ := own_slice1 (hS.out.row 6 zs.length (by decide) (wl_len _ _ _ (Nat.le_refl _)))
          obtain ⟨a7, c7, e7, _⟩ := own_slice1 (hS.out.row 7 ys.length (by decide) (wl_len _ _ _ (Nat.le_refl _)))
          rw [e0, e1, e2, e3, e4, e5, e6, e7]
          go_wp2
          have hL := Lib.hid (LK.start (t := 37) hS.out hV2.out)
          clear hS
          generalize hL4 : wr.alloc _ = W3 at hL ⊢
          clear hL4
          generalize wr.heap.size = L at hL ⊢
          go_loopw [16] (fun i wr => ∃ (k : Nat) (V3 : Nat → Value), k ≤ zs.length ∧ i = .int .i64 k ∧ Hid (∀ i, i < 8 → V3 i = V2 i) ∧ Hid (∀ i, 12 ≤ i → V3 i = .slice none 0 0) ∧ Hid (LK w V3 (XX zs ys zs.length ys.length k 0) L wr)) (fun i _ => zs.length - (intOf i).toNat)
          case atStart => exact ⟨0, V2, Nat.zero_le _, rfl, fun _ _ => rfl, fun i hi => hV2.out i (by omega), hL⟩
          case round =>
            obtain ⟨k, V3, hk, rfl, hV1, hV4, hS⟩ := hrel
            by_cases hlt : k < zs.length
            · have hB := Lib.hid hL.out.bel.size
              clear hL
              obtain ⟨b0, off0, z0, rfl, hc0, hw0, hz0⟩ := hS.out.get (k := k) 0 (by decide) rfl ((hV1.out 0 (by decide)).trans e0) (Nat.le_refl _) hl hlt
              have hl0 : wr.cell? ⟨L, 0, none⟩ = some (V3 8) := hS.out.cell 0 (by decide)
              have hf0 : wr.frozen? ⟨L, 0, none⟩ = false := hS.out.fr 0 (by decide)
              have ho0 := Lib.hid (hS.out.row 8 k (by decide) (wl_len _ _ _ (by omega)))
              have hap0 := Lib.hid (hS.out.ap 8 (by decide))
              have hgeq0 := Lib.hid hS.out.bel.size
              have hLt0 : L < wr.heap.size := hS.out.lt
              have hbt0 : b0 < wr.heap.size := cell_lt hc0
              have haq0 := Lib.hid (hS.out.apart 0 8 (by decide) (by decide) (by decide) ((hV1.out 0 (by decide)).trans e0))
              change wr.cell? _ = some (Value.int .i8 z0) at hc0
              go_upto_region 23 with fail
              go_cut [] (fun wx => ∃ V', (∀ i, i < 8 → V' i = V2 i) ∧ (∀ i, 8 < i → V' i = V3 i) ∧ LK w V' (upd (XX zs ys zs.length ys.length k 0) 8 (wl .i8 zs k ++ [z0])) L wx)
              case first =>
                go_wp2_with fail
                go_region_law ((refine step_append_lies _ (by rfl) _ _ _ (by rfl) w.heap.size 3 ji _ 1 8 Try.underlying22 jia jib jic jid rfl (by omega) (V3 8) k _ (by rfl) ((ho0.out.alloc _).drew) ⟨wr.heap.size, 0, none⟩ 1 1 [.int .i64 z0] (by rfl) (by rfl) (World.news_of_block (cs := #[.int .i64 z0]) (t := 3) (fr := (0, 0)) (heap_alloc_new wr _)) (by simp [Value.oneCell']) (by omega) (by unfold maxLen; omega) (by omega) (by simp; have := hgeq0.out; omega) (wr.heap.size + 1) (by simp) ?_; intro g0 cc0 w1 hown hgrow hat hlt0; have hx0 : w1.cell? ⟨L, 0, none⟩ = some (V3 8) := (hgrow.cell_far ⟨L, 0, none⟩ (by simp; omega) (Ne.symm hap0.out)).trans (al_cell _ hl0); have hy0 : w1.frozen? ⟨L, 0, none⟩ = false := (hgrow.frozen_far ⟨L, 0, none⟩ (by simp; omega) (Ne.symm hap0.out)).trans (al_fr _ hf0 hLt0)))
                all_goals (go_wp2_with fail; go_meet)
                all_goals exact LK.step (q := 0) hS.out (by decide) (wl_len _ _ _ (by omega)) hown hgrow hat hV1.out
              case rest =>
              obtain ⟨Vn1, hV1n1, hV4n1, hS1⟩ := hcut
              replace hV1n1 := Lib.hid hV1n1
              replace hV4n1 := Lib.hid hV4n1
              replace hS1 := Lib.hid hS1
              clear hl0 hf0 ho0 hap0 hgeq0 hLt0 hbt0 haq0 hc0
              obtain ⟨b1, off1, z1, rfl, hc1, hw1, hz1⟩ := hS1.out.get (k := k) 2 (by decide) rfl ((hV1n1.out 2 (by decide)).trans e2) (Nat.le_refl _) hl hlt
              have hl1 : wc.cell? ⟨L, 1, none⟩ = some (Vn1 9) := hS1.out.cell 1 (by decide)
              have hf1 : wc.frozen? ⟨L, 1, none⟩ = false := hS1.out.fr 1 (by decide)
              have ho1 := Lib.hid (hS1.out.row 9 k (by decide) (wl_len _ _ _ (by omega)))
              have hap1 := Lib.hid (hS1.out.ap 9 (by decide))
              have hgeq1 := Lib.hid hS1.out.bel.size
              have hLt1 : L < wc.heap.size := hS1.out.lt
              have hbt1 : b1 < wc.heap.size := cell_lt hc1
              have haq1 := Lib.hid (hS1.out.apart 2 9 (by decide) (by decide) (by decide) ((hV1n1.out 2 (by decide)).trans e2))
              change wc.cell? _ = some (Value.int .u16 z1) at hc1
              go_upto_region 24 with fail
              go_cut [] (fun wx => ∃ V', (∀ i, i < 8 → V' i = V2 i) ∧ (∀ i, 9 < i → V' i = Vn1 i) ∧ LK w V' (upd (upd (XX zs ys zs.length ys.length k 0) 8 (wl .i8 zs k ++ [z0])) 9 (wl .u16 zs k ++ [z1])) L wx)
              case first =>
                go_wp2_with fail
                go_region_law ((refine step_append_lies _ (by rfl) _ _ _ (by rfl) w.heap.size 3 ji _ 1 8 Try.underlying22 jia jib jic jid rfl (by omega) (Vn1 9) k _ (by rfl) ((ho1.out.alloc _).drew) ⟨wc.heap.size, 0, none⟩ 1 1 [.int .i64 z1] (by rfl) (by rfl) (World.news_of_block (cs := #[.int .i64 z1]) (t := 3) (fr := (0, 0)) (heap_alloc_new wc _)) (by simp [Value.oneCell']) (by omega) (by unfold maxLen; omega) (by omega) (by simp; have := hgeq1.out; omega) (wc.heap.size + 1) (by simp) ?_; intro g1 cc1 w1 hown hgrow hat hlt1; have hx1 : w1.cell? ⟨L, 1, none⟩ = some (Vn1 9) := (hgrow.cell_far ⟨L, 1, none⟩ (by simp; omega) (Ne.symm hap1.out)).trans (al_cell _ hl1); have hy1 : w1.frozen? ⟨L, 1, none⟩ = false := (hgrow.frozen_far ⟨L, 1, none⟩ (by simp; omega) (Ne.symm hap1.out)).trans (al_fr _ hf1 hLt1)))
                all_goals (go_wp2_with fail; go_meet)
                all_goals exact LK.step (q := 1) hS1.out (by decide) (wl_len _ _ _ (by omega)) hown hgrow hat hV1n1.out
              case rest =>
              obtain ⟨Vn2, hV1n2, hV4n2, hS2⟩ := hcut
              replace hV1n2 := Lib.hid hV1n2
              replace hV4n2 := Lib.hid hV4n2
              replace hS2 := Lib.hid hS2
              clear hl1 hf1 ho1 hap1 hgeq1 hLt1 hbt1 haq1 hc1
              obtain ⟨b2, off2, z2, rfl, hc2, hw2, hz2⟩ := hS2.out.get (k := k) 4 (by decide) rfl ((hV1n2.out 4 (by decide)).trans e4) (Nat.le_refl _) hl hlt
              have hl2 : wc.cell? ⟨L, 2, none⟩ = some (Vn2 10) := hS2.out.cell 2 (by decide)
              have hf2 : wc.frozen? ⟨L, 2, none⟩ = false := hS2.out.fr 2 (by decide)
              have ho2 := Lib.hid (hS2.out.row 10 k (by decide) (wl_len _ _ _ (by omega)))
              have hap2 := Lib.hid (hS2.out.ap 10 (by decide))
              have hgeq2 := Lib.hid hS2.out.bel.size
              have hLt2 : L < wc.heap.size := hS2.out.lt
              have hbt2 : b2 < wc.heap.size := cell_lt hc2
              have haq2 := Lib.hid (hS2.out.apart 4 10 (by decide) (by decide) (by decide) ((hV1n2.out 4 (by decide)).trans e4))
              change wc.cell? _ = some (Value.int .i32 z2) at hc2
              go_upto_region 25 with fail
              go_cut [] (fun wx => ∃ V', (∀ i, i < 8 → V' i = V2 i) ∧ (∀ i, 10 < i → V' i = Vn2 i) ∧ LK w V' (upd (upd (upd (XX zs ys zs.length ys.length k 0) 8 (wl .i8 zs k ++ [z0])) 9 (wl .u16 zs k ++ [z1])) 10 (wl .i32 zs k ++ [z2])) L wx)
              case first =>
                go_wp2_with fail
                go_region_law ((refine step_append_lies _ (by rfl) _ _ _ (by rfl) w.heap.size 3 ji _ 1 8 Try.underlying22 jia jib jic jid rfl (by omega) (Vn2 10) k _ (by rfl) ((ho2.out.alloc _).drew) ⟨wc.heap.size, 0, none⟩ 1 1 [.int .i64 z2] (by rfl) (by rfl) (World.news_of_block (cs := #[.int .i64 z2]) (t := 3) (fr := (0, 0)) (heap_alloc_new wc _)) (by simp [Value.oneCell']) (by omega) (by unfold maxLen; omega) (by omega) (by simp; have := hgeq2.out; omega) (wc.heap.size + 1) (by simp) ?_; intro g2 cc2 w1 hown hgrow hat hlt2; have hx2 : w1.cell? ⟨L, 2, none⟩ = some (Vn2 10) := (hgrow.cell_far ⟨L, 2, none⟩ (by simp; omega) (Ne.symm hap2.out)).trans (al_cell _ hl2); have hy2 : w1.frozen? ⟨L, 2, none⟩ = false := (hgrow.frozen_far ⟨L, 2, none⟩ (by simp; omega) (Ne.symm hap2.out)).trans (al_fr _ hf2 hLt2)))
                all_goals (go_wp2_with fail; go_meet)
                all_goals exact LK.step (q := 2) hS2.out (by decide) (wl_len _ _ _ (by omega)) hown hgrow hat hV1n2.out
              case rest =>
              obtain ⟨Vn3, hV1n3, hV4n3, hS3⟩ := hcut
              replace hV1n3 := Lib.hid hV1n3
              replace hV4n3 := Lib.hid hV4n3
              replace hS3 := Lib.hid hS3
              clear hl2 hf2 ho2 hap2 hgeq2 hLt2 hbt2 haq2 hc2
              obtain ⟨b3, off3, z3, rfl, hc3, hw3, hz3⟩ := hS3.out.get (k := k) 6 (by decide) rfl ((hV1n3.out 6 (by decide)).trans e6) (Nat.le_refl _) hl hlt
              have hl3 : wc.cell? ⟨L, 3, none⟩ = some (Vn3 11) := hS3.out.cell 3 (by decide)
              have hf3 : wc.frozen? ⟨L, 3, none⟩ = false := hS3.out.fr 3 (by decide)
              have ho3 := Lib.hid (hS3.out.row 11 k (by decide) (wl_len _ _ _ (by omega)))
              have hap3 := Lib.hid (hS3.out.ap 11 (by decide))
              have hgeq3 := Lib.hid hS3.out.bel.size
              have hLt3 : L < wc.heap.size := hS3.out.lt
              have hbt3 : b3 < wc.heap.size := cell_lt hc3
              have haq3 := Lib.hid (hS3.out.apart 6 11 (by decide) (by decide) (by decide) ((hV1n3.out 6 (by decide)).trans e6))
              change wc.cell? _ = some (Value.int .u32 z3) at hc3
              go_wp2_with fail
              go_region_law ((refine step_append_lies _ (by rfl) _ _ _ (by rfl) w.heap.size 3 ji _ 1 8 Try.underlying22 jia jib jic jid rfl (by omega) (Vn3 11) k _ (by rfl) ((ho3.out.alloc _).drew) ⟨wc.heap.size, 0, none⟩ 1 1 [.int .i64 z3] (by rfl) (by rfl) (World.news_of_block (cs := #[.int .i64 z3]) (t := 3) (fr := (0, 0)) (heap_alloc_new wc _)) (by simp [Value.oneCell']) (by omega) (by unfold maxLen; omega) (by omega) (by simp; have := hgeq3.out; omega) (wc.heap.size + 1) (by simp) ?_; intro g3 cc3 w1 hown hgrow hat hlt3; have hx3 : w1.cell? ⟨L, 3, none⟩ = some (Vn3 11) := (hgrow.cell_far ⟨L, 3, none⟩ (by simp; omega) (Ne.symm hap3.out)).trans (al_cell _ hl3); have hy3 : w1.frozen? ⟨L, 3, none⟩ = false := (hgrow.frozen_far ⟨L, 3, none⟩ (by simp; omega) (Ne.symm hap3.out)).trans (al_fr _ hf3 hLt3)))
              all_goals

                obtain ⟨Vn4, hV1n4, hV4n4, hS4⟩ := LK.step (q := 3) hS3.out (by decide) (wl_len _ _ _ (by omega)) hown hgrow hat hV1n3.out
                replace hV1n4 := Lib.hid hV1n4
                replace hV4n4 := Lib.hid hV4n4
                clear hgrow hat hown hl3 hf3 ho3 hap3 hgeq3 hLt3 hbt3 haq3 hc3 hx3 hy3 hlt3
                generalize hw2 : w1.setCell _ _ = w2 at hS4 ⊢
                clear hw2
                have hS5 : Hid (LK w Vn4 (XX zs ys zs.length ys.length (k + 1) 0) L w2) := by
                  obtain rfl := hz0.out
                  obtain rfl := hz1.out
                  obtain rfl := hz2.out
                  obtain rfl := hz3.out
                  rw [← XX_c zs ys zs.length ys.length k 0, wl_succ .i8 zs k hlt, wl_succ .u16 zs k hlt, wl_succ .i32 zs k hlt, wl_succ .u32 zs k hlt]
                  exact hS4
                clear hS hS1 hS2 hS3 hS4 hV1 hV1n1 hV1n2 hV1n3
                go_wp2
                go_roundw
                case rel =>
                  refine ⟨k + 1, Vn4, by omega, by go_num, hV1n4, ?_, hS5⟩
                  show ∀ i, _
                  intro i hi
                  rw [hV4n4.out i (by omega), hV4n3.out i (by omega), hV4n2.out i (by omega), hV4n1.out i (by omega)]
                  exact hV4.out i hi
                case measure => simp [intOf]; omega
            · obtain rfl : k = zs.length := by omega
              clear hL
              go_wp2
              go_loopw [17] (fun i wr => ∃ (k : Nat) (V4 : Nat → Value), k ≤ ys.length ∧ i = .int .i64 k ∧ Hid (∀ i, i < 8 → V4 i = V2 i) ∧ Hid (LK w V4 (XX zs ys zs.length ys.length zs.length k) L wr)) (fun i _ => ys.length - (intOf i).toNat)
              case atStart => exact ⟨0, V3, Nat.zero_le _, rfl, hV1, hS⟩
              case round =>
                clear hV1 hV4 hS
                obtain ⟨k, V4, hk, rfl, hV1, hS⟩ := hrel
                by_cases hlt : k < ys.length
                · skip
                  obtain ⟨b0, off0, z0, rfl, hc0, hw0, hz0⟩ := hS.out.get (k := k) 1 (by decide) rfl ((hV1.out 1 (by decide)).trans e1) (Nat.le_refl _) hly hlt
                  have hl0 : wr.cell? ⟨L, 4, none⟩ = some (V4 12) := hS.out.cell 4 (by decide)
                  have hf0 : wr.frozen? ⟨L, 4, none⟩ = false := hS.out.fr 4 (by decide)
                  have ho0 := Lib.hid (hS.out.row 12 k (by decide) (wl_len _ _ _ (by omega)))
                  have hap0 := Lib.hid (hS.out.ap 12 (by decide))
                  have hgeq0 := Lib.hid hS.out.bel.size
                  have hLt0 : L < wr.heap.size := hS.out.lt
                  have hbt0 : b0 < wr.heap.size := cell_lt hc0
                  have haq0 := Lib.hid (hS.out.apart 1 12 (by decide) (by decide) (by decide) ((hV1.out 1 (by decide)).trans e1))
                  change wr.cell? _ = some (Value.int .i8 z0) at hc0
                  go_upto_region 30 with fail
                  go_cut [] (fun wx => ∃ V', (∀ i, i < 8 → V' i = V2 i) ∧ (∀ i, 12 < i → V' i = V4 i) ∧ LK w V' (upd (XX zs ys zs.length ys.length zs.length k) 12 (wl .i8 ys k ++ [z0])) L wx)
                  case first =>
                    go_wp2_with fail
                    go_region_law ((refine step_append_lies _ (by rfl) _ _ _ (by rfl) w.heap.size 3 ji _ 1 8 Try.underlying22 jia jib jic jid rfl (by omega) (V4 12) k _ (by rfl) ((ho0.out.alloc _).drew) ⟨wr.heap.size, 0, none⟩ 1 1 [.int .i64 z0] (by rfl) (by rfl) (World.news_of_block (cs := #[.int .i64 z0]) (t := 3) (fr := (0, 0)) (heap_alloc_new wr _)) (by simp [Value.oneCell']) (by omega) (by unfold maxLen; omega) (by omega) (by simp; have := hgeq0.out; omega) (wr.heap.size + 1) (by simp) ?_; intro g0 cc0 w1 hown hgrow hat hlt0; have hx0 : w1.cell? ⟨L, 4, none⟩ = some (V4 12) := (hgrow.cell_far ⟨L, 4, none⟩ (by simp; omega) (Ne.symm hap0.out)).trans (al_cell _ hl0); have hy0 : w1.frozen? ⟨L, 4, none⟩ = false := (hgrow.frozen_far ⟨L, 4, none⟩ (by simp; omega) (Ne.symm hap0.out)).trans (al_fr _ hf0 hLt0)))
                    all_goals (go_wp2_with fail; go_meet)
                    all_goals exact LK.step (q := 4) hS.out (by decide) (wl_len _ _ _ (by omega)) hown hgrow hat hV1.out
                  case rest =>
                  obtain ⟨Vn1, hV1n1, hV4n1, hS1⟩ := hcut
                  replace hV1n1 := Lib.hid hV1n1
                  replace hV4n1 := Lib.hid hV4n1
                  replace hS1 := Lib.hid hS1
                  clear hl0 hf0 ho0 hap0 hgeq0 hLt0 hbt0 haq0 hc0
                  obtain ⟨b1, off1, z1, rfl, hc1, hw1, hz1⟩ := hS1.out.get (k := k) 3 (by decide) rfl ((hV1n1.out 3 (by decide)).trans e3) (Nat.le_refl _) hly hlt
                  have hl1 : wc.cell? ⟨L, 5, none⟩ = some (Vn1 13) := hS1.out.cell 5 (by decide)
                  have hf1 : wc.frozen? ⟨L, 5, none⟩ = false := hS1.out.fr 5 (by decide)
                  have ho1 := Lib.hid (hS1.out.row 13 k (by decide) (wl_len _ _ _ (by omega)))
                  have hap1 := Lib.hid (hS1.out.ap 13 (by decide))
                  have hgeq1 := Lib.hid hS1.out.bel.size
                  have hLt1 : L < wc.heap.size := hS1.out.lt
                  have hbt1 : b1 < wc.heap.size := cell_lt hc1
                  have haq1 := Lib.hid (hS1.out.apart 3 13 (by decide) (by decide) (by decide) ((hV1n1.out 3 (by decide)).trans e3))
                  change wc.cell? _ = some (Value.int .u16 z1) at hc1
                  go_upto_region 31 with fail
                  go_cut [] (fun wx => ∃ V', (∀ i, i < 8 → V' i = V2 i) ∧ (∀ i, 13 < i → V' i = Vn1 i) ∧ LK w V' (upd (upd (XX zs ys zs.length ys.length zs.length k) 12 (wl .i8 ys k ++ [z0])) 13 (wl .u16 ys k ++ [z1])) L wx)
                  case first =>
                    go_wp2_with fail
                    go_region_law ((refine step_append_lies _ (by rfl) _ _ _ (by rfl) w.heap.size 3 ji _ 1 8 Try.underlying22 jia jib jic jid rfl (by omega) (Vn1 13) k _ (by rfl) ((ho1.out.alloc _).drew) ⟨wc.heap.size, 0, none⟩ 1 1 [.int .i64 z1] (by rfl) (by rfl) (World.news_of_block (cs := #[.int .i64 z1]) (t := 3) (fr := (0, 0)) (heap_alloc_new wc _)) (by simp [Value.oneCell']) (by omega) (by unfold maxLen; omega) (by omega) (by simp; have := hgeq1.out; omega) (wc.heap.size + 1) (by simp) ?_; intro g1 cc1 w1 hown hgrow hat hlt1; have hx1 : w1.cell? ⟨L, 5, none⟩ = some (Vn1 13) := (hgrow.cell_far ⟨L, 5, none⟩ (by simp; omega) (Ne.symm hap1.out)).trans (al_cell _ hl1); have hy1 : w1.frozen? ⟨L, 5, none⟩ = false := (hgrow.frozen_far ⟨L, 5, none⟩ (by simp; omega) (Ne.symm hap1.out)).trans (al_fr _ hf1 hLt1)))
                    all_goals (go_wp2_with fail; go_meet)
                    all_goals exact LK.step (q := 5) hS1.out (by decide) (wl_len _ _ _ (by omega)) hown hgrow hat hV1n1.out
                  case rest =>
                  obtain ⟨Vn2, hV1n2, hV4n2, hS2⟩ := hcut
                  replace hV1n2 := Lib.hid hV1n2
                  replace hV4n2 := Lib.hid hV4n2
                  replace hS2 := Lib.hid hS2
                  clear hl1 hf1 ho1 hap1 hgeq1 hLt1 hbt1 haq1 hc1
                  obtain ⟨b2, off2, z2, rfl, hc2, hw2, hz2⟩ := hS2.out.get (k := k) 5 (by decide) rfl ((hV1n2.out 5 (by decide)).trans e5) (Nat.le_refl _) hly hlt
                  have hl2 : wc.cell? ⟨L, 6, none⟩ = some (Vn2 14) := hS2.out.cell 6 (by decide)
                  have hf2 : wc.frozen? ⟨L, 6, none⟩ = false := hS2.out.fr 6 (by decide)
                  have ho2 := Lib.hid (hS2.out.row 14 k (by decide) (wl_len _ _ _ (by omega)))
                  have hap2 := Lib.hid (hS2.out.ap 14 (by decide))
                  have hgeq2 := Lib.hid hS2.out.bel.size
                  have hLt2 : L < wc.heap.size := hS2.out.lt
                  have hbt2 : b2 < wc.heap.size := cell_lt hc2
                  have haq2 := Lib.hid (hS2.out.apart 5 14 (by decide) (by decide) (by decide) ((hV1n2.out 5 (by decide)).trans e5))
                  change wc.cell? _ = some (Value.int .i32 z2) at hc2
                  go_upto_region 32 with fail
                  go_cut [] (fun wx => ∃ V', (∀ i, i < 8 → V' i = V2 i) ∧ (∀ i, 14 < i → V' i = Vn2 i) ∧ LK w V' (upd (upd (upd (XX zs ys zs.length ys.length zs.length k) 12 (wl .i8 ys k ++ [z0])) 13 (wl .u16 ys k ++ [z1])) 14 (wl .i32 ys k ++ [z2])) L wx)
                  case first =>
                    go_wp2_with fail
                    go_region_law ((refine step_append_lies _ (by rfl) _ _ _ (by rfl) w.heap.size 3 ji _ 1 8 Try.underlying22 jia jib jic jid rfl (by omega) (Vn2 14) k _ (by rfl) ((ho2.out.alloc _).drew) ⟨wc.heap.size, 0, none⟩ 1 1 [.int .i64 z2] (by rfl) (by rfl) (World.news_of_block (cs := #[.int .i64 z2]) (t := 3) (fr := (0, 0)) (heap_alloc_new wc _)) (by simp [Value.oneCell']) (by omega) (by unfold maxLen; omega) (by omega) (by simp; have := hgeq2.out; omega) (wc.heap.size + 1) (by simp) ?_; intro g2 cc2 w1 hown hgrow hat hlt2; have hx2 : w1.cell? ⟨L, 6, none⟩ = some (Vn2 14) := (hgrow.cell_far ⟨L, 6, none⟩ (by simp; omega) (Ne.symm hap2.out)).trans (al_cell _ hl2); have hy2 : w1.frozen? ⟨L, 6, none⟩ = false := (hgrow.frozen_far ⟨L, 6, none⟩ (by simp; omega) (Ne.symm hap2.out)).trans (al_fr _ hf2 hLt2)))
                    all_goals (go_wp2_with fail; go_meet)
                    all_goals exact LK.step (q := 6) hS2.out (by decide) (wl_len _ _ _ (by omega)) hown hgrow hat hV1n2.out
                  case rest =>
                  obtain ⟨Vn3, hV1n3, hV4n3, hS3⟩ := hcut
                  replace hV1n3 := Lib.hid hV1n3
                  replace hV4n3 := Lib.hid hV4n3
                  replace hS3 := Lib.hid hS3
                  clear hl2 hf2 ho2 hap2 hgeq2 hLt2 hbt2 haq2 hc2
                  obtain ⟨b3, off3, z3, rfl, hc3, hw3, hz3⟩ := hS3.out.get (k := k) 7 (by decide) rfl ((hV1n3.out 7 (by decide)).trans e7) (Nat.le_refl _) hly hlt
                  have hl3 : wc.cell? ⟨L, 7, none⟩ = some (Vn3 15) := hS3.out.cell 7 (by decide)
                  have hf3 : wc.frozen? ⟨L, 7, none⟩ = false := hS3.out.fr 7 (by decide)
                  have ho3 := Lib.hid (hS3.out.row 15 k (by decide) (wl_len _ _ _ (by omega)))
                  have hap3 := Lib.hid (hS3.out.ap 15 (by decide))
                  have hgeq3 := Lib.hid hS3.out.bel.size
                  have hLt3 : L < wc.heap.size := hS3.out.lt
                  have hbt3 : b3 < wc.heap.size := cell_lt hc3
                  have haq3 := Lib.hid (hS3.out.apart 7 15 (by decide) (by decide) (by decide) ((hV1n3.out 7 (by decide)).trans e7))
                  change wc.cell? _ = some (Value.int .u32 z3) at hc3
                  go_wp2_with fail
                  go_region_law ((refine step_append_lies _ (by rfl) _ _ _ (by rfl) w.heap.size 3 ji _ 1 8 Try.underlying22 jia jib jic jid rfl (by omega) (Vn3 15) k _ (by rfl) ((ho3.out.alloc _).drew) ⟨wc.heap.size, 0, none⟩ 1 1 [.int .i64 z3] (by rfl) (by rfl) (World.news_of_block (cs := #[.int .i64 z3]) (t := 3) (fr := (0, 0)) (heap_alloc_new wc _)) (by simp [Value.oneCell']) (by omega) (by unfold maxLen; omega) (by omega) (by simp; have := hgeq3.out; omega) (wc.heap.size + 1) (by simp) ?_; intro g3 cc3 w1 hown hgrow hat hlt3; have hx3 : w1.cell? ⟨L, 7, none⟩ = some (Vn3 15) := (hgrow.cell_far ⟨L, 7, none⟩ (by simp; omega) (Ne.symm hap3.out)).trans (al_cell _ hl3); have hy3 : w1.frozen? ⟨L, 7, none⟩ = false := (hgrow.frozen_far ⟨L, 7, none⟩ (by simp; omega) (Ne.symm hap3.out)).trans (al_fr _ hf3 hLt3)))
                  all_goals

                    obtain ⟨Vn4, hV1n4, hV4n4, hS4⟩ := LK.step (q := 7) hS3.out (by decide) (wl_len _ _ _ (by omega)) hown hgrow hat hV1n3.out
                    replace hV1n4 := Lib.hid hV1n4
                    clear hV4n4 hgrow hat hown hl3 hf3 ho3 hap3 hgeq3 hLt3 hbt3 haq3 hc3 hx3 hy3 hlt3
                    generalize hw2 : w1.setCell _ _ = w2 at hS4 ⊢
                    clear hw2
                    have hS5 : Hid (LK w Vn4 (XX zs ys zs.length ys.length zs.length (k + 1)) L w2) := by
                      obtain rfl := hz0.out
                      obtain rfl := hz1.out
                      obtain rfl := hz2.out
                      obtain rfl := hz3.out
                      rw [← XX_d zs ys zs.length ys.length zs.length k, wl_succ .i8 ys k hlt, wl_succ .u16 ys k hlt, wl_succ .i32 ys k hlt, wl_succ .u32 ys k hlt]
                      exact hS4
                    clear hS hS1 hS2 hS3 hS4 hV1 hV1n1 hV1n2 hV1n3
                    go_wp2
                    go_roundw
                    case rel => exact ⟨k + 1, Vn4, by omega, by go_num, hV1n4, hS5⟩
                    case measure => simp [intOf]; omega
                · obtain rfl : k = ys.length := by omega
                  obtain ⟨A0, n0, I0, m0, l0, hv0, J0⟩ := hS.out.both 0 0 (by decide) (by decide) rfl rfl rfl ((hV1.out 0 (by decide)).trans e0) (Nat.le_refl _) hl
                  replace n0 := Lib.hid n0
                  replace I0 := Lib.hid I0
                  replace J0 := Lib.hid J0
                  obtain ⟨A1, n1, I1, m1, l1, hv1, J1⟩ := hS.out.both 2 1 (by decide) (by decide) rfl rfl rfl ((hV1.out 2 (by decide)).trans e2) (Nat.le_refl _) hl
                  replace n1 := Lib.hid n1
                  replace I1 := Lib.hid I1
                  replace J1 := Lib.hid J1
                  obtain ⟨A2, n2, I2, m2, l2, hv2, J2⟩ := hS.out.both 4 2 (by decide) (by decide) rfl rfl rfl ((hV1.out 4 (by decide)).trans e4) (Nat.le_refl _) hl
                  replace n2 := Lib.hid n2
                  replace I2 := Lib.hid I2
                  replace J2 := Lib.hid J2
                  obtain ⟨A3, n3, I3, m3, l3, hv3, J3⟩ := hS.out.both 6 3 (by decide) (by decide) rfl rfl rfl ((hV1.out 6 (by decide)).trans e6) (Nat.le_refl _) hl
                  replace n3 := Lib.hid n3
                  replace I3 := Lib.hid I3
                  replace J3 := Lib.hid J3
                  obtain ⟨A4, n4, I4, m4, l4, hv4, J4⟩ := hS.out.both 1 4 (by decide) (by decide) rfl rfl rfl ((hV1.out 1 (by decide)).trans e1) (Nat.le_refl _) hly
                  replace n4 := Lib.hid n4
                  replace I4 := Lib.hid I4
                  replace J4 := Lib.hid J4
                  obtain ⟨A5, n5, I5, m5, l5, hv5, J5⟩ := hS.out.both 3 5 (by decide) (by decide) rfl rfl rfl ((hV1.out 3 (by decide)).trans e3) (Nat.le_refl _) hly
                  replace n5 := Lib.hid n5
                  replace I5 := Lib.hid I5
                  replace J5 := Lib.hid J5
                  obtain ⟨A6, n6, I6, m6, l6, hv6, J6⟩ := hS.out.both 5 6 (by decide) (by decide) rfl rfl rfl ((hV1.out 5 (by decide)).trans e5) (Nat.le_refl _) hly
                  replace n6 := Lib.hid n6
                  replace I6 := Lib.hid I6
                  replace J6 := Lib.hid J6
                  obtain ⟨A7, n7, I7, m7, l7, hv7, J7⟩ := hS.out.both 7 7 (by decide) (by decide) rfl rfl rfl ((hV1.out 7 (by decide)).trans e7) (Nat.le_refl _) hly
                  replace n7 := Lib.hid n7
                  replace I7 := Lib.hid I7
                  replace J7 := Lib.hid J7
                  have hbl := Lib.hid hS.out.bel
                  clear hS hV1 hV2 e0 e1 e2 e3 e4 e5 e6 e7
                  obtain ⟨C0, hC0⟩ : ∃ C, Hid (cmpL A0 A4 = C) := ⟨_, rfl⟩
                  have hCn0 := bne_no C0
                  have q0 : Hid (∀ n, Calls Try.prog 14 #[.slice a0 zs.length c0, .slice a1 ys.length c1] (wr.drewN n) fun e w' => e = .returned (.int .i64 C0) ∧ ∃ m, w' = wr.drewN m) := fun _ => qsameI hC0 (Calls.len2 n0.out n4.out (cmp_int8 _ _ _ _ _ _ _ (I0.out.below (below_drewN (Below.refl _ _) _)) (I4.out.below (below_drewN (Below.refl _ _) _))))
                  have p0 : Hid (∀ n, Calls Try.prog 8 #[.slice m0 zs.length l0, .slice m4 ys.length l4] (wr.drewN n) fun e w' => e = .returned (.int .i64 C0) ∧ ∃ m, w' = wr.drewN m) := fun _ => qdrI hC0 (Calls.len2 n0.out n4.out (rcmp _ _ _ _ _ _ _ (J0.out.below (below_drewN (Below.refl _ _) _)) (J4.out.below (below_drewN (Below.refl _ _) _))))
                  clear hC0
                  obtain ⟨C1, hC1⟩ : ∃ C, Hid (cmpL A1 A5 = C) := ⟨_, rfl⟩
                  have hCn1 := bne_no C1
                  have q1 : Hid (∀ n, Calls Try.prog 15 #[.slice a2 zs.length c2, .slice a3 ys.length c3] (wr.drewN n) fun e w' => e = .returned (.int .i64 C1) ∧ ∃ m, w' = wr.drewN m) := fun _ => qsameI hC1 (Calls.len2 n1.out n5.out (cmp_uint16 _ _ _ _ _ _ _ (I1.out.below (below_drewN (Below.refl _ _) _)) (I5.out.below (below_drewN (Below.refl _ _) _))))
                  have p1 : Hid (∀ n, Calls Try.prog 8 #[.slice m1 zs.length l1, .slice m5 ys.length l5] (wr.drewN n) fun e w' => e = .returned (.int .i64 C1) ∧ ∃ m, w' = wr.drewN m) := fun _ => qdrI hC1 (Calls.len2 n1.out n5.out (rcmp _ _ _ _ _ _ _ (J1.out.below (below_drewN (Below.refl _ _) _)) (J5.out.below (below_drewN (Below.refl _ _) _))))
                  clear hC1
                  obtain ⟨C2, hC2⟩ : ∃ C, Hid (cmpL A2 A6 = C) := ⟨_, rfl⟩
                  have hCn2 := bne_no C2
                  have q2 : Hid (∀ n, Calls Try.prog 16 #[.slice a4 zs.length c4, .slice a5 ys.length c5] (wr.drewN n) fun e w' => e = .returned (.int .i64 C2) ∧ ∃ m, w' = wr.drewN m) := fun _ => qsameI hC2 (Calls.len2 n2.out n6.out (cmp_mine _ _ _ _ _ _ _ (I2.out.below (below_drewN (Below.refl _ _) _)) (I6.out.below (below_drewN (Below.refl _ _) _))))
                  have p2 : Hid (∀ n, Calls Try.prog 8 #[.slice m2 zs.length l2, .slice m6 ys.length l6] (wr.drewN n) fun e w' => e = .returned (.int .i64 C2) ∧ ∃ m, w' = wr.drewN m) := fun _ => qdrI hC2 (Calls.len2 n2.out n6.out (rcmp _ _ _ _ _ _ _ (J2.out.below (below_drewN (Below.refl _ _) _)) (J6.out.below (below_drewN (Below.refl _ _) _))))
                  clear hC2
                  obtain ⟨C3, hC3⟩ : ∃ C, Hid (cmpL A3 A7 = C) := ⟨_, rfl⟩
                  have hCn3 := bne_no C3
                  have q3 : Hid (∀ n, Calls Try.prog 17 #[.slice a6 zs.length c6, .slice a7 ys.length c7] (wr.drewN n) fun e w' => e = .returned (.int .i64 C3) ∧ ∃ m, w' = wr.drewN m) := fun _ => qsameI hC3 (Calls.len2 n3.out n7.out (cmp_uint32 _ _ _ _ _ _ _ (I3.out.below (below_drewN (Below.refl _ _) _)) (I7.out.below (below_drewN (Below.refl _ _) _))))
                  have p3 : Hid (∀ n, Calls Try.prog 8 #[.slice m3 zs.length l3, .slice m7 ys.length l7] (wr.drewN n) fun e w' => e = .returned (.int .i64 C3) ∧ ∃ m, w' = wr.drewN m) := fun _ => qdrI hC3 (Calls.len2 n3.out n7.out (rcmp _ _ _ _ _ _ _ (J3.out.below (below_drewN (Below.refl _ _) _)) (J7.out.below (below_drewN (Below.refl _ _) _))))
                  clear hC3
                  go_wp2_with fail
                  go_quiet ((first
                    | (go_at_call 14; with_reducible exact q0.out _)
                    | (go_at_call 8; with_reducible exact p0.out _)
                    | (go_at_call 15; with_reducible exact q1.out _)
                    | (go_at_call 8; with_reducible exact p1.out _)
                    | (go_at_call 16; with_reducible exact q2.out _)
                    | (go_at_call 8; with_reducible exact p2.out _)
                    | (go_at_call 17; with_reducible exact q3.out _)
                    | (go_at_call 8; with_reducible exact p3.out _)))
                  clear hCn0 hCn1 hCn2 hCn3 q0 q1 q2 q3 p0 p1 p2 p3
                  have hbd : Below wr.heap.size wr (wr.drewN nq) := below_drewN (Below.refl _ _) _
                  generalize wr.drewN nq = W1 at hbd ⊢
                  obtain ⟨E0, hE0⟩ : ∃ C, Hid (eqB A0 A4 = C) := ⟨_, rfl⟩
                  have hEn0 := bne_noB E0
                  have q0 : Hid (∀ v, Below wr.heap.size wr v → Calls Try.prog 18 #[.slice a0 zs.length c0, .slice a1 ys.length c1] v fun e w' => e = .returned (.bool E0) ∧ Below wr.heap.size wr w') := fun v hv => eB hE0 hv (Calls.len2 n0.out n4.out (equal_int8 _ _ _ _ _ _ _ (I0.out.below hv) (I4.out.below hv)))
                  have p0 : Hid (∀ v, Below wr.heap.size wr v → Calls Try.prog 19 #[.slice m0 zs.length l0, .slice m4 ys.length l4] v fun e w' => e = .returned (.bool E0) ∧ Below wr.heap.size wr w') := fun v hv => eD hE0 hv (Calls.len2 n0.out n4.out (kints _ _ _ _ _ _ _ (J0.out.below hv) (J4.out.below hv)))
                  clear hE0
                  obtain ⟨E2, hE2⟩ : ∃ C, Hid (eqB A2 A6 = C) := ⟨_, rfl⟩
                  have hEn2 := bne_noB E2
                  have q2 : Hid (∀ v, Below wr.heap.size wr v → Calls Try.prog 20 #[.slice a4 zs.length c4, .slice a5 ys.length c5] v fun e w' => e = .returned (.bool E2) ∧ Below wr.heap.size wr w') := fun v hv => eB hE2 hv (Calls.len2 n2.out n6.out (equal_mine _ _ _ _ _ _ _ (I2.out.below hv) (I6.out.below hv)))
                  have p2 : Hid (∀ v, Below wr.heap.size wr v → Calls Try.prog 19 #[.slice m2 zs.length l2, .slice m6 ys.length l6] v fun e w' => e = .returned (.bool E2) ∧ Below wr.heap.size wr w') := fun v hv => eD hE2 hv (Calls.len2 n2.out n6.out (kints _ _ _ _ _ _ _ (J2.out.below hv) (J6.out.below hv)))
                  clear hE2
                  have hu0 : W1.cell? ⟨L, 0, none⟩ = some (.slice m0 zs.length l0) := cell_below hbd rfl hv0
                  have hu4 : W1.cell? ⟨L, 4, none⟩ = some (.slice m4 ys.length l4) := cell_below hbd rfl hv4
                  have hu2 : W1.cell? ⟨L, 2, none⟩ = some (.slice m2 zs.length l2) := cell_below hbd rfl hv2
                  have hu6 : W1.cell? ⟨L, 6, none⟩ = some (.slice m6 ys.length l6) := cell_below hbd rfl hv6
                  go_wp2_with fail
                  go_region_held3 (fun w' => w'.cell? ⟨L, 0, none⟩ = some (.slice m0 zs.length l0) ∧ w'.cell? ⟨L, 4, none⟩ = some (.slice m4 ys.length l4) ∧ w'.cell? ⟨L, 2, none⟩ = some (.slice m2 zs.length l2) ∧ w'.cell? ⟨L, 6, none⟩ = some (.slice m6 ys.length l6) ∧ Below wr.heap.size wr w')
                    (first | (go_split_ands; have hbX := (‹Below wr.heap.size wr _›).drewN 1; exact ⟨cell_below hbX rfl hv0, cell_below hbX rfl hv4, cell_below hbX rfl hv2, cell_below hbX rfl hv6, hbX⟩) | (have hbX := hbc; exact ⟨cell_below hbX rfl hv0, cell_below hbX rfl hv4, cell_below hbX rfl hv2, cell_below hbX rfl hv6, hbX⟩) | (go_keep; done))
                    (first
                      | (go_at_call 18; with_reducible refine (q0.out _ (by go_split_ands; assumption)).mono ?_; rintro e wn ⟨rfl, hbc⟩)
                      | (go_at_call 19; with_reducible refine (p0.out _ (by go_split_ands; assumption)).mono ?_; rintro e wn ⟨rfl, hbc⟩)
                      | (go_at_call 20; with_reducible refine (q2.out _ (by go_split_ands; assumption)).mono ?_; rintro e wn ⟨rfl, hbc⟩)
                      | (go_at_call 19; with_reducible refine (p2.out _ (by go_split_ands; assumption)).mono ?_; rintro e wn ⟨rfl, hbc⟩))
                  clear q0 q2 p0 p2 hEn0 hEn2 hu0 hu4 hu2 hu6
                  obtain ⟨H0, hH0⟩ : ∃ C, Hid (hashL A0 = C) := ⟨_, rfl⟩
                  have hHn0 := beq_yes H0
                  have q0 : Hid (∀ v, Below wr.heap.size wr v → Calls Try.prog 21 #[.slice a0 zs.length c0] v fun e w' => e = .returned (.int .u64 H0) ∧ Below wr.heap.size wr w') := fun v hv => eS hH0 hv (Calls.len1 n0.out (hash_int8 _ _ _ _ (I0.out.below hv)))
                  have p0 : Hid (∀ v, Below wr.heap.size wr v → Calls Try.prog 11 #[.slice m0 zs.length l0] v fun e w' => e = .returned (.int .u64 H0) ∧ Below wr.heap.size wr w') := fun v hv => eS hH0 hv (Calls.len1 n0.out (rhash _ _ _ _ (J0.out.below hv)))
                  clear hH0
                  have hu0 : wn.cell? ⟨L, 0, none⟩ = some (.slice m0 zs.length l0) := cell_below hbc rfl hv0
                  obtain ⟨H1, hH1⟩ : ∃ C, Hid (hashL A1 = C) := ⟨_, rfl⟩
                  have hHn1 := beq_yes H1
                  have q1 : Hid (∀ v, Below wr.heap.size wr v → Calls Try.prog 22 #[.slice a2 zs.length c2] v fun e w' => e = .returned (.int .u64 H1) ∧ Below wr.heap.size wr w') := fun v hv => eS hH1 hv (Calls.len1 n1.out (hash_uint16 _ _ _ _ (I1.out.below hv)))
                  have p1 : Hid (∀ v, Below wr.heap.size wr v → Calls Try.prog 11 #[.slice m1 zs.length l1] v fun e w' => e = .returned (.int .u64 H1) ∧ Below wr.heap.size wr w') := fun v hv => eS hH1 hv (Calls.len1 n1.out (rhash _ _ _ _ (J1.out.below hv)))
                  clear hH1
                  have hu1 : wn.cell? ⟨L, 1, none⟩ = some (.slice m1 zs.length l1) := cell_below hbc rfl hv1
                  obtain ⟨H2, hH2⟩ : ∃ C, Hid (hashL A2 = C) := ⟨_, rfl⟩
                  have hHn2 := beq_yes H2
                  have q2 : Hid (∀ v, Below wr.heap.size wr v → Calls Try.prog 23 #[.slice a4 zs.length c4] v fun e w' => e = .returned (.int .u64 H2) ∧ Below wr.heap.size wr w') := fun v hv => eS hH2 hv (Calls.len1 n2.out (hash_mine _ _ _ _ (I2.out.below hv)))
                  have p2 : Hid (∀ v, Below wr.heap.size wr v → Calls Try.prog 11 #[.slice m2 zs.length l2] v fun e w' => e = .returned (.int .u64 H2) ∧ Below wr.heap.size wr w') := fun v hv => eS hH2 hv (Calls.len1 n2.out (rhash _ _ _ _ (J2.out.below hv)))
                  clear hH2
                  have hu2 : wn.cell? ⟨L, 2, none⟩ = some (.slice m2 zs.length l2) := cell_below hbc rfl hv2
                  obtain ⟨H3, hH3⟩ : ∃ C, Hid (hashL A3 = C) := ⟨_, rfl⟩
                  have hHn3 := beq_yes H3
                  have q3 : Hid (∀ v, Below wr.heap.size wr v → Calls Try.prog 24 #[.slice a6 zs.length c6] v fun e w' => e = .returned (.int .u64 H3) ∧ Below wr.heap.size wr w') := fun v hv => eS hH3 hv (Calls.len1 n3.out (hash_uint32 _ _ _ _ (I3.out.below hv)))
                  have p3 : Hid (∀ v, Below wr.heap.size wr v → Calls Try.prog 11 #[.slice m3 zs.length l3] v fun e w' => e = .returned (.int .u64 H3) ∧ Below wr.heap.size wr w') := fun v hv => eS hH3 hv (Calls.len1 n3.out (rhash _ _ _ _ (J3.out.below hv)))
                  clear hH3
                  have hu3 : wn.cell? ⟨L, 3, none⟩ = some (.slice m3 zs.length l3) := cell_below hbc rfl hv3
                  go_wp2_with fail
                  go_region_held3 (fun w' => w'.cell? ⟨L, 0, none⟩ = some (.slice m0 zs.length l0) ∧ w'.cell? ⟨L, 1, none⟩ = some (.slice m1 zs.length l1) ∧ w'.cell? ⟨L, 2, none⟩ = some (.slice m2 zs.length l2) ∧ w'.cell? ⟨L, 3, none⟩ = some (.slice m3 zs.length l3) ∧ Below wr.heap.size wr w')
                    (first | (go_split_ands; have hbX := (‹Below wr.heap.size wr _›).drewN 1; exact ⟨cell_below hbX rfl hv0, cell_below hbX rfl hv1, cell_below hbX rfl hv2, cell_below hbX rfl hv3, hbX⟩) | (have hbX := hbc; exact ⟨cell_below hbX rfl hv0, cell_below hbX rfl hv1, cell_below hbX rfl hv2, cell_below hbX rfl hv3, hbX⟩) | (go_keep; done))
                    (first
                      | (go_at_call 21; with_reducible refine (q0.out _ (by go_split_ands; assumption)).mono ?_; rintro e wn ⟨rfl, hbc⟩)
                      | (go_at_call 11; with_reducible refine (p0.out _ (by go_split_ands; assumption)).mono ?_; rintro e wn ⟨rfl, hbc⟩)
                      | (go_at_call 22; with_reducible refine (q1.out _ (by go_split_ands; assumption)).mono ?_; rintro e wn ⟨rfl, hbc⟩)
                      | (go_at_call 11; with_reducible refine (p1.out _ (by go_split_ands; assumption)).mono ?_; rintro e wn ⟨rfl, hbc⟩)
                      | (go_at_call 23; with_reducible refine (q2.out _ (by go_split_ands; assumption)).mono ?_; rintro e wn ⟨rfl, hbc⟩)
                      | (go_at_call 11; with_reducible refine (p2.out _ (by go_split_ands; assumption)).mono ?_; rintro e wn ⟨rfl, hbc⟩)
                      | (go_at_call 24; with_reducible refine (q3.out _ (by go_split_ands; assumption)).mono ?_; rintro e wn ⟨rfl, hbc⟩)
                      | (go_at_call 11; with_reducible refine (p3.out _ (by go_split_ands; assumption)).mono ?_; rintro e wn ⟨rfl, hbc⟩)
                      | (go_at_call 13; with_reducible refine (works_any _).mono ?_; rintro e wn ⟨rfl, hbc0⟩; have hbc := (‹Below wr.heap.size wr _›).trans (hbc0.mono (‹Below wr.heap.size wr _›).size); clear hbc0))
                  go_wp2
                  go_ret
                  exact ⟨rfl, hbl.out.trans (hbc.mono hbl.out.size)⟩

end Go.Proofs.Ytgndogoaenlchaa
