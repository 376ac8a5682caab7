/- Index: the document's table: New and Copy. -/
import Derived.Test.YtjeeljolhcoeoaaMxF
import Derived.Test.YtjeeljolhcoeoaaJxH
import Derived.Deep.RegionLaw
import Derived.Deep.RegionWith
import Derived.Deep.CutRange
import Derived.Deep.DrawnRows
namespace Go.Proofs.Ytjeeljolhcoeoaa
open Go.RowKit Go.Shelf

theorem rf_New (way : Int) (w : World) : Calls Try.prog 29 #[.int .i64 way] w fun e w' => e = .returned (.pointer (some ⟨w.heap.size, 0, none⟩)) ∧ RF w' w.heap.size w.heap.size way 8 (.slice none 0 0) [] ∧ Below w.heap.size w w' := by
  go_enter Try.func29, Try.ntmps29
  go_wp2
  go_ret
  exact ⟨rfl, ⟨heap_alloc_new _ _, World.ownsRow_nil _ _ _ _⟩, (Below.refl _ w).al _⟩
theorem own_al_drew {w : World} {base : Nat} {e : TypeId} {size : Nat} {v : Value} {n : Nat} {xs : List Value} (ob : Obj) (h : w.ownsRow base e size v n xs) : (w.alloc ob).drew.ownsRow base e size v n xs := (h.alloc ob).drew
theorem own_cells_row {w : World} {us : List Value} {cs : Array Value} {e : TypeId} {b : Nat} (hb : w.heap.size = b) (h : cs = us.toArray) : ∀ j x, us[j]? = some x → (w.alloc (.cells cs e)).cell? ((⟨b, 0, none⟩ : Addr).add j) = some x := by
  subst h hb
  intro j x hx
  rw [addr_add, Nat.zero_add, cell_of_row _ _ _ _ _ (0, 0) (heap_alloc_new w _)]
  simpa using hx
theorem le_al_drew {n : Nat} {wr : World} (ob : Obj) (h : n ≤ wr.heap.size) : n ≤ (wr.alloc ob).drew.heap.size := by
  show n ≤ (wr.alloc ob).heap.size
  rw [World.size_alloc]; omega
section
variable {w w' : World} {base Rt : Nat} {way : Int} {sz : Nat} {v : Value} {ps : List (Int × Int)}
set_option maxRecDepth 100000 in
set_option maxHeartbeats 8000000 in
theorem rf_Copy (h : RF w base Rt way sz v ps) (hl : ps.length ≤ 8388608) : Calls Try.prog 58 #[.pointer (some ⟨Rt, 0, none⟩)] w fun e w' => ∃ Rc vc, e = .returned (.pointer (some ⟨Rc, 0, none⟩)) ∧ w.heap.size ≤ Rc ∧ RF w' w.heap.size Rc way sz vc ps ∧ Below w.heap.size w w' := by
  obtain ⟨i0, hi0, hz0, hz1, hz2⟩ := info_parts infoPair
  obtain ⟨va, vc, rfl, -⟩ := own_sliceI h.row
  have c0 := h.c0
  have c2 := h.c2
  go_enter Try.func58, Try.ntmps58
  go_upto_region 1 with fail
  go_cut [3] from 5 to 14 (fun v3 wx => v3 = .pointer (some ⟨w.heap.size, 0, none⟩) ∧ Hid (RF wx w.heap.size w.heap.size way sz (.slice none 0 0) []) ∧ Hid (Below w.heap.size w wx))
  case first =>
    go_wp2_with fail
    go_region_with (fail)
    all_goals (go_wp2_with fail; go_meet)
    all_goals exact ⟨rfl, Lib.hid ⟨heap_alloc_new w.drew _, World.ownsRow_nil _ _ _ _⟩, Lib.hid ((below_drewN (Below.refl _ w) 1).al _)⟩
  case rest =>
  obtain ⟨rfl, hR0, hb0⟩ := hcut
  obtain ⟨Rc, hRc⟩ : ∃ Rc, w.heap.size = Rc := ⟨_, rfl⟩
  rw [hRc]
  replace hR0 : Hid (RF wc w.heap.size Rc way sz (.slice none 0 0) []) := by rw [← hRc]; exact hR0
  replace hRc := Lib.hid hRc
  clear c0 c2
  go_wp2_with fail
  go_loopw [4] (fun i wr => ∃ (k : Nat) (x : Value), k ≤ ps.length ∧ i = .int .i64 k ∧ Hid (RF wr w.heap.size Rc way sz x (ps.take k)) ∧ Hid (Below w.heap.size w wr)) (fun i _ => ps.length - (intOf i).toNat)
  case atStart => exact ⟨0, _, Nat.zero_le _, rfl, by rw [List.take_zero]; exact hR0, hb0⟩
  case round =>
    clear hR0 hb0
    obtain ⟨k, x, hk, rfl, hR, hbw⟩ := hrel
    have hr1 := h.below hbw.out
    have c1 := hr1.c1
    by_cases hlt : k < ps.length
    · obtain ⟨g, c, hv, k1, k2⟩ := hr1.pair k hlt
      injection hv with hv _ hvc
      subst hv hvc
      obtain ⟨X, hX⟩ : ∃ X, ps[k].1 = X := ⟨_, rfl⟩
      obtain ⟨Y, hY⟩ : ∃ Y, ps[k].2 = Y := ⟨_, rfl⟩
      have htk : Hid (ps.take (k + 1) = ps.take k ++ [(X, Y)]) := Lib.hid (by rw [List.take_succ_eq_append_getElem hlt, show ps[k] = (X, Y) from Prod.ext hX hY])
      rw [hX] at k1
      rw [hY] at k2
      have hlk : (ps.take k).length = k := by rw [List.length_take]; omega
      have rc1 := hR.out.c1
      have rf1 := hR.out.frozen 1
      have rc1a : ((wr.alloc (.cells #[.int .i64 X, .int .i64 Y] 111)).drew).cell? ⟨Rc, 1, none⟩ = some x := (hR.out.below (below_drewN ((Below.refl wr.heap.size wr).al _) 1)).c1
      have hRd := Lib.hid (hR.out.below (below_drewN (Below.refl wr.heap.size wr) 1))
      have hz := Lib.hid hbw.out.size
      clear hX hY hr1
      go_wp2_with fail
      go_region_law ((refine step_append_lies _ rfl (.tmp 28) (.tmp 36) 77 rfl w.heap.size 111 i0 _ 2 16 Try.underlying77 hi0 hz0 hz1 hz2 rfl (by decide) x (ps.take k).length _ rfl (own_al_drew _ hR.out.row) ⟨wr.heap.size, 0, none⟩ 1 1 [.int .i64 X, .int .i64 Y] rfl rfl (own_cells_row (w := wr) rfl rfl) (by simp [Value.oneCell']) (by decide) (by unfold maxLen; omega) (by omega) (le_al_drew _ hz.out) _ rfl ?_; intro g3 c3 w3 hown1 hgrow hat hlt1; have hm := hRd.out.more (x := (X, Y)) hown1 (show (World.alloc wr.drew (.cells #[.int .i64 X, .int .i64 Y] 111)).grownBy w3 _ from hgrow); have cR3 : w3.cell? ⟨Rc, 1, none⟩ = some x := cell_of_row _ _ _ _ _ _ hm.1; have fR3 := fz_row hm.1 1))
      all_goals
        have hR2 : Hid (RF (w3.setCell ⟨Rc, 1, none⟩ (.slice (some ⟨g3, 0, none⟩) ((ps.take k).length + 1) c3)) w.heap.size Rc way sz (.slice (some ⟨g3, 0, none⟩) ((ps.take k).length + 1) c3) (ps.take (k + 1))) := Lib.hid (by rw [htk.out]; exact hm.2.1)
        have hb2 : Hid (Below w.heap.size w (w3.setCell ⟨Rc, 1, none⟩ (.slice (some ⟨g3, 0, none⟩) ((ps.take k).length + 1) c3))) := Lib.hid (by
          have h1 : Below w.heap.size w wr.drew := below_drewN hbw.out 1
          refine keptR_belowK h1 hm.2.2 (fun b hb => ?_) hz.out
          rcases hb with hb | hb
          · rw [hb]; exact Nat.le_of_eq hRc.out
          · exact own_ge hR.out.row b hb)
        rw [hlk] at hR2 hb2
        clear hm cR3 fR3 hown1 hgrow hat hlt1 hRd hR hbw
        go_wp2_with fail
        go_roundw
        case rel => exact ⟨k + 1, _, by omega, by go_num, hR2, hb2⟩
        case measure => simp [intOf]; omega
    · obtain rfl : k = ps.length := by omega
      have hRe : Hid (RF wr w.heap.size Rc way sz x ps) := Lib.hid (by have := hR.out; rwa [List.take_of_length_le (Nat.le_refl _)] at this)
      clear hr1 hR
      go_wp2_with fail
      go_ret
      exact ⟨Rc, x, rfl, Nat.le_of_eq hRc.out, hRe.out, hbw.out⟩
end
end Go.Proofs.Ytjeeljolhcoeoaa
