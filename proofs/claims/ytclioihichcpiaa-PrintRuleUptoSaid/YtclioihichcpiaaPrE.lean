/- Print: the document's Quote. (printed by gen_rq.py) -/
import Derived.Test.YtclioihichcpiaaPrD
import Derived.Test.YtclioihichcpiaaQuoteL
namespace Go.Proofs.Ytclioihichcpiaa
open Go.RowKit Lx
set_option maxRecDepth 100000 in
set_option maxHeartbeats 4000000 in
theorem rq_Quote (s : ByteArray) (w : World) (hs : s.size ≤ 34359738368) :
    Calls Try.prog 21 #[.string s] w fun e w' => e = .returned (.string (mk (quoteL (bl s)))) ∧ Below w.heap.size w w' := by
  obtain ⟨ib, hib, hz0, hz1, hz2⟩ := info_parts infoByte
  go_enter Try.func21, Try.ntmps21
  go_wp2_with (first | (at_builtin; refine wpList_append_own _ rfl (.tmp 6) (.tmp 7) 80 rfl w.heap.size 5 ib (.int .u8 0) 1 1 Try.underlying80 hib hz0 hz1 hz2 rfl (by decide) _ 0 [] rfl ((World.ownsRow_nil w _ _ _).alloc _) ⟨w.heap.size, 0, none⟩ 1 1 [.int .u8 34] rfl rfl (own_cells_row rfl rfl) (by intro u hu; simp at hu; subst hu; rfl) (by unfold maxLen; omega) (by omega) (by rw [World.size_alloc]; omega) ?_))
  intro vS wS hownS0 hgrowS hvS
  have hbS : Hid (Below w.heap.size w wS) := own_grown (World.ownsRow_nil _ _ _ _ : w.ownsRow w.heap.size 5 1 (.slice none 0 0) 0 []) (Below.refl _ _) hgrowS
  have hownS : Hid (wS.ownsRow w.heap.size 5 1 vS (acc s 0).length ((acc s 0).map u8v)) := hownS0
  clear hownS0 hgrowS hvS
  go_wp2_with fail
  go_loopw [3, 4, 5] (fun b i c wr => ∃ (k : Nat), k ≤ s.size ∧ i = .int .i64 k ∧ Hid (wr.ownsRow w.heap.size 5 1 b (acc s k).length ((acc s k).map u8v)) ∧ Hid (Below w.heap.size w wr)) (fun _ i _ _ => s.size - (intOf i).toNat)
  case atStart => exact ⟨0, Nat.zero_le _, rfl, hownS, hbS⟩
  case round =>
    obtain ⟨k, hk, rfl, hown, hb⟩ := hrel
    obtain ⟨va, vc, rfl, hva⟩ := own_slice hown.out
    clear hva
    have hal := acc_len s k hk
    by_cases hlt : k < s.size
    · have hidx := fun w => run_index_str (P := Try.prog) Try.underlying9 s k hlt w
      obtain ⟨hr1, hr2⟩ := bat_range s k
      by_cases h34 : bat s k = 34 ∨ bat s k = 92
      · have hesc0 := esc_a ((bl s).getD k 0) h34
        rcases h34 with h34 | h34
        · skip
          have g1 : (bat s k == 34) = true := by rw [beq_iff_eq]; omega
          have h63 : Hid ((acc s k).length + 2 ≤ maxLen) := by show (acc s k).length + 2 ≤ maxLen; unfold maxLen; omega
          have h64 : Hid (((acc s k).length + 2) * 1 ≤ 140737488355328) := by show ((acc s k).length + 2) * 1 ≤ 140737488355328; omega
          have hesc : Hid (([.int .u8 92, .int .u8 34] : List Value) = (escL ((bl s).getD k 0)).map u8v) := by show _ = _; rw [hesc0]; show _ = [u8v 92, .int .u8 (bat s k)]; rw [h34]; rfl
          clear hesc0 h34
          go_wp2_with (first | (at_builtin; refine wpList_append_own _ rfl (.tmp 30) (.tmp 31) 80 rfl w.heap.size 5 ib (.int .u8 0) 1 1 Try.underlying80 hib hz0 hz1 hz2 rfl (by decide) _ (acc s k).length _ rfl (hown.out.alloc _) ⟨wr.heap.size, 0, none⟩ 2 2 [.int .u8 92, .int .u8 34] rfl rfl (own_cells_row rfl rfl) (by intro u hu; simp at hu; rcases hu with rfl | rfl <;> rfl) h63.out h64.out (by rw [World.size_alloc]; have := hb.out.size; omega) ?_))
          intro v2 w4 hown4 hgrow4 hv2
          have hb4 : Hid (Below w.heap.size w w4) := own_grown hown.out hb.out hgrow4
          have hown5 : Hid (w4.ownsRow w.heap.size 5 1 v2 (acc s (k + 1)).length ((acc s (k + 1)).map u8v)) := own_esc hown4 hlt hesc.out rfl
          clear hown4 hgrow4 hv2 hesc
          go_wp2_with fail
          go_roundw
          case rel => exact ⟨k + 1, by omega, by go_num, hown5, hb4⟩
          case measure => simp [intOf]; omega
        · skip
          have g1 : (bat s k == 34) = false := by rw [beq_eq_false_iff_ne]; omega
          have g2 : (bat s k == 92) = true := by rw [beq_iff_eq]; omega
          have h63 : Hid ((acc s k).length + 2 ≤ maxLen) := by show (acc s k).length + 2 ≤ maxLen; unfold maxLen; omega
          have h64 : Hid (((acc s k).length + 2) * 1 ≤ 140737488355328) := by show ((acc s k).length + 2) * 1 ≤ 140737488355328; omega
          have hesc : Hid (([.int .u8 92, .int .u8 92] : List Value) = (escL ((bl s).getD k 0)).map u8v) := by show _ = _; rw [hesc0]; show _ = [u8v 92, .int .u8 (bat s k)]; rw [h34]; rfl
          clear hesc0 h34
          go_wp2_with (first | (at_builtin; refine wpList_append_own _ rfl (.tmp 36) (.tmp 37) 80 rfl w.heap.size 5 ib (.int .u8 0) 1 1 Try.underlying80 hib hz0 hz1 hz2 rfl (by decide) _ (acc s k).length _ rfl (hown.out.alloc _) ⟨wr.heap.size, 0, none⟩ 2 2 [.int .u8 92, .int .u8 92] rfl rfl (own_cells_row rfl rfl) (by intro u hu; simp at hu; rcases hu with rfl | rfl <;> rfl) h63.out h64.out (by rw [World.size_alloc]; have := hb.out.size; omega) ?_))
          intro v2 w4 hown4 hgrow4 hv2
          have hb4 : Hid (Below w.heap.size w w4) := own_grown hown.out hb.out hgrow4
          have hown5 : Hid (w4.ownsRow w.heap.size 5 1 v2 (acc s (k + 1)).length ((acc s (k + 1)).map u8v)) := own_esc hown4 hlt hesc.out rfl
          clear hown4 hgrow4 hv2 hesc
          go_wp2_with fail
          go_roundw
          case rel => exact ⟨k + 1, by omega, by go_num, hown5, hb4⟩
          case measure => simp [intOf]; omega
      by_cases h10 : bat s k = 10
      · have hesc0 := esc_n ((bl s).getD k 0) h10
        have g1 : (bat s k == 34) = false := by rw [beq_eq_false_iff_ne]; omega
        have g2 : (bat s k == 92) = false := by rw [beq_eq_false_iff_ne]; omega
        have g3 : (bat s k == 10) = true := by rw [beq_iff_eq]; omega
        have h63 : Hid ((acc s k).length + 2 ≤ maxLen) := by show (acc s k).length + 2 ≤ maxLen; unfold maxLen; omega
        have h64 : Hid (((acc s k).length + 2) * 1 ≤ 140737488355328) := by show ((acc s k).length + 2) * 1 ≤ 140737488355328; omega
        have hesc : Hid (([.int .u8 92, .int .u8 110] : List Value) = (escL ((bl s).getD k 0)).map u8v) := by show _ = _; rw [hesc0]; rfl
        clear hesc0 h34 h10
        go_wp2_with (first | (at_builtin; refine wpList_append_own _ rfl (.tmp 42) (.tmp 43) 80 rfl w.heap.size 5 ib (.int .u8 0) 1 1 Try.underlying80 hib hz0 hz1 hz2 rfl (by decide) _ (acc s k).length _ rfl (hown.out.alloc _) ⟨wr.heap.size, 0, none⟩ 2 2 [.int .u8 92, .int .u8 110] rfl rfl (own_cells_row rfl rfl) (by intro u hu; simp at hu; rcases hu with rfl | rfl <;> rfl) h63.out h64.out (by rw [World.size_alloc]; have := hb.out.size; omega) ?_))
        intro v2 w4 hown4 hgrow4 hv2
        have hb4 : Hid (Below w.heap.size w w4) := own_grown hown.out hb.out hgrow4
        have hown5 : Hid (w4.ownsRow w.heap.size 5 1 v2 (acc s (k + 1)).length ((acc s (k + 1)).map u8v)) := own_esc hown4 hlt hesc.out rfl
        clear hown4 hgrow4 hv2 hesc
        go_wp2_with fail
        go_roundw
        case rel => exact ⟨k + 1, by omega, by go_num, hown5, hb4⟩
        case measure => simp [intOf]; omega
      by_cases h9 : bat s k = 9
      · have hesc0 := esc_t ((bl s).getD k 0) h9
        have g1 : (bat s k == 34) = false := by rw [beq_eq_false_iff_ne]; omega
        have g2 : (bat s k == 92) = false := by rw [beq_eq_false_iff_ne]; omega
        have g3 : (bat s k == 10) = false := by rw [beq_eq_false_iff_ne]; omega
        have g4 : (bat s k == 9) = true := by rw [beq_iff_eq]; omega
        have h63 : Hid ((acc s k).length + 2 ≤ maxLen) := by show (acc s k).length + 2 ≤ maxLen; unfold maxLen; omega
        have h64 : Hid (((acc s k).length + 2) * 1 ≤ 140737488355328) := by show ((acc s k).length + 2) * 1 ≤ 140737488355328; omega
        have hesc : Hid (([.int .u8 92, .int .u8 116] : List Value) = (escL ((bl s).getD k 0)).map u8v) := by show _ = _; rw [hesc0]; rfl
        clear hesc0 h34 h10 h9
        go_wp2_with (first | (at_builtin; refine wpList_append_own _ rfl (.tmp 48) (.tmp 49) 80 rfl w.heap.size 5 ib (.int .u8 0) 1 1 Try.underlying80 hib hz0 hz1 hz2 rfl (by decide) _ (acc s k).length _ rfl (hown.out.alloc _) ⟨wr.heap.size, 0, none⟩ 2 2 [.int .u8 92, .int .u8 116] rfl rfl (own_cells_row rfl rfl) (by intro u hu; simp at hu; rcases hu with rfl | rfl <;> rfl) h63.out h64.out (by rw [World.size_alloc]; have := hb.out.size; omega) ?_))
        intro v2 w4 hown4 hgrow4 hv2
        have hb4 : Hid (Below w.heap.size w w4) := own_grown hown.out hb.out hgrow4
        have hown5 : Hid (w4.ownsRow w.heap.size 5 1 v2 (acc s (k + 1)).length ((acc s (k + 1)).map u8v)) := own_esc hown4 hlt hesc.out rfl
        clear hown4 hgrow4 hv2 hesc
        go_wp2_with fail
        go_roundw
        case rel => exact ⟨k + 1, by omega, by go_num, hown5, hb4⟩
        case measure => simp [intOf]; omega
      by_cases hpr : 32 ≤ bat s k ∧ bat s k ≤ 126
      · have hesc0 := esc_p ((bl s).getD k 0) h34 hpr
        have g1 : (bat s k == 34) = false := by rw [beq_eq_false_iff_ne]; omega
        have g2 : (bat s k == 92) = false := by rw [beq_eq_false_iff_ne]; omega
        have g3 : (bat s k == 10) = false := by rw [beq_eq_false_iff_ne]; omega
        have g4 : (bat s k == 9) = false := by rw [beq_eq_false_iff_ne]; omega
        obtain ⟨hp1, hp2⟩ := hpr
        have h63 : Hid ((acc s k).length + 1 ≤ maxLen) := by show (acc s k).length + 1 ≤ maxLen; unfold maxLen; omega
        have h64 : Hid (((acc s k).length + 1) * 1 ≤ 140737488355328) := by show ((acc s k).length + 1) * 1 ≤ 140737488355328; omega
        have hesc : Hid (([(.int .u8 (bat s k))] : List Value) = (escL ((bl s).getD k 0)).map u8v) := by show _ = _; rw [hesc0]; rfl
        clear hesc0 h34 h10 h9
        go_wp2_with (first | (at_builtin; refine wpList_append_own _ rfl (.tmp 58) (.tmp 60) 80 rfl w.heap.size 5 ib (.int .u8 0) 1 1 Try.underlying80 hib hz0 hz1 hz2 rfl (by decide) _ (acc s k).length _ rfl (hown.out.alloc _) ⟨wr.heap.size, 0, none⟩ 1 1 [(.int .u8 (bat s k))] rfl rfl (own_cells_row rfl rfl) (by intro u hu; simp at hu; subst hu; rfl) h63.out h64.out (by rw [World.size_alloc]; have := hb.out.size; omega) ?_))
        intro v2 w4 hown4 hgrow4 hv2
        have hb4 : Hid (Below w.heap.size w w4) := own_grown hown.out hb.out hgrow4
        have hown5 : Hid (w4.ownsRow w.heap.size 5 1 v2 (acc s (k + 1)).length ((acc s (k + 1)).map u8v)) := own_esc hown4 hlt hesc.out rfl
        clear hown4 hgrow4 hv2 hesc
        go_wp2_with fail
        go_roundw
        case rel => exact ⟨k + 1, by omega, by go_num, hown5, hb4⟩
        case measure => simp [intOf]; omega
      have hesc0 := esc_x ((bl s).getD k 0) h34 h10 h9 hpr
      by_cases h32 : 32 ≤ bat s k
      · have h126 : ¬ bat s k ≤ 126 := by omega
        have g1 : (bat s k == 34) = false := by rw [beq_eq_false_iff_ne]; omega
        have g2 : (bat s k == 92) = false := by rw [beq_eq_false_iff_ne]; omega
        have g3 : (bat s k == 10) = false := by rw [beq_eq_false_iff_ne]; omega
        have g4 : (bat s k == 9) = false := by rw [beq_eq_false_iff_ne]; omega
        have hh1 := hexI_range (bat s k / 16) (by omega) (by omega)
        have hh2 := hexI_range (bat s k % 16) (by omega) (by omega)
        have hx1 := fun w => run_hex (bat s k / 16) (by omega) (by omega) w
        have hx2 := fun w => run_hex (bat s k % 16) (by omega) (by omega) w
        have v1 : IntKind.u8.wrap ((bat s k).tdiv 16) = bat s k / 16 := u8_quo _ hr1 hr2
        have v2 : (bat s k).tmod 16 = bat s k % 16 := Int.tmod_eq_emod_of_nonneg hr1
        have h63 : Hid ((acc s k).length + 4 ≤ maxLen) := by show (acc s k).length + 4 ≤ maxLen; unfold maxLen; omega
        have h64 : Hid (((acc s k).length + 4) * 1 ≤ 140737488355328) := by show ((acc s k).length + 4) * 1 ≤ 140737488355328; omega
        have hesc : Hid (([.int .u8 92, .int .u8 120, .int .u8 (hexI (bat s k / 16)), .int .u8 (hexI (bat s k % 16))] : List Value) = (escL ((bl s).getD k 0)).map u8v) := by show _ = _; rw [hesc0, bi_getD]; show _ = [u8v 92, u8v 120, u8v _, u8v _]; rw [u8v_byteI _ hh1.1 hh1.2, u8v_byteI _ hh2.1 hh2.2]; rfl
        clear hesc0 h34 h10 h9 hpr hh1 hh2
        go_wp2_with fail
        go_region_law ((refine step_append_lies _ rfl (.tmp 18) (.tmp 25) 80 rfl w.heap.size 5 ib (.int .u8 0) 1 1 Try.underlying80 hib hz0 hz1 hz2 rfl (by decide) _ (acc s k).length _ rfl (own_al_drew _ hown.out) ⟨wr.heap.size, 0, none⟩ 4 4 [.int .u8 92, .int .u8 120, .int .u8 (hexI (bat s k / 16)), .int .u8 (hexI (bat s k % 16))] rfl rfl (own_cells_row (w := wr) rfl rfl) (by intro u hu; simp at hu; rcases hu with rfl | rfl | rfl | rfl <;> rfl) (by decide) h63.out h64.out (le_al_drew _ hb.out.size) _ rfl ?_; intro g4 c4 w4 hown4 hgrow4 hat4 hlt4))
        all_goals
          have hb4 : Hid (Below w.heap.size w w4) := own_grown_d hown.out hb.out hgrow4
          have hown5 : Hid (w4.ownsRow w.heap.size 5 1 (.slice (some ⟨g4, 0, none⟩) ((acc s k).length + 4) c4) (acc s (k + 1)).length ((acc s (k + 1)).map u8v)) := own_esc hown4 hlt hesc.out rfl
          clear hown4 hgrow4 hat4 hlt4 hesc
          go_wp2_with fail
          go_roundw
          case rel => exact ⟨k + 1, by omega, by go_num, hown5, hb4⟩
          case measure => simp [intOf]; omega
      · skip
        have g1 : (bat s k == 34) = false := by rw [beq_eq_false_iff_ne]; omega
        have g2 : (bat s k == 92) = false := by rw [beq_eq_false_iff_ne]; omega
        have g3 : (bat s k == 10) = false := by rw [beq_eq_false_iff_ne]; omega
        have g4 : (bat s k == 9) = false := by rw [beq_eq_false_iff_ne]; omega
        have hh1 := hexI_range (bat s k / 16) (by omega) (by omega)
        have hh2 := hexI_range (bat s k % 16) (by omega) (by omega)
        have hx1 := fun w => run_hex (bat s k / 16) (by omega) (by omega) w
        have hx2 := fun w => run_hex (bat s k % 16) (by omega) (by omega) w
        have v1 : IntKind.u8.wrap ((bat s k).tdiv 16) = bat s k / 16 := u8_quo _ hr1 hr2
        have v2 : (bat s k).tmod 16 = bat s k % 16 := Int.tmod_eq_emod_of_nonneg hr1
        have h63 : Hid ((acc s k).length + 4 ≤ maxLen) := by show (acc s k).length + 4 ≤ maxLen; unfold maxLen; omega
        have h64 : Hid (((acc s k).length + 4) * 1 ≤ 140737488355328) := by show ((acc s k).length + 4) * 1 ≤ 140737488355328; omega
        have hesc : Hid (([.int .u8 92, .int .u8 120, .int .u8 (hexI (bat s k / 16)), .int .u8 (hexI (bat s k % 16))] : List Value) = (escL ((bl s).getD k 0)).map u8v) := by show _ = _; rw [hesc0, bi_getD]; show _ = [u8v 92, u8v 120, u8v _, u8v _]; rw [u8v_byteI _ hh1.1 hh1.2, u8v_byteI _ hh2.1 hh2.2]; rfl
        clear hesc0 h34 h10 h9 hpr hh1 hh2
        go_wp2_with fail
        go_region_law ((refine step_append_lies _ rfl (.tmp 18) (.tmp 25) 80 rfl w.heap.size 5 ib (.int .u8 0) 1 1 Try.underlying80 hib hz0 hz1 hz2 rfl (by decide) _ (acc s k).length _ rfl (own_al_drew _ hown.out) ⟨wr.heap.size, 0, none⟩ 4 4 [.int .u8 92, .int .u8 120, .int .u8 (hexI (bat s k / 16)), .int .u8 (hexI (bat s k % 16))] rfl rfl (own_cells_row (w := wr) rfl rfl) (by intro u hu; simp at hu; rcases hu with rfl | rfl | rfl | rfl <;> rfl) (by decide) h63.out h64.out (le_al_drew _ hb.out.size) _ rfl ?_; intro g4 c4 w4 hown4 hgrow4 hat4 hlt4))
        all_goals
          have hb4 : Hid (Below w.heap.size w w4) := own_grown_d hown.out hb.out hgrow4
          have hown5 : Hid (w4.ownsRow w.heap.size 5 1 (.slice (some ⟨g4, 0, none⟩) ((acc s k).length + 4) c4) (acc s (k + 1)).length ((acc s (k + 1)).map u8v)) := own_esc hown4 hlt hesc.out rfl
          clear hown4 hgrow4 hat4 hlt4 hesc
          go_wp2_with fail
          go_roundw
          case rel => exact ⟨k + 1, by omega, by go_num, hown5, hb4⟩
          case measure => simp [intOf]; omega
    · have hke : k = s.size := by omega
      have h63 : Hid ((acc s k).length + 1 ≤ maxLen) := by show (acc s k).length + 1 ≤ maxLen; unfold maxLen; omega
      have h64 : Hid (((acc s k).length + 1) * 1 ≤ 140737488355328) := by show ((acc s k).length + 1) * 1 ≤ 140737488355328; omega
      replace hke := Lib.hid hke
      go_wp2_with (first | (at_builtin; refine wpList_append_own _ rfl (.tmp 62) (.tmp 63) 80 rfl w.heap.size 5 ib (.int .u8 0) 1 1 Try.underlying80 hib hz0 hz1 hz2 rfl (by decide) _ (acc s k).length _ rfl (hown.out.alloc _) ⟨wr.heap.size, 0, none⟩ 1 1 [.int .u8 34] rfl rfl (own_cells_row rfl rfl) (by intro u hu; simp at hu; subst hu; rfl) h63.out h64.out (by rw [World.size_alloc]; have := hb.out.size; omega) ?_))
      intro v2 w4 hown4 hgrow4 hv2
      have hb4 : Hid (Below w.heap.size w w4) := own_grown hown.out hb.out hgrow4
      have hconv := run_string_own (P := Try.prog) Try.underlying80 Try.underlying5 Try.underlying9 (own_fin hown4 hke.out)
      clear hown4 hgrow4 hv2
      go_wp2_with fail
      go_ret
      exact ⟨rfl, hb4.out⟩
end Go.Proofs.Ytclioihichcpiaa
