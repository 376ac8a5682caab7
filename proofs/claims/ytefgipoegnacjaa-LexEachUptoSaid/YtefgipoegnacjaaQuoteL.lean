/- Quote: lex's. -/
import Derived.Test.YtefgipoegnacjaaProg
import Derived.Test.YtefgipoegnacjaaBase
import Derived.Test.YtefgipoegnacjaaBytes
import Derived.Test.YtefgipoegnacjaaLexSpec
import Derived.Test.YtefgipoegnacjaaLexA
import Derived.Test.YtefgipoegnacjaaLexB
import Derived.Test.YtefgipoegnacjaaLexE
import Derived.Test.YtefgipoegnacjaaLexF
import Derived.Test.YtefgipoegnacjaaLexX
import Derived.Deep.AppendLies
import Derived.Deep.RegionLaw
import Derived.Lib.AppendStr
import Derived.Lib.ConvBytes
import Derived.Test.YtefgipoegnacjaaQuote
import Derived.Laws.BitsAllLaws
namespace Go.Proofs.Ytefgipoegnacjaa
open Go.RowKit Lx

theorem u8_and15 (s : ByteArray) (k : Nat) : bits .and .u8 (bat s k) 15 = bat s k % 16 := by
  have h := (bat_range s k).2
  unfold bat at h ⊢
  have := u8_and_nat (((bl s).getD k 0).toNat) 15 (by omega) (by decide)
  rw [show ((15 : Int)) = ((15 : Nat) : Int) from rfl, this, show (15 : Nat) = 2 ^ 4 - 1 from rfl, Nat.and_two_pow_sub_one_eq_mod]; rfl
theorem below_bytes (w : World) (e : TypeId) (s : ByteArray) : Below w.heap.size w (Lib.bytesWorld w e s) :=
  ⟨rfl, rfl, rfl, by rw [Lib.bytesWorld_size]; omega, fun k hk => Lib.bytesWorld_at_old w e s k hk⟩
theorem own_not_marked {w : World} {base : Nat} {e t : TypeId} {size : Nat} {v : Value} {n B m : Nat} {xs : List Value} {bc : Array Value} (h : w.ownsRow base e size v n xs) (hB : w.heap[B]? = some (.cells bc t (m, m + 1))) : v.ownBlock ≠ some B := by
  rcases h.2 with ⟨rfl, _⟩ | ⟨g, cap, cur, rfl, _, hh, _⟩
  · intro h; cases h
  · intro h
    injection h with h
    have h : g = B := h
    subst h
    rw [hB] at hh
    injection hh with hh
    injection hh with _ _ hh
    injection hh with _ hh
    omega
theorem kept_marked {w w4 : World} {base : Nat} {e t : TypeId} {size : Nat} {v : Value} {n B m : Nat} {xs : List Value} {bc : Array Value} (h : w.ownsRow base e size v n xs) (hB : w.heap[B]? = some (.cells bc t (m, m + 1))) (hg : w.grownBy w4 v.ownBlock) :
    w4.heap[B]? = some (.cells bc t (m, m + 1)) := by
  rw [hg.block B (Array.getElem?_eq_some_iff.1 hB).1 (fun h2 => own_not_marked h hB h2.symm)]; exact hB
theorem kept_marked_d {w w4 : World} {ob : Obj} {base : Nat} {e t : TypeId} {size : Nat} {v : Value} {n B m : Nat} {xs : List Value} {bc : Array Value} (h : w.ownsRow base e size v n xs) (hB : w.heap[B]? = some (.cells bc t (m, m + 1))) (hg : (w.alloc ob).drew.grownBy w4 v.ownBlock) :
    w4.heap[B]? = some (.cells bc t (m, m + 1)) := by
  have hlt := (Array.getElem?_eq_some_iff.1 hB).1
  rw [hg.block B (le_al_drew ob hlt) (fun h2 => own_not_marked h hB h2.symm)]
  show (w.alloc ob).heap[B]? = _
  rw [heap_alloc_old w _ hlt]; exact hB
theorem kept_marked_al {w w4 : World} {ob : Obj} {base : Nat} {e t : TypeId} {size : Nat} {v : Value} {n B m : Nat} {xs : List Value} {bc : Array Value} (h : w.ownsRow base e size v n xs) (hB : w.heap[B]? = some (.cells bc t (m, m + 1))) (hg : (w.alloc ob).grownBy w4 v.ownBlock) :
    w4.heap[B]? = some (.cells bc t (m, m + 1)) := by
  have hlt := (Array.getElem?_eq_some_iff.1 hB).1
  rw [hg.block B (by rw [World.size_alloc]; omega) (fun h2 => own_not_marked h hB h2.symm), heap_alloc_old w _ hlt]; exact hB

set_option maxRecDepth 100000 in
set_option maxHeartbeats 8000000 in
theorem lx_Quote (s : ByteArray) (w : World) (hs : s.size ≤ 140737488355328) :
    Calls Try.prog 15 #[.string s] w (QuPost s w) := by
  obtain ⟨ib, hib, hz0, hz1, hz2⟩ := info_parts infoByte
  by_cases h1 : (bl s).length ≤ 1024
  · have g0 : decide ((bl s).length ≤ 1024) = true := by simpa using h1
    have h1' : Hid ((bl s).length ≤ 1024) := h1
    rw [bl_length] at h1
    replace g0 := Lib.hid g0
    have hcv := fun w => Lib.run_convert_string_bytes (P := Try.prog) w 9 35 5 s Try.underlying9 Try.underlying35 Try.underlying5
    go_enter Try.func15, Try.ntmps15
    go_wp2_with (go_at_call 17; refine (lx_Constant _ _ hs).mono ?_; rintro e w' ⟨he, rfl⟩; rw [g0.out] at he; subst he)
    have hown0 := own_below (World.ownsRow_lit w #[.int .u8 34] 1 (Nat.le_refl _) (by unfold maxLen; omega) (by simp) : (w.alloc (.cells #[.int .u8 34] 5)).ownsRow w.heap.size 5 1 (.slice (some ⟨w.heap.size, 0, none⟩) 1 1) 1 [.int .u8 34]) (below_bytes (w.alloc (.cells #[.int .u8 34] 5)) 5 s)
    have hb0 : Below w.heap.size w (Lib.bytesWorld (w.alloc (.cells #[.int .u8 34] 5)) 5 s) := ((Below.refl _ _).al _).trans ((below_bytes _ _ s).mono (by simp))
    have hB0 := Lib.bytesWorld_at_new (w.alloc (.cells #[.int .u8 34] 5)) 5 s
    have hbc : Hid (∀ j, j < s.size → (Lib.bytesCells (w.alloc (.cells #[.int .u8 34] 5)) 5 s)[j]? = some (.int .u8 (bat s j))) := by
      intro j hj
      have := Lib.bytesWorld_cell (w.alloc (.cells #[.int .u8 34] 5)) 5 s j hj
      rw [cell_of_row _ _ _ _ _ _ hB0] at this
      exact this
    have hwz : (w.alloc (.cells #[.int .u8 34] 5)).heap.size = w.heap.size + 1 := World.size_alloc _ _
    rw [hwz] at hB0
    generalize Lib.bytesCells (w.alloc (.cells #[.int .u8 34] 5)) 5 s = bc at hB0 hbc
    replace hB0 := Lib.hid hB0
    replace hown0 := Lib.hid hown0
    replace hb0 := Lib.hid hb0
    clear hcv hwz
    generalize Lib.bytesWorld (w.alloc (.cells #[.int .u8 34] 5)) 5 s = W at hown0 hb0 hB0 ⊢
    obtain ⟨B, hBe⟩ : ∃ B, B = w.heap.size + 1 := ⟨_, rfl⟩
    rw [← hBe] at hB0
    go_loopw [4, 6, 14] (fun b c i wr => ∃ (k : Nat), k ≤ s.size ∧ i = .int .i64 k ∧ Hid (wr.ownsRow w.heap.size 5 1 b (acc s k).length ((acc s k).map u8v)) ∧ Hid (Below w.heap.size w wr) ∧ Hid (wr.heap[B]? = some (.cells bc 5 (bc.size, bc.size + 1)))) (fun _ _ i _ => s.size - (intOf i).toNat)
    case atStart => exact ⟨0, Nat.zero_le _, rfl, hown0, hb0, hB0⟩
    case round =>
      obtain ⟨k, hk, rfl, hown, hb, hB⟩ := hrel
      obtain ⟨va, vc, rfl, hva⟩ := own_slice hown.out
      clear hva
      have hal := acc_len s k hk
      by_cases hlt : k < s.size
      · have hidx : wr.cell? ⟨w.heap.size + 1, k, none⟩ = some (.int .u8 (bat s k)) := by
          rw [← hBe, cell_of_row _ _ _ _ _ _ hB.out]; exact hbc.out k hlt
        obtain ⟨hr1, hr2⟩ := bat_range s k
        by_cases h34 : bat s k = 34 ∨ bat s k = 92
        · have hesc0 := esc_a ((bl s).getD k 0) h34
          rcases h34 with h34 | h34
          · skip
            have g1 : (bat s k == 34) = true := by rw [beq_iff_eq]; omega
            have h63 : Hid ((acc s k).length + 2 ≤ maxLen) := by show (acc s k).length + 2 ≤ maxLen; unfold maxLen; omega
            have h64 : Hid (((acc s k).length + 2) * 1 ≤ 140737488355328) := by show ((acc s k).length + 2) * 1 ≤ 140737488355328; omega
            have hesc : Hid (([.int .u8 92, (.int .u8 (bat s k))] : List Value) = (escL ((bl s).getD k 0)).map u8v) := by show _ = _; rw [hesc0]; rfl
            clear hesc0 h34
            go_wp2_with (first | (at_builtin; refine wpList_append_own _ rfl (.tmp 29) (.tmp 31) 35 rfl w.heap.size 5 ib (.int .u8 0) 1 1 Try.underlying35 hib hz0 hz1 hz2 rfl (by decide) _ (acc s k).length _ rfl (hown.out.alloc _) ⟨wr.heap.size, 0, none⟩ 2 2 [.int .u8 92, (.int .u8 (bat s k))] rfl rfl (own_cells_row rfl rfl) (by intro u hu; simp at hu; rcases hu with rfl | rfl <;> rfl) h63.out h64.out (by rw [World.size_alloc]; have := hb.out.size; omega) ?_))
            intro v2 w4 hown4 hgrow4 hv2
            have hb4 : Hid (Below w.heap.size w w4) := own_grown hown.out hb.out hgrow4
            have hB4 : Hid (w4.heap[B]? = some (.cells bc 5 (bc.size, bc.size + 1))) := kept_marked_al hown.out hB.out hgrow4
            have hown5 : Hid (w4.ownsRow w.heap.size 5 1 v2 (acc s (k + 1)).length ((acc s (k + 1)).map u8v)) := own_esc hown4 hlt hesc.out rfl
            clear hown4 hgrow4 hv2 hesc
            go_wp2_with fail
            go_roundw
            case rel => exact ⟨k + 1, by omega, by go_num, hown5, hb4, hB4⟩
            case measure => simp [intOf]; omega
          · skip
            have g1 : (bat s k == 34) = false := by rw [beq_eq_false_iff_ne]; omega
            have g2 : (bat s k == 92) = true := by rw [beq_iff_eq]; omega
            have h63 : Hid ((acc s k).length + 2 ≤ maxLen) := by show (acc s k).length + 2 ≤ maxLen; unfold maxLen; omega
            have h64 : Hid (((acc s k).length + 2) * 1 ≤ 140737488355328) := by show ((acc s k).length + 2) * 1 ≤ 140737488355328; omega
            have hesc : Hid (([.int .u8 92, (.int .u8 (bat s k))] : List Value) = (escL ((bl s).getD k 0)).map u8v) := by show _ = _; rw [hesc0]; rfl
            clear hesc0 h34
            go_wp2_with (first | (at_builtin; refine wpList_append_own _ rfl (.tmp 29) (.tmp 31) 35 rfl w.heap.size 5 ib (.int .u8 0) 1 1 Try.underlying35 hib hz0 hz1 hz2 rfl (by decide) _ (acc s k).length _ rfl (hown.out.alloc _) ⟨wr.heap.size, 0, none⟩ 2 2 [.int .u8 92, (.int .u8 (bat s k))] rfl rfl (own_cells_row rfl rfl) (by intro u hu; simp at hu; rcases hu with rfl | rfl <;> rfl) h63.out h64.out (by rw [World.size_alloc]; have := hb.out.size; omega) ?_))
            intro v2 w4 hown4 hgrow4 hv2
            have hb4 : Hid (Below w.heap.size w w4) := own_grown hown.out hb.out hgrow4
            have hB4 : Hid (w4.heap[B]? = some (.cells bc 5 (bc.size, bc.size + 1))) := kept_marked_al hown.out hB.out hgrow4
            have hown5 : Hid (w4.ownsRow w.heap.size 5 1 v2 (acc s (k + 1)).length ((acc s (k + 1)).map u8v)) := own_esc hown4 hlt hesc.out rfl
            clear hown4 hgrow4 hv2 hesc
            go_wp2_with fail
            go_roundw
            case rel => exact ⟨k + 1, by omega, by go_num, hown5, hb4, hB4⟩
            case measure => simp [intOf]; omega
        by_cases h10 : bat s k = 10
        · have hesc0 := esc_n ((bl s).getD k 0) h10
          have g1 : (bat s k == 34) = false := by rw [beq_eq_false_iff_ne]; omega
          have g2 : (bat s k == 92) = false := by rw [beq_eq_false_iff_ne]; omega
          have g3 : (bat s k == 10) = true := by rw [beq_iff_eq]; omega
          have h63 : Hid ((acc s k).length + 2 ≤ maxLen) := by show (acc s k).length + 2 ≤ maxLen; unfold maxLen; omega
          have h64s : Hid ((acc s k).length + 2 ≤ 140737488355328) := by show (acc s k).length + 2 ≤ 140737488355328; omega
          have hesc : Hid ((Lib.strCells ⟨#[92, 110]⟩ : List Value) = (escL ((bl s).getD k 0)).map u8v) := by show _ = _; rw [hesc0]; rfl
          clear hesc0 h34 h10
          go_wp2_with (first | (at_builtin; refine Lib.wpList_append_own_string _ rfl (.tmp 36) (.const (.string ⟨#[92, 110]⟩)) 35 9 rfl w.heap.size 5 ib Try.underlying35 Try.underlying9 hib hz0 hz1 hz2 _ (acc s k).length _ rfl hown.out _ rfl h63.out h64s.out (by have := hb.out.size; omega) ?_))
          intro v2 w4 hown4 hgrow4 hv2
          have hb4 : Hid (Below w.heap.size w w4) := (hb.out.grown hgrow4 hb.out.size (own_ge hown.out))
          have hB4 : Hid (w4.heap[B]? = some (.cells bc 5 (bc.size, bc.size + 1))) := kept_marked hown.out hB.out hgrow4
          have hown5 : Hid (w4.ownsRow w.heap.size 5 1 v2 (acc s (k + 1)).length ((acc s (k + 1)).map u8v)) := own_esc hown4 hlt hesc.out rfl
          clear hown4 hgrow4 hv2 hesc
          go_wp2_with fail
          go_roundw
          case rel => exact ⟨k + 1, by omega, by go_num, hown5, hb4, hB4⟩
          case measure => simp [intOf]; omega
        by_cases h9 : bat s k = 9
        · have hesc0 := esc_t ((bl s).getD k 0) h9
          have g1 : (bat s k == 34) = false := by rw [beq_eq_false_iff_ne]; omega
          have g2 : (bat s k == 92) = false := by rw [beq_eq_false_iff_ne]; omega
          have g3 : (bat s k == 10) = false := by rw [beq_eq_false_iff_ne]; omega
          have g4 : (bat s k == 9) = true := by rw [beq_iff_eq]; omega
          have h63 : Hid ((acc s k).length + 2 ≤ maxLen) := by show (acc s k).length + 2 ≤ maxLen; unfold maxLen; omega
          have h64s : Hid ((acc s k).length + 2 ≤ 140737488355328) := by show (acc s k).length + 2 ≤ 140737488355328; omega
          have hesc : Hid ((Lib.strCells ⟨#[92, 116]⟩ : List Value) = (escL ((bl s).getD k 0)).map u8v) := by show _ = _; rw [hesc0]; rfl
          clear hesc0 h34 h10 h9
          go_wp2_with (first | (at_builtin; refine Lib.wpList_append_own_string _ rfl (.tmp 41) (.const (.string ⟨#[92, 116]⟩)) 35 9 rfl w.heap.size 5 ib Try.underlying35 Try.underlying9 hib hz0 hz1 hz2 _ (acc s k).length _ rfl hown.out _ rfl h63.out h64s.out (by have := hb.out.size; omega) ?_))
          intro v2 w4 hown4 hgrow4 hv2
          have hb4 : Hid (Below w.heap.size w w4) := (hb.out.grown hgrow4 hb.out.size (own_ge hown.out))
          have hB4 : Hid (w4.heap[B]? = some (.cells bc 5 (bc.size, bc.size + 1))) := kept_marked hown.out hB.out hgrow4
          have hown5 : Hid (w4.ownsRow w.heap.size 5 1 v2 (acc s (k + 1)).length ((acc s (k + 1)).map u8v)) := own_esc hown4 hlt hesc.out rfl
          clear hown4 hgrow4 hv2 hesc
          go_wp2_with fail
          go_roundw
          case rel => exact ⟨k + 1, by omega, by go_num, hown5, hb4, hB4⟩
          case measure => simp [intOf]; omega
        by_cases hpr : 32 ≤ bat s k ∧ bat s k ≤ 126
        · have hesc0 := esc_p ((bl s).getD k 0) h34 hpr
          have g1 : (bat s k == 34) = false := by rw [beq_eq_false_iff_ne]; omega
          have g2 : (bat s k == 92) = false := by rw [beq_eq_false_iff_ne]; omega
          have g3 : (bat s k == 10) = false := by rw [beq_eq_false_iff_ne]; omega
          have g4 : (bat s k == 9) = false := by rw [beq_eq_false_iff_ne]; omega
          obtain ⟨hp1, hp2⟩ := hpr
          have hq1 : ¬ bat s k < 32 := by omega
          have hq2 : ¬ 126 < bat s k := by omega
          have h63 : Hid ((acc s k).length + 1 ≤ maxLen) := by show (acc s k).length + 1 ≤ maxLen; unfold maxLen; omega
          have h64 : Hid (((acc s k).length + 1) * 1 ≤ 140737488355328) := by show ((acc s k).length + 1) * 1 ≤ 140737488355328; omega
          have hesc : Hid (([(.int .u8 (bat s k))] : List Value) = (escL ((bl s).getD k 0)).map u8v) := by show _ = _; rw [hesc0]; rfl
          clear hesc0 h34 h10 h9
          go_wp2_with (first | (at_builtin; refine wpList_append_own _ rfl (.tmp 18) (.tmp 20) 35 rfl w.heap.size 5 ib (.int .u8 0) 1 1 Try.underlying35 hib hz0 hz1 hz2 rfl (by decide) _ (acc s k).length _ rfl (hown.out.alloc _) ⟨wr.heap.size, 0, none⟩ 1 1 [(.int .u8 (bat s k))] rfl rfl (own_cells_row rfl rfl) (by intro u hu; simp at hu; subst hu; rfl) h63.out h64.out (by rw [World.size_alloc]; have := hb.out.size; omega) ?_))
          intro v2 w4 hown4 hgrow4 hv2
          have hb4 : Hid (Below w.heap.size w w4) := own_grown hown.out hb.out hgrow4
          have hB4 : Hid (w4.heap[B]? = some (.cells bc 5 (bc.size, bc.size + 1))) := kept_marked_al hown.out hB.out hgrow4
          have hown5 : Hid (w4.ownsRow w.heap.size 5 1 v2 (acc s (k + 1)).length ((acc s (k + 1)).map u8v)) := own_esc hown4 hlt hesc.out rfl
          clear hown4 hgrow4 hv2 hesc
          go_wp2_with fail
          go_roundw
          case rel => exact ⟨k + 1, by omega, by go_num, hown5, hb4, hB4⟩
          case measure => simp [intOf]; omega
        have hesc0 := esc_x ((bl s).getD k 0) h34 h10 h9 hpr
        by_cases h32 : 32 ≤ bat s k
        · have hq1 : ¬ bat s k < 32 := by omega
          have hq2 : 126 < bat s k := by omega
          have g1 : (bat s k == 34) = false := by rw [beq_eq_false_iff_ne]; omega
          have g2 : (bat s k == 92) = false := by rw [beq_eq_false_iff_ne]; omega
          have g3 : (bat s k == 10) = false := by rw [beq_eq_false_iff_ne]; omega
          have g4 : (bat s k == 9) = false := by rw [beq_eq_false_iff_ne]; omega
          have hh1 := hexI_range (bat s k / 16) (by omega) (by omega)
          have hh2 := hexI_range (bat s k % 16) (by omega) (by omega)
          have hx1 := fun w => run_hex (bat s k / 16) (by omega) (by omega) w
          have hx2 := fun w => run_hex (bat s k % 16) (by omega) (by omega) w
          have v1 : IntKind.u8.wrap (bat s k / 16) = bat s k / 16 := by rw [show IntKind.u8.wrap (bat s k / 16) = (bat s k / 16) % 256 from by simp [IntKind.wrap, IntKind.bits, IntKind.signed]]; omega
          have v2 := u8_and15 s k
          have h63 : Hid ((acc s k).length + 4 ≤ maxLen) := by show (acc s k).length + 4 ≤ maxLen; unfold maxLen; omega
          have h64 : Hid (((acc s k).length + 4) * 1 ≤ 140737488355328) := by show ((acc s k).length + 4) * 1 ≤ 140737488355328; omega
          have hesc : Hid (([.int .u8 92, .int .u8 120, .int .u8 (hexI (bat s k / 16)), .int .u8 (hexI (bat s k % 16))] : List Value) = (escL ((bl s).getD k 0)).map u8v) := by show _ = _; rw [hesc0, bi_getD]; show _ = [u8v 92, u8v 120, u8v _, u8v _]; rw [u8v_byteI _ hh1.1 hh1.2, u8v_byteI _ hh2.1 hh2.2]; rfl
          clear hesc0 h34 h10 h9 hpr hh1 hh2
          go_wp2_with fail
          go_region_law ((refine step_append_lies _ rfl (.tmp 50) (.tmp 57) 35 rfl w.heap.size 5 ib (.int .u8 0) 1 1 Try.underlying35 hib hz0 hz1 hz2 rfl (by decide) _ (acc s k).length _ rfl (own_al_drew _ hown.out) ⟨wr.heap.size, 0, none⟩ 4 4 [.int .u8 92, .int .u8 120, .int .u8 (hexI (bat s k / 16)), .int .u8 (hexI (bat s k % 16))] rfl rfl (own_cells_row (w := wr) rfl rfl) (by intro u hu; simp at hu; rcases hu with rfl | rfl | rfl | rfl <;> rfl) (by decide) h63.out h64.out (le_al_drew _ hb.out.size) _ rfl ?_; intro g4 c4 w4 hown4 hgrow4 hat4 hlt4))
          all_goals
            have hb4 : Hid (Below w.heap.size w w4) := own_grown_d hown.out hb.out hgrow4
            have hB4 : Hid (w4.heap[B]? = some (.cells bc 5 (bc.size, bc.size + 1))) := kept_marked_d hown.out hB.out hgrow4
            have hown5 : Hid (w4.ownsRow w.heap.size 5 1 (.slice (some ⟨g4, 0, none⟩) ((acc s k).length + 4) c4) (acc s (k + 1)).length ((acc s (k + 1)).map u8v)) := own_esc hown4 hlt hesc.out rfl
            clear hown4 hgrow4 hat4 hlt4 hesc
            go_wp2_with fail
            go_roundw
            case rel => exact ⟨k + 1, by omega, by go_num, hown5, hb4, hB4⟩
            case measure => simp [intOf]; omega
        · have hq1 : bat s k < 32 := by omega
          have g1 : (bat s k == 34) = false := by rw [beq_eq_false_iff_ne]; omega
          have g2 : (bat s k == 92) = false := by rw [beq_eq_false_iff_ne]; omega
          have g3 : (bat s k == 10) = false := by rw [beq_eq_false_iff_ne]; omega
          have g4 : (bat s k == 9) = false := by rw [beq_eq_false_iff_ne]; omega
          have hh1 := hexI_range (bat s k / 16) (by omega) (by omega)
          have hh2 := hexI_range (bat s k % 16) (by omega) (by omega)
          have hx1 := fun w => run_hex (bat s k / 16) (by omega) (by omega) w
          have hx2 := fun w => run_hex (bat s k % 16) (by omega) (by omega) w
          have v1 : IntKind.u8.wrap (bat s k / 16) = bat s k / 16 := by rw [show IntKind.u8.wrap (bat s k / 16) = (bat s k / 16) % 256 from by simp [IntKind.wrap, IntKind.bits, IntKind.signed]]; omega
          have v2 := u8_and15 s k
          have h63 : Hid ((acc s k).length + 4 ≤ maxLen) := by show (acc s k).length + 4 ≤ maxLen; unfold maxLen; omega
          have h64 : Hid (((acc s k).length + 4) * 1 ≤ 140737488355328) := by show ((acc s k).length + 4) * 1 ≤ 140737488355328; omega
          have hesc : Hid (([.int .u8 92, .int .u8 120, .int .u8 (hexI (bat s k / 16)), .int .u8 (hexI (bat s k % 16))] : List Value) = (escL ((bl s).getD k 0)).map u8v) := by show _ = _; rw [hesc0, bi_getD]; show _ = [u8v 92, u8v 120, u8v _, u8v _]; rw [u8v_byteI _ hh1.1 hh1.2, u8v_byteI _ hh2.1 hh2.2]; rfl
          clear hesc0 h34 h10 h9 hpr hh1 hh2
          go_wp2_with fail
          go_region_law ((refine step_append_lies _ rfl (.tmp 50) (.tmp 57) 35 rfl w.heap.size 5 ib (.int .u8 0) 1 1 Try.underlying35 hib hz0 hz1 hz2 rfl (by decide) _ (acc s k).length _ rfl (own_al_drew _ hown.out) ⟨wr.heap.size, 0, none⟩ 4 4 [.int .u8 92, .int .u8 120, .int .u8 (hexI (bat s k / 16)), .int .u8 (hexI (bat s k % 16))] rfl rfl (own_cells_row (w := wr) rfl rfl) (by intro u hu; simp at hu; rcases hu with rfl | rfl | rfl | rfl <;> rfl) (by decide) h63.out h64.out (le_al_drew _ hb.out.size) _ rfl ?_; intro g4 c4 w4 hown4 hgrow4 hat4 hlt4))
          all_goals
            have hb4 : Hid (Below w.heap.size w w4) := own_grown_d hown.out hb.out hgrow4
            have hB4 : Hid (w4.heap[B]? = some (.cells bc 5 (bc.size, bc.size + 1))) := kept_marked_d hown.out hB.out hgrow4
            have hown5 : Hid (w4.ownsRow w.heap.size 5 1 (.slice (some ⟨g4, 0, none⟩) ((acc s k).length + 4) c4) (acc s (k + 1)).length ((acc s (k + 1)).map u8v)) := own_esc hown4 hlt hesc.out rfl
            clear hown4 hgrow4 hat4 hlt4 hesc
            go_wp2_with fail
            go_roundw
            case rel => exact ⟨k + 1, by omega, by go_num, hown5, hb4, hB4⟩
            case measure => simp [intOf]; omega
      · have hke : k = s.size := by omega
        have h63 : Hid ((acc s k).length + 1 ≤ maxLen) := by show (acc s k).length + 1 ≤ maxLen; unfold maxLen; omega
        have h64 : Hid (((acc s k).length + 1) * 1 ≤ 140737488355328) := by show ((acc s k).length + 1) * 1 ≤ 140737488355328; omega
        replace hke := Lib.hid hke
        go_wp2_with (first | (at_builtin; refine wpList_append_own _ rfl (.tmp 60) (.tmp 61) 35 rfl w.heap.size 5 ib (.int .u8 0) 1 1 Try.underlying35 hib hz0 hz1 hz2 rfl (by decide) _ (acc s k).length _ rfl (hown.out.alloc _) ⟨wr.heap.size, 0, none⟩ 1 1 [.int .u8 34] rfl rfl (own_cells_row rfl rfl) (by intro u hu; simp at hu; subst hu; rfl) h63.out h64.out (by rw [World.size_alloc]; have := hb.out.size; omega) ?_))
        intro v2 w4 hown4 hgrow4 hv2
        have hb4 : Hid (Below w.heap.size w w4) := own_grown hown.out hb.out hgrow4
        have hconv := run_string_own (P := Try.prog) Try.underlying35 Try.underlying5 Try.underlying9 (own_fin hown4 hke.out)
        clear hown4 hgrow4 hv2
        go_wp2_with fail
        go_ret2
        exact QuPost.yes h1'.out rfl hb4.out
  · have g0 : Hid (decide ((bl s).length ≤ 1024) = false) := by show _ = _; simpa using h1
    replace h1 := Lib.hid h1
    go_enter Try.func15, Try.ntmps15
    go_wp2_with (go_at_call 17; refine (lx_Constant _ _ hs).mono ?_; rintro e w' ⟨he, rfl⟩; rw [g0.out] at he; subst he)
    go_ret2
    exact QuPost.no h1.out (Below.refl _ _)

end Go.Proofs.Ytefgipoegnacjaa
