/- Print: the document's words of layer 8 (printed by gen_prc.py). -/
import Derived.Test.YtclioihichcpiaaDoorJoD
import Derived.Test.YtclioihichcpiaaDoorJoF
namespace Go.Proofs.YtclioihichcpiaaDoor
open Go.RowKit Lx

theorem rp_small (c : Int) (w : World) : Calls Tryd.prog 96 #[.int .u8 c] w fun e w' => e = .returned (.bool (smallB c)) ∧ w = w' := by
  go_enter Tryd.func96, Tryd.ntmps96
  go_wp2
  all_goals go_ret
  all_goals exact ⟨ret_bool (by unfold smallB; rw [Bool.eq_iff_iff]; simp <;> omega), rfl⟩

theorem rp_great (c : Int) (w : World) : Calls Tryd.prog 97 #[.int .u8 c] w fun e w' => e = .returned (.bool (greatB c)) ∧ w = w' := by
  go_enter Tryd.func97, Tryd.ntmps97
  go_wp2
  all_goals go_ret
  all_goals exact ⟨ret_bool (by unfold greatB; rw [Bool.eq_iff_iff]; simp <;> omega), rfl⟩

theorem rp_digit (c : Int) (w : World) : Calls Tryd.prog 106 #[.int .u8 c] w fun e w' => e = .returned (.bool (digitB c)) ∧ w = w' := by
  go_enter Tryd.func106, Tryd.ntmps106
  go_wp2
  all_goals go_ret
  all_goals exact ⟨ret_bool (by unfold digitB; rw [Bool.eq_iff_iff]; simp <;> omega), rfl⟩

theorem rp_Reserved (s : ByteArray) (w : World) : Calls Tryd.prog 84 #[.string s] w fun e w' => e = .returned (.bool (reservedB (bl s))) ∧ w = w' := by
  have g1 := eq_str s sInput
  have g2 := eq_str s sOutput
  have g3 := eq_str s sNot
  unfold sInput at g1
  unfold sOutput at g2
  unfold sNot at g3
  have h5 : Hid (reservedB (bl s) = (decide (bl s = sInput) || decide (bl s = sOutput) || decide (bl s = sNot))) := by
    show _ = _; unfold reservedB; rw [Bool.eq_iff_iff]; simp
  unfold sInput sOutput sNot at h5
  go_enter Tryd.func84, Tryd.ntmps84
  go_wp2
  all_goals go_ret
  all_goals exact ⟨ret_bool (by rw [h5.out]; simp_all), rfl⟩

theorem rp_goes (c : Int) (w : World) : Calls Tryd.prog 98 #[.int .u8 c] w fun e w' => e = .returned (.bool (letterB c)) ∧ w = w' := by
  go_enter Tryd.func98, Tryd.ntmps98
  go_wp2_with (first
    | (go_at_call 96; refine (rp_small _ _).mono ?_; rintro e w' ⟨rfl, rfl⟩)
    | (go_at_call 97; refine (rp_great _ _).mono ?_; rintro e w' ⟨rfl, rfl⟩)
    | (go_at_call 106; refine (rp_digit _ _).mono ?_; rintro e w' ⟨rfl, rfl⟩))
  all_goals go_ret
  all_goals exact ⟨ret_bool (by unfold letterB; simp_all [smallB, greatB, digitB] <;> (rw [Bool.eq_iff_iff]; simp <;> omega)), rfl⟩
set_option maxHeartbeats 800000 in
theorem rp_word_true (s : ByteArray) (w : World) (hs : s.size ≤ 140737488355328) : Calls Tryd.prog 83 #[.string s, .bool true] w fun e w' => e = .returned (.bool (writtenB (bl s) && firstB smallB (bl s))) ∧ w = w' := by
  by_cases h1 : 1 ≤ s.size ∧ s.size ≤ 64
  · obtain ⟨h1, h64⟩ := h1
    have hidx0 := fun w => run_index_str0 (P := Tryd.prog) Tryd.underlying9 s h1 w
    have hf := firstB_bat smallB s h1
    have hlen : Hid (writtenB (bl s) = allB letterB (bl s)) := Lib.hid (by unfold writtenB; rw [bl_length]; simp [h1, h64])
    by_cases hp : smallB (bat s 0) = true
    · have hp0 : Hid (allB letterB ((bl s).take 1) = true) := Lib.hid (by
        rw [allB_take letterB s 0 h1]
        have : letterB (bat s 0) = true := by unfold letterB; unfold smallB at hp; simp only [decide_eq_true_eq] at hp ⊢; omega
        rw [this]; simp [allB])
      replace hf := Lib.hid (hf.trans hp)
      go_enter Tryd.func83, Tryd.ntmps83
      go_wp2_with (go_at_call 96; refine (rp_small _ _).mono ?_; rintro e w' ⟨rfl, rfl⟩)
      go_loop [5] (fun i => ∃ j : Nat, 1 ≤ j ∧ j ≤ s.size ∧ i = .int .i64 j ∧ Hid (allB letterB ((bl s).take j) = true)) (fun i => s.size - (intOf i).toNat)
      case atStart => exact ⟨1, Nat.le_refl _, h1, rfl, hp0⟩
      case round =>
        obtain ⟨j, hj1, hj, rfl, he⟩ := hrel
        by_cases hlt : j < s.size
        · have hidx := fun w => run_index_str (P := Tryd.prog) Tryd.underlying9 s j hlt w
          by_cases hl : letterB (bat s j) = true
          · have h5 : Hid (allB letterB ((bl s).take (j + 1)) = true) := Lib.hid (by rw [allB_take _ s j hlt, he.out, hl]; rfl)
            clear he
            go_wp2_with (go_at_call 98; refine (rp_goes _ _).mono ?_; rintro e w' ⟨rfl, rfl⟩)
            go_round
            case rel => exact ⟨j + 1, by omega, by omega, by go_num, h5⟩
            case measure => simp [intOf]; omega
          · have hl2 : letterB (bat s j) = false := by simpa using hl
            have h5 : Hid ((writtenB (bl s) && firstB smallB (bl s)) = false) := Lib.hid (by rw [hlen.out, allB_at _ s j hlt hl2]; rfl)
            clear he hl
            go_wp2_with (go_at_call 98; refine (rp_goes _ _).mono ?_; rintro e w' ⟨rfl, rfl⟩)
            go_ret
            exact ⟨ret_bool h5.out.symm, rfl⟩
        · have h5 : Hid ((writtenB (bl s) && firstB smallB (bl s)) = true) := Lib.hid (by rw [hlen.out, ← allB_full _ s j (by omega), he.out, hf.out]; rfl)
          clear he
          go_wp2
          go_ret
          exact ⟨ret_bool h5.out.symm, rfl⟩
    · have hp' : smallB (bat s 0) = false := by simpa using hp
      have h5 : Hid ((writtenB (bl s) && firstB smallB (bl s)) = false) := Lib.hid (by rw [hf, hp', Bool.and_false])
      clear hp hf
      go_enter Tryd.func83, Tryd.ntmps83
      go_wp2_with (go_at_call 96; refine (rp_small _ _).mono ?_; rintro e w' ⟨rfl, rfl⟩)
      go_ret
      exact ⟨ret_bool h5.out.symm, rfl⟩
  · have h5 : Hid ((writtenB (bl s) && firstB smallB (bl s)) = false) := Lib.hid (by unfold writtenB; rw [bl_length]; simp; omega)
    by_cases h0 : s.size < 1
    · clear h1
      go_enter Tryd.func83, Tryd.ntmps83
      go_wp2
      go_ret
      exact ⟨ret_bool h5.out.symm, rfl⟩
    · have h64 : 64 < s.size := by omega
      clear h1
      go_enter Tryd.func83, Tryd.ntmps83
      go_wp2
      go_ret
      exact ⟨ret_bool h5.out.symm, rfl⟩
set_option maxHeartbeats 800000 in
theorem rp_word_false (s : ByteArray) (w : World) (hs : s.size ≤ 140737488355328) : Calls Tryd.prog 83 #[.string s, .bool false] w fun e w' => e = .returned (.bool (writtenB (bl s) && firstB greatB (bl s))) ∧ w = w' := by
  by_cases h1 : 1 ≤ s.size ∧ s.size ≤ 64
  · obtain ⟨h1, h64⟩ := h1
    have hidx0 := fun w => run_index_str0 (P := Tryd.prog) Tryd.underlying9 s h1 w
    have hf := firstB_bat greatB s h1
    have hlen : Hid (writtenB (bl s) = allB letterB (bl s)) := Lib.hid (by unfold writtenB; rw [bl_length]; simp [h1, h64])
    by_cases hp : greatB (bat s 0) = true
    · have hp0 : Hid (allB letterB ((bl s).take 1) = true) := Lib.hid (by
        rw [allB_take letterB s 0 h1]
        have : letterB (bat s 0) = true := by unfold letterB; unfold greatB at hp; simp only [decide_eq_true_eq] at hp ⊢; omega
        rw [this]; simp [allB])
      replace hf := Lib.hid (hf.trans hp)
      go_enter Tryd.func83, Tryd.ntmps83
      go_wp2_with (go_at_call 97; refine (rp_great _ _).mono ?_; rintro e w' ⟨rfl, rfl⟩)
      go_loop [5] (fun i => ∃ j : Nat, 1 ≤ j ∧ j ≤ s.size ∧ i = .int .i64 j ∧ Hid (allB letterB ((bl s).take j) = true)) (fun i => s.size - (intOf i).toNat)
      case atStart => exact ⟨1, Nat.le_refl _, h1, rfl, hp0⟩
      case round =>
        obtain ⟨j, hj1, hj, rfl, he⟩ := hrel
        by_cases hlt : j < s.size
        · have hidx := fun w => run_index_str (P := Tryd.prog) Tryd.underlying9 s j hlt w
          by_cases hl : letterB (bat s j) = true
          · have h5 : Hid (allB letterB ((bl s).take (j + 1)) = true) := Lib.hid (by rw [allB_take _ s j hlt, he.out, hl]; rfl)
            clear he
            go_wp2_with (go_at_call 98; refine (rp_goes _ _).mono ?_; rintro e w' ⟨rfl, rfl⟩)
            go_round
            case rel => exact ⟨j + 1, by omega, by omega, by go_num, h5⟩
            case measure => simp [intOf]; omega
          · have hl2 : letterB (bat s j) = false := by simpa using hl
            have h5 : Hid ((writtenB (bl s) && firstB greatB (bl s)) = false) := Lib.hid (by rw [hlen.out, allB_at _ s j hlt hl2]; rfl)
            clear he hl
            go_wp2_with (go_at_call 98; refine (rp_goes _ _).mono ?_; rintro e w' ⟨rfl, rfl⟩)
            go_ret
            exact ⟨ret_bool h5.out.symm, rfl⟩
        · have h5 : Hid ((writtenB (bl s) && firstB greatB (bl s)) = true) := Lib.hid (by rw [hlen.out, ← allB_full _ s j (by omega), he.out, hf.out]; rfl)
          clear he
          go_wp2
          go_ret
          exact ⟨ret_bool h5.out.symm, rfl⟩
    · have hp' : greatB (bat s 0) = false := by simpa using hp
      have h5 : Hid ((writtenB (bl s) && firstB greatB (bl s)) = false) := Lib.hid (by rw [hf, hp', Bool.and_false])
      clear hp hf
      go_enter Tryd.func83, Tryd.ntmps83
      go_wp2_with (go_at_call 97; refine (rp_great _ _).mono ?_; rintro e w' ⟨rfl, rfl⟩)
      go_ret
      exact ⟨ret_bool h5.out.symm, rfl⟩
  · have h5 : Hid ((writtenB (bl s) && firstB greatB (bl s)) = false) := Lib.hid (by unfold writtenB; rw [bl_length]; simp; omega)
    by_cases h0 : s.size < 1
    · clear h1
      go_enter Tryd.func83, Tryd.ntmps83
      go_wp2
      go_ret
      exact ⟨ret_bool h5.out.symm, rfl⟩
    · have h64 : 64 < s.size := by omega
      clear h1
      go_enter Tryd.func83, Tryd.ntmps83
      go_wp2
      go_ret
      exact ⟨ret_bool h5.out.symm, rfl⟩
theorem rp_Name (s : ByteArray) (w : World) (hs : s.size ≤ 140737488355328) : Calls Tryd.prog 67 #[.string s] w fun e w' => e = .returned (.bool (nameB (bl s))) ∧ w = w' := by
  cases hb : (writtenB (bl s) && firstB smallB (bl s)) with
  | true =>
    have h5 : Hid (nameB (bl s) = !reservedB (bl s)) := Lib.hid (by unfold nameB; simp only [Bool.and_eq_true] at hb; rw [hb.1, hb.2]; simp)
    have hc := rp_word_true s w hs
    rw [hb] at hc
    replace hb := Lib.hid hb
    replace hc := Lib.hid hc
    go_enter Tryd.func67, Tryd.ntmps67
    go_wp2_with (first
      | (go_at_call 83; refine hc.out.mono ?_; rintro e w' ⟨rfl, rfl⟩)
      | (go_at_call 84; refine (rp_Reserved _ _).mono ?_; rintro e w' ⟨rfl, rfl⟩))
    go_ret
    exact ⟨ret_bool h5.out.symm, rfl⟩
  | false =>
    have h5 : Hid (nameB (bl s) = false) := Lib.hid (by unfold nameB; rw [← Bool.and_assoc, hb]; rfl)
    have hc := rp_word_true s w hs
    rw [hb] at hc
    replace hb := Lib.hid hb
    replace hc := Lib.hid hc
    go_enter Tryd.func67, Tryd.ntmps67
    go_wp2_with (go_at_call 83; refine hc.out.mono ?_; rintro e w' ⟨rfl, rfl⟩)
    go_ret
    exact ⟨ret_bool h5.out.symm, rfl⟩
theorem rp_Variable (s : ByteArray) (w : World) (hs : s.size ≤ 140737488355328) : Calls Tryd.prog 99 #[.string s] w fun e w' => e = .returned (.bool (variableB (bl s))) ∧ w = w' := by
  go_enter Tryd.func99, Tryd.ntmps99
  go_wp2_with (go_at_call 83; refine (rp_word_false _ _ hs).mono ?_; rintro e w' ⟨rfl, rfl⟩)
  go_ret
  exact ⟨rfl, rfl⟩
end Go.Proofs.YtclioihichcpiaaDoor


/- Print: what may stand without quotes. -/
namespace Go.Proofs.YtclioihichcpiaaDoor
open Go.RowKit Lx
namespace Lx
def bareB (l : Bs) : Bool := nameB l || numberB l
end Lx
theorem pt_Bare (s : ByteArray) (w : World) (hs : s.size ≤ 140737488355328) : Calls Tryd.prog 82 #[.string s] w fun e w' => e = .returned (.bool (bareB (bl s))) ∧ w = w' := by
  cases hn : nameB (bl s) with
  | true =>
    have h5 : Hid (bareB (bl s) = true) := Lib.hid (by unfold bareB; rw [hn]; rfl)
    have hc := lx_Name s w hs
    rw [hn] at hc
    replace hc := Lib.hid hc
    replace hn := Lib.hid hn
    go_enter Tryd.func82, Tryd.ntmps82
    go_wp2_with (go_at_call 41; refine hc.out.mono ?_; rintro e w' ⟨rfl, rfl⟩)
    go_ret
    exact ⟨ret_bool h5.out.symm, rfl⟩
  | false =>
    have h5 : Hid (bareB (bl s) = numberB (bl s)) := Lib.hid (by unfold bareB; rw [hn]; rfl)
    have hc := lx_Name s w hs
    rw [hn] at hc
    replace hc := Lib.hid hc
    replace hn := Lib.hid hn
    go_enter Tryd.func82, Tryd.ntmps82
    go_wp2_with (first
      | (go_at_call 41; refine hc.out.mono ?_; rintro e w' ⟨rfl, rfl⟩)
      | (go_at_call 95; refine (lx_Number _ _ hs).mono ?_; rintro e w' ⟨rfl, rfl⟩))
    go_ret
    exact ⟨ret_bool h5.out.symm, rfl⟩
set_option maxHeartbeats 800000 in
theorem rp_Bare (s : ByteArray) (w : World) (hs : s.size ≤ 140737488355328) : Calls Tryd.prog 77 #[.string s] w fun e w' => e = .returned (.bool (bareB (bl s))) ∧ w = w' := by
  by_cases h1 : 1 ≤ s.size ∧ s.size ≤ 64
  · obtain ⟨h1, h64⟩ := h1
    go_enter Tryd.func77, Tryd.ntmps77
    go_wp2
    go_loop [3] (fun i => ∃ j : Nat, j ≤ s.size ∧ i = .int .i64 j ∧ Hid (allB digitB ((bl s).take j) = true)) (fun i => s.size - (intOf i).toNat)
    case atStart => exact ⟨0, Nat.zero_le _, rfl, rfl⟩
    case round =>
      obtain ⟨j, hj, rfl, he⟩ := hrel
      by_cases hlt : j < s.size
      · have hidx := fun w => run_index_str (P := Tryd.prog) Tryd.underlying9 s j hlt w
        by_cases hl : digitB (bat s j) = true
        · have h5 : Hid (allB digitB ((bl s).take (j + 1)) = true) := Lib.hid (by rw [allB_take _ s j hlt, he.out, hl]; rfl)
          have hd : 48 ≤ bat s j ∧ bat s j ≤ 57 := by unfold digitB at hl; simpa using hl
          obtain ⟨hd1, hd2⟩ := hd
          clear he hl
          go_wp2
          go_round
          case rel => exact ⟨j + 1, by omega, by go_num, h5⟩
          case measure => simp [intOf]; omega
        · have hl2 : digitB (bat s j) = false := by simpa using hl
          have h5 : Hid (bareB (bl s) = nameB (bl s)) := Lib.hid (by
            unfold bareB numberB
            rw [allB_at _ s j hlt hl2]; simp)
          have hd : ¬ (48 ≤ bat s j ∧ bat s j ≤ 57) := by unfold digitB at hl2; simpa using hl2
          clear he hl hl2
          by_cases hd1 : bat s j < 48
          · clear hd
            go_wp2_with (go_at_call 67; refine (rp_Name _ _ hs).mono ?_; rintro e w' ⟨rfl, rfl⟩)
            go_ret
            exact ⟨ret_bool h5.out.symm, rfl⟩
          · have hd2 : 57 < bat s j := by omega
            clear hd
            go_wp2_with (go_at_call 67; refine (rp_Name _ _ hs).mono ?_; rintro e w' ⟨rfl, rfl⟩)
            go_ret
            exact ⟨ret_bool h5.out.symm, rfl⟩
      · have h5 : Hid (bareB (bl s) = true) := Lib.hid (by
          unfold bareB numberB
          rw [← allB_full _ s j (by omega), he.out, bl_length]
          simp [h1, h64])
        clear he
        go_wp2
        go_ret
        exact ⟨ret_bool h5.out.symm, rfl⟩
  · have h5 : Hid (bareB (bl s) = false) := Lib.hid (by
      unfold bareB nameB numberB writtenB
      rw [bl_length]
      have : ¬ (1 ≤ s.size ∧ s.size ≤ 64) := h1
      simp only [decide_eq_false this, Bool.and_false, Bool.false_and, Bool.or_false])
    by_cases h0 : s.size < 1
    · clear h1
      go_enter Tryd.func77, Tryd.ntmps77
      go_wp2
      go_ret
      exact ⟨ret_bool h5.out.symm, rfl⟩
    · have h64 : 64 < s.size := by omega
      clear h1
      go_enter Tryd.func77, Tryd.ntmps77
      go_wp2
      go_ret
      exact ⟨ret_bool h5.out.symm, rfl⟩
end Go.Proofs.YtclioihichcpiaaDoor


/- Print: the document's Quote. (printed by gen_rq.py) -/
namespace Go.Proofs.YtclioihichcpiaaDoor
open Go.RowKit Lx
set_option maxRecDepth 100000 in
set_option maxHeartbeats 4000000 in
theorem rq_Quote (s : ByteArray) (w : World) (hs : s.size ≤ 34359738368) :
    Calls Tryd.prog 15 #[.string s] w fun e w' => e = .returned (.string (mk (quoteL (bl s)))) ∧ Below w.heap.size w w' := by
  obtain ⟨ib, hib, hz0, hz1, hz2⟩ := info_parts infoByte
  go_enter Tryd.func15, Tryd.ntmps15
  go_wp2_with (first | (at_builtin; refine wpList_append_own _ rfl (.tmp 6) (.tmp 7) 65 rfl w.heap.size 5 ib (.int .u8 0) 1 1 Tryd.underlying65 hib hz0 hz1 hz2 rfl (by decide) _ 0 [] rfl ((World.ownsRow_nil w _ _ _).alloc _) ⟨w.heap.size, 0, none⟩ 1 1 [.int .u8 34] rfl rfl (own_cells_row rfl rfl) (by intro u hu; simp at hu; subst hu; rfl) (by unfold maxLen; omega) (by omega) (by rw [World.size_alloc]; omega) ?_))
  intro vS wS hownS0 hgrowS hvS
  have hbS : Hid (Below w.heap.size w wS) := own_grown (World.ownsRow_nil _ _ _ _ : w.ownsRow w.heap.size 5 1 (.slice none 0 0) 0 []) (Below.refl _ _) hgrowS
  have hownS : Hid (wS.ownsRow w.heap.size 5 1 vS (acc s 0).length ((acc s 0).map u8v)) := hownS0
  clear hownS0 hgrowS hvS
  go_wp2_with fail
  go_loopw [3, 4, 5] (fun b i c wr => ∃ (k : Nat), k ≤ s.size ∧ i = .int .i64 k ∧ Hid (wr.ownsRow w.heap.size 5 1 b (acc s k).length ((acc s k).map u8v)) ∧ Hid (Below w.heap.size w wr)) (fun _ i _ _ => s.size - (intOf i).toNat)
  case atStart => exact ⟨0, Nat.zero_le _, rfl, hownS, hbS⟩
  case round =>
    obtain ⟨k, hk, rfl, hown, hb⟩ := hrel
    obtain ⟨va, vc, rfl, hva⟩ := own_slice hown.out
    clear hva
    have hal := acc_len s k hk
    by_cases hlt : k < s.size
    · have hidx := fun w => run_index_str (P := Tryd.prog) Tryd.underlying9 s k hlt w
      obtain ⟨hr1, hr2⟩ := bat_range s k
      by_cases h34 : bat s k = 34 ∨ bat s k = 92
      · have hesc0 := esc_a ((bl s).getD k 0) h34
        rcases h34 with h34 | h34
        · skip
          have g1 : (bat s k == 34) = true := by rw [beq_iff_eq]; omega
          have h63 : Hid ((acc s k).length + 2 ≤ maxLen) := by show (acc s k).length + 2 ≤ maxLen; unfold maxLen; omega
          have h64 : Hid (((acc s k).length + 2) * 1 ≤ 140737488355328) := by show ((acc s k).length + 2) * 1 ≤ 140737488355328; omega
          have hesc : Hid (([.int .u8 92, .int .u8 34] : List Value) = (escL ((bl s).getD k 0)).map u8v) := by show _ = _; rw [hesc0]; show _ = [u8v 92, .int .u8 (bat s k)]; rw [h34]; rfl
          clear hesc0 h34
          go_wp2_with (first | (at_builtin; refine wpList_append_own _ rfl (.tmp 30) (.tmp 31) 65 rfl w.heap.size 5 ib (.int .u8 0) 1 1 Tryd.underlying65 hib hz0 hz1 hz2 rfl (by decide) _ (acc s k).length _ rfl (hown.out.alloc _) ⟨wr.heap.size, 0, none⟩ 2 2 [.int .u8 92, .int .u8 34] rfl rfl (own_cells_row rfl rfl) (by intro u hu; simp at hu; rcases hu with rfl | rfl <;> rfl) h63.out h64.out (by rw [World.size_alloc]; have := hb.out.size; omega) ?_))
          intro v2 w4 hown4 hgrow4 hv2
          have hb4 : Hid (Below w.heap.size w w4) := own_grown hown.out hb.out hgrow4
          have hown5 : Hid (w4.ownsRow w.heap.size 5 1 v2 (acc s (k + 1)).length ((acc s (k + 1)).map u8v)) := own_esc hown4 hlt hesc.out rfl
          clear hown4 hgrow4 hv2 hesc
          go_wp2_with fail
          go_roundw
          case rel => exact ⟨k + 1, by omega, by go_num, hown5, hb4⟩
          case measure => simp [intOf]; omega
        · skip
          have g1 : (bat s k == 34) = false := by rw [beq_eq_false_iff_ne]; omega
          have g2 : (bat s k == 92) = true := by rw [beq_iff_eq]; omega
          have h63 : Hid ((acc s k).length + 2 ≤ maxLen) := by show (acc s k).length + 2 ≤ maxLen; unfold maxLen; omega
          have h64 : Hid (((acc s k).length + 2) * 1 ≤ 140737488355328) := by show ((acc s k).length + 2) * 1 ≤ 140737488355328; omega
          have hesc : Hid (([.int .u8 92, .int .u8 92] : List Value) = (escL ((bl s).getD k 0)).map u8v) := by show _ = _; rw [hesc0]; show _ = [u8v 92, .int .u8 (bat s k)]; rw [h34]; rfl
          clear hesc0 h34
          go_wp2_with (first | (at_builtin; refine wpList_append_own _ rfl (.tmp 36) (.tmp 37) 65 rfl w.heap.size 5 ib (.int .u8 0) 1 1 Tryd.underlying65 hib hz0 hz1 hz2 rfl (by decide) _ (acc s k).length _ rfl (hown.out.alloc _) ⟨wr.heap.size, 0, none⟩ 2 2 [.int .u8 92, .int .u8 92] rfl rfl (own_cells_row rfl rfl) (by intro u hu; simp at hu; rcases hu with rfl | rfl <;> rfl) h63.out h64.out (by rw [World.size_alloc]; have := hb.out.size; omega) ?_))
          intro v2 w4 hown4 hgrow4 hv2
          have hb4 : Hid (Below w.heap.size w w4) := own_grown hown.out hb.out hgrow4
          have hown5 : Hid (w4.ownsRow w.heap.size 5 1 v2 (acc s (k + 1)).length ((acc s (k + 1)).map u8v)) := own_esc hown4 hlt hesc.out rfl
          clear hown4 hgrow4 hv2 hesc
          go_wp2_with fail
          go_roundw
          case rel => exact ⟨k + 1, by omega, by go_num, hown5, hb4⟩
          case measure => simp [intOf]; omega
      by_cases h10 : bat s k = 10
      · have hesc0 := esc_n ((bl s).getD k 0) h10
        have g1 : (bat s k == 34) = false := by rw [beq_eq_false_iff_ne]; omega
        have g2 : (bat s k == 92) = false := by rw [beq_eq_false_iff_ne]; omega
        have g3 : (bat s k == 10) = true := by rw [beq_iff_eq]; omega
        have h63 : Hid ((acc s k).length + 2 ≤ maxLen) := by show (acc s k).length + 2 ≤ maxLen; unfold maxLen; omega
        have h64 : Hid (((acc s k).length + 2) * 1 ≤ 140737488355328) := by show ((acc s k).length + 2) * 1 ≤ 140737488355328; omega
        have hesc : Hid (([.int .u8 92, .int .u8 110] : List Value) = (escL ((bl s).getD k 0)).map u8v) := by show _ = _; rw [hesc0]; rfl
        clear hesc0 h34 h10
        go_wp2_with (first | (at_builtin; refine wpList_append_own _ rfl (.tmp 42) (.tmp 43) 65 rfl w.heap.size 5 ib (.int .u8 0) 1 1 Tryd.underlying65 hib hz0 hz1 hz2 rfl (by decide) _ (acc s k).length _ rfl (hown.out.alloc _) ⟨wr.heap.size, 0, none⟩ 2 2 [.int .u8 92, .int .u8 110] rfl rfl (own_cells_row rfl rfl) (by intro u hu; simp at hu; rcases hu with rfl | rfl <;> rfl) h63.out h64.out (by rw [World.size_alloc]; have := hb.out.size; omega) ?_))
        intro v2 w4 hown4 hgrow4 hv2
        have hb4 : Hid (Below w.heap.size w w4) := own_grown hown.out hb.out hgrow4
        have hown5 : Hid (w4.ownsRow w.heap.size 5 1 v2 (acc s (k + 1)).length ((acc s (k + 1)).map u8v)) := own_esc hown4 hlt hesc.out rfl
        clear hown4 hgrow4 hv2 hesc
        go_wp2_with fail
        go_roundw
        case rel => exact ⟨k + 1, by omega, by go_num, hown5, hb4⟩
        case measure => simp [intOf]; omega
      by_cases h9 : bat s k = 9
      · have hesc0 := esc_t ((bl s).getD k 0) h9
        have g1 : (bat s k == 34) = false := by rw [beq_eq_false_iff_ne]; omega
        have g2 : (bat s k == 92) = false := by rw [beq_eq_false_iff_ne]; omega
        have g3 : (bat s k == 10) = false := by rw [beq_eq_false_iff_ne]; omega
        have g4 : (bat s k == 9) = true := by rw [beq_iff_eq]; omega
        have h63 : Hid ((acc s k).length + 2 ≤ maxLen) := by show (acc s k).length + 2 ≤ maxLen; unfold maxLen; omega
        have h64 : Hid (((acc s k).length + 2) * 1 ≤ 140737488355328) := by show ((acc s k).length + 2) * 1 ≤ 140737488355328; omega
        have hesc : Hid (([.int .u8 92, .int .u8 116] : List Value) = (escL ((bl s).getD k 0)).map u8v) := by show _ = _; rw [hesc0]; rfl
        clear hesc0 h34 h10 h9
        go_wp2_with (first | (at_builtin; refine wpList_append_own _ rfl (.tmp 48) (.tmp 49) 65 rfl w.heap.size 5 ib (.int .u8 0) 1 1 Tryd.underlying65 hib hz0 hz1 hz2 rfl (by decide) _ (acc s k).length _ rfl (hown.out.alloc _) ⟨wr.heap.size, 0, none⟩ 2 2 [.int .u8 92, .int .u8 116] rfl rfl (own_cells_row rfl rfl) (by intro u hu; simp at hu; rcases hu with rfl | rfl <;> rfl) h63.out h64.out (by rw [World.size_alloc]; have := hb.out.size; omega) ?_))
        intro v2 w4 hown4 hgrow4 hv2
        have hb4 : Hid (Below w.heap.size w w4) := own_grown hown.out hb.out hgrow4
        have hown5 : Hid (w4.ownsRow w.heap.size 5 1 v2 (acc s (k + 1)).length ((acc s (k + 1)).map u8v)) := own_esc hown4 hlt hesc.out rfl
        clear hown4 hgrow4 hv2 hesc
        go_wp2_with fail
        go_roundw
        case rel => exact ⟨k + 1, by omega, by go_num, hown5, hb4⟩
        case measure => simp [intOf]; omega
      by_cases hpr : 32 ≤ bat s k ∧ bat s k ≤ 126
      · have hesc0 := esc_p ((bl s).getD k 0) h34 hpr
        have g1 : (bat s k == 34) = false := by rw [beq_eq_false_iff_ne]; omega
        have g2 : (bat s k == 92) = false := by rw [beq_eq_false_iff_ne]; omega
        have g3 : (bat s k == 10) = false := by rw [beq_eq_false_iff_ne]; omega
        have g4 : (bat s k == 9) = false := by rw [beq_eq_false_iff_ne]; omega
        obtain ⟨hp1, hp2⟩ := hpr
        have h63 : Hid ((acc s k).length + 1 ≤ maxLen) := by show (acc s k).length + 1 ≤ maxLen; unfold maxLen; omega
        have h64 : Hid (((acc s k).length + 1) * 1 ≤ 140737488355328) := by show ((acc s k).length + 1) * 1 ≤ 140737488355328; omega
        have hesc : Hid (([(.int .u8 (bat s k))] : List Value) = (escL ((bl s).getD k 0)).map u8v) := by show _ = _; rw [hesc0]; rfl
        clear hesc0 h34 h10 h9
        go_wp2_with (first | (at_builtin; refine wpList_append_own _ rfl (.tmp 58) (.tmp 60) 65 rfl w.heap.size 5 ib (.int .u8 0) 1 1 Tryd.underlying65 hib hz0 hz1 hz2 rfl (by decide) _ (acc s k).length _ rfl (hown.out.alloc _) ⟨wr.heap.size, 0, none⟩ 1 1 [(.int .u8 (bat s k))] rfl rfl (own_cells_row rfl rfl) (by intro u hu; simp at hu; subst hu; rfl) h63.out h64.out (by rw [World.size_alloc]; have := hb.out.size; omega) ?_))
        intro v2 w4 hown4 hgrow4 hv2
        have hb4 : Hid (Below w.heap.size w w4) := own_grown hown.out hb.out hgrow4
        have hown5 : Hid (w4.ownsRow w.heap.size 5 1 v2 (acc s (k + 1)).length ((acc s (k + 1)).map u8v)) := own_esc hown4 hlt hesc.out rfl
        clear hown4 hgrow4 hv2 hesc
        go_wp2_with fail
        go_roundw
        case rel => exact ⟨k + 1, by omega, by go_num, hown5, hb4⟩
        case measure => simp [intOf]; omega
      have hesc0 := esc_x ((bl s).getD k 0) h34 h10 h9 hpr
      by_cases h32 : 32 ≤ bat s k
      · have h126 : ¬ bat s k ≤ 126 := by omega
        have g1 : (bat s k == 34) = false := by rw [beq_eq_false_iff_ne]; omega
        have g2 : (bat s k == 92) = false := by rw [beq_eq_false_iff_ne]; omega
        have g3 : (bat s k == 10) = false := by rw [beq_eq_false_iff_ne]; omega
        have g4 : (bat s k == 9) = false := by rw [beq_eq_false_iff_ne]; omega
        have hh1 := hexI_range (bat s k / 16) (by omega) (by omega)
        have hh2 := hexI_range (bat s k % 16) (by omega) (by omega)
        have hx1 := fun w => run_hex (bat s k / 16) (by omega) (by omega) w
        have hx2 := fun w => run_hex (bat s k % 16) (by omega) (by omega) w
        have v1 : IntKind.u8.wrap ((bat s k).tdiv 16) = bat s k / 16 := u8_quo _ hr1 hr2
        have v2 : (bat s k).tmod 16 = bat s k % 16 := Int.tmod_eq_emod_of_nonneg hr1
        have h63 : Hid ((acc s k).length + 4 ≤ maxLen) := by show (acc s k).length + 4 ≤ maxLen; unfold maxLen; omega
        have h64 : Hid (((acc s k).length + 4) * 1 ≤ 140737488355328) := by show ((acc s k).length + 4) * 1 ≤ 140737488355328; omega
        have hesc : Hid (([.int .u8 92, .int .u8 120, .int .u8 (hexI (bat s k / 16)), .int .u8 (hexI (bat s k % 16))] : List Value) = (escL ((bl s).getD k 0)).map u8v) := by show _ = _; rw [hesc0, bi_getD]; show _ = [u8v 92, u8v 120, u8v _, u8v _]; rw [u8v_byteI _ hh1.1 hh1.2, u8v_byteI _ hh2.1 hh2.2]; rfl
        clear hesc0 h34 h10 h9 hpr hh1 hh2
        go_wp2_with fail
        go_region_law ((refine step_append_lies _ rfl (.tmp 18) (.tmp 25) 65 rfl w.heap.size 5 ib (.int .u8 0) 1 1 Tryd.underlying65 hib hz0 hz1 hz2 rfl (by decide) _ (acc s k).length _ rfl (own_al_drew _ hown.out) ⟨wr.heap.size, 0, none⟩ 4 4 [.int .u8 92, .int .u8 120, .int .u8 (hexI (bat s k / 16)), .int .u8 (hexI (bat s k % 16))] rfl rfl (own_cells_row (w := wr) rfl rfl) (by intro u hu; simp at hu; rcases hu with rfl | rfl | rfl | rfl <;> rfl) (by decide) h63.out h64.out (le_al_drew _ hb.out.size) _ rfl ?_; intro g4 c4 w4 hown4 hgrow4 hat4 hlt4))
        all_goals
          have hb4 : Hid (Below w.heap.size w w4) := own_grown_d hown.out hb.out hgrow4
          have hown5 : Hid (w4.ownsRow w.heap.size 5 1 (.slice (some ⟨g4, 0, none⟩) ((acc s k).length + 4) c4) (acc s (k + 1)).length ((acc s (k + 1)).map u8v)) := own_esc hown4 hlt hesc.out rfl
          clear hown4 hgrow4 hat4 hlt4 hesc
          go_wp2_with fail
          go_roundw
          case rel => exact ⟨k + 1, by omega, by go_num, hown5, hb4⟩
          case measure => simp [intOf]; omega
      · skip
        have g1 : (bat s k == 34) = false := by rw [beq_eq_false_iff_ne]; omega
        have g2 : (bat s k == 92) = false := by rw [beq_eq_false_iff_ne]; omega
        have g3 : (bat s k == 10) = false := by rw [beq_eq_false_iff_ne]; omega
        have g4 : (bat s k == 9) = false := by rw [beq_eq_false_iff_ne]; omega
        have hh1 := hexI_range (bat s k / 16) (by omega) (by omega)
        have hh2 := hexI_range (bat s k % 16) (by omega) (by omega)
        have hx1 := fun w => run_hex (bat s k / 16) (by omega) (by omega) w
        have hx2 := fun w => run_hex (bat s k % 16) (by omega) (by omega) w
        have v1 : IntKind.u8.wrap ((bat s k).tdiv 16) = bat s k / 16 := u8_quo _ hr1 hr2
        have v2 : (bat s k).tmod 16 = bat s k % 16 := Int.tmod_eq_emod_of_nonneg hr1
        have h63 : Hid ((acc s k).length + 4 ≤ maxLen) := by show (acc s k).length + 4 ≤ maxLen; unfold maxLen; omega
        have h64 : Hid (((acc s k).length + 4) * 1 ≤ 140737488355328) := by show ((acc s k).length + 4) * 1 ≤ 140737488355328; omega
        have hesc : Hid (([.int .u8 92, .int .u8 120, .int .u8 (hexI (bat s k / 16)), .int .u8 (hexI (bat s k % 16))] : List Value) = (escL ((bl s).getD k 0)).map u8v) := by show _ = _; rw [hesc0, bi_getD]; show _ = [u8v 92, u8v 120, u8v _, u8v _]; rw [u8v_byteI _ hh1.1 hh1.2, u8v_byteI _ hh2.1 hh2.2]; rfl
        clear hesc0 h34 h10 h9 hpr hh1 hh2
        go_wp2_with fail
        go_region_law ((refine step_append_lies _ rfl (.tmp 18) (.tmp 25) 65 rfl w.heap.size 5 ib (.int .u8 0) 1 1 Tryd.underlying65 hib hz0 hz1 hz2 rfl (by decide) _ (acc s k).length _ rfl (own_al_drew _ hown.out) ⟨wr.heap.size, 0, none⟩ 4 4 [.int .u8 92, .int .u8 120, .int .u8 (hexI (bat s k / 16)), .int .u8 (hexI (bat s k % 16))] rfl rfl (own_cells_row (w := wr) rfl rfl) (by intro u hu; simp at hu; rcases hu with rfl | rfl | rfl | rfl <;> rfl) (by decide) h63.out h64.out (le_al_drew _ hb.out.size) _ rfl ?_; intro g4 c4 w4 hown4 hgrow4 hat4 hlt4))
        all_goals
          have hb4 : Hid (Below w.heap.size w w4) := own_grown_d hown.out hb.out hgrow4
          have hown5 : Hid (w4.ownsRow w.heap.size 5 1 (.slice (some ⟨g4, 0, none⟩) ((acc s k).length + 4) c4) (acc s (k + 1)).length ((acc s (k + 1)).map u8v)) := own_esc hown4 hlt hesc.out rfl
          clear hown4 hgrow4 hat4 hlt4 hesc
          go_wp2_with fail
          go_roundw
          case rel => exact ⟨k + 1, by omega, by go_num, hown5, hb4⟩
          case measure => simp [intOf]; omega
    · have hke : k = s.size := by omega
      have h63 : Hid ((acc s k).length + 1 ≤ maxLen) := by show (acc s k).length + 1 ≤ maxLen; unfold maxLen; omega
      have h64 : Hid (((acc s k).length + 1) * 1 ≤ 140737488355328) := by show ((acc s k).length + 1) * 1 ≤ 140737488355328; omega
      replace hke := Lib.hid hke
      go_wp2_with (first | (at_builtin; refine wpList_append_own _ rfl (.tmp 62) (.tmp 63) 65 rfl w.heap.size 5 ib (.int .u8 0) 1 1 Tryd.underlying65 hib hz0 hz1 hz2 rfl (by decide) _ (acc s k).length _ rfl (hown.out.alloc _) ⟨wr.heap.size, 0, none⟩ 1 1 [.int .u8 34] rfl rfl (own_cells_row rfl rfl) (by intro u hu; simp at hu; subst hu; rfl) h63.out h64.out (by rw [World.size_alloc]; have := hb.out.size; omega) ?_))
      intro v2 w4 hown4 hgrow4 hv2
      have hb4 : Hid (Below w.heap.size w w4) := own_grown hown.out hb.out hgrow4
      have hconv := run_string_own (P := Tryd.prog) Tryd.underlying65 Tryd.underlying5 Tryd.underlying9 (own_fin hown4 hke.out)
      clear hown4 hgrow4 hv2
      go_wp2_with fail
      go_ret
      exact ⟨rfl, hb4.out⟩
end Go.Proofs.YtclioihichcpiaaDoor
