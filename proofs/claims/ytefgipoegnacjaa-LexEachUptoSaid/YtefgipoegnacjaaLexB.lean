/- Words: their kinds; the program's and the reference's. -/
import Derived.Test.YtefgipoegnacjaaProg
import Derived.Test.YtefgipoegnacjaaBase
import Derived.Test.YtefgipoegnacjaaLexSpec
import Derived.Test.YtefgipoegnacjaaLexA
namespace Go.Proofs.Ytefgipoegnacjaa
open Go.RowKit Lx

theorem bl_inj {a b : ByteArray} (h : bl a = bl b) : a = b := by rw [← mk_bl a, ← mk_bl b, h]
theorem toList_bl (s : ByteArray) : s.toList = bl s := ByteArray.toList_eq s
theorem eq_str (s : ByteArray) (l : Bs) : (s.toList == l) = decide (bl s = l) := by
  rw [toList_bl, Bool.eq_iff_iff]; simp
theorem allB_take (p : Int → Bool) (s : ByteArray) (j : Nat) (h : j < s.size) : allB p ((bl s).take (j + 1)) = (allB p ((bl s).take j) && p (bat s j)) := by
  have h' : j < (bl s).length := by rw [bl_length]; exact h
  unfold allB
  rw [List.take_succ_eq_append_getElem h', List.all_append]
  simp only [List.all_cons, List.all_nil, Bool.and_true]
  rw [← bi_getD, List.getD_eq_getElem?_getD, List.getElem?_eq_getElem h']
  rfl
theorem allB_full (p : Int → Bool) (s : ByteArray) (j : Nat) (h : s.size ≤ j) : allB p ((bl s).take j) = allB p (bl s) := by
  rw [List.take_of_length_le (by rw [bl_length]; exact h)]
theorem allB_at (p : Int → Bool) (s : ByteArray) (j : Nat) (h : j < s.size) (hp : p (bat s j) = false) : allB p (bl s) = false := by
  unfold allB
  rw [List.all_eq_false]
  have h' : j < (bl s).length := by rw [bl_length]; exact h
  refine ⟨(bl s)[j], List.getElem_mem h', ?_⟩
  rw [← bi_getD, List.getD_eq_getElem?_getD, List.getElem?_eq_getElem h'] at hp
  simp only [Option.getD_some] at hp
  rw [hp]; simp
theorem firstB_bat (p : Int → Bool) (s : ByteArray) (h : 0 < s.size) : firstB p (bl s) = p (bat s 0) := by
  have := drop_bl s 0 h
  rw [List.drop_zero] at this
  rw [this]; rfl
theorem run_index_str0 {P : Program} {T : TypeId} (hT : P.underlying T = some .string) (s : ByteArray) (h : 0 < s.size) (w : World) :
    (Instr.index T (.string s) (.int .i64 0)).run P w = .ok (.int .u8 (bat s 0)) w := by simpa using run_index_str hT s 0 h w
theorem written_size {s : ByteArray} (h : writtenB (bl s) = true) : 1 ≤ s.size ∧ s.size ≤ 64 := by
  unfold writtenB at h; simp at h; exact h.2

theorem rx_small (c : Int) (w : World) : Calls Try.prog 37 #[.int .u8 c] w fun e w' => e = .returned (.bool (smallB c)) ∧ w = w' := by
  go_enter Try.func37, Try.ntmps37
  go_wp2
  all_goals go_ret
  all_goals exact ⟨ret_bool (by unfold smallB; rw [Bool.eq_iff_iff]; simp <;> omega), rfl⟩

theorem rx_great (c : Int) (w : World) : Calls Try.prog 38 #[.int .u8 c] w fun e w' => e = .returned (.bool (greatB c)) ∧ w = w' := by
  go_enter Try.func38, Try.ntmps38
  go_wp2
  all_goals go_ret
  all_goals exact ⟨ret_bool (by unfold greatB; rw [Bool.eq_iff_iff]; simp <;> omega), rfl⟩

theorem rx_digit (c : Int) (w : World) : Calls Try.prog 39 #[.int .u8 c] w fun e w' => e = .returned (.bool (digitB c)) ∧ w = w' := by
  go_enter Try.func39, Try.ntmps39
  go_wp2
  all_goals go_ret
  all_goals exact ⟨ret_bool (by unfold digitB; rw [Bool.eq_iff_iff]; simp <;> omega), rfl⟩

set_option maxHeartbeats 800000 in
theorem rx_letter (c : Int) (w : World) : Calls Try.prog 48 #[.int .u8 c] w fun e w' => e = .returned (.bool (letterB c)) ∧ w = w' := by
  go_enter Try.func48, Try.ntmps48
  go_wp2_with (first
    | (go_at_call 37; refine (rx_small _ _).mono ?_; rintro e w' ⟨rfl, rfl⟩)
    | (go_at_call 38; refine (rx_great _ _).mono ?_; rintro e w' ⟨rfl, rfl⟩)
    | (go_at_call 39; refine (rx_digit _ _).mono ?_; rintro e w' ⟨rfl, rfl⟩))
  all_goals go_ret
  all_goals exact ⟨ret_bool (by simp_all [letterB, smallB, greatB, digitB]; try (rw [Bool.eq_iff_iff]; simp <;> omega)), rfl⟩

theorem rx_half (c : Int) (w : World) (h0 : 0 ≤ c) (h1 : c < 256) : Calls Try.prog 51 #[.int .u8 c] w fun e w' => e = .returned (.int .i64 (halfI c)) ∧ w = w' := by
  go_enter Try.func51, Try.ntmps51
  go_wp2_with (first
    | (go_at_call 39; refine (rx_digit _ _).mono ?_; rintro e w' ⟨rfl, rfl⟩))
  all_goals go_ret
  all_goals exact ⟨ret_int (by simp_all [digitB]; unfold halfI; split <;> (try split) <;> omega), rfl⟩

set_option maxHeartbeats 800000 in
theorem rx_written (s : ByteArray) (w : World) (hs : s.size ≤ 140737488355328) : Calls Try.prog 36 #[.string s] w fun e w' => e = .returned (.bool (writtenB (bl s))) ∧ w = w' := by
  go_enter Try.func36, Try.ntmps36
  go_wp2
  go_loop [3] (fun i => ∃ j : Nat, j ≤ s.size ∧ i = .int .i64 j ∧ Hid (allB letterB ((bl s).take j) = true)) (fun i => s.size - (intOf i).toNat)
  case atStart => exact ⟨0, Nat.zero_le _, rfl, rfl⟩
  case round =>
    obtain ⟨j, hj, rfl, he⟩ := hrel
    by_cases hlt : j < s.size
    · have hidx := fun w => run_index_str (P := Try.prog) Try.underlying9 s j hlt w
      by_cases hl : letterB (bat s j) = true
      · have h5 : Hid (allB letterB ((bl s).take (j + 1)) = true) := by rw [allB_take _ s j hlt, he.out, hl]; rfl
        clear he
        go_wp2_with (go_at_call 48; refine (rx_letter _ _).mono ?_; rintro e w' ⟨rfl, rfl⟩)
        go_round
        case rel => exact ⟨j + 1, by omega, by go_num, h5⟩
        case measure => simp [intOf]; omega
      · have hl2 : letterB (bat s j) = false := by simpa using hl
        have h5 : Hid (writtenB (bl s) = false) := by unfold writtenB; rw [allB_at _ s j hlt hl2]; rfl
        clear he hl
        go_wp2_with (go_at_call 48; refine (rx_letter _ _).mono ?_; rintro e w' ⟨rfl, rfl⟩)
        go_ret
        exact ⟨ret_bool h5.out.symm, rfl⟩
    · have h5 : Hid (allB letterB (bl s) = true) := by rw [← he.out, allB_full _ s j (by omega)]; rfl
      clear he
      by_cases h1 : 1 ≤ s.size
      all_goals
        go_wp2
        go_ret
        exact ⟨ret_bool (by unfold writtenB; rw [h5.out, bl_length, Bool.eq_iff_iff]; simp <;> omega), rfl⟩

set_option maxHeartbeats 800000 in
theorem rx_Number (s : ByteArray) (w : World) (hs : s.size ≤ 140737488355328) : Calls Try.prog 25 #[.string s] w fun e w' => e = .returned (.bool (numberB (bl s))) ∧ w = w' := by
  go_enter Try.func25, Try.ntmps25
  go_wp2
  go_loop [3] (fun i => ∃ j : Nat, j ≤ s.size ∧ i = .int .i64 j ∧ Hid (allB digitB ((bl s).take j) = true)) (fun i => s.size - (intOf i).toNat)
  case atStart => exact ⟨0, Nat.zero_le _, rfl, rfl⟩
  case round =>
    obtain ⟨j, hj, rfl, he⟩ := hrel
    by_cases hlt : j < s.size
    · have hidx := fun w => run_index_str (P := Try.prog) Try.underlying9 s j hlt w
      by_cases hl : digitB (bat s j) = true
      · have h5 : Hid (allB digitB ((bl s).take (j + 1)) = true) := by rw [allB_take _ s j hlt, he.out, hl]; rfl
        clear he
        go_wp2_with (go_at_call 39; refine (rx_digit _ _).mono ?_; rintro e w' ⟨rfl, rfl⟩)
        go_round
        case rel => exact ⟨j + 1, by omega, by go_num, h5⟩
        case measure => simp [intOf]; omega
      · have hl2 : digitB (bat s j) = false := by simpa using hl
        have h5 : Hid (numberB (bl s) = false) := by unfold numberB; rw [allB_at _ s j hlt hl2]; rfl
        clear he hl
        go_wp2_with (go_at_call 39; refine (rx_digit _ _).mono ?_; rintro e w' ⟨rfl, rfl⟩)
        go_ret
        exact ⟨ret_bool h5.out.symm, rfl⟩
    · have h5 : Hid (allB digitB (bl s) = true) := by rw [← he.out, allB_full _ s j (by omega)]; rfl
      clear he
      by_cases h1 : 1 ≤ s.size
      all_goals
        go_wp2
        go_ret
        exact ⟨ret_bool (by unfold numberB; rw [h5.out, bl_length, Bool.eq_iff_iff]; simp <;> omega), rfl⟩

theorem lx_Reserved (s : ByteArray) (w : World) : Calls Try.prog 21 #[.string s] w fun e w' => e = .returned (.bool (reservedB (bl s))) ∧ w = w' := by
  have g1 := eq_str s sInput
  have g2 := eq_str s sOutput
  have g3 := eq_str s sNot
  unfold sInput at g1
  unfold sOutput at g2
  unfold sNot at g3
  have h5 : Hid (reservedB (bl s) = (decide (bl s = sInput) || decide (bl s = sOutput) || decide (bl s = sNot))) := by
    show _ = _; unfold reservedB; rw [Bool.eq_iff_iff]; simp
  unfold sInput sOutput sNot at h5
  go_enter Try.func21, Try.ntmps21
  go_wp2
  all_goals go_ret
  all_goals exact ⟨ret_bool (by rw [h5.out]; simp_all), rfl⟩

theorem lx_Constant (s : ByteArray) (w : World) (hs : s.size ≤ 140737488355328) : Calls Try.prog 17 #[.string s] w fun e w' => e = .returned (.bool (decide ((bl s).length ≤ 1024))) ∧ w = w' := by
  go_enter Try.func17, Try.ntmps17
  go_wp2
  go_ret
  exact ⟨ret_bool (by rw [bl_length, Bool.eq_iff_iff]; simp <;> omega), rfl⟩

theorem rx_Reserved (s : ByteArray) (w : World) : Calls Try.prog 22 #[.string s] w fun e w' => e = .returned (.bool (reservedB (bl s))) ∧ w = w' := by
  have g1 := eq_str s sInput
  have g2 := eq_str s sOutput
  have g3 := eq_str s sNot
  unfold sInput at g1
  unfold sOutput at g2
  unfold sNot at g3
  have h5 : Hid (reservedB (bl s) = (decide (bl s = sInput) || decide (bl s = sOutput) || decide (bl s = sNot))) := by
    show _ = _; unfold reservedB; rw [Bool.eq_iff_iff]; simp
  unfold sInput sOutput sNot at h5
  go_enter Try.func22, Try.ntmps22
  go_wp2
  all_goals go_ret
  all_goals exact ⟨ret_bool (by rw [h5.out]; simp_all), rfl⟩

theorem rx_Constant (s : ByteArray) (w : World) (hs : s.size ≤ 140737488355328) : Calls Try.prog 26 #[.string s] w fun e w' => e = .returned (.bool (decide ((bl s).length ≤ 1024))) ∧ w = w' := by
  go_enter Try.func26, Try.ntmps26
  go_wp2
  go_ret
  exact ⟨ret_bool (by rw [bl_length, Bool.eq_iff_iff]; simp <;> omega), rfl⟩

end Go.Proofs.Ytefgipoegnacjaa
