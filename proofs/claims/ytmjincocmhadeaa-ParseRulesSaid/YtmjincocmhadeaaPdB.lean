/- Parse: the document's names and variables. -/
import Derived.Test.YtmjincocmhadeaaPdA
namespace Go.Proofs.Ytmjincocmhadeaa
open Go.RowKit Lx
theorem r8_small (c : Int) (w : World) : Calls Try.prog 57 #[.int .u8 c] w fun e w' => e = .returned (.bool (smallB c)) ∧ w = w' := by
  go_enter Try.func57, Try.ntmps57
  go_wp2
  all_goals go_ret
  all_goals exact ⟨ret_bool (by unfold smallB; rw [Bool.eq_iff_iff]; simp <;> omega), rfl⟩
theorem r8_great (c : Int) (w : World) : Calls Try.prog 58 #[.int .u8 c] w fun e w' => e = .returned (.bool (greatB c)) ∧ w = w' := by
  go_enter Try.func58, Try.ntmps58
  go_wp2
  all_goals go_ret
  all_goals exact ⟨ret_bool (by unfold greatB; rw [Bool.eq_iff_iff]; simp <;> omega), rfl⟩
theorem r8_digit (c : Int) (w : World) : Calls Try.prog 68 #[.int .u8 c] w fun e w' => e = .returned (.bool (digitB c)) ∧ w = w' := by
  go_enter Try.func68, Try.ntmps68
  go_wp2
  all_goals go_ret
  all_goals exact ⟨ret_bool (by unfold digitB; rw [Bool.eq_iff_iff]; simp <;> omega), rfl⟩
set_option maxHeartbeats 800000 in
theorem r8_goes (c : Int) (w : World) : Calls Try.prog 59 #[.int .u8 c] w fun e w' => e = .returned (.bool (letterB c)) ∧ w = w' := by
  go_enter Try.func59, Try.ntmps59
  go_wp2_with (first
    | (go_at_call 57; refine (r8_small _ _).mono ?_; rintro e w' ⟨rfl, rfl⟩)
    | (go_at_call 58; refine (r8_great _ _).mono ?_; rintro e w' ⟨rfl, rfl⟩)
    | (go_at_call 68; refine (r8_digit _ _).mono ?_; rintro e w' ⟨rfl, rfl⟩))
  all_goals go_ret
  all_goals exact ⟨ret_bool (by simp_all [letterB, smallB, greatB, digitB]; try (rw [Bool.eq_iff_iff]; simp <;> omega)), rfl⟩
theorem r8_Reserved (s : ByteArray) (w : World) : Calls Try.prog 42 #[.string s] w fun e w' => e = .returned (.bool (reservedB (bl s))) ∧ w = w' := by
  have g1 := eq_str s sInput
  have g2 := eq_str s sOutput
  have g3 := eq_str s sNot
  unfold sInput at g1
  unfold sOutput at g2
  unfold sNot at g3
  have h5 : Hid (reservedB (bl s) = (decide (bl s = sInput) || decide (bl s = sOutput) || decide (bl s = sNot))) := by
    show _ = _; unfold reservedB; rw [Bool.eq_iff_iff]; simp
  unfold sInput sOutput sNot at h5
  go_enter Try.func42, Try.ntmps42
  go_wp2
  all_goals go_ret
  all_goals exact ⟨ret_bool (by rw [h5.out]; simp_all), rfl⟩
theorem let_bat {s : ByteArray} (h : writtenB (bl s) = true) (j : Nat) (hj : j < s.size) : letterB (bat s j) = true := by
  unfold writtenB at h
  simp at h
  have h1 := h.1
  unfold allB at h1
  rw [List.all_eq_true] at h1
  have hj' : j < (bl s).length := by rw [bl_length]; exact hj
  have := h1 _ (List.getElem_mem hj')
  unfold bat
  rw [List.getD_eq_getElem?_getD, List.getElem?_eq_getElem hj']
  exact this
theorem first_bat {s : ByteArray} {p : Int → Bool} (h : firstB p (bl s) = true) : p (bat s 0) = true := by
  unfold bat
  cases hb : bl s with
  | nil => rw [hb] at h; cases h
  | cons c r => rw [hb] at h; exact h
set_option maxHeartbeats 400000 in
theorem r8_word (s : ByteArray) (low : Bool) (w : World) (hw : writtenB (bl s) = true) (hf : (if low then smallB (bat s 0) else greatB (bat s 0)) = true) : Calls Try.prog 41 #[.string s, .bool low] w fun e w' => e = .returned (.bool true) ∧ w = w' := by
  obtain ⟨h1, h64⟩ := written_size hw
  have hidx0 := fun w => run_index_str0 (P := Try.prog) Try.underlying9 s h1 w
  have n1 : ¬ s.size < 1 := by omega
  have n2 : ¬ 64 < s.size := by omega
  have hlet := Lib.hid (let_bat hw)
  clear hw
  cases low with
  | true =>
    have hs : smallB (bat s 0) = true := hf
    have hc0 := fun w => r8_small (bat s 0) w
    rw [hs] at hc0
    clear hf hs
    go_enter Try.func41, Try.ntmps41
    go_wp2_with (go_at_call 57; refine (hc0 _).mono ?_; rintro e w' ⟨rfl, rfl⟩)
    go_loop [5] (fun i => ∃ j : Nat, 1 ≤ j ∧ j ≤ s.size ∧ i = .int .i64 j) (fun i => s.size - (intOf i).toNat)
    case atStart => exact ⟨1, Nat.le_refl _, h1, rfl⟩
    case round =>
      obtain ⟨j, hj1, hj, rfl⟩ := hrel
      by_cases hlt : j < s.size
      · have hidx := fun w => run_index_str (P := Try.prog) Try.underlying9 s j hlt w
        have hl := hlet.out j hlt
        have hcj := fun w => r8_goes (bat s j) w
        rw [hl] at hcj
        go_wp2_with (go_at_call 59; refine (hcj _).mono ?_; rintro e w' ⟨rfl, rfl⟩)
        go_round
        case rel => exact ⟨j + 1, by omega, by omega, by go_num⟩
        case measure => simp [intOf]; omega
      · go_wp2
        go_ret
        exact ⟨rfl, rfl⟩
  | false =>
    have hs : greatB (bat s 0) = true := hf
    have hc0 := fun w => r8_great (bat s 0) w
    rw [hs] at hc0
    clear hf hs
    go_enter Try.func41, Try.ntmps41
    go_wp2_with (go_at_call 58; refine (hc0 _).mono ?_; rintro e w' ⟨rfl, rfl⟩)
    go_loop [5] (fun i => ∃ j : Nat, 1 ≤ j ∧ j ≤ s.size ∧ i = .int .i64 j) (fun i => s.size - (intOf i).toNat)
    case atStart => exact ⟨1, Nat.le_refl _, h1, rfl⟩
    case round =>
      obtain ⟨j, hj1, hj, rfl⟩ := hrel
      by_cases hlt : j < s.size
      · have hidx := fun w => run_index_str (P := Try.prog) Try.underlying9 s j hlt w
        have hl := hlet.out j hlt
        have hcj := fun w => r8_goes (bat s j) w
        rw [hl] at hcj
        go_wp2_with (go_at_call 59; refine (hcj _).mono ?_; rintro e w' ⟨rfl, rfl⟩)
        go_round
        case rel => exact ⟨j + 1, by omega, by omega, by go_num⟩
        case measure => simp [intOf]; omega
      · go_wp2
        go_ret
        exact ⟨rfl, rfl⟩
theorem r8_Name (s : ByteArray) (w : World) (h : nameB (bl s) = true) : Calls Try.prog 21 #[.string s] w fun e w' => e = .returned (.bool true) ∧ w = w' := by
  have hrs := fun w => r8_Reserved s w
  rw [name_free _ h] at hrs
  have h' := h
  unfold nameB at h'
  simp at h'
  have hf : (if true then smallB (bat s 0) else greatB (bat s 0)) = true := first_bat h'.2.1
  go_enter Try.func21, Try.ntmps21
  go_wp2_with (first
    | (go_at_call 41; refine (r8_word _ _ _ h'.1 hf).mono ?_; rintro e w' ⟨rfl, rfl⟩)
    | (go_at_call 42; refine (hrs _).mono ?_; rintro e w' ⟨rfl, rfl⟩))
  go_ret
  exact ⟨rfl, rfl⟩
theorem r8_Variable (s : ByteArray) (w : World) (h : variableB (bl s) = true) : Calls Try.prog 60 #[.string s] w fun e w' => e = .returned (.bool true) ∧ w = w' := by
  have h' := h
  unfold variableB at h'
  simp at h'
  have hf : (if false then smallB (bat s 0) else greatB (bat s 0)) = true := first_bat h'.2
  go_enter Try.func60, Try.ntmps60
  go_wp2_with (go_at_call 41; refine (r8_word _ _ _ h'.1 hf).mono ?_; rintro e w' ⟨rfl, rfl⟩)
  go_ret
  exact ⟨rfl, rfl⟩
end Go.Proofs.Ytmjincocmhadeaa
