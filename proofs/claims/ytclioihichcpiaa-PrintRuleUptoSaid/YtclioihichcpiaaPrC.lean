/- Print: the document's words of layer 8 (printed by gen_prc.py). -/
import Derived.Test.YtclioihichcpiaaLexD
namespace Go.Proofs.Ytclioihichcpiaa
open Go.RowKit Lx

theorem rp_small (c : Int) (w : World) : Calls Try.prog 75 #[.int .u8 c] w fun e w' => e = .returned (.bool (smallB c)) ∧ w = w' := by
  go_enter Try.func75, Try.ntmps75
  go_wp2
  all_goals go_ret
  all_goals exact ⟨ret_bool (by unfold smallB; rw [Bool.eq_iff_iff]; simp <;> omega), rfl⟩

theorem rp_great (c : Int) (w : World) : Calls Try.prog 76 #[.int .u8 c] w fun e w' => e = .returned (.bool (greatB c)) ∧ w = w' := by
  go_enter Try.func76, Try.ntmps76
  go_wp2
  all_goals go_ret
  all_goals exact ⟨ret_bool (by unfold greatB; rw [Bool.eq_iff_iff]; simp <;> omega), rfl⟩

theorem rp_digit (c : Int) (w : World) : Calls Try.prog 83 #[.int .u8 c] w fun e w' => e = .returned (.bool (digitB c)) ∧ w = w' := by
  go_enter Try.func83, Try.ntmps83
  go_wp2
  all_goals go_ret
  all_goals exact ⟨ret_bool (by unfold digitB; rw [Bool.eq_iff_iff]; simp <;> omega), rfl⟩

theorem rp_Reserved (s : ByteArray) (w : World) : Calls Try.prog 63 #[.string s] w fun e w' => e = .returned (.bool (reservedB (bl s))) ∧ w = w' := by
  have g1 := eq_str s sInput
  have g2 := eq_str s sOutput
  have g3 := eq_str s sNot
  unfold sInput at g1
  unfold sOutput at g2
  unfold sNot at g3
  have h5 : Hid (reservedB (bl s) = (decide (bl s = sInput) || decide (bl s = sOutput) || decide (bl s = sNot))) := by
    show _ = _; unfold reservedB; rw [Bool.eq_iff_iff]; simp
  unfold sInput sOutput sNot at h5
  go_enter Try.func63, Try.ntmps63
  go_wp2
  all_goals go_ret
  all_goals exact ⟨ret_bool (by rw [h5.out]; simp_all), rfl⟩

theorem rp_goes (c : Int) (w : World) : Calls Try.prog 77 #[.int .u8 c] w fun e w' => e = .returned (.bool (letterB c)) ∧ w = w' := by
  go_enter Try.func77, Try.ntmps77
  go_wp2_with (first
    | (go_at_call 75; refine (rp_small _ _).mono ?_; rintro e w' ⟨rfl, rfl⟩)
    | (go_at_call 76; refine (rp_great _ _).mono ?_; rintro e w' ⟨rfl, rfl⟩)
    | (go_at_call 83; refine (rp_digit _ _).mono ?_; rintro e w' ⟨rfl, rfl⟩))
  all_goals go_ret
  all_goals exact ⟨ret_bool (by unfold letterB; simp_all [smallB, greatB, digitB] <;> (rw [Bool.eq_iff_iff]; simp <;> omega)), rfl⟩
set_option maxHeartbeats 800000 in
theorem rp_word_true (s : ByteArray) (w : World) (hs : s.size ≤ 140737488355328) : Calls Try.prog 62 #[.string s, .bool true] w fun e w' => e = .returned (.bool (writtenB (bl s) && firstB smallB (bl s))) ∧ w = w' := by
  by_cases h1 : 1 ≤ s.size ∧ s.size ≤ 64
  · obtain ⟨h1, h64⟩ := h1
    have hidx0 := fun w => run_index_str0 (P := Try.prog) Try.underlying9 s h1 w
    have hf := firstB_bat smallB s h1
    have hlen : Hid (writtenB (bl s) = allB letterB (bl s)) := Lib.hid (by unfold writtenB; rw [bl_length]; simp [h1, h64])
    by_cases hp : smallB (bat s 0) = true
    · have hp0 : Hid (allB letterB ((bl s).take 1) = true) := Lib.hid (by
        rw [allB_take letterB s 0 h1]
        have : letterB (bat s 0) = true := by unfold letterB; unfold smallB at hp; simp only [decide_eq_true_eq] at hp ⊢; omega
        rw [this]; simp [allB])
      replace hf := Lib.hid (hf.trans hp)
      go_enter Try.func62, Try.ntmps62
      go_wp2_with (go_at_call 75; refine (rp_small _ _).mono ?_; rintro e w' ⟨rfl, rfl⟩)
      go_loop [5] (fun i => ∃ j : Nat, 1 ≤ j ∧ j ≤ s.size ∧ i = .int .i64 j ∧ Hid (allB letterB ((bl s).take j) = true)) (fun i => s.size - (intOf i).toNat)
      case atStart => exact ⟨1, Nat.le_refl _, h1, rfl, hp0⟩
      case round =>
        obtain ⟨j, hj1, hj, rfl, he⟩ := hrel
        by_cases hlt : j < s.size
        · have hidx := fun w => run_index_str (P := Try.prog) Try.underlying9 s j hlt w
          by_cases hl : letterB (bat s j) = true
          · have h5 : Hid (allB letterB ((bl s).take (j + 1)) = true) := Lib.hid (by rw [allB_take _ s j hlt, he.out, hl]; rfl)
            clear he
            go_wp2_with (go_at_call 77; refine (rp_goes _ _).mono ?_; rintro e w' ⟨rfl, rfl⟩)
            go_round
            case rel => exact ⟨j + 1, by omega, by omega, by go_num, h5⟩
            case measure => simp [intOf]; omega
          · have hl2 : letterB (bat s j) = false := by simpa using hl
            have h5 : Hid ((writtenB (bl s) && firstB smallB (bl s)) = false) := Lib.hid (by rw [hlen.out, allB_at _ s j hlt hl2]; rfl)
            clear he hl
            go_wp2_with (go_at_call 77; refine (rp_goes _ _).mono ?_; rintro e w' ⟨rfl, rfl⟩)
            go_ret
            exact ⟨ret_bool h5.out.symm, rfl⟩
        · have h5 : Hid ((writtenB (bl s) && firstB smallB (bl s)) = true) := Lib.hid (by rw [hlen.out, ← allB_full _ s j (by omega), he.out, hf.out]; rfl)
          clear he
          go_wp2
          go_ret
          exact ⟨ret_bool h5.out.symm, rfl⟩
    · have hp' : smallB (bat s 0) = false := by simpa using hp
      have h5 : Hid ((writtenB (bl s) && firstB smallB (bl s)) = false) := Lib.hid (by rw [hf, hp', Bool.and_false])
      clear hp hf
      go_enter Try.func62, Try.ntmps62
      go_wp2_with (go_at_call 75; refine (rp_small _ _).mono ?_; rintro e w' ⟨rfl, rfl⟩)
      go_ret
      exact ⟨ret_bool h5.out.symm, rfl⟩
  · have h5 : Hid ((writtenB (bl s) && firstB smallB (bl s)) = false) := Lib.hid (by unfold writtenB; rw [bl_length]; simp; omega)
    by_cases h0 : s.size < 1
    · clear h1
      go_enter Try.func62, Try.ntmps62
      go_wp2
      go_ret
      exact ⟨ret_bool h5.out.symm, rfl⟩
    · have h64 : 64 < s.size := by omega
      clear h1
      go_enter Try.func62, Try.ntmps62
      go_wp2
      go_ret
      exact ⟨ret_bool h5.out.symm, rfl⟩
set_option maxHeartbeats 800000 in
theorem rp_word_false (s : ByteArray) (w : World) (hs : s.size ≤ 140737488355328) : Calls Try.prog 62 #[.string s, .bool false] w fun e w' => e = .returned (.bool (writtenB (bl s) && firstB greatB (bl s))) ∧ w = w' := by
  by_cases h1 : 1 ≤ s.size ∧ s.size ≤ 64
  · obtain ⟨h1, h64⟩ := h1
    have hidx0 := fun w => run_index_str0 (P := Try.prog) Try.underlying9 s h1 w
    have hf := firstB_bat greatB s h1
    have hlen : Hid (writtenB (bl s) = allB letterB (bl s)) := Lib.hid (by unfold writtenB; rw [bl_length]; simp [h1, h64])
    by_cases hp : greatB (bat s 0) = true
    · have hp0 : Hid (allB letterB ((bl s).take 1) = true) := Lib.hid (by
        rw [allB_take letterB s 0 h1]
        have : letterB (bat s 0) = true := by unfold letterB; unfold greatB at hp; simp only [decide_eq_true_eq] at hp ⊢; omega
        rw [this]; simp [allB])
      replace hf := Lib.hid (hf.trans hp)
      go_enter Try.func62, Try.ntmps62
      go_wp2_with (go_at_call 76; refine (rp_great _ _).mono ?_; rintro e w' ⟨rfl, rfl⟩)
      go_loop [5] (fun i => ∃ j : Nat, 1 ≤ j ∧ j ≤ s.size ∧ i = .int .i64 j ∧ Hid (allB letterB ((bl s).take j) = true)) (fun i => s.size - (intOf i).toNat)
      case atStart => exact ⟨1, Nat.le_refl _, h1, rfl, hp0⟩
      case round =>
        obtain ⟨j, hj1, hj, rfl, he⟩ := hrel
        by_cases hlt : j < s.size
        · have hidx := fun w => run_index_str (P := Try.prog) Try.underlying9 s j hlt w
          by_cases hl : letterB (bat s j) = true
          · have h5 : Hid (allB letterB ((bl s).take (j + 1)) = true) := Lib.hid (by rw [allB_take _ s j hlt, he.out, hl]; rfl)
            clear he
            go_wp2_with (go_at_call 77; refine (rp_goes _ _).mono ?_; rintro e w' ⟨rfl, rfl⟩)
            go_round
            case rel => exact ⟨j + 1, by omega, by omega, by go_num, h5⟩
            case measure => simp [intOf]; omega
          · have hl2 : letterB (bat s j) = false := by simpa using hl
            have h5 : Hid ((writtenB (bl s) && firstB greatB (bl s)) = false) := Lib.hid (by rw [hlen.out, allB_at _ s j hlt hl2]; rfl)
            clear he hl
            go_wp2_with (go_at_call 77; refine (rp_goes _ _).mono ?_; rintro e w' ⟨rfl, rfl⟩)
            go_ret
            exact ⟨ret_bool h5.out.symm, rfl⟩
        · have h5 : Hid ((writtenB (bl s) && firstB greatB (bl s)) = true) := Lib.hid (by rw [hlen.out, ← allB_full _ s j (by omega), he.out, hf.out]; rfl)
          clear he
          go_wp2
          go_ret
          exact ⟨ret_bool h5.out.symm, rfl⟩
    · have hp' : greatB (bat s 0) = false := by simpa using hp
      have h5 : Hid ((writtenB (bl s) && firstB greatB (bl s)) = false) := Lib.hid (by rw [hf, hp', Bool.and_false])
      clear hp hf
      go_enter Try.func62, Try.ntmps62
      go_wp2_with (go_at_call 76; refine (rp_great _ _).mono ?_; rintro e w' ⟨rfl, rfl⟩)
      go_ret
      exact ⟨ret_bool h5.out.symm, rfl⟩
  · have h5 : Hid ((writtenB (bl s) && firstB greatB (bl s)) = false) := Lib.hid (by unfold writtenB; rw [bl_length]; simp; omega)
    by_cases h0 : s.size < 1
    · clear h1
      go_enter Try.func62, Try.ntmps62
      go_wp2
      go_ret
      exact ⟨ret_bool h5.out.symm, rfl⟩
    · have h64 : 64 < s.size := by omega
      clear h1
      go_enter Try.func62, Try.ntmps62
      go_wp2
      go_ret
      exact ⟨ret_bool h5.out.symm, rfl⟩
theorem rp_Name (s : ByteArray) (w : World) (hs : s.size ≤ 140737488355328) : Calls Try.prog 44 #[.string s] w fun e w' => e = .returned (.bool (nameB (bl s))) ∧ w = w' := by
  cases hb : (writtenB (bl s) && firstB smallB (bl s)) with
  | true =>
    have h5 : Hid (nameB (bl s) = !reservedB (bl s)) := Lib.hid (by unfold nameB; simp only [Bool.and_eq_true] at hb; rw [hb.1, hb.2]; simp)
    have hc := rp_word_true s w hs
    rw [hb] at hc
    replace hb := Lib.hid hb
    replace hc := Lib.hid hc
    go_enter Try.func44, Try.ntmps44
    go_wp2_with (first
      | (go_at_call 62; refine hc.out.mono ?_; rintro e w' ⟨rfl, rfl⟩)
      | (go_at_call 63; refine (rp_Reserved _ _).mono ?_; rintro e w' ⟨rfl, rfl⟩))
    go_ret
    exact ⟨ret_bool h5.out.symm, rfl⟩
  | false =>
    have h5 : Hid (nameB (bl s) = false) := Lib.hid (by unfold nameB; rw [← Bool.and_assoc, hb]; rfl)
    have hc := rp_word_true s w hs
    rw [hb] at hc
    replace hb := Lib.hid hb
    replace hc := Lib.hid hc
    go_enter Try.func44, Try.ntmps44
    go_wp2_with (go_at_call 62; refine hc.out.mono ?_; rintro e w' ⟨rfl, rfl⟩)
    go_ret
    exact ⟨ret_bool h5.out.symm, rfl⟩
theorem rp_Variable (s : ByteArray) (w : World) (hs : s.size ≤ 140737488355328) : Calls Try.prog 60 #[.string s] w fun e w' => e = .returned (.bool (variableB (bl s))) ∧ w = w' := by
  go_enter Try.func60, Try.ntmps60
  go_wp2_with (go_at_call 62; refine (rp_word_false _ _ hs).mono ?_; rintro e w' ⟨rfl, rfl⟩)
  go_ret
  exact ⟨rfl, rfl⟩
end Go.Proofs.Ytclioihichcpiaa
