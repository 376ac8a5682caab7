/- Names, variables, numbers; the reference's word and blanks. -/
import Derived.Test.YtefgipoegnacjaaProg
import Derived.Test.YtefgipoegnacjaaBase
import Derived.Test.YtefgipoegnacjaaLexSpec
import Derived.Test.YtefgipoegnacjaaLexA
import Derived.Test.YtefgipoegnacjaaLexB
import Derived.Test.YtefgipoegnacjaaLexC
namespace Go.Proofs.Ytefgipoegnacjaa
open Go.RowKit Lx

namespace Lx
theorem kind_name (l : Bs) : (kindI l == 1) = nameB l := by
  by_cases hb : allB letterB l = true
  · by_cases hz : 1 ≤ l.length ∧ l.length ≤ 64
    · have hw : writtenB l = true := by unfold writtenB; rw [hb]; simp; omega
      unfold nameB
      rw [hw]
      by_cases hs : firstB smallB l = true
      · rw [kind_small hw hs, hs]
        unfold reservedB
        by_cases h1 : l = sInput
        · rw [if_pos h1]; simp [h1]
        · by_cases h2 : l = sOutput
          · rw [if_neg h1, if_pos h2]; simp [h2]
          · by_cases h3 : l = sNot
            · rw [if_neg h1, if_neg h2, if_pos h3]; simp [h3]
            · rw [if_neg h1, if_neg h2, if_neg h3]; simp [h1, h2, h3]
      · have hs' : firstB smallB l = false := by simpa using hs
        rw [hs']
        cases l with
        | nil => simp at hz
        | cons c r =>
          have hl : letterB (bi c) = true := by unfold allB at hb; simp at hb; exact hb.1
          have hc : ¬ (97 ≤ bi c ∧ bi c ≤ 122) := by simpa [firstB, smallB] using hs'
          by_cases hd : firstB digitB (c :: r) = true
          · rw [kind_digit hw hd]; split <;> simp
          · by_cases hg : firstB greatB (c :: r) = true
            · rw [kind_great hw hg]; simp
            · rw [kind_line (by simp [firstB, digitB, greatB] at *; unfold letterB at hl; simp at hl; omega)]; simp
    · have hw : writtenB l = false := by unfold writtenB; rw [hb]; simp; omega
      rw [kind_size (by omega)]; unfold nameB; rw [hw]; rfl
  · have hb' : allB letterB l = false := by simpa using hb
    rw [kind_bad hb']; unfold nameB writtenB; rw [hb']; rfl
theorem kind_variable (l : Bs) : (kindI l == 2) = variableB l := by
  by_cases hw : writtenB l = true
  · unfold variableB
    rw [hw]
    by_cases hg : firstB greatB l = true
    · rw [kind_great hw hg, hg]; rfl
    · have hg' : firstB greatB l = false := by simpa using hg
      rw [hg']
      unfold kindI variableB
      rw [hg']
      split
      · simp
      · split
        · simp
        · split
          · simp
          · split
            · simp
            · simp; split <;> simp
  · have hw' : writtenB l = false := by simpa using hw
    unfold kindI variableB
    rw [hw']
    split
    · simp
    · split
      · simp
      · split
        · simp
        · split
          · simp
          · simp; split <;> simp
theorem kind_number (l : Bs) : (kindI l == 3) = numberB l := by
  unfold kindI
  split
  · rename_i h; subst h; decide
  · split
    · rename_i h; subst h; decide
    · split
      · rename_i h; subst h; decide
      · by_cases hn : numberB l = true
        · rw [if_pos hn, hn]; rfl
        · have hn' : numberB l = false := by simpa using hn
          rw [hn', if_neg (by simp)]
          split
          · simp
          · split <;> simp
end Lx

theorem lx_Name (s : ByteArray) (w : World) (hs : s.size ≤ 140737488355328) : Calls Try.prog 18 #[.string s] w fun e w' => e = .returned (.bool (nameB (bl s))) ∧ w = w' := by
  have hk := Lib.hid (kind_name (bl s))
  go_enter Try.func18, Try.ntmps18
  go_wp2_with (go_at_call 35; refine (lx_kindOf _ _ hs).mono ?_; rintro e w' ⟨rfl, rfl⟩)
  go_ret
  exact ⟨ret_bool hk.out, rfl⟩

theorem lx_Variable (s : ByteArray) (w : World) (hs : s.size ≤ 140737488355328) : Calls Try.prog 23 #[.string s] w fun e w' => e = .returned (.bool (variableB (bl s))) ∧ w = w' := by
  have hk := Lib.hid (kind_variable (bl s))
  go_enter Try.func23, Try.ntmps23
  go_wp2_with (go_at_call 35; refine (lx_kindOf _ _ hs).mono ?_; rintro e w' ⟨rfl, rfl⟩)
  go_ret
  exact ⟨ret_bool hk.out, rfl⟩

theorem lx_Number (s : ByteArray) (w : World) (hs : s.size ≤ 140737488355328) : Calls Try.prog 19 #[.string s] w fun e w' => e = .returned (.bool (numberB (bl s))) ∧ w = w' := by
  have hk := Lib.hid (kind_number (bl s))
  go_enter Try.func19, Try.ntmps19
  go_wp2_with (go_at_call 35; refine (lx_kindOf _ _ hs).mono ?_; rintro e w' ⟨rfl, rfl⟩)
  go_ret
  exact ⟨ret_bool hk.out, rfl⟩

theorem rx_Variable (s : ByteArray) (w : World) (hs : s.size ≤ 140737488355328) : Calls Try.prog 24 #[.string s] w fun e w' => e = .returned (.bool (variableB (bl s))) ∧ w = w' := by
  by_cases hw : writtenB (bl s) = true
  · have hpos : 0 < s.size := by have := written_size hw; omega
    have hidx := fun w => run_index_str0 (P := Try.prog) Try.underlying9 s hpos w
    have h5 : Hid (variableB (bl s) = greatB (bat s 0)) := by show _ = _; unfold variableB; rw [hw, firstB_bat _ s hpos]; rfl
    go_enter Try.func24, Try.ntmps24
    go_wp2_with (first
      | (go_at_call 36; refine (rx_written _ _ hs).mono ?_; rintro e w' ⟨rfl, rfl⟩)
      | (go_at_call 38; refine (rx_great _ _).mono ?_; rintro e w' ⟨rfl, rfl⟩))
    go_ret
    exact ⟨ret_bool h5.out.symm, rfl⟩
  · have hw' : writtenB (bl s) = false := by simpa using hw
    have h5 : Hid (variableB (bl s) = false) := by show _ = _; unfold variableB; rw [hw']; rfl
    clear hw
    go_enter Try.func24, Try.ntmps24
    go_wp2_with (go_at_call 36; refine (rx_written _ _ hs).mono ?_; rintro e w' ⟨rfl, rfl⟩)
    go_ret
    exact ⟨ret_bool h5.out.symm, rfl⟩

theorem rx_Name (s : ByteArray) (w : World) (hs : s.size ≤ 140737488355328) : Calls Try.prog 20 #[.string s] w fun e w' => e = .returned (.bool (nameB (bl s))) ∧ w = w' := by
  by_cases hw : writtenB (bl s) = true
  · have hpos : 0 < s.size := by have := written_size hw; omega
    have hidx := fun w => run_index_str0 (P := Try.prog) Try.underlying9 s hpos w
    have h5 : Hid (nameB (bl s) = (smallB (bat s 0) && !reservedB (bl s))) := by show _ = _; unfold nameB; rw [hw, firstB_bat _ s hpos]; rfl
    cases hsm : smallB (bat s 0)
    all_goals
      rw [hsm] at h5
      go_enter Try.func20, Try.ntmps20
      go_wp2_with (first
        | (go_at_call 36; refine (rx_written _ _ hs).mono ?_; rintro e w' ⟨rfl, rfl⟩)
        | (go_at_call 37; refine (rx_small _ _).mono ?_; rintro e w' ⟨rfl, rfl⟩)
        | (go_at_call 22; refine (rx_Reserved _ _).mono ?_; rintro e w' ⟨rfl, rfl⟩))
      go_ret
      exact ⟨ret_bool (by rw [h5.out]; simp), rfl⟩
  · have hw' : writtenB (bl s) = false := by simpa using hw
    have h5 : Hid (nameB (bl s) = false) := by show _ = _; unfold nameB; rw [hw']; rfl
    clear hw
    go_enter Try.func20, Try.ntmps20
    go_wp2_with (go_at_call 36; refine (rx_written _ _ hs).mono ?_; rintro e w' ⟨rfl, rfl⟩)
    go_ret
    exact ⟨ret_bool h5.out.symm, rfl⟩

set_option maxHeartbeats 1000000 in
theorem rx_word (s : ByteArray) (w : World) (hs : s.size ≤ 140737488355328) : Calls Try.prog 47 #[.string s] w fun e w' => e = .returned (.int .i64 (kindI (bl s))) ∧ w = w' := by
  have g1 := eq_str s sInput
  have g2 := eq_str s sOutput
  have g3 := eq_str s sNot
  unfold sInput at g1
  unfold sOutput at g2
  unfold sNot at g3
  by_cases e1 : bl s = sInput
  · have h6 : Hid (kindI (bl s) = 5) := by show _ = _; unfold kindI; rw [if_pos e1]
    unfold sInput at e1
    rw [decide_eq_true e1] at g1
    clear g2 g3 e1
    go_enter Try.func47, Try.ntmps47
    go_wp2
    go_ret
    exact ⟨ret_int h6.out.symm, rfl⟩
  · by_cases e2 : bl s = sOutput
    · have h6 : Hid (kindI (bl s) = 6) := by show _ = _; unfold kindI; rw [if_neg e1, if_pos e2]
      unfold sInput at e1
      unfold sOutput at e2
      rw [decide_eq_false e1] at g1
      rw [decide_eq_true e2] at g2
      clear g3 e1 e2
      go_enter Try.func47, Try.ntmps47
      go_wp2
      go_ret
      exact ⟨ret_int h6.out.symm, rfl⟩
    · by_cases e3 : bl s = sNot
      · have h6 : Hid (kindI (bl s) = 7) := by show _ = _; unfold kindI; rw [if_neg e1, if_neg e2, if_pos e3]
        unfold sInput at e1
        unfold sOutput at e2
        unfold sNot at e3
        rw [decide_eq_false e1] at g1
        rw [decide_eq_false e2] at g2
        rw [decide_eq_true e3] at g3
        clear e1 e2 e3
        go_enter Try.func47, Try.ntmps47
        go_wp2
        go_ret
        exact ⟨ret_int h6.out.symm, rfl⟩
      · have h6 : Hid (kindI (bl s) = if numberB (bl s) then 3 else if variableB (bl s) then 2 else if nameB (bl s) then 1 else 0) := by show _ = _; unfold kindI; rw [if_neg e1, if_neg e2, if_neg e3]
        unfold sInput at e1
        unfold sOutput at e2
        unfold sNot at e3
        rw [decide_eq_false e1] at g1
        rw [decide_eq_false e2] at g2
        rw [decide_eq_false e3] at g3
        clear e1 e2 e3
        cases hn : numberB (bl s)
        · cases hv : variableB (bl s)
          · cases hm : nameB (bl s)
            all_goals
              rw [hn, hv, hm] at h6
              go_enter Try.func47, Try.ntmps47
              go_wp2_with (first
                | (go_at_call 25; refine (rx_Number _ _ hs).mono ?_; rintro e w' ⟨rfl, rfl⟩)
                | (go_at_call 24; refine (rx_Variable _ _ hs).mono ?_; rintro e w' ⟨rfl, rfl⟩)
                | (go_at_call 20; refine (rx_Name _ _ hs).mono ?_; rintro e w' ⟨rfl, rfl⟩))
              go_ret
              exact ⟨ret_int h6.out.symm, rfl⟩
          · rw [hn, hv] at h6
            go_enter Try.func47, Try.ntmps47
            go_wp2_with (first
              | (go_at_call 25; refine (rx_Number _ _ hs).mono ?_; rintro e w' ⟨rfl, rfl⟩)
              | (go_at_call 24; refine (rx_Variable _ _ hs).mono ?_; rintro e w' ⟨rfl, rfl⟩))
            go_ret
            exact ⟨ret_int h6.out.symm, rfl⟩
        · rw [hn] at h6
          go_enter Try.func47, Try.ntmps47
          go_wp2_with (go_at_call 25; refine (rx_Number _ _ hs).mono ?_; rintro e w' ⟨rfl, rfl⟩)
          go_ret
          exact ⟨ret_int h6.out.symm, rfl⟩

theorem rx_isWord (k : Int) (w : World) : Calls Try.prog 34 #[.int .i64 k] w fun e w' => e = .returned (.bool (isWordB k)) ∧ w = w' := by
  go_enter Try.func34, Try.ntmps34
  go_wp2
  all_goals go_ret
  all_goals exact ⟨ret_bool (by unfold isWordB; rw [Bool.eq_iff_iff]; simp <;> omega), rfl⟩

theorem nm_any (n : Int) (w : World) : Calls Try.prog 13 #[.int .i64 n] w fun e w' => e = .returned (.int .i64 n) ∧ w = w' := by
  go_enter Try.func13, Try.ntmps13
  go_wp2
  go_ret
  exact ⟨rfl, rfl⟩

set_option maxHeartbeats 1000000 in
theorem rx_blanks (s : ByteArray) (i : Int) (w : World) (hs : s.size ≤ 4194304) (h0 : 0 ≤ i) (h1 : i ≤ s.size) :
    Calls Try.prog 32 #[.string s, .int .i64 i] w fun e w' => e = .returned (.int .i64 (blankP s i.toNat : Nat)) ∧ w = w' := by
  obtain ⟨i0, rfl⟩ := Int.eq_ofNat_of_zero_le h0
  rw [Int.toNat_natCast]
  go_enter Try.func32, Try.ntmps32
  go_wp2
  go_loop [1, 5] (fun i c => ∃ j : Nat, j ≤ s.size ∧ i = .int .i64 j ∧ Hid (j + skipN false ((bl s).drop j) = blankP s i0)) (fun i _ => s.size - (intOf i).toNat)
  case atStart => exact ⟨i0, by omega, rfl, rfl⟩
  case round =>
    obtain ⟨j, hj, rfl, he⟩ := hrel
    by_cases hlt : j < s.size
    · have hidx := fun w => run_index_str (P := Try.prog) Try.underlying9 s j hlt w
      by_cases h37 : bat s j = 37
      · have h5 : Hid (j + skipN true ((bl s).drop j) = blankP s i0) := by rw [← he.out, skip_37 s j hlt h37, skip_rem s j hlt, h37]; rfl
        have g1 : (bat s j == 37) = true := by simp [h37]
        have h37 := Lib.hid h37
        clear he
        go_wp2
        go_loop [1] (fun i => ∃ k : Nat, j ≤ k ∧ k ≤ s.size ∧ i = .int .i64 k ∧ Hid (k + skipN true ((bl s).drop k) = blankP s i0)) (fun i => s.size - (intOf i).toNat)
        case atStart => exact ⟨j, by omega, by omega, rfl, h5⟩
        case round =>
          obtain ⟨k, hjk, hk, rfl, hk5⟩ := hrel
          by_cases hlk : k < s.size
          · have hidk := fun w => run_index_str (P := Try.prog) Try.underlying9 s k hlk w
            by_cases h10 : bat s k = 10
            · have g2 : (bat s k != 10) = false := by simp [h10]
              have hne : j < k := by
                rcases Nat.lt_or_ge j k with h | h
                · exact h
                · exfalso; have : j = k := by omega
                  subst this; have := h37.out; omega
              have h6 : Hid (k + skipN false ((bl s).drop k) = blankP s i0) := by
                have := hk5.out
                rw [skip_rem s k hlk, h10] at this
                rw [skip_blank s k hlk (by omega) (by omega)]; exact this
              clear hk5 h10 h5
              go_wp2
              go_round
              case rel => exact ⟨k, by omega, rfl, h6⟩
              case measure => simp [intOf]; omega
            · have g2 : (bat s k != 10) = true := by simp [h10]
              have h6 : Hid (k + 1 + skipN true ((bl s).drop (k + 1)) = blankP s i0) := by
                have := hk5.out
                rw [skip_rem s k hlk, show (bat s k == 10) = false from by simp [h10]] at this
                rw [← this]; show _ = _; simp only [Bool.not_false]; omega
              clear hk5 h10 h5
              go_wp2
              go_round
              case rel => exact ⟨k + 1, by omega, by omega, by go_num, h6⟩
              case measure => simp [intOf]; omega
          · have h6 : Hid (k + skipN false ((bl s).drop k) = blankP s i0) := by
              have := hk5.out
              rw [skip_end s _ k (by omega)] at this
              rw [skip_end s _ k (by omega)]; exact this
            clear hk5 h5
            go_wp2
            go_round
            case rel => exact ⟨k, by omega, rfl, h6⟩
            case measure => simp [intOf]; omega
      · have g1 : (bat s j == 37) = false := by simp [h37]
        by_cases hb : bat s j = 32 ∨ bat s j = 9 ∨ bat s j = 10 ∨ bat s j = 13
        · have h5 : Hid (j + 1 + skipN false ((bl s).drop (j + 1)) = blankP s i0) := by rw [← he.out, skip_blank s j hlt h37 hb]; show _ = _; omega
          clear he
          rcases hb with hb | hb | hb | hb
          · have g2 : (bat s j != 32) = false := by simp [hb]
            clear hb
            go_wp2
            go_round
            case rel => exact ⟨j + 1, by omega, by go_num, h5⟩
            case measure => simp [intOf]; omega
          · have g2 : (bat s j != 32) = true := by simp [hb]
            have g3 : (bat s j != 9) = false := by simp [hb]
            clear hb
            go_wp2
            go_round
            case rel => exact ⟨j + 1, by omega, by go_num, h5⟩
            case measure => simp [intOf]; omega
          · have g2 : (bat s j != 32) = true := by simp [hb]
            have g3 : (bat s j != 9) = true := by simp [hb]
            have g4 : (bat s j != 10) = false := by simp [hb]
            clear hb
            go_wp2
            go_round
            case rel => exact ⟨j + 1, by omega, by go_num, h5⟩
            case measure => simp [intOf]; omega
          · have g2 : (bat s j != 32) = true := by simp [hb]
            have g3 : (bat s j != 9) = true := by simp [hb]
            have g4 : (bat s j != 10) = true := by simp [hb]
            have g5 : (bat s j != 13) = false := by simp [hb]
            clear hb
            go_wp2
            go_round
            case rel => exact ⟨j + 1, by omega, by go_num, h5⟩
            case measure => simp [intOf]; omega
        · have h5 : Hid (j = blankP s i0) := by rw [← he.out, skip_stop s j hlt h37 hb]; show _ = _; omega
          have g2 : (bat s j != 32) = true := by rw [bne_iff_ne]; omega
          have g3 : (bat s j != 9) = true := by rw [bne_iff_ne]; omega
          have g4 : (bat s j != 10) = true := by rw [bne_iff_ne]; omega
          have g5 : (bat s j != 13) = true := by rw [bne_iff_ne]; omega
          clear he hb
          go_wp2
          go_ret
          exact ⟨ret_int (by rw [← h5.out]), rfl⟩
    · have h5 : Hid (j = blankP s i0) := by rw [← he.out, skip_end s _ j (by omega)]; rfl
      clear he
      go_wp2
      go_ret
      exact ⟨ret_int (by rw [← h5.out]), rfl⟩

end Go.Proofs.Ytefgipoegnacjaa
