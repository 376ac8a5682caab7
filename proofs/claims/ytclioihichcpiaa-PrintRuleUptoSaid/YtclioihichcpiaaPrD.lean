/- Print: what may stand without quotes. -/
import Derived.Test.YtclioihichcpiaaPrC
namespace Go.Proofs.Ytclioihichcpiaa
open Go.RowKit Lx
namespace Lx
def bareB (l : Bs) : Bool := nameB l || numberB l
end Lx
theorem pt_Bare (s : ByteArray) (w : World) (hs : s.size ≤ 140737488355328) : Calls Try.prog 18 #[.string s] w fun e w' => e = .returned (.bool (bareB (bl s))) ∧ w = w' := by
  cases hn : nameB (bl s) with
  | true =>
    have h5 : Hid (bareB (bl s) = true) := Lib.hid (by unfold bareB; rw [hn]; rfl)
    have hc := lx_Name s w hs
    rw [hn] at hc
    replace hc := Lib.hid hc
    replace hn := Lib.hid hn
    go_enter Try.func18, Try.ntmps18
    go_wp2_with (go_at_call 35; refine hc.out.mono ?_; rintro e w' ⟨rfl, rfl⟩)
    go_ret
    exact ⟨ret_bool h5.out.symm, rfl⟩
  | false =>
    have h5 : Hid (bareB (bl s) = numberB (bl s)) := Lib.hid (by unfold bareB; rw [hn]; rfl)
    have hc := lx_Name s w hs
    rw [hn] at hc
    replace hc := Lib.hid hc
    replace hn := Lib.hid hn
    go_enter Try.func18, Try.ntmps18
    go_wp2_with (first
      | (go_at_call 35; refine hc.out.mono ?_; rintro e w' ⟨rfl, rfl⟩)
      | (go_at_call 43; refine (lx_Number _ _ hs).mono ?_; rintro e w' ⟨rfl, rfl⟩))
    go_ret
    exact ⟨ret_bool h5.out.symm, rfl⟩
set_option maxHeartbeats 800000 in
theorem rp_Bare (s : ByteArray) (w : World) (hs : s.size ≤ 140737488355328) : Calls Try.prog 19 #[.string s] w fun e w' => e = .returned (.bool (bareB (bl s))) ∧ w = w' := by
  by_cases h1 : 1 ≤ s.size ∧ s.size ≤ 64
  · obtain ⟨h1, h64⟩ := h1
    go_enter Try.func19, Try.ntmps19
    go_wp2
    go_loop [3] (fun i => ∃ j : Nat, j ≤ s.size ∧ i = .int .i64 j ∧ Hid (allB digitB ((bl s).take j) = true)) (fun i => s.size - (intOf i).toNat)
    case atStart => exact ⟨0, Nat.zero_le _, rfl, rfl⟩
    case round =>
      obtain ⟨j, hj, rfl, he⟩ := hrel
      by_cases hlt : j < s.size
      · have hidx := fun w => run_index_str (P := Try.prog) Try.underlying9 s j hlt w
        by_cases hl : digitB (bat s j) = true
        · have h5 : Hid (allB digitB ((bl s).take (j + 1)) = true) := Lib.hid (by rw [allB_take _ s j hlt, he.out, hl]; rfl)
          have hd : 48 ≤ bat s j ∧ bat s j ≤ 57 := by unfold digitB at hl; simpa using hl
          obtain ⟨hd1, hd2⟩ := hd
          clear he hl
          go_wp2
          go_round
          case rel => exact ⟨j + 1, by omega, by go_num, h5⟩
          case measure => simp [intOf]; omega
        · have hl2 : digitB (bat s j) = false := by simpa using hl
          have h5 : Hid (bareB (bl s) = nameB (bl s)) := Lib.hid (by
            unfold bareB numberB
            rw [allB_at _ s j hlt hl2]; simp)
          have hd : ¬ (48 ≤ bat s j ∧ bat s j ≤ 57) := by unfold digitB at hl2; simpa using hl2
          clear he hl hl2
          by_cases hd1 : bat s j < 48
          · clear hd
            go_wp2_with (go_at_call 44; refine (rp_Name _ _ hs).mono ?_; rintro e w' ⟨rfl, rfl⟩)
            go_ret
            exact ⟨ret_bool h5.out.symm, rfl⟩
          · have hd2 : 57 < bat s j := by omega
            clear hd
            go_wp2_with (go_at_call 44; refine (rp_Name _ _ hs).mono ?_; rintro e w' ⟨rfl, rfl⟩)
            go_ret
            exact ⟨ret_bool h5.out.symm, rfl⟩
      · have h5 : Hid (bareB (bl s) = true) := Lib.hid (by
          unfold bareB numberB
          rw [← allB_full _ s j (by omega), he.out, bl_length]
          simp [h1, h64])
        clear he
        go_wp2
        go_ret
        exact ⟨ret_bool h5.out.symm, rfl⟩
  · have h5 : Hid (bareB (bl s) = false) := Lib.hid (by
      unfold bareB nameB numberB writtenB
      rw [bl_length]
      have : ¬ (1 ≤ s.size ∧ s.size ≤ 64) := h1
      simp only [decide_eq_false this, Bool.and_false, Bool.false_and, Bool.or_false])
    by_cases h0 : s.size < 1
    · clear h1
      go_enter Try.func19, Try.ntmps19
      go_wp2
      go_ret
      exact ⟨ret_bool h5.out.symm, rfl⟩
    · have h64 : 64 < s.size := by omega
      clear h1
      go_enter Try.func19, Try.ntmps19
      go_wp2
      go_ret
      exact ⟨ret_bool h5.out.symm, rfl⟩
end Go.Proofs.Ytclioihichcpiaa
