/- Which of two tuples comes first: the program's Compare at each kind of number, and the reference's: cmpL. -/
import Derived.Test.YtgndogoaenlchaaRows
import Derived.Test.YtgndogoaenlchaaBase
import Derived.BigQuiet
import Derived.Deep.QuietTactic
namespace Go.Proofs.Ytgndogoaenlchaa
open Go.RowKit

def cmpL : List Int → List Int → Int
  | [], [] => 0
  | [], _ :: _ => -1
  | _ :: _, [] => 1
  | a :: r, b :: s => if a < b then -1 else if b < a then 1 else cmpL r s

theorem cmpL_step (xs ys : List Int) (j : Nat) (hx : j < xs.length) (hy : j < ys.length) (h1 : ¬ nth xs j < nth ys j) (h2 : ¬ nth ys j < nth xs j) :
    cmpL (xs.drop j) (ys.drop j) = cmpL (xs.drop (j + 1)) (ys.drop (j + 1)) := by
  rw [drop_nth xs j hx, drop_nth ys j hy, cmpL, if_neg h1, if_neg h2]
theorem cmpL_lt (xs ys : List Int) (j : Nat) (hx : j < xs.length) (hy : j < ys.length) (h1 : nth xs j < nth ys j) : cmpL (xs.drop j) (ys.drop j) = -1 := by
  rw [drop_nth xs j hx, drop_nth ys j hy, cmpL, if_pos h1]
theorem cmpL_gt (xs ys : List Int) (j : Nat) (hx : j < xs.length) (hy : j < ys.length) (h1 : nth ys j < nth xs j) : cmpL (xs.drop j) (ys.drop j) = 1 := by
  rw [drop_nth xs j hx, drop_nth ys j hy, cmpL, if_neg (by omega), if_pos h1]
theorem cmpL_more (xs ys : List Int) (j : Nat) (hx : j < xs.length) (hy : ys.length ≤ j) : cmpL (xs.drop j) (ys.drop j) = 1 := by
  rw [drop_nth xs j hx, List.drop_of_length_le hy, cmpL]
theorem cmpL_less (xs ys : List Int) (j : Nat) (hx : xs.length ≤ j) (hy : j < ys.length) : cmpL (xs.drop j) (ys.drop j) = -1 := by
  rw [drop_nth ys j hy, List.drop_of_length_le hx, cmpL]
theorem cmpL_end (xs ys : List Int) (j : Nat) (hx : xs.length ≤ j) (hy : ys.length ≤ j) : cmpL (xs.drop j) (ys.drop j) = 0 := by
  rw [List.drop_of_length_le hx, List.drop_of_length_le hy, cmpL]

set_option maxHeartbeats 800000 in
theorem cmp_int (a b : Option Addr) (ca cb : Nat) (xs ys : List Int) (w : World) (ha : Ints .i64 w a xs) (hb : Ints .i64 w b ys) :
    Calls Try.prog 7 #[.slice a xs.length ca, .slice b ys.length cb] w fun e w' => e = .returned (.int .i64 (cmpL xs ys)) ∧ w = w' := by
  have hm := ha.len
  have hn := hb.len
  go_enter Try.func7, Try.ntmps7
  go_wp2
  go_loop [5, 6, 9] (fun p q i => ∃ (j : Nat), j ≤ xs.length ∧ j ≤ ys.length ∧ i = .int .i64 j ∧ Hid (cmpL (xs.drop j) (ys.drop j) = cmpL xs ys)) (fun _ _ i => xs.length - (intOf i).toNat)
  case atStart => exact ⟨0, Nat.zero_le _, Nat.zero_le _, rfl, rfl⟩
  case round =>
    obtain ⟨j, hj, hj2, rfl, he⟩ := hrel
    by_cases hlt : j < xs.length
    · obtain ⟨b1, off1, rfl, hcell1⟩ := ha.cells j hlt
      by_cases hlt2 : j < ys.length
      · obtain ⟨b2, off2, rfl, hcell2⟩ := hb.cells j hlt2
        have hg : ((j : Int) == (ys.length : Int)) = false := beq_eq_false_iff_ne.2 (by omega)
        by_cases hlo : nth xs j < nth ys j
        · have h5 := Lib.hid ((cmpL_lt xs ys j hlt hlt2 hlo).symm.trans he.out)
          have hg2 : decide (nth ys j < nth xs j) = false := decide_eq_false (by omega)
          clear he
          go_wp2
          go_ret
          exact ⟨ret_int h5.out, rfl⟩
        · by_cases hhi : nth ys j < nth xs j
          · have h5 := Lib.hid ((cmpL_gt xs ys j hlt hlt2 hhi).symm.trans he.out)
            clear he
            go_wp2
            go_ret
            exact ⟨ret_int h5.out, rfl⟩
          · have h5 := Lib.hid ((cmpL_step xs ys j hlt hlt2 hlo hhi).symm.trans he.out)
            clear he
            go_wp2
            go_round
            case rel => exact ⟨j + 1, by omega, by omega, by go_num, h5⟩
            case measure => simp [intOf]; omega
      · have h5 := Lib.hid ((cmpL_more xs ys j hlt (by omega)).symm.trans he.out)
        have hg : ((j : Int) == (ys.length : Int)) = true := beq_iff_eq.2 (by omega)
        clear he
        go_wp2
        go_ret
        exact ⟨ret_int h5.out, rfl⟩
    · by_cases hlt2 : xs.length < ys.length
      · have h5 := Lib.hid ((cmpL_less xs ys j (by omega) (by omega)).symm.trans he.out)
        clear he
        go_wp2
        go_ret
        exact ⟨ret_int h5.out, rfl⟩
      · have h5 := Lib.hid ((cmpL_end xs ys j (by omega) (by omega)).symm.trans he.out)
        clear he
        go_wp2
        go_ret
        exact ⟨ret_int h5.out, rfl⟩

set_option maxHeartbeats 800000 in
theorem rcmp (a b : Option Addr) (ca cb : Nat) (xs ys : List Int) (w : World) (ha : Ints .i64 w a xs) (hb : Ints .i64 w b ys) :
    Calls Try.prog 8 #[.slice a xs.length ca, .slice b ys.length cb] w fun e w' => e = .returned (.int .i64 (cmpL xs ys)) ∧ Drawn w w' := by
  have hm := ha.len
  have hn := hb.len
  go_enter Try.func8, Try.ntmps8
  go_wp2
  go_loopw [5] (fun i wr => ∃ (j : Nat), j ≤ xs.length ∧ j ≤ ys.length ∧ i = .int .i64 j ∧ Hid (cmpL (xs.drop j) (ys.drop j) = cmpL xs ys) ∧ Drawn w wr) (fun i _ => xs.length - (intOf i).toNat)
  case atStart => exact ⟨0, Nat.zero_le _, Nat.zero_le _, rfl, rfl, (by (repeat (refine Drawn.step ?_ _)); exact Drawn.refl _)⟩
  case round =>
    obtain ⟨j, hj, hj2, rfl, he, ⟨nd, rfl⟩⟩ := hrel
    by_cases hlt : j < xs.length
    · obtain ⟨b1, off1, rfl, hcell1⟩ := ha.cells j hlt
      by_cases hlt2 : j < ys.length
      · obtain ⟨b2, off2, rfl, hcell2⟩ := hb.cells j hlt2
        have hi1 : (j : Int) < (xs.length : Int) := by omega
        have hi2 : (j : Int) < (ys.length : Int) := by omega
        have hg : decide ((j : Int) < (ys.length : Int)) = true := decide_eq_true (by omega)
        by_cases hlo : nth xs j < nth ys j
        · have h5 := Lib.hid ((cmpL_lt xs ys j hlt hlt2 hlo).symm.trans he.out)
          clear he
          go_wp2
          go_quiet (fail)
          go_wp2
          go_ret
          exact ⟨ret_int h5.out, (by (repeat (refine Drawn.step ?_ _)); exact Drawn.refl _)⟩
        · by_cases hhi : nth ys j < nth xs j
          · have h5 := Lib.hid ((cmpL_gt xs ys j hlt hlt2 hhi).symm.trans he.out)
            clear he
            go_wp2
            go_quiet (fail)
            go_wp2
            go_quiet (fail)
            go_wp2
            go_ret
            exact ⟨ret_int h5.out, (by (repeat (refine Drawn.step ?_ _)); exact Drawn.refl _)⟩
          · have h5 := Lib.hid ((cmpL_step xs ys j hlt hlt2 hlo hhi).symm.trans he.out)
            clear he
            go_wp2
            go_quiet (fail)
            go_wp2
            go_quiet (fail)
            go_wp2
            go_roundw
            case rel => exact ⟨j + 1, by omega, by omega, by go_num, h5, (by (repeat (refine Drawn.step ?_ _)); exact Drawn.refl _)⟩
            case measure => simp [intOf]; omega
      · have h5 := Lib.hid ((cmpL_more xs ys j hlt (by omega)).symm.trans he.out)
        have hg : decide ((j : Int) < (ys.length : Int)) = false := decide_eq_false (by omega)
        have hg2 : decide ((xs.length : Int) < (ys.length : Int)) = false := decide_eq_false (by omega)
        clear he
        go_wp2
        go_ret
        exact ⟨ret_int h5.out, (by (repeat (refine Drawn.step ?_ _)); exact Drawn.refl _)⟩
    · by_cases hlt2 : xs.length < ys.length
      · have h5 := Lib.hid ((cmpL_less xs ys j (by omega) (by omega)).symm.trans he.out)
        clear he
        go_wp2
        go_ret
        exact ⟨ret_int h5.out, (by (repeat (refine Drawn.step ?_ _)); exact Drawn.refl _)⟩
      · have h5 := Lib.hid ((cmpL_end xs ys j (by omega) (by omega)).symm.trans he.out)
        clear he
        go_wp2
        go_ret
        exact ⟨ret_int h5.out, (by (repeat (refine Drawn.step ?_ _)); exact Drawn.refl _)⟩

end Go.Proofs.Ytgndogoaenlchaa
