/- The reference's piece and str. -/
import Derived.Test.YtefgipoegnacjaaProg
import Derived.Test.YtefgipoegnacjaaBase
import Derived.Test.YtefgipoegnacjaaBytes
import Derived.Test.YtefgipoegnacjaaLexSpec
import Derived.Test.YtefgipoegnacjaaLexA
import Derived.Test.YtefgipoegnacjaaLexB
import Derived.Test.YtefgipoegnacjaaLexE
namespace Go.Proofs.Ytefgipoegnacjaa
open Go.RowKit Lx

namespace Lx
def pieceL : Bs → Int × Int
  | [] => (0, -1)
  | c :: r =>
    if bi c < 32 ∨ 126 < bi c then (0, -1)
    else if ¬ bi c = 92 then (bi c, 1)
    else match r with
      | [] => (0, -2)
      | d :: r2 =>
        if bi d = 34 ∨ bi d = 92 then (bi d, 2)
        else if bi d = 110 then (10, 2)
        else if bi d = 116 then (9, 2)
        else if bi d = 120 then
          match r2 with
          | [] => (0, -3)
          | h1 :: r3 =>
            if halfI (bi h1) < 0 then (0, -3)
            else match r3 with
              | [] => (0, -4)
              | h2 :: _ => if halfI (bi h2) < 0 then (0, -4) else (16 * halfI (bi h1) + halfI (bi h2), 4)
        else (0, -2)
theorem bi_range (c : UInt8) : 0 ≤ bi c ∧ bi c < 256 := by unfold bi; have := c.toNat_lt; omega
theorem quo_piece (c : UInt8) (r : Bs) (n : Nat) (h34 : ¬ bi c = 34) (hn : ¬ n = 1024) :
    ((pieceL (c :: r)).2 < 0 ∧ quo (c :: r) n = ([], (-(pieceL (c :: r)).2 - 1).toNat, false)) ∨
    (∃ (b : UInt8) (k : Nat), 1 ≤ k ∧ k ≤ r.length + 1 ∧ pieceL (c :: r) = (bi b, (k : Int)) ∧ quo (c :: r) n = (b :: (quo ((c :: r).drop k) (n + 1)).1, (quo ((c :: r).drop k) (n + 1)).2.1 + k, (quo ((c :: r).drop k) (n + 1)).2.2)) := by
  by_cases hb : bi c < 32 ∨ 126 < bi c
  · left
    rw [quo_bad c r n h34 (.inr hb)]
    simp only [pieceL, if_pos hb]
    exact ⟨by omega, rfl⟩
  · by_cases h92 : bi c = 92
    · rw [quo_92 c r n h92 hn]
      cases r with
      | nil => left; simp [pieceL, h92, quoS]
      | cons d r2 =>
        simp only [pieceL, h92, not_true, if_false, quoS]
        by_cases h1 : bi d = 34 ∨ bi d = 92
        · right; rw [if_pos h1, if_pos h1]; exact ⟨d, 2, by omega, by simp, rfl, rfl⟩
        · rw [if_neg h1, if_neg h1]
          by_cases h2 : bi d = 110
          · right; rw [if_pos h2, if_pos h2]; exact ⟨10, 2, by omega, by simp, rfl, rfl⟩
          · rw [if_neg h2, if_neg h2]
            by_cases h3 : bi d = 116
            · right; rw [if_pos h3, if_pos h3]; exact ⟨9, 2, by omega, by simp, rfl, rfl⟩
            · rw [if_neg h3, if_neg h3]
              by_cases h4 : bi d = 120
              · rw [if_pos h4, if_pos h4]
                cases r2 with
                | nil => left; exact ⟨by simp, by simp [quoF]⟩
                | cons g1 r3 =>
                  simp only []
                  by_cases k1 : halfI (bi g1) < 0
                  · left; rw [if_pos k1, quoF_bad _ _ _ k1]; exact ⟨by simp, by simp⟩
                  · rw [if_neg k1]
                    cases r3 with
                    | nil => left; rw [quoF_end _ _ k1]; exact ⟨by simp, by simp⟩
                    | cons g2 r4 =>
                      simp only []
                      by_cases k2 : halfI (bi g2) < 0
                      · left; rw [if_pos k2, quoF_bad2 _ _ _ _ k1 k2]; exact ⟨by simp, by simp⟩
                      · right
                        rw [if_neg k2, quoF_ok _ _ _ _ _ _ rfl rfl k1 k2]
                        have e1 := half_range (bi g1)
                        have e2 := half_range (bi g2)
                        have hv : bi (UInt8.ofNat (16 * halfI (bi g1) + halfI (bi g2)).toNat) = 16 * halfI (bi g1) + halfI (bi g2) := by
                          have hlt : (16 * halfI (bi g1) + halfI (bi g2)).toNat < 256 := by omega
                          unfold bi at hlt ⊢
                          rw [UInt8.toNat_ofNat_of_lt' hlt]; unfold bi at e1 e2 k1 k2; omega
                        exact ⟨_, 4, by omega, by simp, by rw [hv]; rfl, rfl⟩
              · left; rw [if_neg h4, if_neg h4]; exact ⟨by simp, by simp⟩
    · right
      rw [quo_chr c r n h34 (by omega) h92]
      simp only [pieceL, if_neg hb, if_pos h92]
      exact ⟨c, 1, by omega, by omega, rfl, rfl⟩
theorem pieceL_bad (c : UInt8) (r : Bs) (h : bi c < 32 ∨ 126 < bi c) : pieceL (c :: r) = (0, -1) := by rw [pieceL.eq_def]; simp only []; rw [if_pos h]
theorem pieceL_chr (c : UInt8) (r : Bs) (h : ¬ (bi c < 32 ∨ 126 < bi c)) (h2 : ¬ bi c = 92) : pieceL (c :: r) = (bi c, 1) := by rw [pieceL.eq_def]; simp only []; rw [if_neg h, if_pos h2]
theorem pieceL_one (c : UInt8) (h2 : bi c = 92) : pieceL [c] = (0, -2) := by rw [pieceL.eq_def]; simp only []; rw [if_neg (by omega), if_neg (by omega)]
theorem pieceL_two (c d : UInt8) (r2 : Bs) (h2 : bi c = 92) : pieceL (c :: d :: r2) = if bi d = 34 ∨ bi d = 92 then (bi d, 2)
        else if bi d = 110 then (10, 2)
        else if bi d = 116 then (9, 2)
        else if bi d = 120 then
          match r2 with
          | [] => (0, -3)
          | h1 :: r3 =>
            if halfI (bi h1) < 0 then (0, -3)
            else match r3 with
              | [] => (0, -4)
              | h2 :: _ => if halfI (bi h2) < 0 then (0, -4) else (16 * halfI (bi h1) + halfI (bi h2), 4)
        else (0, -2) := by
  rw [pieceL.eq_def]; simp only []; rw [if_neg (by omega), if_neg (by omega)]
  cases r2 with
  | nil => rfl
  | cons h1 r3 => cases r3 <;> rfl
end Lx

theorem rx_halfQ (c : Int) (w : World) (h0 : 0 ≤ c) (h1 : c < 256) : Calls Try.prog 51 #[.int .u8 c] w fun e w' => e = .returned (.int .i64 (halfI c)) ∧ w' = w :=
  (rx_half c w h0 h1).mono fun _ _ h => ⟨h.1, h.2.symm⟩

def PPost (s : ByteArray) (j : Nat) (w : World) (e : Ending) (w' : World) : Prop :=
  e = .returned (.tuple #[.int .u8 (pieceL ((bl s).drop j)).1, .int .i64 (pieceL ((bl s).drop j)).2]) ∧ Drawn w w'
theorem PPost.of {s : ByteArray} {j : Nat} {w w' : World} {b n : Int} (h : pieceL ((bl s).drop j) = (b, n)) (hd : Drawn w w') : PPost s j w (.returned (.tuple #[.int .u8 b, .int .i64 n])) w' := by
  unfold PPost; rw [h]; exact ⟨rfl, hd⟩

set_option maxHeartbeats 1000000 in
theorem piece_good (s : ByteArray) (j : Nat) (w : World) (hs : s.size ≤ 4194304) (hlt3 : j + 3 < s.size) (hb : Hid (bat s j = 92 ∧ bat s (j + 1) = 120))
    (h5 : Hid (pieceL ((bl s).drop j) = (16 * halfI (bat s (j + 2)) + halfI (bat s (j + 3)), 4))) (k1 : ¬ halfI (bat s (j + 2)) < 0) (k2 : ¬ halfI (bat s (j + 3)) < 0) :
    Calls Try.prog 50 #[.string s, .int .i64 j] w (PPost s j w) := by
  have hidx := fun w => run_index_str (P := Try.prog) Try.underlying9 s j (by omega) w
  have hidx1 := fun w => run_index_str (P := Try.prog) Try.underlying9 s (j + 1) (by omega) w
  have hidx2 := fun w => run_index_str (P := Try.prog) Try.underlying9 s (j + 2) (by omega) w
  have hidx3 := fun w => run_index_str (P := Try.prog) Try.underlying9 s (j + 3) hlt3 w
  rw [show ((j + 1 : Nat) : Int) = (j : Int) + 1 from by omega] at hidx1
  rw [show ((j + 2 : Nat) : Int) = (j : Int) + 2 from by omega] at hidx2
  rw [show ((j + 3 : Nat) : Int) = (j : Int) + 3 from by omega] at hidx3
  have hr2 := bat_range s (j + 2)
  have hr3 := bat_range s (j + 3)
  have e1 := half_range (bat s (j + 2))
  have e2 := half_range (bat s (j + 3))
  obtain ⟨C, hC⟩ : ∃ C, C = bat s j := ⟨_, rfl⟩
  obtain ⟨D, hD⟩ : ∃ D, D = bat s (j + 1) := ⟨_, rfl⟩
  rw [← hC] at hidx hb
  rw [← hD] at hidx1 hb
  clear hC hD
  obtain ⟨rfl, rfl⟩ := hb
  have v1 : IntKind.i64.wrap (16 * halfI (bat s (j + 2))) = 16 * halfI (bat s (j + 2)) := IntWalk.i64_in _ (by omega)
  have v2 : IntKind.i64.wrap (16 * halfI (bat s (j + 2)) + halfI (bat s (j + 3))) = 16 * halfI (bat s (j + 2)) + halfI (bat s (j + 3)) := IntWalk.i64_in _ (by omega)
  have v3 : IntKind.u8.wrap (16 * halfI (bat s (j + 2)) + halfI (bat s (j + 3))) = 16 * halfI (bat s (j + 2)) + halfI (bat s (j + 3)) := by rw [IntKind.wrap_u8]; omega
  have v4 : IntKind.i64.wrap ((j : Int) + 2) = (j : Int) + 2 := IntWalk.i64_in _ (by omega)
  have v5 : IntKind.i64.wrap ((j : Int) + 3) = (j : Int) + 3 := IntWalk.i64_in _ (by omega)
  have gx : decide (halfI (bat s (j + 2)) < 0) = false := decide_eq_false k1
  have gy : decide (halfI (bat s (j + 3)) < 0) = false := decide_eq_false k2
  go_enter Try.func50, Try.ntmps50
  go_wp2_with (go_at_call 51; refine (rx_half _ _ (by omega) (by omega)).mono ?_; rintro e w' ⟨rfl, rfl⟩)
  go_quiet ((go_at_call 51; exact Calls.quiet_of_same (rx_halfQ _ _ (by omega) (by omega))))
  go_wp2
  go_ret2
  exact PPost.of h5.out ((Drawn.refl _).step _)

set_option maxHeartbeats 1000000 in
theorem rx_piece (s : ByteArray) (i : Int) (w : World) (hs : s.size ≤ 4194304) (hi0 : 0 ≤ i) (hi1 : i < s.size) :
    Calls Try.prog 50 #[.string s, .int .i64 i] w (PPost s i.toNat w) := by
  obtain ⟨j, rfl⟩ := Int.eq_ofNat_of_zero_le hi0
  rw [Int.toNat_natCast]
  have hlt : j < s.size := by omega
  have hidx := fun w => run_index_str (P := Try.prog) Try.underlying9 s j hlt w
  have hdr := drop_bl s j hlt
  have hbi : bi ((bl s).getD j 0) = bat s j := rfl
  have hr := bat_range s j
  by_cases hb : bat s j < 32 ∨ 126 < bat s j
  · have h5 : Hid (pieceL ((bl s).drop j) = (0, -1)) := by show _ = _; rw [hdr, pieceL_bad _ _ (by rw [hbi]; exact hb)]
    clear hdr hbi
    rcases hb with hb | hb
    · go_enter Try.func50, Try.ntmps50
      go_wp2
      go_ret2
      exact PPost.of h5.out (Drawn.refl _)
    · have g1 : decide (bat s j < 32) = false := decide_eq_false (by omega)
      go_enter Try.func50, Try.ntmps50
      go_wp2
      go_ret2
      exact PPost.of h5.out (Drawn.refl _)
  · have g1 : decide (bat s j < 32) = false := decide_eq_false (by omega)
    have g2 : decide (126 < bat s j) = false := decide_eq_false (by omega)
    by_cases h92 : bat s j = 92
    · have g3 : (bat s j != 92) = false := by simp [h92]
      by_cases hlt1 : j + 1 < s.size
      · have hidx1 := fun w => run_index_str (P := Try.prog) Try.underlying9 s (j + 1) hlt1 w
        rw [show ((j + 1 : Nat) : Int) = (j : Int) + 1 from by omega] at hidx1
        rw [drop_bl s (j + 1) hlt1] at hdr
        have hbi1 : bi ((bl s).getD (j + 1) 0) = bat s (j + 1) := rfl
        have hr1 := bat_range s (j + 1)
        by_cases h1 : bat s (j + 1) = 34 ∨ bat s (j + 1) = 92
        · have h5 : Hid (pieceL ((bl s).drop j) = (bat s (j + 1), 2)) := by show _ = _; rw [hdr, pieceL_two _ _ _ (hbi.trans h92), hbi1, if_pos h1]
          clear hdr hbi hbi1 hb
          by_cases h34 : bat s (j + 1) = 34
          · have g4 : (bat s (j + 1) == 34) = true := by simp [h34]
            clear h1 h34 h92
            go_enter Try.func50, Try.ntmps50
            go_wp2
            go_ret2
            exact PPost.of h5.out (Drawn.refl _)
          · have g4 : (bat s (j + 1) == 34) = false := by rw [beq_eq_false_iff_ne]; exact h34
            have g5 : (bat s (j + 1) == 92) = true := by rw [beq_iff_eq]; omega
            clear h1 h34 h92
            go_enter Try.func50, Try.ntmps50
            go_wp2
            go_ret2
            exact PPost.of h5.out (Drawn.refl _)
        · have g4 : (bat s (j + 1) == 34) = false := by rw [beq_eq_false_iff_ne]; omega
          have g5 : (bat s (j + 1) == 92) = false := by rw [beq_eq_false_iff_ne]; omega
          by_cases h2 : bat s (j + 1) = 110
          · have h5 : Hid (pieceL ((bl s).drop j) = (10, 2)) := by show _ = _; rw [hdr, pieceL_two _ _ _ (hbi.trans h92), hbi1, if_neg h1, if_pos h2]
            have g6 : (bat s (j + 1) == 110) = true := by simp [h2]
            clear hdr hbi hbi1 hb h1 h2 h92
            go_enter Try.func50, Try.ntmps50
            go_wp2
            go_ret2
            exact PPost.of h5.out (Drawn.refl _)
          · have g6 : (bat s (j + 1) == 110) = false := by rw [beq_eq_false_iff_ne]; exact h2
            by_cases h3 : bat s (j + 1) = 116
            · have h5 : Hid (pieceL ((bl s).drop j) = (9, 2)) := by show _ = _; rw [hdr, pieceL_two _ _ _ (hbi.trans h92), hbi1, if_neg h1, if_neg h2, if_pos h3]
              have g7 : (bat s (j + 1) == 116) = true := by simp [h3]
              clear hdr hbi hbi1 hb h1 h2 h3 h92
              go_enter Try.func50, Try.ntmps50
              go_wp2
              go_ret2
              exact PPost.of h5.out (Drawn.refl _)
            · have g7 : (bat s (j + 1) == 116) = false := by rw [beq_eq_false_iff_ne]; exact h3
              by_cases h4 : bat s (j + 1) = 120
              · have g8 : (bat s (j + 1) == 120) = true := by simp [h4]
                by_cases hlt2 : j + 2 < s.size
                · have hidx2 := fun w => run_index_str (P := Try.prog) Try.underlying9 s (j + 2) hlt2 w
                  rw [show ((j + 2 : Nat) : Int) = (j : Int) + 2 from by omega] at hidx2
                  rw [show j + 1 + 1 = j + 2 from rfl, drop_bl s (j + 2) hlt2] at hdr
                  have hbi2 : bi ((bl s).getD (j + 2) 0) = bat s (j + 2) := rfl
                  have hr2 := bat_range s (j + 2)
                  have hh1 := fun w => rx_half (bat s (j + 2)) w hr2.1 hr2.2
                  replace hh1 := Lib.hid hh1
                  have e1 := half_range (bat s (j + 2))
                  have hp : Hid (pieceL ((bl s).drop j) = if halfI (bat s (j + 2)) < 0 then (0, -3) else match (bl s).drop (j + 3) with | [] => (0, -4) | h2 :: _ => if halfI (bi h2) < 0 then (0, -4) else (16 * halfI (bat s (j + 2)) + halfI (bi h2), 4)) := by
                    show _ = _; rw [hdr, pieceL_two _ _ _ (hbi.trans h92), hbi1, if_neg h1, if_neg h2, if_neg h3, if_pos h4]; rfl
                  obtain ⟨X, hX⟩ : ∃ X, X = halfI (bat s (j + 2)) := ⟨_, rfl⟩
                  rw [← hX] at hh1 e1 hp
                  have hb3 : Hid (bat s j = 92 ∧ bat s (j + 1) = 120) := ⟨h92, h4⟩
                  have k1' : ¬ X < 0 → ¬ halfI (bat s (j + 2)) < 0 := fun h => by rw [← hX]; exact h
                  replace hX := Lib.hid hX
                  clear hdr hbi hbi1 hbi2 hb h1 h2 h3 h4 h92
                  by_cases k1 : X < 0
                  · have h5 : Hid (pieceL ((bl s).drop j) = (0, -3)) := by show _ = _; rw [hp.out, if_pos k1]
                    have gx : decide (X < 0) = true := decide_eq_true k1
                    clear hp
                    go_enter Try.func50, Try.ntmps50
                    go_wp2_with (go_at_call 51; refine (hh1.out _).mono ?_; rintro e w' ⟨rfl, rfl⟩)
                    go_ret2
                    exact PPost.of h5.out (Drawn.refl _)
                  · have gx : decide (X < 0) = false := decide_eq_false k1
                    by_cases hlt3 : j + 3 < s.size
                    · have hidx3 := fun w => run_index_str (P := Try.prog) Try.underlying9 s (j + 3) hlt3 w
                      rw [show ((j + 3 : Nat) : Int) = (j : Int) + 3 from by omega] at hidx3
                      have hr3 := bat_range s (j + 3)
                      have hh2 := fun w => rx_half (bat s (j + 3)) w hr3.1 hr3.2
                      replace hh2 := Lib.hid hh2
                      have e2 := half_range (bat s (j + 3))
                      have hp2 : Hid (pieceL ((bl s).drop j) = if halfI (bat s (j + 3)) < 0 then (0, -4) else (16 * X + halfI (bat s (j + 3)), 4)) := by
                        show _ = _; rw [hp.out, if_neg k1, drop_bl s (j + 3) hlt3]; rfl
                      obtain ⟨Y, hY⟩ : ∃ Y, Y = halfI (bat s (j + 3)) := ⟨_, rfl⟩
                      rw [← hY] at hh2 e2 hp2
                      have k2' : ¬ Y < 0 → ¬ halfI (bat s (j + 3)) < 0 := fun h => by rw [← hY]; exact h
                      clear hp
                      by_cases k2 : Y < 0
                      · have h5 : Hid (pieceL ((bl s).drop j) = (0, -4)) := by show _ = _; rw [hp2.out, if_pos k2]
                        have gy : decide (Y < 0) = true := decide_eq_true k2
                        clear hp2 hY k1' k2' hb3
                        go_enter Try.func50, Try.ntmps50
                        go_wp2_with fail
                        refine (hh1.out _).mono ?_
                        rintro e w' ⟨rfl, rfl⟩
                        go_wp2_with fail
                        refine (hh2.out _).mono ?_
                        rintro e w' ⟨rfl, rfl⟩
                        go_wp2_with fail
                        go_ret2
                        exact PPost.of h5.out (Drawn.refl _)
                      · have h5 : Hid (pieceL ((bl s).drop j) = (16 * X + Y, 4)) := by show _ = _; rw [hp2.out, if_neg k2]
                        rw [hX.out, hY] at h5
                        exact piece_good s j w hs hlt3 hb3 h5 (k1' k1) (k2' k2)
                    · have h5 : Hid (pieceL ((bl s).drop j) = (0, -4)) := by show _ = _; rw [hp.out, if_neg k1, drop_bl_end s (j + 3) (by omega)]
                      clear hp
                      go_enter Try.func50, Try.ntmps50
                      go_wp2_with (go_at_call 51; refine (hh1.out _).mono ?_; rintro e w' ⟨rfl, rfl⟩)
                      go_ret2
                      exact PPost.of h5.out (Drawn.refl _)
                · have h5 : Hid (pieceL ((bl s).drop j) = (0, -3)) := by show _ = _; rw [hdr, drop_bl_end s (j + 1 + 1) (by omega), pieceL_two _ _ _ (hbi.trans h92), hbi1, if_neg h1, if_neg h2, if_neg h3, if_pos h4]
                  clear hdr hbi hbi1 hb h1 h2 h3 h4 h92
                  go_enter Try.func50, Try.ntmps50
                  go_wp2
                  go_ret2
                  exact PPost.of h5.out (Drawn.refl _)
              · have g8 : (bat s (j + 1) == 120) = false := by rw [beq_eq_false_iff_ne]; exact h4
                have h5 : Hid (pieceL ((bl s).drop j) = (0, -2)) := by show _ = _; rw [hdr, pieceL_two _ _ _ (hbi.trans h92), hbi1, if_neg h1, if_neg h2, if_neg h3, if_neg h4]
                clear hdr hbi hbi1 hb h1 h2 h3 h4 h92
                go_enter Try.func50, Try.ntmps50
                go_wp2
                go_ret2
                exact PPost.of h5.out (Drawn.refl _)
      · have h5 : Hid (pieceL ((bl s).drop j) = (0, -2)) := by show _ = _; rw [hdr, drop_bl_end s (j + 1) (by omega), pieceL_one _ (hbi.trans h92)]
        clear hdr hbi hb h92
        go_enter Try.func50, Try.ntmps50
        go_wp2
        go_ret2
        exact PPost.of h5.out (Drawn.refl _)
    · have g3 : (bat s j != 92) = true := by rw [bne_iff_ne]; exact h92
      have h5 : Hid (pieceL ((bl s).drop j) = (bat s j, 1)) := by show _ = _; rw [hdr, pieceL_chr _ _ (by rw [hbi]; exact hb) (by rw [hbi]; exact h92), hbi]
      clear hdr hbi hb h92
      go_enter Try.func50, Try.ntmps50
      go_wp2
      go_ret2
      exact PPost.of h5.out (Drawn.refl _)

end Go.Proofs.Ytefgipoegnacjaa
