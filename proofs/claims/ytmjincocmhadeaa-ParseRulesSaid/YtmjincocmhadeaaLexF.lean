/- The reference's piece and str. -/
import Derived.Test.YtmjincocmhadeaaProg
import Derived.Test.YtmjincocmhadeaaBase
import Derived.Test.YtmjincocmhadeaaBytes
import Derived.Test.YtmjincocmhadeaaLexSpec
import Derived.Test.YtmjincocmhadeaaLexA
import Derived.Test.YtmjincocmhadeaaLexB
import Derived.Test.YtmjincocmhadeaaLexE
namespace Go.Proofs.Ytmjincocmhadeaa
open Go.RowKit Lx

namespace Lx
def pieceL : Bs → Int × Int
  | [] => (0, -1)
  | c :: r =>
    if bi c < 32 ∨ 126 < bi c then (0, -1)
    else if ¬ bi c = 92 then (bi c, 1)
    else match r with
      | [] => (0, -2)
      | d :: r2 =>
        if bi d = 34 ∨ bi d = 92 then (bi d, 2)
        else if bi d = 110 then (10, 2)
        else if bi d = 116 then (9, 2)
        else if bi d = 120 then
          match r2 with
          | [] => (0, -3)
          | h1 :: r3 =>
            if halfI (bi h1) < 0 then (0, -3)
            else match r3 with
              | [] => (0, -4)
              | h2 :: _ => if halfI (bi h2) < 0 then (0, -4) else (16 * halfI (bi h1) + halfI (bi h2), 4)
        else (0, -2)
theorem bi_range (c : UInt8) : 0 ≤ bi c ∧ bi c < 256 := by unfold bi; have := c.toNat_lt; omega
theorem quo_piece (c : UInt8) (r : Bs) (n : Nat) (h34 : ¬ bi c = 34) (hn : ¬ n = 1024) :
    ((pieceL (c :: r)).2 < 0 ∧ quo (c :: r) n = ([], (-(pieceL (c :: r)).2 - 1).toNat, false)) ∨
    (∃ (b : UInt8) (k : Nat), 1 ≤ k ∧ k ≤ r.length + 1 ∧ pieceL (c :: r) = (bi b, (k : Int)) ∧ quo (c :: r) n = (b :: (quo ((c :: r).drop k) (n + 1)).1, (quo ((c :: r).drop k) (n + 1)).2.1 + k, (quo ((c :: r).drop k) (n + 1)).2.2)) := by
  by_cases hb : bi c < 32 ∨ 126 < bi c
  · left
    rw [quo_bad c r n h34 (.inr hb)]
    simp only [pieceL, if_pos hb]
    exact ⟨by omega, rfl⟩
  · by_cases h92 : bi c = 92
    · rw [quo_92 c r n h92 hn]
      cases r with
      | nil => left; simp [pieceL, h92, quoS]
      | cons d r2 =>
        simp only [pieceL, h92, not_true, if_false, quoS]
        by_cases h1 : bi d = 34 ∨ bi d = 92
        · right; rw [if_pos h1, if_pos h1]; exact ⟨d, 2, by omega, by simp, rfl, rfl⟩
        · rw [if_neg h1, if_neg h1]
          by_cases h2 : bi d = 110
          · right; rw [if_pos h2, if_pos h2]; exact ⟨10, 2, by omega, by simp, rfl, rfl⟩
          · rw [if_neg h2, if_neg h2]
            by_cases h3 : bi d = 116
            · right; rw [if_pos h3, if_pos h3]; exact ⟨9, 2, by omega, by simp, rfl, rfl⟩
            · rw [if_neg h3, if_neg h3]
              by_cases h4 : bi d = 120
              · rw [if_pos h4, if_pos h4]
                cases r2 with
                | nil => left; exact ⟨by simp, by simp [quoF]⟩
                | cons g1 r3 =>
                  simp only []
                  by_cases k1 : halfI (bi g1) < 0
                  · left; rw [if_pos k1, quoF_bad _ _ _ k1]; exact ⟨by simp, by simp⟩
                  · rw [if_neg k1]
                    cases r3 with
                    | nil => left; rw [quoF_end _ _ k1]; exact ⟨by simp, by simp⟩
                    | cons g2 r4 =>
                      simp only []
                      by_cases k2 : halfI (bi g2) < 0
                      · left; rw [if_pos k2, quoF_bad2 _ _ _ _ k1 k2]; exact ⟨by simp, by simp⟩
                      · right
                        rw [if_neg k2, quoF_ok _ _ _ _ _ _ rfl rfl k1 k2]
                        have e1 := half_range (bi g1)
                        have e2 := half_range (bi g2)
                        have hv : bi (UInt8.ofNat (16 * halfI (bi g1) + halfI (bi g2)).toNat) = 16 * halfI (bi g1) + halfI (bi g2) := by
                          have hlt : (16 * halfI (bi g1) + halfI (bi g2)).toNat < 256 := by omega
                          unfold bi at hlt ⊢
                          rw [UInt8.toNat_ofNat_of_lt' hlt]; unfold bi at e1 e2 k1 k2; omega
                        exact ⟨_, 4, by omega, by simp, by rw [hv]; rfl, rfl⟩
              · left; rw [if_neg h4, if_neg h4]; exact ⟨by simp, by simp⟩
    · right
      rw [quo_chr c r n h34 (by omega) h92]
      simp only [pieceL, if_neg hb, if_pos h92]
      exact ⟨c, 1, by omega, by omega, rfl, rfl⟩
theorem pieceL_bad (c : UInt8) (r : Bs) (h : bi c < 32 ∨ 126 < bi c) : pieceL (c :: r) = (0, -1) := by rw [pieceL.eq_def]; simp only []; rw [if_pos h]
theorem pieceL_chr (c : UInt8) (r : Bs) (h : ¬ (bi c < 32 ∨ 126 < bi c)) (h2 : ¬ bi c = 92) : pieceL (c :: r) = (bi c, 1) := by rw [pieceL.eq_def]; simp only []; rw [if_neg h, if_pos h2]
theorem pieceL_one (c : UInt8) (h2 : bi c = 92) : pieceL [c] = (0, -2) := by rw [pieceL.eq_def]; simp only []; rw [if_neg (by omega), if_neg (by omega)]
theorem pieceL_two (c d : UInt8) (r2 : Bs) (h2 : bi c = 92) : pieceL (c :: d :: r2) = if bi d = 34 ∨ bi d = 92 then (bi d, 2)
        else if bi d = 110 then (10, 2)
        else if bi d = 116 then (9, 2)
        else if bi d = 120 then
          match r2 with
          | [] => (0, -3)
          | h1 :: r3 =>
            if halfI (bi h1) < 0 then (0, -3)
            else match r3 with
              | [] => (0, -4)
              | h2 :: _ => if halfI (bi h2) < 0 then (0, -4) else (16 * halfI (bi h1) + halfI (bi h2), 4)
        else (0, -2) := by
  rw [pieceL.eq_def]; simp only []; rw [if_neg (by omega), if_neg (by omega)]
  cases r2 with
  | nil => rfl
  | cons h1 r3 => cases r3 <;> rfl
end Lx

def PPost (s : ByteArray) (j : Nat) (w : World) (e : Ending) (w' : World) : Prop :=
  e = .returned (.tuple #[.int .u8 (pieceL ((bl s).drop j)).1, .int .i64 (pieceL ((bl s).drop j)).2]) ∧ Drawn w w'
theorem PPost.of {s : ByteArray} {j : Nat} {w w' : World} {b n : Int} (h : pieceL ((bl s).drop j) = (b, n)) (hd : Drawn w w') : PPost s j w (.returned (.tuple #[.int .u8 b, .int .i64 n])) w' := by
  unfold PPost; rw [h]; exact ⟨rfl, hd⟩

end Go.Proofs.Ytmjincocmhadeaa
