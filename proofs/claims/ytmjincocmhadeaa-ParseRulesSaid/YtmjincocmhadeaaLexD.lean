/- Names, variables, numbers; the reference's word and blanks. -/
import Derived.Test.YtmjincocmhadeaaProg
import Derived.Test.YtmjincocmhadeaaBase
import Derived.Test.YtmjincocmhadeaaLexSpec
import Derived.Test.YtmjincocmhadeaaLexA
import Derived.Test.YtmjincocmhadeaaLexB
import Derived.Test.YtmjincocmhadeaaLexC
namespace Go.Proofs.Ytmjincocmhadeaa
open Go.RowKit Lx

namespace Lx
theorem kind_name (l : Bs) : (kindI l == 1) = nameB l := by
  by_cases hb : allB letterB l = true
  · by_cases hz : 1 ≤ l.length ∧ l.length ≤ 64
    · have hw : writtenB l = true := by unfold writtenB; rw [hb]; simp; omega
      unfold nameB
      rw [hw]
      by_cases hs : firstB smallB l = true
      · rw [kind_small hw hs, hs]
        unfold reservedB
        by_cases h1 : l = sInput
        · rw [if_pos h1]; simp [h1]
        · by_cases h2 : l = sOutput
          · rw [if_neg h1, if_pos h2]; simp [h2]
          · by_cases h3 : l = sNot
            · rw [if_neg h1, if_neg h2, if_pos h3]; simp [h3]
            · rw [if_neg h1, if_neg h2, if_neg h3]; simp [h1, h2, h3]
      · have hs' : firstB smallB l = false := by simpa using hs
        rw [hs']
        cases l with
        | nil => simp at hz
        | cons c r =>
          have hl : letterB (bi c) = true := by unfold allB at hb; simp at hb; exact hb.1
          have hc : ¬ (97 ≤ bi c ∧ bi c ≤ 122) := by simpa [firstB, smallB] using hs'
          by_cases hd : firstB digitB (c :: r) = true
          · rw [kind_digit hw hd]; split <;> simp
          · by_cases hg : firstB greatB (c :: r) = true
            · rw [kind_great hw hg]; simp
            · rw [kind_line (by simp [firstB, digitB, greatB] at *; unfold letterB at hl; simp at hl; omega)]; simp
    · have hw : writtenB l = false := by unfold writtenB; rw [hb]; simp; omega
      rw [kind_size (by omega)]; unfold nameB; rw [hw]; rfl
  · have hb' : allB letterB l = false := by simpa using hb
    rw [kind_bad hb']; unfold nameB writtenB; rw [hb']; rfl
theorem kind_variable (l : Bs) : (kindI l == 2) = variableB l := by
  by_cases hw : writtenB l = true
  · unfold variableB
    rw [hw]
    by_cases hg : firstB greatB l = true
    · rw [kind_great hw hg, hg]; rfl
    · have hg' : firstB greatB l = false := by simpa using hg
      rw [hg']
      unfold kindI variableB
      rw [hg']
      split
      · simp
      · split
        · simp
        · split
          · simp
          · split
            · simp
            · simp; split <;> simp
  · have hw' : writtenB l = false := by simpa using hw
    unfold kindI variableB
    rw [hw']
    split
    · simp
    · split
      · simp
      · split
        · simp
        · split
          · simp
          · simp; split <;> simp
theorem kind_number (l : Bs) : (kindI l == 3) = numberB l := by
  unfold kindI
  split
  · rename_i h; subst h; decide
  · split
    · rename_i h; subst h; decide
    · split
      · rename_i h; subst h; decide
      · by_cases hn : numberB l = true
        · rw [if_pos hn, hn]; rfl
        · have hn' : numberB l = false := by simpa using hn
          rw [hn', if_neg (by simp)]
          split
          · simp
          · split <;> simp
end Lx

end Go.Proofs.Ytmjincocmhadeaa
