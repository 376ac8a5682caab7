/- Index: what asks find and writes nothing. -/
import Derived.Test.YtjeeljolhcoeoaaSxD
namespace Go.Proofs.Ytjeeljolhcoeoaa.Str
open Go.RowKit
attribute [local go_sem] eql_fn_h eql_nn_h eql_fn_s eql_nn_s eql_fn_i eql_nn_i

theorem fnd_there {pl : Nat → Option Nat} {mt : Nat → Bool} {sz : Nat} : ∀ (f j seen : Nat), j < sz → (fnd pl mt sz f j seen).2.2 = true → (fnd pl mt sz f j seen).1 < sz ∧ ∃ b, pl (fnd pl mt sz f j seen).1 = some b ∧ mt b = true
  | 0, _, _, _, h => by simp [fnd] at h
  | f + 1, j, seen, hj, h => by
    rw [fnd] at h ⊢
    cases hp : pl j with
    | none => rw [hp] at h; simp at h
    | some b =>
      rw [hp] at h
      simp only [] at h ⊢
      by_cases hm : mt b = true
      · rw [if_pos hm]; exact ⟨hj, b, hp, hm⟩
      · rw [if_neg hm] at h ⊢
        exact fnd_there f _ _ (Nat.mod_lt _ (by omega)) h
theorem fnd_free {pl : Nat → Option Nat} {mt : Nat → Bool} {sz : Nat} : ∀ (f j seen : Nat), j < sz → (∃ d, d < f ∧ pl ((j + d) % sz) = none) → (fnd pl mt sz f j seen).2.2 = false → (fnd pl mt sz f j seen).1 < sz ∧ pl (fnd pl mt sz f j seen).1 = none
  | 0, _, _, _, h, _ => by obtain ⟨d, hd, _⟩ := h; omega
  | f + 1, j, seen, hj, hf, h => by
    rw [fnd] at h ⊢
    cases hp : pl j with
    | none => exact ⟨hj, hp⟩
    | some b =>
      rw [hp] at h
      simp only [] at h ⊢
      by_cases hm : mt b = true
      · rw [if_pos hm] at h; simp at h
      · rw [if_neg hm] at h ⊢
        exact fnd_free f _ _ (Nat.mod_lt _ (by omega)) (free_next hj hp hf) h

section
variable {w : World} {T P hb sb : Nat} {way : Int} {sz : Nat} {es : List Ent} {pl : Nat → Option Nat}

end
end Go.Proofs.Ytjeeljolhcoeoaa.Str
