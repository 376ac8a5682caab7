/- the reference's next: signs and words. -/
import Derived.Test.YtefgipoegnacjaaProg
import Derived.Test.YtefgipoegnacjaaBase
import Derived.Test.YtefgipoegnacjaaBytes
import Derived.Test.YtefgipoegnacjaaLexSpec
import Derived.Test.YtefgipoegnacjaaLexA
import Derived.Test.YtefgipoegnacjaaLexB
import Derived.Test.YtefgipoegnacjaaLexD
import Derived.Test.YtefgipoegnacjaaLexE
import Derived.Test.YtefgipoegnacjaaLexG
import Derived.Test.YtefgipoegnacjaaLexH
import Derived.Test.YtefgipoegnacjaaLexK
import Derived.Test.YtefgipoegnacjaaLexO
import Derived.Test.YtefgipoegnacjaaLexQ
import Derived.Test.YtefgipoegnacjaaLexR
namespace Go.Proofs.Ytefgipoegnacjaa
open Go.RowKit Lx

namespace Lx
theorem signI_cases (c : Int) : signI c = none ∨ (∃ k, signI c = some (k, 1, 0) ∧ k ≠ 0) ∨ (∃ k d, signI c = some (k, 2, d) ∧ k ≠ 0) := by
  unfold signI; repeat' split
  all_goals simp
theorem sign_next (c : UInt8) (r : Bs) (at_ : Nat) (h34 : ¬ bi c = 34) (hs : ¬ signI (bi c) = none) :
    ∃ (k : Int) (A : Nat) (b : Int), signR (c :: r) = (k, (A : Int), b) ∧ k ≠ 0 ∧ A ≤ 2 ∧ nextT (c :: r) at_ = (⟨k, [], at_, at_ + A⟩, (A : Int) == b) := by
  rcases signI_cases (bi c) with h | ⟨k, h, hk⟩ | ⟨k, d, h, hk⟩
  · exact absurd h hs
  · exact ⟨k, 1, 1, by simp [signR, h], hk, by omega, next_sign1 c r at_ k 0 h34 h⟩
  · by_cases hd : firstB (fun y => decide (y = d)) r = true
    · refine ⟨k, 2, 2, by simp [signR, h, hd], hk, by omega, ?_⟩
      cases r with
      | nil => cases hd
      | cons x r => exact next_sign2 c x r at_ k d h34 h (by simpa [firstB] using hd)
    · have hd' : firstB (fun y => decide (y = d)) r = false := by simpa using hd
      exact ⟨k, 1, 2, by simp [signR, h, hd'], hk, by omega, next_sign2n c r at_ k d h34 h hd'⟩
theorem sign_none (c : UInt8) (r : Bs) (hs : signI (bi c) = none) : signR (c :: r) = (0, 0, 0) := by simp [signR, hs]
end Lx

set_option maxHeartbeats 2000000 in
theorem rx_next_sign (s : ByteArray) (a0 : Nat) (w : World) (hs : s.size ≤ 4194304) (hlt : a0 < s.size) (h34 : ¬ bat s a0 = 34) (hsg : ¬ signI (bat s a0) = none) :
    Calls Try.prog 33 #[.string s, .int .i64 a0] w (RPost s a0 w) := by
  have hidx := fun w => run_index_str (P := Try.prog) Try.underlying9 s a0 hlt w
  have g1 : (bat s a0 == 34) = false := by rw [beq_eq_false_iff_ne]; exact h34
  obtain ⟨k, A, b, hr, hk, hA, hnx⟩ := sign_next ((bl s).getD a0 0) ((bl s).drop (a0 + 1)) a0 h34 hsg
  rw [← drop_bl s a0 hlt] at hr hnx
  replace hnx := Lib.hid hnx
  replace hr := Lib.hid hr
  have hk1 : (k != 0) = true := by rw [bne_iff_ne]; exact hk
  have hk2 : Hid (¬ k = 0) := hk
  have v1 : IntKind.i64.wrap ((a0 : Int) + (A : Int)) = (a0 : Int) + (A : Int) := IntWalk.i64_in _ (by omega)
  clear h34 hsg hk
  have hW : Hid ((w.alloc (.cells #[.int .i64 0, .string ⟨#[]⟩, .int .i64 0, .int .i64 0] 25)).heap[w.heap.size]? = some (.cells (tokCs 0 [] 0 0) 25)) := heap_alloc_new _ _
  have hWb : Below w.heap.size w (w.alloc (.cells #[.int .i64 0, .string ⟨#[]⟩, .int .i64 0, .int .i64 0] 25)) := (Below.refl _ _).al _
  have hWs : w.heap.size < (w.alloc (.cells #[.int .i64 0, .string ⟨#[]⟩, .int .i64 0, .int .i64 0] 25)).heap.size := by simp
  go_enter Try.func33, Try.ntmps33
  go_wp2_with fail
  generalize w.alloc (.cells #[.int .i64 0, .string ⟨#[]⟩, .int .i64 0, .int .i64 0] 25) = W at hW hWb hWs ⊢
  refine (rx_sign s a0 _ hs hlt).mono ?_
  rintro e w2 ⟨he, rfl⟩
  rw [hr.out] at he
  subst he
  go_wp2_with (refine wpList_store_rowA rfl 25 (.tmp 4) (.tmp 48) rfl w.heap.size (tokCs k [] a0 ((a0 : Int) + (A : Int))) rfl rfl 25 (tokCs 0 [] 0 0) hW.out sizeTok rfl (tokCs_one _ _ _ _) ?_)
  intro w4 hg4 hgr hsz
  have hb4 : Below w.heap.size w w4 := hWb.grown hgr (by omega) (by intro k hk; injection hk with hk; omega)
  clear hgr hsz
  go_wp2_with fail
  refine bodyPost_ret (v := .tuple #[.agg (tokCs k [] a0 ((a0 : Int) + (A : Int))), .int .i64 ((a0 : Int) + (A : Int)), .bool ((A : Int) == b)]) ?_ rfl (RPost.of hnx.out (by show _ = tokCs k [] a0 ((a0 + A : Nat) : Int); rw [Int.natCast_add]) (by rw [if_neg hk2.out]; rw [Int.natCast_add]) hb4)
  exact results_cell3 rfl _ _ w.heap.size 25 _ (0, 0) _ rfl hg4.out Try.underlying25 rfl sizeTok _ _ rfl rfl

end Go.Proofs.Ytefgipoegnacjaa
