/- IndexNil: the law walked. -/
import Derived.Test.YtjeeljolhcoeoaaIxH
namespace Go.Proofs.Ytjeeljolhcoeoaa
open Go.RowKit
attribute [local go_sem] eql_fn_h eql_nn_h eql_fn_s eql_nn_s eql_fn_i eql_nn_i

set_option maxRecDepth 100000 in
set_option maxHeartbeats 4000000 in
theorem law_IndexNil (key value : Int) (w : World) (_ : IntKind.i64.wrap key = key) (_ : IntKind.i64.wrap value = value) : Calls Try.prog 8 #[.int .i64 key, .int .i64 value] w fun e w' => e = .returned (.bool true) ∧ Below w.heap.size w w' := by
  go_enter Try.func8, Try.ntmps8
  go_wp2_with fail
  refine (ix_sames 0 w).mono ?_
  rintro e w1 ⟨rfl, hw1⟩
  have hb1 : Below w.heap.size w w1 := by rw [hw1]; exact (Below.refl _ _).al _
  clear hw1
  go_wp2_with (go_at_call 17; refine (ix_new_nil1 _ _).mono ?_; rintro e w' ⟨rfl, rfl⟩)
  refine (ix_hashes 0 w1).mono ?_
  rintro e w2 ⟨rfl, hw2⟩
  have hb2 : Below w1.heap.size w1 w2 := by rw [hw2]; exact (Below.refl _ _).al _
  clear hw2
  have hb02 := Lib.hid (hb1.trans (hb2.mono hb1.size))
  clear hb1 hb2
  go_wp2_with (go_at_call 17; refine (ix_new_nil2 _ _ _ _).mono ?_; rintro e w' ⟨rfl, rfl⟩)
  refine (ix_nothing none key value w2 (.inl rfl)).mono ?_
  rintro e w3 ⟨rfl, hb3⟩
  have hb03 := Lib.hid (hb02.out.trans (hb3.mono hb02.out.size))
  clear hb3 hb02
  go_wp2_with fail
  have hnt : NT (w3.alloc (.cells #[.nilFunc, .nilFunc, .slice none 0 0, .pointer none, .pointer none, .int .i64 0] 87)) (some ⟨w3.heap.size, 0, none⟩) := .inr ⟨_, rfl, cell_of_row _ _ _ _ _ _ (heap_alloc_new _ _)⟩
  have hb4 := (Below.refl w3.heap.size w3).alloc (Nat.le_refl _) (.cells #[.nilFunc, .nilFunc, .slice none 0 0, .pointer none, .pointer none, .int .i64 0] 87)
  generalize w3.alloc (.cells #[.nilFunc, .nilFunc, .slice none 0 0, .pointer none, .pointer none, .int .i64 0] 87) = w4 at hnt hb4 ⊢
  refine (ix_nothing _ key value w4 hnt).mono ?_
  rintro e w5 ⟨rfl, hb5⟩
  have hb05 := Lib.hid (hb03.out.trans ((hb4.trans (hb5.mono hb4.size)).mono hb03.out.size))
  clear hb03 hb4 hb5 hnt
  go_wp2_with fail
  refine (ix_known w5).mono ?_
  rintro e w6 ⟨rfl, hb6⟩
  go_wp2_with fail
  go_ret
  exact ⟨rfl, hb05.out.trans (hb6.mono hb05.out.size)⟩

end Go.Proofs.Ytjeeljolhcoeoaa
