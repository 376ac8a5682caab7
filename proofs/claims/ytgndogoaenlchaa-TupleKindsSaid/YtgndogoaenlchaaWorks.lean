/- works: a few of the chapter's examples. -/
import Derived.Test.YtgndogoaenlchaaRows
import Derived.Test.YtgndogoaenlchaaBase
import Derived.Test.YtgndogoaenlchaaKit
import Derived.Test.YtgndogoaenlchaaHash
import Derived.Test.YtgndogoaenlchaaCmp
import Derived.Test.YtgndogoaenlchaaKey
import Derived.Test.YtgndogoaenlchaaEqual
import Derived.Test.YtgndogoaenlchaaOf
import Derived.Test.YtgndogoaenlchaaCut
import Derived.Test.YtgndogoaenlchaaLeast
namespace Go.Proofs.Ytgndogoaenlchaa
open Go.RowKit

theorem w_of : ofV (ofL [0, 2] 0) = .tuple #[.int .u16 5, .int .i64 0] := by kernel_rfl
theorem w_cut : cutL [5, 6, 7] 5 = [5, 7] := by decide
theorem w_hash : hashL [0] = 12161962213042174405 := by kernel_rfl

theorem works_rows (w : World) : IRows ((((w.alloc (.cells #[.int .i64 2, .int .i64 1] 3)).alloc (.cells #[.int .i64 1, .int .i64 5] 3)).alloc (.cells #[.int .i64 1] 3)).alloc
      (.cells #[.slice (some ⟨w.heap.size, 0, none⟩) 2 2, .slice (some ⟨w.heap.size + 1, 0, none⟩) 2 2, .slice (some ⟨w.heap.size + 2, 0, none⟩) 1 1] 22)) (some ⟨w.heap.size + 3, 0, none⟩) 3
    [⟨some ⟨w.heap.size, 0, none⟩, 2, [2, 1]⟩, ⟨some ⟨w.heap.size + 1, 0, none⟩, 2, [1, 5]⟩, ⟨some ⟨w.heap.size + 2, 0, none⟩, 1, [1]⟩] := by
  have c := cell_of_row ((((w.alloc (.cells #[.int .i64 2, .int .i64 1] 3)).alloc (.cells #[.int .i64 1, .int .i64 5] 3)).alloc (.cells #[.int .i64 1] 3)).alloc
      (.cells #[.slice (some ⟨w.heap.size, 0, none⟩) 2 2, .slice (some ⟨w.heap.size + 1, 0, none⟩) 2 2, .slice (some ⟨w.heap.size + 2, 0, none⟩) 1 1] 22)) (w.heap.size + 3)
  have h := heap_alloc_new (((w.alloc (.cells #[.int .i64 2, .int .i64 1] 3)).alloc (.cells #[.int .i64 1, .int .i64 5] 3)).alloc (.cells #[.int .i64 1] 3))
    (.cells #[.slice (some ⟨w.heap.size, 0, none⟩) 2 2, .slice (some ⟨w.heap.size + 1, 0, none⟩) 2 2, .slice (some ⟨w.heap.size + 2, 0, none⟩) 1 1] 22)
  simp only [World.size_alloc] at h
  refine ⟨by simp, by simp, fun i hi => ⟨_, _, rfl, ?_⟩, fun i hi => ?_, fun i hi => ?_⟩
  · rw [Nat.zero_add, c i _ _ _ h]
    match i, hi with
    | 0, _ => rfl
    | 1, _ => rfl
    | 2, _ => rfl
  · match i, hi with
    | 0, _ => exact (ints_litB .i64 w _ [2, 1] _ _ rfl rfl (by decide) (by decide)).below (((((Below.refl _ _).alloc (Nat.le_refl _) _)).alloc (by simp) _).alloc (by simp) _)
    | 1, _ => exact (ints_litB .i64 _ _ [1, 5] _ _ (by simp) rfl (by decide) (by decide)).below ((((Below.refl _ _).alloc (Nat.le_refl _) _)).alloc (by simp) _)
    | 2, _ => exact (ints_litB .i64 _ _ [1] _ _ (by simp) rfl (by decide) (by decide)).below ((((Below.refl _ _).alloc (Nat.le_refl _) _)))
  · match i, hi with
    | 0, _ => intro h; cases h
    | 1, _ => intro h; cases h
    | 2, _ => intro h; cases h
theorem w_least (b1 b2 : Nat) : leastF [2, 1] [⟨some ⟨b1, 0, none⟩, 2, [1, 5]⟩, ⟨some ⟨b2, 0, none⟩, 1, [1]⟩] = [1] := by rfl

set_option maxHeartbeats 400000 in
theorem works_any (w : World) : Calls Try.prog 13 #[] w fun e w' => e = .returned (.bool true) ∧ Below w.heap.size w w' := by
  go_enter Try.func13, Try.ntmps13
  go_wp2_with fail
  refine (Calls.len1 (zs := [0, 2]) rfl (of_any _ _ _ _ (ints_litA .i64 _ _ _ _ rfl (by decide) (by decide)))).mono ?_
  rintro e w1 ⟨he, rfl⟩
  rw [w_of] at he
  subst he
  go_wp2_with fail
  refine (cut_okI _ _ _ [5, 6, 7] 5 5 _ (ints_litB .i64 _ _ _ _ _ (by simp) rfl (by decide) (by decide)) rfl rfl (by decide) (by decide)).mono ?_
  rintro e w2 ⟨v, rfl, hcut, hb2⟩
  rw [w_cut] at hcut
  obtain ⟨g1, c1, rfl, hg1, hg2, hg3, _⟩ := own_shape hcut (by decide)
  have hcut1 := Lib.hid (Ints.own hcut (by decide) (by decide))
  clear hcut
  have hs2 := hb2.size
  simp at hs2 hg1
  go_wp2_with fail
  refine (Calls.len1 (zs := [7, 8]) rfl (key_int _ _ _ _ (ints_litB .i64 _ _ _ _ _ (by simp) rfl (by decide) (by decide)) (by decide))).mono ?_
  rintro e w3 ⟨rfl, hb3⟩
  have hs3 := hb3.size
  simp at hs3
  have hcut3 := Lib.hid (((hcut1.out.below ((Below.refl _ _).alloc (Nat.le_refl _) _))).below hb3)
  have hz3 : Hid ((w3.alloc (.cells #[.int .i64 0, .int .i64 0, .int .i64 0, .int .i64 0, .int .i64 0, .int .i64 0, .int .i64 0, .int .i64 0, .int .i64 0, .int .i64 0, .int .i64 0, .int .i64 0, .int .i64 0, .int .i64 0, .int .i64 0, .int .i64 0] 48)).heap[w3.heap.size]? = some (.cells #[.int .i64 0, .int .i64 0, .int .i64 0, .int .i64 0, .int .i64 0, .int .i64 0, .int .i64 0, .int .i64 0, .int .i64 0, .int .i64 0, .int .i64 0, .int .i64 0, .int .i64 0, .int .i64 0, .int .i64 0, .int .i64 0] 48)) := heap_alloc_new _ _
  go_wp2_with (with_reducible refine wpList_store_rowA rfl 48 (.tmp 5) (.tmp 23) rfl w3.heap.size (keyV .i64 [7, 8]) rfl rfl 48 #[.int .i64 0, .int .i64 0, .int .i64 0, .int .i64 0, .int .i64 0, .int .i64 0, .int .i64 0, .int .i64 0, .int .i64 0, .int .i64 0, .int .i64 0, .int .i64 0, .int .i64 0, .int .i64 0, .int .i64 0, .int .i64 0] hz3.out (by rw [keyV_size]; exact sizeArr_int) (zeroSize_int _) (keyV_one _ _) ?_)
  intro w4 hk4 hgr hsz
  have hs4 : w3.heap.size < w4.heap.size := by have h := hsz.out; first | omega | (simp at h; omega)
  have hb4 : Below w3.heap.size w3 w4 := ((Below.refl _ _).alloc (Nat.le_refl _) _).grown hgr (by simp) (by intro k hk; simp at hk; omega)
  have hcut4 := Lib.hid (hcut3.out.below hb4)
  clear hgr hsz hz3 hcut1 hcut3
  go_wp2_with fail
  refine (least_anyN _ _ _ _ _ _ (works_rows w4) rfl (by simp) (by unfold maxLen; omega)).mono ?_
  rintro e w5 ⟨v5, rfl, hl5, hb5⟩
  have e5 : leastF (rth [⟨some ⟨w4.heap.size, 0, none⟩, 2, [2, 1]⟩, ⟨some ⟨w4.heap.size + 1, 0, none⟩, 2, [1, 5]⟩, ⟨some ⟨w4.heap.size + 2, 0, none⟩, 1, [1]⟩] 0).zs
    ([⟨some ⟨w4.heap.size, 0, none⟩, 2, [2, 1]⟩, ⟨some ⟨w4.heap.size + 1, 0, none⟩, 2, [1, 5]⟩, ⟨some ⟨w4.heap.size + 2, 0, none⟩, 1, [1]⟩].drop 1) = [1] := rfl
  rw [e5] at hl5
  obtain ⟨g5, c5, rfl, _, hg5, _, _⟩ := own_shape hl5 (by decide)
  have hl55 := Lib.hid (Ints.own hl5 (by decide) (by decide))
  clear hl5 e5
  have hb5' : Below w4.heap.size w4 w5 := (((((Below.refl _ _).alloc (Nat.le_refl _) _).alloc (by (try simp) <;> omega) _).alloc (by (try simp) <;> omega) _).alloc (by (try simp) <;> omega) _).trans (hb5.mono (by (try simp) <;> omega))
  have hs5 := hb5'.size
  have hlt5 : w3.heap.size < w5.heap.size := by omega
  have hcut5 := Lib.hid (hcut4.out.below hb5')
  have hk5 : Hid (w5.heap[w3.heap.size]? = some (.cells (keyV .i64 [7, 8]) 48)) := (hb5'.block _ hs4).trans hk4.out
  have k0 : w5.cell? ⟨w3.heap.size, 0, none⟩ = some (.int .i64 7) := cell_of_row _ _ _ _ _ _ hk5.out
  have k1 : w5.cell? ⟨w3.heap.size, 1, none⟩ = some (.int .i64 8) := cell_of_row _ _ _ _ _ _ hk5.out
  have k2 : w5.cell? ⟨w3.heap.size, 2, none⟩ = some (.int .i64 0) := cell_of_row _ _ _ _ _ _ hk5.out
  have hbAll : Hid (Below w.heap.size w w5) := (((((((Below.refl _ _).alloc (Nat.le_refl _) _).alloc (by (try simp) <;> omega) _).trans (hb2.mono (by (try simp) <;> omega))).trans ((((Below.refl _ _).alloc (Nat.le_refl _) _).trans (hb3.mono (by (try simp) <;> omega))).mono (by omega))).trans (hb4.mono (by omega))).trans (hb5'.mono (by omega)))
  clear hb2 hb3 hb4 hb5 hb5' hcut4 hk5 hk4
  go_wp2_with fail
  refine (num_any 0 _).mono ?_
  rintro e w' ⟨rfl, rfl⟩
  go_wp2_with fail
  refine (num_any 0 _).mono ?_
  rintro e w' ⟨rfl, rfl⟩
  go_wp2_with fail
  refine (num_any 0 _).mono ?_
  rintro e w' ⟨rfl, rfl⟩
  go_wp2_with fail
  refine (Calls.len2 (zs := [5, 7]) (ys := [5, 7]) rfl rfl (kints _ _ _ _ _ _ _ (hcut5.out.below ((Below.refl _ _).alloc (Nat.le_refl _) _)) (ints_litB .i64 _ _ _ _ _ rfl rfl (by decide) (by decide)))).mono ?_
  rintro e w6 ⟨he, ⟨n6, rfl⟩⟩
  have hq : eqB [5, 7] [5, 7] = true := by decide
  rw [hq] at he
  subst he
  clear hq
  go_wp2_with fail
  refine (Calls.len2 (zs := [1]) (ys := [1]) rfl rfl (kints _ _ _ _ _ _ _ (hl55.out.below ((((Below.refl _ _).alloc (Nat.le_refl _) _).drewN _).alloc (by simp) _)) (ints_litB .i64 _ _ _ _ _ (by simp) rfl (by decide) (by decide)))).mono ?_
  rintro e w6 ⟨he, ⟨n7, rfl⟩⟩
  have hq : eqB [1] [1] = true := by decide
  rw [hq] at he
  subst he
  clear hq
  go_wp2_with fail
  refine (Calls.len1 (zs := [0]) rfl (hash_int _ _ _ _ (ints_litB .i64 _ _ _ _ _ (by simp) rfl (by decide) (by decide)))).mono ?_
  rintro e w6 ⟨he, rfl⟩
  rw [w_hash] at he
  subst he
  go_wp2_with fail
  refine (Calls.len2 (zs := [1, 2]) (ys := [1, 3]) rfl rfl (cmp_int _ _ _ _ _ _ _ ((ints_litB .i64 _ _ _ _ _ (by simp) rfl (by decide) (by decide)).below ((Below.refl _ _).alloc (Nat.le_refl _) _)) (ints_litB .i64 _ _ _ _ _ (by simp) rfl (by decide) (by decide)))).mono ?_
  rintro e w6 ⟨he, rfl⟩
  have hq : cmpL [1, 2] [1, 3] = -1 := by decide
  rw [hq] at he
  subst he
  clear hq
  go_wp2_with fail
  refine (Calls.len2 (zs := [4]) (ys := [4]) rfl rfl (equal_int _ _ _ _ _ _ _ ((ints_litB .i64 _ _ _ _ _ (by simp) rfl (by decide) (by decide)).below ((Below.refl _ _).alloc (Nat.le_refl _) _)) (ints_litB .i64 _ _ _ _ _ (by simp) rfl (by decide) (by decide)))).mono ?_
  rintro e w6 ⟨he, hb6⟩
  have hq : eqB [4] [4] = true := by decide
  rw [hq] at he
  subst he
  clear hq
  go_wp2_with fail
  go_ret
  refine ⟨rfl, hbAll.out.trans (Below.mono (Below.trans ?_ (hb6.mono (by simp; omega))) hbAll.out.size)⟩
  exact (((((((((Below.refl _ _).al _).drewN _).al _).drewN _).al _).al _).al _).al _).al _

end Go.Proofs.Ytgndogoaenlchaa
