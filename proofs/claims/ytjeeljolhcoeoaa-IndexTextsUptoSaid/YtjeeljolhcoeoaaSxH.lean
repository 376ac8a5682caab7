/- Index: New; a small table; IndexNil. -/
import Derived.Test.YtjeeljolhcoeoaaSxG
namespace Go.Proofs.Ytjeeljolhcoeoaa.Str
open Go.RowKit
attribute [local go_sem] eql_fn_h eql_nn_h eql_fn_s eql_nn_s eql_fn_i eql_nn_i

theorem infoP : (Try.prog.info? 89).map (fun i => (i.zero, i.size, i.bytes)) = some (some (.pointer none), 1, 8) := by kernel_rfl
/-- 'make' of places: none of them is taken -/
theorem made_places {w w' : World} {base n : Nat} (h : w'.ownsRow base 89 1 (.slice (some ⟨w.heap.size, 0, none⟩) n n) n (madeCells (Value.pointer none).cells (n * 1)).toList) :
    w'.heap[w.heap.size]? = some (.cells (plCs n (fun _ => none)) 89) := by
  rcases h.2 with ⟨hv, _⟩ | ⟨g, cap, cur, hv, _, hh, _, _, hcs, ht⟩
  · cases hv
  · injection hv with h1 h2 h3
    injection h1 with h1
    injection h1 with h1
    subst h1 h3
    rw [hh]
    congr 2
    apply Array.ext'
    rw [List.take_of_length_le (by rw [Array.length_toList]; omega)] at ht
    rw [ht, show (Value.pointer none).cells = #[Value.pointer none] from rfl, Nat.mul_one, toList_madeCells_one]
    show _ = List.map _ _
    rw [List.map_const', List.length_range]
    rfl

set_option maxRecDepth 100000 in
theorem ix_new {w : World} {hb sb : Nat} {way : Int}  :
    Calls Try.prog 9 #[hashV hb, sameV sb] w fun e w' => ∃ T P, e = .returned (.tuple #[.pointer (some ⟨T, 0, none⟩), .int .i64 0]) ∧ w.heap.size ≤ T ∧ w.heap.size ≤ P ∧ Tab w' T P hb sb way 8 [] (fun _ => none) ∧ Below w.heap.size w w' := by
  unfold hashV sameV
  obtain ⟨i0, hi, hz0, hz1, hz2⟩ := info_parts infoP
  go_enter Try.func9, Try.ntmps9
  go_wp2_with (refine wpList_make_full _ rfl _ _ _ rfl w.heap.size 89 i0 _ 1 Try.underlying88 hi hz0 hz1 .i64 .i64 8 8 8 rfl rfl rfl rfl (by rw [hz2]; decide) (by unfold maxLen; decide) (Nat.le_refl _) ?_; intro w1 hown hgrow)
  have hP := made_places hown
  have hb1 : Below w.heap.size w w1 := ⟨hgrow.os, hgrow.tape, hgrow.output, hgrow.size, fun k hk => hgrow.block k hk (by simp)⟩
  have hlt : w.heap.size < w1.heap.size := (Array.getElem?_eq_some_iff.1 hP).1
  have hal := (Below.refl w1.heap.size w1).alloc (Nat.le_refl _) (.cells (tabCs w.heap.size hb sb 8 []) 91)
  go_wp2
  go_ret2
  refine ⟨w1.heap.size, w.heap.size, rfl, hb1.size, Nat.le_refl _, ⟨heap_alloc_new _ _, ?_, trivial, trivial, (fun i hi => absurd hi (by simp)), (fun j _ b hb => (by cases hb)), ⟨by decide, by decide⟩, (fun i j hi => absurd hi (by simp)), (fun e he => (by cases he))⟩, hb1.trans (hal.mono hb1.size)⟩
  exact (hal.block _ hlt).trans hP

theorem pl_free {pl : Nat → Option Nat} {sz j : Nat} (hj : j < sz) (h : pl j = none) : ∃ q, q < sz ∧ pl q = none := ⟨j, hj, h⟩

end Go.Proofs.Ytjeeljolhcoeoaa.Str
