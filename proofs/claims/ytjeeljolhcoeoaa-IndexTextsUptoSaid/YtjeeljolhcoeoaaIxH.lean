/- Index: New; a small table; IndexNil. -/
import Derived.Test.YtjeeljolhcoeoaaIxG
namespace Go.Proofs.Ytjeeljolhcoeoaa
open Go.RowKit
attribute [local go_sem] eql_fn_h eql_nn_h eql_fn_s eql_nn_s eql_fn_i eql_nn_i

theorem infoP : (Try.prog.info? 85).map (fun i => (i.zero, i.size, i.bytes)) = some (some (.pointer none), 1, 8) := by kernel_rfl
/-- 'make' of places: none of them is taken -/
theorem made_places {w w' : World} {base n : Nat} (h : w'.ownsRow base 85 1 (.slice (some ⟨w.heap.size, 0, none⟩) n n) n (madeCells (Value.pointer none).cells (n * 1)).toList) :
    w'.heap[w.heap.size]? = some (.cells (plCs n (fun _ => none)) 85) := by
  rcases h.2 with ⟨hv, _⟩ | ⟨g, cap, cur, hv, _, hh, _, _, hcs, ht⟩
  · cases hv
  · injection hv with h1 h2 h3
    injection h1 with h1
    injection h1 with h1
    subst h1 h3
    rw [hh]
    congr 2
    apply Array.ext'
    rw [List.take_of_length_le (by rw [Array.length_toList]; omega)] at ht
    rw [ht, show (Value.pointer none).cells = #[Value.pointer none] from rfl, Nat.mul_one, toList_madeCells_one]
    show _ = List.map _ _
    rw [List.map_const', List.length_range]
    rfl

set_option maxRecDepth 100000 in
theorem ix_new {w : World} {hb sb : Nat} {way : Int} (hH : Boxed w hb 3 (.int .i64 way)) (hS : Boxed w sb 3 (.int .i64 way)) :
    Calls Try.prog 17 #[hashV hb, sameV sb] w fun e w' => ∃ T P, e = .returned (.tuple #[.pointer (some ⟨T, 0, none⟩), .int .i64 0]) ∧ w.heap.size ≤ T ∧ w.heap.size ≤ P ∧ Tab w' T P hb sb way 8 [] (fun _ => none) ∧ Below w.heap.size w w' := by
  unfold hashV sameV
  obtain ⟨i0, hi, hz0, hz1, hz2⟩ := info_parts infoP
  go_enter Try.func17, Try.ntmps17
  go_wp2_with (refine wpList_make_full _ rfl _ _ _ rfl w.heap.size 85 i0 _ 1 Try.underlying84 hi hz0 hz1 .i64 .i64 8 8 8 rfl rfl rfl rfl (by rw [hz2]; decide) (by unfold maxLen; decide) (Nat.le_refl _) ?_; intro w1 hown hgrow)
  have hP := made_places hown
  have hb1 : Below w.heap.size w w1 := ⟨hgrow.os, hgrow.tape, hgrow.output, hgrow.size, fun k hk => hgrow.block k hk (by simp)⟩
  have hlt : w.heap.size < w1.heap.size := (Array.getElem?_eq_some_iff.1 hP).1
  have hal := (Below.refl w1.heap.size w1).alloc (Nat.le_refl _) (.cells (tabCs w.heap.size hb sb 8 []) 87)
  go_wp2
  go_ret2
  refine ⟨w1.heap.size, w.heap.size, rfl, hb1.size, Nat.le_refl _, ⟨heap_alloc_new _ _, ?_, bx_below (bx_below hH hb1) hal, bx_below (bx_below hS hb1) hal, (fun i hi => absurd hi (by simp)), (fun j _ b hb => (by cases hb)), ⟨by decide, by decide⟩, (fun i j hi => absurd hi (by simp)), (fun e he => (by cases he))⟩, hb1.trans (hal.mono hb1.size)⟩
  exact (hal.block _ hlt).trans hP

theorem pl_free {pl : Nat → Option Nat} {sz j : Nat} (hj : j < sz) (h : pl j = none) : ∃ q, q < sz ∧ pl q = none := ⟨j, hj, h⟩

set_option maxRecDepth 100000 in
set_option maxHeartbeats 4000000 in
theorem ix_known (w : World) : Calls Try.prog 16 #[] w fun e w' => e = .returned (.bool true) ∧ Below w.heap.size w w' := by
  go_enter Try.func16, Try.ntmps16
  go_wp2_with fail
  refine (ix_hashes 0 w).mono ?_
  rintro e w1 ⟨rfl, hw1⟩
  have b1 : Boxed w1 w.heap.size 3 (.int .i64 0) := by rw [hw1]; exact Boxed.new _ _ _
  have hb1 : Below w.heap.size w w1 := by rw [hw1]; exact (Below.refl _ _).al _
  clear hw1
  go_wp2_with fail
  refine (ix_sames 0 w1).mono ?_
  rintro e w2 ⟨rfl, hw2⟩
  have b2 : Boxed w2 w1.heap.size 3 (.int .i64 0) := by rw [hw2]; exact Boxed.new _ _ _
  have hb2 : Below w1.heap.size w1 w2 := by rw [hw2]; exact (Below.refl _ _).al _
  clear hw2
  replace b1 := bx_below b1 hb2
  go_wp2_with fail
  refine (ix_new b1 b2).mono ?_
  rintro e w3 ⟨T, P, rfl, hT, hP, h3, hb3⟩
  have hb03 : Below w.heap.size w w3 := hb1.trans ((hb2.mono hb1.size).trans (hb3.mono (by have := hb1.size; have := hb2.size; omega)))
  have hTw : w.heap.size ≤ T := by have := hb1.size; have := hb2.size; omega
  have hPw : w.heap.size ≤ P := by have := hb1.size; have := hb2.size; omega
  clear hT hP hb3 b1 b2
  replace hb03 := Lib.hid hb03
  have hput := Lib.hid (ix_put_new h3 9 4 (pl_free (j := 0) (by decide) rfl) (R := (1, 1, false)) rfl rfl (by decide) rfl (by decide))
  go_wp2_with (refine hput.out.mono ?_)
  rintro e w4 ⟨rfl, b, hb, h4, hk⟩
  have hfr : ∃ q, q < 8 ∧ updP (fun _ => none) 1 (some b) q = none := ⟨0, by decide, rfl⟩
  have hR : fnd (updP (fun _ => none) 1 (some b)) (mtch ([] ++ [⟨b, 9, 4, hashF 0 9⟩]) 0 9 (hashF 0 9)) 8 8 (homeN (hashF 0 9) 8) 1 = (1, 1, true) :=
    fnd_hit (b := b) rfl (by simp [mtch, sameF]) (by decide)
  have hb04 : Hid (Below w.heap.size w w4) := Lib.hid (hk.below hb03.out (fun x hx => by
    rcases hx with rfl | rfl | ⟨e, he, _⟩
    · exact hTw
    · exact hPw
    · cases he))
  clear hput hk h3 hb03 hb2 hb1
  have hget := Lib.hid (ix_get h4 9 hfr hR (v := 4) (fun _ => ⟨0, by simp, rfl, rfl⟩) (fun hh => by cases hh))
  go_wp2_with (refine hget.out.mono ?_)
  rintro e w5 ⟨rfl, hd5⟩
  have h5 := h4.below (hd5.below _)
  have hpl : Hid (Calls Try.prog 25 #[.pointer (some ⟨T, 0, none⟩), .int .i64 9] w5 fun e w' => e = .returned (.tuple #[.int .i64 1, .bool true]) ∧ Drawn w5 w') := Lib.hid (ix_place h5 9 hfr hR)
  clear hget
  go_wp2_with (refine hpl.out.mono ?_)
  rintro e w6 ⟨rfl, hd6⟩
  have h6 := h5.below (hd6.below _)
  clear hpl hR hfr
  go_wp2_with (first
    | (go_at_call 23; refine (ix_len h6).mono ?_; rintro e w' ⟨rfl, rfl⟩)
    | (go_at_call 22; refine (ix_size h6).mono ?_; rintro e w' ⟨rfl, rfl⟩))
  go_ret
  exact ⟨rfl, (hb04.out.trans (hd5.below _)).trans (hd6.below _)⟩

end Go.Proofs.Ytjeeljolhcoeoaa
