/- TupleOrders: the walk. -/
import Derived.Test.YtgndogoaenlchaaRows
import Derived.Test.YtgndogoaenlchaaBase
import Derived.Test.YtgndogoaenlchaaKit
import Derived.Test.YtgndogoaenlchaaHash
import Derived.Test.YtgndogoaenlchaaCmp
import Derived.Test.YtgndogoaenlchaaKey
import Derived.Test.YtgndogoaenlchaaEqual
import Derived.Test.YtgndogoaenlchaaWorks
import Derived.Test.YtgndogoaenlchaaLawA
namespace Go.Proofs.Ytgndogoaenlchaa
open Go.RowKit

theorem cmpL_range : ∀ xs ys : List Int, cmpL xs ys = -1 ∨ cmpL xs ys = 0 ∨ cmpL xs ys = 1
  | [], [] => by simp [cmpL]
  | [], _ :: _ => by simp [cmpL]
  | _ :: _, [] => by simp [cmpL]
  | a :: r, b :: s => by
    rw [cmpL]; split
    · simp
    · split
      · simp
      · exact cmpL_range r s
theorem cmpL_neg : ∀ xs ys : List Int, cmpL ys xs = -cmpL xs ys
  | [], [] => by simp [cmpL]
  | [], _ :: _ => by simp [cmpL]
  | _ :: _, [] => by simp [cmpL]
  | a :: r, b :: s => by
    rw [cmpL, cmpL]
    by_cases h1 : a < b
    · rw [if_neg (by omega), if_pos h1, if_pos h1]; rfl
    · by_cases h2 : b < a
      · rw [if_pos h2, if_neg h1, if_pos h2]
      · rw [if_neg h2, if_neg h1, if_neg h1, if_neg h2]; exact cmpL_neg r s
theorem cmpL_zero {xs ys : List Int} (h : cmpL xs ys = 0) : xs = ys := by
  have h1 := cmpL_eqB xs ys
  rw [h] at h1
  simpa [eqB] using h1.symm
theorem cmpL_self (xs : List Int) : cmpL xs xs = 0 := by
  have h1 := cmpL_eqB xs xs
  rw [eqB_self] at h1
  simpa using h1
theorem cmpL_trans : ∀ xs ys zs : List Int, cmpL xs ys = -1 → cmpL ys zs ≤ 0 → cmpL xs zs = -1
  | [], [], _, h, _ => by simp [cmpL] at h
  | [], _ :: _, [], _, h => by simp [cmpL] at h
  | [], _ :: _, _ :: _, _, _ => by simp [cmpL]
  | _ :: _, [], _, h, _ => by simp [cmpL] at h
  | _ :: _, _ :: _, [], _, h => by simp [cmpL] at h
  | a :: r, b :: s, c :: t, h, k => by
    rw [cmpL] at h k ⊢
    by_cases h1 : a < b
    · by_cases k1 : b < c
      · rw [if_pos (by omega)]
      · by_cases k2 : c < b
        · rw [if_neg k1, if_pos k2] at k; omega
        · rw [if_pos (by omega)]
    · by_cases h2 : b < a
      · rw [if_neg h1, if_pos h2] at h; omega
      · rw [if_neg h1, if_neg h2] at h
        by_cases k1 : b < c
        · rw [if_pos (by omega)]
        · by_cases k2 : c < b
          · rw [if_neg k1, if_pos k2] at k; omega
          · rw [if_neg k1, if_neg k2] at k
            rw [if_neg (by omega), if_neg (by omega)]
            exact cmpL_trans r s t h k

set_option maxHeartbeats 4000000 in
theorem walkC0 (a b c : Option Addr) (ca cb cc : Nat) (xs zs : List Int) (w : World) (hA0 : Ints .i64 w a xs) (hB0 : Ints .i64 w b xs) (hC0 : Ints .i64 w c zs) :
    Calls Try.prog 5 #[.slice a xs.length ca, .slice b xs.length cb, .slice c zs.length cc] w fun e w' => e = .returned (.bool true) ∧ Below w.heap.size w w' := by
  have hl1 := hA0.len
  have h1 := Lib.hid (cmp_int a b ca cb xs xs w hA0 hB0)
  have h2 := Lib.hid (cmp_int b c cb cc xs zs w hB0 hC0)
  have h3 := Lib.hid (cmp_int a c ca cc xs zs w hA0 hC0)
  have h4 := Lib.hid (cmp_int b a cb ca xs xs w hB0 hA0)
  have h5 := Lib.hid (kints a b ca cb xs xs w hA0 hB0)
  have h6 : Hid (∀ W, Below w.heap.size w W → Calls Try.prog 9 #[.slice a xs.length ca, .slice b xs.length cb] W fun e w' => e = .returned (.bool (eqB xs xs)) ∧ Below W.heap.size W w') := fun W h => equal_int a b ca cb xs xs W (hA0.below h) (hB0.below h)
  have h7 : Hid (∀ W, Below w.heap.size w W → Calls Try.prog 10 #[.slice a xs.length ca] W fun e w' => e = .returned (.int .u64 (hashL xs)) ∧ W = w') := fun W h => hash_int a ca xs W (hA0.below h)
  have h8 : Hid (∀ W, Below w.heap.size w W → Calls Try.prog 10 #[.slice b xs.length cb] W fun e w' => e = .returned (.int .u64 (hashL xs)) ∧ W = w') := fun W h => hash_int b cb xs W (hB0.below h)
  rw [cmpL_self] at h1 h4
  rw [eqB_self] at h5 h6
  obtain ⟨Y, hY⟩ : ∃ Y, Y = cmpL xs zs := ⟨_, rfl⟩
  have hYr := cmpL_range xs zs
  rw [← hY] at h2 h3 hYr
  clear hY
  rcases hYr with rfl | rfl | rfl
  all_goals
    by_cases h16 : xs.length ≤ 16
    · have g16 : decide (16 < (xs.length : Int)) = false := decide_eq_false (by omega)
      have h9 : Hid (∀ W, Below w.heap.size w W → Calls Try.prog 25 #[.slice a xs.length ca] W fun e w' => e = .returned (.tuple #[.agg (keyV .i64 xs), .int .i64 0]) ∧ Below W.heap.size W w') := fun W h => key_int a ca xs W (hA0.below h) (by omega)
      have h10 : Hid (∀ W, Below w.heap.size w W → Calls Try.prog 25 #[.slice b xs.length cb] W fun e w' => e = .returned (.tuple #[.agg (keyV .i64 xs), .int .i64 0]) ∧ Below W.heap.size W w') := fun W h => key_int b cb xs W (hB0.below h) (by omega)
      have h11 := Lib.hid (keyEq_int xs xs rfl h16)
      rw [eqB_self] at h11
      have h16 := Lib.hid h16
      go_enter Try.func5, Try.ntmps5
      go_wp2_with fail
      refine h1.out.mono ?_
      rintro e w' ⟨rfl, rfl⟩
      go_wp2_with fail
      refine h2.out.mono ?_
      rintro e w' ⟨rfl, rfl⟩
      go_wp2_with fail
      refine h3.out.mono ?_
      rintro e w' ⟨rfl, rfl⟩
      go_wp2_with fail
      refine h4.out.mono ?_
      rintro e w' ⟨rfl, rfl⟩
      go_wp2_with fail
      refine h5.out.mono ?_
      rintro e w2 ⟨rfl, hdr⟩
      have hd2 : Below w.heap.size w w2 := hdr.below _
      clear hdr
      go_wp2_with fail
      refine (h6.out w2 hd2).mono ?_
      rintro e w3 ⟨rfl, hb3⟩
      have hd3 : Below w.heap.size w w3 := hd2.trans (hb3.mono hd2.size)
      clear hb3 hd2
      go_wp2_with fail
      refine (h7.out w3 hd3).mono ?_
      rintro e w' ⟨rfl, rfl⟩
      go_wp2_with fail
      refine (h8.out w3 hd3).mono ?_
      rintro e w' ⟨rfl, rfl⟩
      go_wp2_with fail
      refine (h9.out w3 hd3).mono ?_
      rintro e w4 ⟨rfl, hb4⟩
      have hd4 : Below w.heap.size w w4 := hd3.trans (hb4.mono hd3.size)
      clear hb4
      have hz1 : Hid ((w4.alloc (.cells #[.int .i64 0, .int .i64 0, .int .i64 0, .int .i64 0, .int .i64 0, .int .i64 0, .int .i64 0, .int .i64 0, .int .i64 0, .int .i64 0, .int .i64 0, .int .i64 0, .int .i64 0, .int .i64 0, .int .i64 0, .int .i64 0] 48)).heap[w4.heap.size]? = some (.cells #[.int .i64 0, .int .i64 0, .int .i64 0, .int .i64 0, .int .i64 0, .int .i64 0, .int .i64 0, .int .i64 0, .int .i64 0, .int .i64 0, .int .i64 0, .int .i64 0, .int .i64 0, .int .i64 0, .int .i64 0, .int .i64 0] 48)) := heap_alloc_new _ _
      go_wp2_with (with_reducible refine wpList_store_rowA rfl 48 (.tmp 10) (.tmp 92) rfl w4.heap.size (keyV .i64 xs) rfl rfl 48 #[.int .i64 0, .int .i64 0, .int .i64 0, .int .i64 0, .int .i64 0, .int .i64 0, .int .i64 0, .int .i64 0, .int .i64 0, .int .i64 0, .int .i64 0, .int .i64 0, .int .i64 0, .int .i64 0, .int .i64 0, .int .i64 0] hz1.out (by rw [keyV_size]; exact sizeArr_int) (zeroSize_int _) (keyV_one _ _) ?_)
      intro w5 hA hgr hsz
      have hd5 : Below w.heap.size w w5 := (hd4.alloc hd4.size _).grown hgr (by have := hd4.size; simp; omega) (by intro k hk; have := hd4.size; simp at hk; omega)
      have hs5 : w4.heap.size < w5.heap.size := by have h := hsz.out; first | omega | (simp at h; omega)
      clear hgr hsz hz1 hd4
      go_wp2_with fail
      refine (h10.out w5 hd5).mono ?_
      rintro e w6 ⟨rfl, hb6⟩
      have hz3 : Hid ((w6.alloc (.cells #[.int .i64 0, .int .i64 0, .int .i64 0, .int .i64 0, .int .i64 0, .int .i64 0, .int .i64 0, .int .i64 0, .int .i64 0, .int .i64 0, .int .i64 0, .int .i64 0, .int .i64 0, .int .i64 0, .int .i64 0, .int .i64 0] 48)).heap[w6.heap.size]? = some (.cells #[.int .i64 0, .int .i64 0, .int .i64 0, .int .i64 0, .int .i64 0, .int .i64 0, .int .i64 0, .int .i64 0, .int .i64 0, .int .i64 0, .int .i64 0, .int .i64 0, .int .i64 0, .int .i64 0, .int .i64 0, .int .i64 0] 48)) := heap_alloc_new _ _
      go_wp2_with (with_reducible refine wpList_store_rowA rfl 48 (.tmp 12) (.tmp 97) rfl w6.heap.size (keyV .i64 xs) rfl rfl 48 #[.int .i64 0, .int .i64 0, .int .i64 0, .int .i64 0, .int .i64 0, .int .i64 0, .int .i64 0, .int .i64 0, .int .i64 0, .int .i64 0, .int .i64 0, .int .i64 0, .int .i64 0, .int .i64 0, .int .i64 0, .int .i64 0] hz3.out (by rw [keyV_size]; exact sizeArr_int) (zeroSize_int _) (keyV_one _ _) ?_)
      intro w7 hB hgr hsz
      have hb7 : Below w5.heap.size w5 w7 := (hb6.alloc hb6.size _).grown hgr (by have := hb6.size; simp; omega) (by intro k hk; have := hb6.size; simp at hk; omega)
      have hA7 : Hid (w7.heap[w4.heap.size]? = some (.cells (keyV .i64 xs) 48)) := (hb7.block _ hs5).trans hA.out
      have hd7 : Below w.heap.size w w7 := hd5.trans (hb7.mono hd5.size)
      clear hgr hsz hz3 hA hb7 hb6 hd5
      go_wp2_with fail
      refine (num_any 0 _).mono ?_
      rintro e w' ⟨rfl, rfl⟩
      go_wp2_with fail
      refine (num_any 0 _).mono ?_
      rintro e w' ⟨rfl, rfl⟩
      have heq := h11.out
      go_wp2_with (first
        | (refine wpList_load_rowG rfl 48 (.tmp 10) rfl w4.heap.size rfl 48 (keyV .i64 xs) (0, 0) _ hA7.out Try.underlying48 rfl (by rw [keyV_size]; exact sizeArr_int) ?_)
        | (refine wpList_load_rowG rfl 48 (.tmp 12) rfl w6.heap.size rfl 48 (keyV .i64 xs) (0, 0) _ hB.out Try.underlying48 rfl (by rw [keyV_size]; exact sizeArr_int) ?_))
      refine (works_any _).mono ?_
      rintro e w9 ⟨rfl, hb9⟩
      go_wp2_with fail
      go_ret
      exact ⟨rfl, hd7.trans (hb9.mono hd7.size)⟩
    · have g16 : decide (16 < (xs.length : Int)) = true := decide_eq_true (by omega)
      go_enter Try.func5, Try.ntmps5
      go_wp2_with fail
      refine h1.out.mono ?_
      rintro e w' ⟨rfl, rfl⟩
      go_wp2_with fail
      refine h2.out.mono ?_
      rintro e w' ⟨rfl, rfl⟩
      go_wp2_with fail
      refine h3.out.mono ?_
      rintro e w' ⟨rfl, rfl⟩
      go_wp2_with fail
      refine h4.out.mono ?_
      rintro e w' ⟨rfl, rfl⟩
      go_wp2_with fail
      refine h5.out.mono ?_
      rintro e w2 ⟨rfl, hdr⟩
      have hd2 : Below w.heap.size w w2 := hdr.below _
      clear hdr
      go_wp2_with fail
      refine (h6.out w2 hd2).mono ?_
      rintro e w3 ⟨rfl, hb3⟩
      have hd3 : Below w.heap.size w w3 := hd2.trans (hb3.mono hd2.size)
      clear hb3 hd2
      go_wp2_with fail
      refine (h7.out w3 hd3).mono ?_
      rintro e w' ⟨rfl, rfl⟩
      go_wp2_with fail
      refine (h8.out w3 hd3).mono ?_
      rintro e w' ⟨rfl, rfl⟩
      go_wp2_with fail
      refine (works_any _).mono ?_
      rintro e w9 ⟨rfl, hb9⟩
      go_wp2_with fail
      go_ret
      exact ⟨rfl, hd3.trans (hb9.mono hd3.size)⟩

set_option maxHeartbeats 8000000 in
theorem walkC1 (a b c : Option Addr) (ca cb cc : Nat) (xs ys zs : List Int) (w : World) (hA0 : Ints .i64 w a xs) (hB0 : Ints .i64 w b ys) (hC0 : Ints .i64 w c zs) (hne : cmpL xs ys ≠ 0) :
    Calls Try.prog 5 #[.slice a xs.length ca, .slice b ys.length cb, .slice c zs.length cc] w fun e w' => e = .returned (.bool true) ∧ Below w.heap.size w w' := by
  have hl1 := hA0.len
  have hl2 := hB0.len
  have h1 := Lib.hid (cmp_int a b ca cb xs ys w hA0 hB0)
  have h2 := Lib.hid (cmp_int b c cb cc ys zs w hB0 hC0)
  have h3 := Lib.hid (cmp_int a c ca cc xs zs w hA0 hC0)
  have h4 := Lib.hid (cmp_int b a cb ca ys xs w hB0 hA0)
  have h5 := Lib.hid (kints a b ca cb xs ys w hA0 hB0)
  have h6 : Hid (∀ W, Below w.heap.size w W → Calls Try.prog 9 #[.slice a xs.length ca, .slice b ys.length cb] W fun e w' => e = .returned (.bool (eqB xs ys)) ∧ Below W.heap.size W w') := fun W h => equal_int a b ca cb xs ys W (hA0.below h) (hB0.below h)
  have h7 : Hid (∀ W, Below w.heap.size w W → Calls Try.prog 10 #[.slice a xs.length ca] W fun e w' => e = .returned (.int .u64 (hashL xs)) ∧ W = w') := fun W h => hash_int a ca xs W (hA0.below h)
  have h8 : Hid (∀ W, Below w.heap.size w W → Calls Try.prog 10 #[.slice b ys.length cb] W fun e w' => e = .returned (.int .u64 (hashL ys)) ∧ W = w') := fun W h => hash_int b cb ys W (hB0.below h)
  have hq : eqB xs ys = false := by
    have := cmpL_eqB xs ys
    rw [← this]; simp [hne]
  have hxr := cmpL_range xs ys
  have hyr := cmpL_range ys zs
  have hzr := cmpL_range xs zs
  have hn := cmpL_neg xs ys
  have ht : cmpL xs ys = -1 → cmpL ys zs ≤ 0 → cmpL xs zs = -1 := cmpL_trans xs ys zs
  rw [hq] at h5 h6
  rw [hn] at h4
  obtain ⟨X, hX⟩ : ∃ X, X = cmpL xs ys := ⟨_, rfl⟩
  obtain ⟨Y, hY⟩ : ∃ Y, Y = cmpL ys zs := ⟨_, rfl⟩
  obtain ⟨Z, hZ⟩ : ∃ Z, Z = cmpL xs zs := ⟨_, rfl⟩
  rw [← hX] at h1 h4 hxr hne ht
  rw [← hY] at h2 hyr ht
  rw [← hZ] at h3 hzr ht
  clear hX hY hZ hn h7 h8
  have hcase : (X = -1 ∧ Y = -1 ∧ Z = -1) ∨ (X = -1 ∧ Y = 0 ∧ Z = -1) ∨ (X = -1 ∧ Y = 1) ∨ X = 1 := by
    rcases hxr with rfl | rfl | rfl
    · rcases hyr with rfl | rfl | rfl
      · exact .inl ⟨rfl, rfl, ht rfl (by omega)⟩
      · exact .inr (.inl ⟨rfl, rfl, ht rfl (by omega)⟩)
      · exact .inr (.inr (.inl ⟨rfl, rfl⟩))
    · exact absurd rfl hne
    · exact .inr (.inr (.inr rfl))
  clear hne hxr ht
  have hlen : (xs.length = ys.length ∧ ys.length ≤ 16) ∨ (xs.length = ys.length ∧ 16 < xs.length) ∨ xs.length ≠ ys.length := by omega
  rcases hlen with ⟨hl, h16⟩ | ⟨hl, h16⟩ | hl
  · have g16 : decide (16 < (xs.length : Int)) = false := decide_eq_false (by omega)
    have gl : ((xs.length : Int) != (ys.length : Int)) = false := by simp [hl]
    have h9 : Hid (∀ W, Below w.heap.size w W → Calls Try.prog 25 #[.slice a xs.length ca] W fun e w' => e = .returned (.tuple #[.agg (keyV .i64 xs), .int .i64 0]) ∧ Below W.heap.size W w') := fun W h => key_int a ca xs W (hA0.below h) (by omega)
    have h10 : Hid (∀ W, Below w.heap.size w W → Calls Try.prog 25 #[.slice b ys.length cb] W fun e w' => e = .returned (.tuple #[.agg (keyV .i64 ys), .int .i64 0]) ∧ Below W.heap.size W w') := fun W h => key_int b cb ys W (hB0.below h) (by omega)
    have h11 := Lib.hid (keyEq_int xs ys hl h16)
    rw [hq] at h11
    clear hq h16 hl
    rcases hcase with ⟨rfl, rfl, rfl⟩ | ⟨rfl, rfl, rfl⟩ | ⟨rfl, rfl⟩ | rfl
    all_goals
      go_enter Try.func5, Try.ntmps5
      go_wp2_with fail
      refine h1.out.mono ?_
      rintro e w' ⟨rfl, rfl⟩
      go_wp2_with fail
      refine h2.out.mono ?_
      rintro e w' ⟨rfl, rfl⟩
      go_wp2_with fail
      refine h3.out.mono ?_
      rintro e w' ⟨rfl, rfl⟩
      go_wp2_with fail
      refine h4.out.mono ?_
      rintro e w' ⟨rfl, rfl⟩
      go_wp2_with fail
      refine h5.out.mono ?_
      rintro e w2 ⟨rfl, hdr⟩
      have hd2 : Below w.heap.size w w2 := hdr.below _
      clear hdr
      go_wp2_with fail
      refine (h6.out w2 hd2).mono ?_
      rintro e w3 ⟨rfl, hb3⟩
      have hd3 : Below w.heap.size w w3 := hd2.trans (hb3.mono hd2.size)
      clear hb3 hd2
      go_wp2_with fail
      refine (h9.out w3 hd3).mono ?_
      rintro e w4 ⟨rfl, hb4⟩
      have hd4 : Below w.heap.size w w4 := hd3.trans (hb4.mono hd3.size)
      clear hb4
      have hz1 : Hid ((w4.alloc (.cells #[.int .i64 0, .int .i64 0, .int .i64 0, .int .i64 0, .int .i64 0, .int .i64 0, .int .i64 0, .int .i64 0, .int .i64 0, .int .i64 0, .int .i64 0, .int .i64 0, .int .i64 0, .int .i64 0, .int .i64 0, .int .i64 0] 48)).heap[w4.heap.size]? = some (.cells #[.int .i64 0, .int .i64 0, .int .i64 0, .int .i64 0, .int .i64 0, .int .i64 0, .int .i64 0, .int .i64 0, .int .i64 0, .int .i64 0, .int .i64 0, .int .i64 0, .int .i64 0, .int .i64 0, .int .i64 0, .int .i64 0] 48)) := heap_alloc_new _ _
      go_wp2_with (with_reducible refine wpList_store_rowA rfl 48 (.tmp 10) (.tmp 92) rfl w4.heap.size (keyV .i64 xs) rfl rfl 48 #[.int .i64 0, .int .i64 0, .int .i64 0, .int .i64 0, .int .i64 0, .int .i64 0, .int .i64 0, .int .i64 0, .int .i64 0, .int .i64 0, .int .i64 0, .int .i64 0, .int .i64 0, .int .i64 0, .int .i64 0, .int .i64 0] hz1.out (by rw [keyV_size]; exact sizeArr_int) (zeroSize_int _) (keyV_one _ _) ?_)
      intro w5 hA hgr hsz
      have hd5 : Below w.heap.size w w5 := (hd4.alloc hd4.size _).grown hgr (by have := hd4.size; simp; omega) (by intro k hk; have := hd4.size; simp at hk; omega)
      have hs5 : w4.heap.size < w5.heap.size := by have h := hsz.out; first | omega | (simp at h; omega)
      clear hgr hsz hz1 hd4
      go_wp2_with fail
      refine (h10.out w5 hd5).mono ?_
      rintro e w6 ⟨rfl, hb6⟩
      have hz3 : Hid ((w6.alloc (.cells #[.int .i64 0, .int .i64 0, .int .i64 0, .int .i64 0, .int .i64 0, .int .i64 0, .int .i64 0, .int .i64 0, .int .i64 0, .int .i64 0, .int .i64 0, .int .i64 0, .int .i64 0, .int .i64 0, .int .i64 0, .int .i64 0] 48)).heap[w6.heap.size]? = some (.cells #[.int .i64 0, .int .i64 0, .int .i64 0, .int .i64 0, .int .i64 0, .int .i64 0, .int .i64 0, .int .i64 0, .int .i64 0, .int .i64 0, .int .i64 0, .int .i64 0, .int .i64 0, .int .i64 0, .int .i64 0, .int .i64 0] 48)) := heap_alloc_new _ _
      go_wp2_with (with_reducible refine wpList_store_rowA rfl 48 (.tmp 12) (.tmp 97) rfl w6.heap.size (keyV .i64 ys) rfl rfl 48 #[.int .i64 0, .int .i64 0, .int .i64 0, .int .i64 0, .int .i64 0, .int .i64 0, .int .i64 0, .int .i64 0, .int .i64 0, .int .i64 0, .int .i64 0, .int .i64 0, .int .i64 0, .int .i64 0, .int .i64 0, .int .i64 0] hz3.out (by rw [keyV_size]; exact sizeArr_int) (zeroSize_int _) (keyV_one _ _) ?_)
      intro w7 hB hgr hsz
      have hb7 : Below w5.heap.size w5 w7 := (hb6.alloc hb6.size _).grown hgr (by have := hb6.size; simp; omega) (by intro k hk; have := hb6.size; simp at hk; omega)
      have hA7 : Hid (w7.heap[w4.heap.size]? = some (.cells (keyV .i64 xs) 48)) := (hb7.block _ hs5).trans hA.out
      have hd7 : Below w.heap.size w w7 := hd5.trans (hb7.mono hd5.size)
      clear hgr hsz hz3 hA hb7 hb6 hd5
      go_wp2_with fail
      refine (num_any 0 _).mono ?_
      rintro e w' ⟨rfl, rfl⟩
      go_wp2_with fail
      refine (num_any 0 _).mono ?_
      rintro e w' ⟨rfl, rfl⟩
      have heq := h11.out
      go_wp2_with (first
        | (refine wpList_load_rowG rfl 48 (.tmp 10) rfl w4.heap.size rfl 48 (keyV .i64 xs) (0, 0) _ hA7.out Try.underlying48 rfl (by rw [keyV_size]; exact sizeArr_int) ?_)
        | (refine wpList_load_rowG rfl 48 (.tmp 12) rfl w6.heap.size rfl 48 (keyV .i64 ys) (0, 0) _ hB.out Try.underlying48 rfl (by rw [keyV_size]; exact sizeArr_int) ?_))
      refine (works_any _).mono ?_
      rintro e w9 ⟨rfl, hb9⟩
      go_wp2_with fail
      go_ret
      exact ⟨rfl, hd7.trans (hb9.mono hd7.size)⟩
  · have g16 : decide (16 < (xs.length : Int)) = true := decide_eq_true (by omega)
    have gl : ((xs.length : Int) != (ys.length : Int)) = false := by simp [hl]
    clear hq hl
    rcases hcase with ⟨rfl, rfl, rfl⟩ | ⟨rfl, rfl, rfl⟩ | ⟨rfl, rfl⟩ | rfl
    all_goals
      go_enter Try.func5, Try.ntmps5
      go_wp2_with fail
      refine h1.out.mono ?_
      rintro e w' ⟨rfl, rfl⟩
      go_wp2_with fail
      refine h2.out.mono ?_
      rintro e w' ⟨rfl, rfl⟩
      go_wp2_with fail
      refine h3.out.mono ?_
      rintro e w' ⟨rfl, rfl⟩
      go_wp2_with fail
      refine h4.out.mono ?_
      rintro e w' ⟨rfl, rfl⟩
      go_wp2_with fail
      refine h5.out.mono ?_
      rintro e w2 ⟨rfl, hdr⟩
      have hd2 : Below w.heap.size w w2 := hdr.below _
      clear hdr
      go_wp2_with fail
      refine (h6.out w2 hd2).mono ?_
      rintro e w3 ⟨rfl, hb3⟩
      have hd3 : Below w.heap.size w w3 := hd2.trans (hb3.mono hd2.size)
      clear hb3 hd2
      go_wp2_with fail
      refine (works_any _).mono ?_
      rintro e w9 ⟨rfl, hb9⟩
      go_wp2_with fail
      go_ret
      exact ⟨rfl, hd3.trans (hb9.mono hd3.size)⟩
  · have gl : ((xs.length : Int) != (ys.length : Int)) = true := by rw [bne_iff_ne]; omega
    clear hq hl
    rcases hcase with ⟨rfl, rfl, rfl⟩ | ⟨rfl, rfl, rfl⟩ | ⟨rfl, rfl⟩ | rfl
    all_goals
      go_enter Try.func5, Try.ntmps5
      go_wp2_with fail
      refine h1.out.mono ?_
      rintro e w' ⟨rfl, rfl⟩
      go_wp2_with fail
      refine h2.out.mono ?_
      rintro e w' ⟨rfl, rfl⟩
      go_wp2_with fail
      refine h3.out.mono ?_
      rintro e w' ⟨rfl, rfl⟩
      go_wp2_with fail
      refine h4.out.mono ?_
      rintro e w' ⟨rfl, rfl⟩
      go_wp2_with fail
      refine h5.out.mono ?_
      rintro e w2 ⟨rfl, hdr⟩
      have hd2 : Below w.heap.size w w2 := hdr.below _
      clear hdr
      go_wp2_with fail
      refine (h6.out w2 hd2).mono ?_
      rintro e w3 ⟨rfl, hb3⟩
      have hd3 : Below w.heap.size w w3 := hd2.trans (hb3.mono hd2.size)
      clear hb3 hd2
      go_wp2_with fail
      refine (works_any _).mono ?_
      rintro e w9 ⟨rfl, hb9⟩
      go_wp2_with fail
      go_ret
      exact ⟨rfl, hd3.trans (hb9.mono hd3.size)⟩

theorem walkC (a b c : Option Addr) (ca cb cc : Nat) (xs ys zs : List Int) (w : World) (hA0 : Ints .i64 w a xs) (hB0 : Ints .i64 w b ys) (hC0 : Ints .i64 w c zs)
    (_ : a = none → xs = [] ∧ ca = 0) (_ : b = none → ys = [] ∧ cb = 0) (_ : c = none → zs = [] ∧ cc = 0)
    (_ : xs.length ≤ 17592186044200) (_ : ys.length ≤ 17592186044200) (_ : zs.length ≤ 17592186044200) :
    Calls Try.prog 5 #[.slice a xs.length ca, .slice b ys.length cb, .slice c zs.length cc] w fun e w' => e = .returned (.bool true) ∧ Below w.heap.size w w' := by
  by_cases h : cmpL xs ys = 0
  · obtain rfl := cmpL_zero h
    exact walkC0 a b c ca cb cc xs zs w hA0 hB0 hC0
  · exact walkC1 a b c ca cb cc xs ys zs w hA0 hB0 hC0 h

end Go.Proofs.Ytgndogoaenlchaa
