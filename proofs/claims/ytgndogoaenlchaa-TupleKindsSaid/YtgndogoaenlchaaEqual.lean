/- tuple.Equal: are two tuples alike? By their arrays, or number by number. -/
import Derived.Test.YtgndogoaenlchaaRows
import Derived.Test.YtgndogoaenlchaaBase
import Derived.Test.YtgndogoaenlchaaKit
import Derived.Test.YtgndogoaenlchaaKey
namespace Go.Proofs.Ytgndogoaenlchaa
open Go.RowKit

theorem zeroSize_int (xs : List Int) : (#[Value.int .i64 0, Value.int .i64 0, Value.int .i64 0, Value.int .i64 0, Value.int .i64 0, Value.int .i64 0, Value.int .i64 0, Value.int .i64 0, Value.int .i64 0, Value.int .i64 0, Value.int .i64 0, Value.int .i64 0, Value.int .i64 0, Value.int .i64 0, Value.int .i64 0, Value.int .i64 0]).size = (keyV .i64 xs).size := by rw [keyV_size]; rfl
theorem keyEq_int (xs ys : List Int) (hl : xs.length = ys.length) (h : ys.length ≤ 16) (w : World) : (Op.equalIn 10000 48 (.agg (keyV .i64 xs)) (.agg (keyV .i64 ys))).run Try.prog w = .ok (eqB xs ys) w := by
  rw [← keyL_eq xs ys hl h]
  exact run_equalIn_ints w 9998 48 3 16 .i64 Try.underlying48 Try.underlying3 (fun w => by kernel_rfl) _ _ (keyL_length _) (keyL_length _)

set_option maxHeartbeats 2000000 in
theorem equal_int (a b : Option Addr) (ca cb : Nat) (xs ys : List Int) (w : World) (ha : Ints .i64 w a xs) (hb : Ints .i64 w b ys) :
    Calls Try.prog 9 #[.slice a xs.length ca, .slice b ys.length cb] w fun e w' => e = .returned (.bool (eqB xs ys)) ∧ Below w.heap.size w w' := by
  have hm := ha.len
  have hn := hb.len
  by_cases hl : xs.length = ys.length
  · have g1 : ((xs.length : Int) != (ys.length : Int)) = false := by simp [hl]
    have hl2 : xs.length ≤ ys.length ∧ ys.length ≤ xs.length := by omega
    by_cases h16 : ys.length ≤ 16
    · have g16 : decide ((xs.length : Int) ≤ 16) = true := decide_eq_true (by omega)
      have hkey := Lib.hid (keyEq_int xs ys hl h16)
      clear hl
      go_enter Try.func9, Try.ntmps9
      go_wp2_with fail
      refine (key_int a ca xs _ ha (by omega)).mono ?_
      rintro e w1 ⟨rfl, hb1⟩
      have hz1 : Hid ((w1.alloc (.cells #[.int .i64 0, .int .i64 0, .int .i64 0, .int .i64 0, .int .i64 0, .int .i64 0, .int .i64 0, .int .i64 0, .int .i64 0, .int .i64 0, .int .i64 0, .int .i64 0, .int .i64 0, .int .i64 0, .int .i64 0, .int .i64 0] 48)).heap[w1.heap.size]? = some (.cells #[.int .i64 0, .int .i64 0, .int .i64 0, .int .i64 0, .int .i64 0, .int .i64 0, .int .i64 0, .int .i64 0, .int .i64 0, .int .i64 0, .int .i64 0, .int .i64 0, .int .i64 0, .int .i64 0, .int .i64 0, .int .i64 0] 48)) := heap_alloc_new _ _
      go_wp2_with (with_reducible refine wpList_store_rowA rfl 48 (.tmp 5) (.tmp 22) rfl w1.heap.size (keyV .i64 xs) rfl rfl 48 #[.int .i64 0, .int .i64 0, .int .i64 0, .int .i64 0, .int .i64 0, .int .i64 0, .int .i64 0, .int .i64 0, .int .i64 0, .int .i64 0, .int .i64 0, .int .i64 0, .int .i64 0, .int .i64 0, .int .i64 0, .int .i64 0] hz1.out (by rw [keyV_size]; exact sizeArr_int) (zeroSize_int xs) (keyV_one _ _) ?_)
      intro w2 hA hgr hsz
      have hb2 : Below w.heap.size w w2 := (hb1.alloc hb1.size _).grown hgr (by have := hb1.size; simp; omega) (by intro k hk; have := hb1.size; simp at hk; omega)
      have hs2 : w1.heap.size < w2.heap.size := by have h := hsz.out; first | omega | (simp at h; omega)
      clear hgr hsz hz1
      go_wp2_with fail
      refine (key_int b cb ys _ (hb.below hb2) (by omega)).mono ?_
      rintro e w3 ⟨rfl, hb3⟩
      have hz3 : Hid ((w3.alloc (.cells #[.int .i64 0, .int .i64 0, .int .i64 0, .int .i64 0, .int .i64 0, .int .i64 0, .int .i64 0, .int .i64 0, .int .i64 0, .int .i64 0, .int .i64 0, .int .i64 0, .int .i64 0, .int .i64 0, .int .i64 0, .int .i64 0] 48)).heap[w3.heap.size]? = some (.cells #[.int .i64 0, .int .i64 0, .int .i64 0, .int .i64 0, .int .i64 0, .int .i64 0, .int .i64 0, .int .i64 0, .int .i64 0, .int .i64 0, .int .i64 0, .int .i64 0, .int .i64 0, .int .i64 0, .int .i64 0, .int .i64 0] 48)) := heap_alloc_new _ _
      go_wp2_with (with_reducible refine wpList_store_rowA rfl 48 (.tmp 7) (.tmp 27) rfl w3.heap.size (keyV .i64 ys) rfl rfl 48 #[.int .i64 0, .int .i64 0, .int .i64 0, .int .i64 0, .int .i64 0, .int .i64 0, .int .i64 0, .int .i64 0, .int .i64 0, .int .i64 0, .int .i64 0, .int .i64 0, .int .i64 0, .int .i64 0, .int .i64 0, .int .i64 0] hz3.out (by rw [keyV_size]; exact sizeArr_int) (zeroSize_int ys) (keyV_one _ _) ?_)
      intro w4 hB hgr hsz
      have hb4 : Below w2.heap.size w2 w4 := (hb3.alloc hb3.size _).grown hgr (by have := hb3.size; simp; omega) (by intro k hk; have := hb3.size; simp at hk; omega)
      have hA4 : Hid (w4.heap[w1.heap.size]? = some (.cells (keyV .i64 xs) 48)) := (hb4.block _ hs2).trans hA.out
      have hb5 : Below w.heap.size w w4 := hb2.trans (hb4.mono hb2.size)
      have heq := hkey.out
      clear hgr hsz hz3 hA
      go_wp2_with (first
        | (with_reducible refine wpList_load_row rfl 48 (.tmp 5) rfl w1.heap.size rfl 48 (keyV .i64 xs) (0, 0) _ hA4.out Try.underlying48 rfl (by rw [keyV_size]; exact sizeArr_int) ?_)
        | (with_reducible refine wpList_load_row rfl 48 (.tmp 7) rfl w3.heap.size rfl 48 (keyV .i64 ys) (0, 0) _ hB.out Try.underlying48 rfl (by rw [keyV_size]; exact sizeArr_int) ?_))
      go_ret
      exact ⟨rfl, hb5⟩
    · have g16 : decide ((xs.length : Int) ≤ 16) = false := decide_eq_false (by omega)
      have hl := Lib.hid hl
      go_enter Try.func9, Try.ntmps9
      go_wp2
      go_loop [9, 10, 34] (fun p q i => ∃ (j : Nat), j ≤ xs.length ∧ i = .int .i64 j ∧ Hid (∀ i, i < j → nth xs i = nth ys i)) (fun _ _ i => xs.length - (intOf i).toNat)
      case atStart => exact ⟨0, Nat.zero_le _, rfl, fun i h => absurd h (by omega)⟩
      case round =>
        obtain ⟨j, hj, rfl, he⟩ := hrel
        by_cases hlt : j < xs.length
        · obtain ⟨b1, off1, rfl, hcell1⟩ := ha.cells j hlt
          obtain ⟨b2, off2, rfl, hcell2⟩ := hb.cells j (by omega)
          by_cases hd : nth xs j = nth ys j
          · have g3 : (nth xs j != nth ys j) = false := by simp [hd]
            have he2 : Hid (∀ i, i < j + 1 → nth xs i = nth ys i) := fun i hi => by
              rcases Nat.lt_or_ge i j with h | h
              · exact he.out i h
              · have : i = j := by omega
                rw [this]; exact hd
            clear he hd
            go_wp2
            go_round
            case rel => exact ⟨j + 1, by omega, by go_num, he2⟩
            case measure => simp [intOf]; omega
          · have g3 : (nth xs j != nth ys j) = true := by simp [hd]
            have h5 := Lib.hid (eqB_at j hd)
            clear he hd
            go_wp2
            go_ret
            exact ⟨ret_bool h5.out.symm, Below.refl _ _⟩
        · have h5 := Lib.hid (eqB_all hl.out (fun i hi => he.out i (by omega)))
          clear he
          go_wp2
          go_ret
          exact ⟨ret_bool h5.out.symm, Below.refl _ _⟩
  · have g1 : ((xs.length : Int) != (ys.length : Int)) = true := by simp; omega
    have h5 := Lib.hid (eqB_len hl)
    clear hl
    go_enter Try.func9, Try.ntmps9
    go_wp2
    go_ret
    exact ⟨ret_bool h5.out.symm, Below.refl _ _⟩


theorem zeroSize_int8 (xs : List Int) : (#[Value.int .i8 0, Value.int .i8 0, Value.int .i8 0, Value.int .i8 0, Value.int .i8 0, Value.int .i8 0, Value.int .i8 0, Value.int .i8 0, Value.int .i8 0, Value.int .i8 0, Value.int .i8 0, Value.int .i8 0, Value.int .i8 0, Value.int .i8 0, Value.int .i8 0, Value.int .i8 0]).size = (keyV .i8 xs).size := by rw [keyV_size]; rfl
theorem keyEq_int8 (xs ys : List Int) (hl : xs.length = ys.length) (h : ys.length ≤ 16) (w : World) : (Op.equalIn 10000 62 (.agg (keyV .i8 xs)) (.agg (keyV .i8 ys))).run Try.prog w = .ok (eqB xs ys) w := by
  rw [← keyL_eq xs ys hl h]
  exact run_equalIn_ints w 9998 62 33 16 .i8 Try.underlying62 Try.underlying33 (fun w => by kernel_rfl) _ _ (keyL_length _) (keyL_length _)

set_option maxHeartbeats 2000000 in
theorem equal_int8 (a b : Option Addr) (ca cb : Nat) (xs ys : List Int) (w : World) (ha : Ints .i8 w a xs) (hb : Ints .i8 w b ys) :
    Calls Try.prog 18 #[.slice a xs.length ca, .slice b ys.length cb] w fun e w' => e = .returned (.bool (eqB xs ys)) ∧ Below w.heap.size w w' := by
  have hm := ha.len
  have hn := hb.len
  by_cases hl : xs.length = ys.length
  · have g1 : ((xs.length : Int) != (ys.length : Int)) = false := by simp [hl]
    have hl2 : xs.length ≤ ys.length ∧ ys.length ≤ xs.length := by omega
    by_cases h16 : ys.length ≤ 16
    · have g16 : decide ((xs.length : Int) ≤ 16) = true := decide_eq_true (by omega)
      have hkey := Lib.hid (keyEq_int8 xs ys hl h16)
      clear hl
      go_enter Try.func18, Try.ntmps18
      go_wp2_with fail
      refine (key_int8 a ca xs _ ha (by omega)).mono ?_
      rintro e w1 ⟨rfl, hb1⟩
      have hz1 : Hid ((w1.alloc (.cells #[.int .i8 0, .int .i8 0, .int .i8 0, .int .i8 0, .int .i8 0, .int .i8 0, .int .i8 0, .int .i8 0, .int .i8 0, .int .i8 0, .int .i8 0, .int .i8 0, .int .i8 0, .int .i8 0, .int .i8 0, .int .i8 0] 62)).heap[w1.heap.size]? = some (.cells #[.int .i8 0, .int .i8 0, .int .i8 0, .int .i8 0, .int .i8 0, .int .i8 0, .int .i8 0, .int .i8 0, .int .i8 0, .int .i8 0, .int .i8 0, .int .i8 0, .int .i8 0, .int .i8 0, .int .i8 0, .int .i8 0] 62)) := heap_alloc_new _ _
      go_wp2_with (with_reducible refine wpList_store_rowA rfl 62 (.tmp 5) (.tmp 22) rfl w1.heap.size (keyV .i8 xs) rfl rfl 62 #[.int .i8 0, .int .i8 0, .int .i8 0, .int .i8 0, .int .i8 0, .int .i8 0, .int .i8 0, .int .i8 0, .int .i8 0, .int .i8 0, .int .i8 0, .int .i8 0, .int .i8 0, .int .i8 0, .int .i8 0, .int .i8 0] hz1.out (by rw [keyV_size]; exact sizeArr_int8) (zeroSize_int8 xs) (keyV_one _ _) ?_)
      intro w2 hA hgr hsz
      have hb2 : Below w.heap.size w w2 := (hb1.alloc hb1.size _).grown hgr (by have := hb1.size; simp; omega) (by intro k hk; have := hb1.size; simp at hk; omega)
      have hs2 : w1.heap.size < w2.heap.size := by have h := hsz.out; first | omega | (simp at h; omega)
      clear hgr hsz hz1
      go_wp2_with fail
      refine (key_int8 b cb ys _ (hb.below hb2) (by omega)).mono ?_
      rintro e w3 ⟨rfl, hb3⟩
      have hz3 : Hid ((w3.alloc (.cells #[.int .i8 0, .int .i8 0, .int .i8 0, .int .i8 0, .int .i8 0, .int .i8 0, .int .i8 0, .int .i8 0, .int .i8 0, .int .i8 0, .int .i8 0, .int .i8 0, .int .i8 0, .int .i8 0, .int .i8 0, .int .i8 0] 62)).heap[w3.heap.size]? = some (.cells #[.int .i8 0, .int .i8 0, .int .i8 0, .int .i8 0, .int .i8 0, .int .i8 0, .int .i8 0, .int .i8 0, .int .i8 0, .int .i8 0, .int .i8 0, .int .i8 0, .int .i8 0, .int .i8 0, .int .i8 0, .int .i8 0] 62)) := heap_alloc_new _ _
      go_wp2_with (with_reducible refine wpList_store_rowA rfl 62 (.tmp 7) (.tmp 27) rfl w3.heap.size (keyV .i8 ys) rfl rfl 62 #[.int .i8 0, .int .i8 0, .int .i8 0, .int .i8 0, .int .i8 0, .int .i8 0, .int .i8 0, .int .i8 0, .int .i8 0, .int .i8 0, .int .i8 0, .int .i8 0, .int .i8 0, .int .i8 0, .int .i8 0, .int .i8 0] hz3.out (by rw [keyV_size]; exact sizeArr_int8) (zeroSize_int8 ys) (keyV_one _ _) ?_)
      intro w4 hB hgr hsz
      have hb4 : Below w2.heap.size w2 w4 := (hb3.alloc hb3.size _).grown hgr (by have := hb3.size; simp; omega) (by intro k hk; have := hb3.size; simp at hk; omega)
      have hA4 : Hid (w4.heap[w1.heap.size]? = some (.cells (keyV .i8 xs) 62)) := (hb4.block _ hs2).trans hA.out
      have hb5 : Below w.heap.size w w4 := hb2.trans (hb4.mono hb2.size)
      have heq := hkey.out
      clear hgr hsz hz3 hA
      go_wp2_with (first
        | (with_reducible refine wpList_load_row rfl 62 (.tmp 5) rfl w1.heap.size rfl 62 (keyV .i8 xs) (0, 0) _ hA4.out Try.underlying62 rfl (by rw [keyV_size]; exact sizeArr_int8) ?_)
        | (with_reducible refine wpList_load_row rfl 62 (.tmp 7) rfl w3.heap.size rfl 62 (keyV .i8 ys) (0, 0) _ hB.out Try.underlying62 rfl (by rw [keyV_size]; exact sizeArr_int8) ?_))
      go_ret
      exact ⟨rfl, hb5⟩
    · have g16 : decide ((xs.length : Int) ≤ 16) = false := decide_eq_false (by omega)
      have hl := Lib.hid hl
      go_enter Try.func18, Try.ntmps18
      go_wp2
      go_loop [9, 10, 34] (fun p q i => ∃ (j : Nat), j ≤ xs.length ∧ i = .int .i64 j ∧ Hid (∀ i, i < j → nth xs i = nth ys i)) (fun _ _ i => xs.length - (intOf i).toNat)
      case atStart => exact ⟨0, Nat.zero_le _, rfl, fun i h => absurd h (by omega)⟩
      case round =>
        obtain ⟨j, hj, rfl, he⟩ := hrel
        by_cases hlt : j < xs.length
        · obtain ⟨b1, off1, rfl, hcell1⟩ := ha.cells j hlt
          obtain ⟨b2, off2, rfl, hcell2⟩ := hb.cells j (by omega)
          by_cases hd : nth xs j = nth ys j
          · have g3 : (nth xs j != nth ys j) = false := by simp [hd]
            have he2 : Hid (∀ i, i < j + 1 → nth xs i = nth ys i) := fun i hi => by
              rcases Nat.lt_or_ge i j with h | h
              · exact he.out i h
              · have : i = j := by omega
                rw [this]; exact hd
            clear he hd
            go_wp2
            go_round
            case rel => exact ⟨j + 1, by omega, by go_num, he2⟩
            case measure => simp [intOf]; omega
          · have g3 : (nth xs j != nth ys j) = true := by simp [hd]
            have h5 := Lib.hid (eqB_at j hd)
            clear he hd
            go_wp2
            go_ret
            exact ⟨ret_bool h5.out.symm, Below.refl _ _⟩
        · have h5 := Lib.hid (eqB_all hl.out (fun i hi => he.out i (by omega)))
          clear he
          go_wp2
          go_ret
          exact ⟨ret_bool h5.out.symm, Below.refl _ _⟩
  · have g1 : ((xs.length : Int) != (ys.length : Int)) = true := by simp; omega
    have h5 := Lib.hid (eqB_len hl)
    clear hl
    go_enter Try.func18, Try.ntmps18
    go_wp2
    go_ret
    exact ⟨ret_bool h5.out.symm, Below.refl _ _⟩


theorem zeroSize_mine (xs : List Int) : (#[Value.int .i32 0, Value.int .i32 0, Value.int .i32 0, Value.int .i32 0, Value.int .i32 0, Value.int .i32 0, Value.int .i32 0, Value.int .i32 0, Value.int .i32 0, Value.int .i32 0, Value.int .i32 0, Value.int .i32 0, Value.int .i32 0, Value.int .i32 0, Value.int .i32 0, Value.int .i32 0]).size = (keyV .i32 xs).size := by rw [keyV_size]; rfl
theorem keyEq_mine (xs ys : List Int) (hl : xs.length = ys.length) (h : ys.length ≤ 16) (w : World) : (Op.equalIn 10000 65 (.agg (keyV .i32 xs)) (.agg (keyV .i32 ys))).run Try.prog w = .ok (eqB xs ys) w := by
  rw [← keyL_eq xs ys hl h]
  exact run_equalIn_ints w 9998 65 35 16 .i32 Try.underlying65 Try.underlying35 (fun w => by kernel_rfl) _ _ (keyL_length _) (keyL_length _)

set_option maxHeartbeats 2000000 in
theorem equal_mine (a b : Option Addr) (ca cb : Nat) (xs ys : List Int) (w : World) (ha : Ints .i32 w a xs) (hb : Ints .i32 w b ys) :
    Calls Try.prog 20 #[.slice a xs.length ca, .slice b ys.length cb] w fun e w' => e = .returned (.bool (eqB xs ys)) ∧ Below w.heap.size w w' := by
  have hm := ha.len
  have hn := hb.len
  by_cases hl : xs.length = ys.length
  · have g1 : ((xs.length : Int) != (ys.length : Int)) = false := by simp [hl]
    have hl2 : xs.length ≤ ys.length ∧ ys.length ≤ xs.length := by omega
    by_cases h16 : ys.length ≤ 16
    · have g16 : decide ((xs.length : Int) ≤ 16) = true := decide_eq_true (by omega)
      have hkey := Lib.hid (keyEq_mine xs ys hl h16)
      clear hl
      go_enter Try.func20, Try.ntmps20
      go_wp2_with fail
      refine (key_mine a ca xs _ ha (by omega)).mono ?_
      rintro e w1 ⟨rfl, hb1⟩
      have hz1 : Hid ((w1.alloc (.cells #[.int .i32 0, .int .i32 0, .int .i32 0, .int .i32 0, .int .i32 0, .int .i32 0, .int .i32 0, .int .i32 0, .int .i32 0, .int .i32 0, .int .i32 0, .int .i32 0, .int .i32 0, .int .i32 0, .int .i32 0, .int .i32 0] 65)).heap[w1.heap.size]? = some (.cells #[.int .i32 0, .int .i32 0, .int .i32 0, .int .i32 0, .int .i32 0, .int .i32 0, .int .i32 0, .int .i32 0, .int .i32 0, .int .i32 0, .int .i32 0, .int .i32 0, .int .i32 0, .int .i32 0, .int .i32 0, .int .i32 0] 65)) := heap_alloc_new _ _
      go_wp2_with (with_reducible refine wpList_store_rowA rfl 65 (.tmp 5) (.tmp 22) rfl w1.heap.size (keyV .i32 xs) rfl rfl 65 #[.int .i32 0, .int .i32 0, .int .i32 0, .int .i32 0, .int .i32 0, .int .i32 0, .int .i32 0, .int .i32 0, .int .i32 0, .int .i32 0, .int .i32 0, .int .i32 0, .int .i32 0, .int .i32 0, .int .i32 0, .int .i32 0] hz1.out (by rw [keyV_size]; exact sizeArr_mine) (zeroSize_mine xs) (keyV_one _ _) ?_)
      intro w2 hA hgr hsz
      have hb2 : Below w.heap.size w w2 := (hb1.alloc hb1.size _).grown hgr (by have := hb1.size; simp; omega) (by intro k hk; have := hb1.size; simp at hk; omega)
      have hs2 : w1.heap.size < w2.heap.size := by have h := hsz.out; first | omega | (simp at h; omega)
      clear hgr hsz hz1
      go_wp2_with fail
      refine (key_mine b cb ys _ (hb.below hb2) (by omega)).mono ?_
      rintro e w3 ⟨rfl, hb3⟩
      have hz3 : Hid ((w3.alloc (.cells #[.int .i32 0, .int .i32 0, .int .i32 0, .int .i32 0, .int .i32 0, .int .i32 0, .int .i32 0, .int .i32 0, .int .i32 0, .int .i32 0, .int .i32 0, .int .i32 0, .int .i32 0, .int .i32 0, .int .i32 0, .int .i32 0] 65)).heap[w3.heap.size]? = some (.cells #[.int .i32 0, .int .i32 0, .int .i32 0, .int .i32 0, .int .i32 0, .int .i32 0, .int .i32 0, .int .i32 0, .int .i32 0, .int .i32 0, .int .i32 0, .int .i32 0, .int .i32 0, .int .i32 0, .int .i32 0, .int .i32 0] 65)) := heap_alloc_new _ _
      go_wp2_with (with_reducible refine wpList_store_rowA rfl 65 (.tmp 7) (.tmp 27) rfl w3.heap.size (keyV .i32 ys) rfl rfl 65 #[.int .i32 0, .int .i32 0, .int .i32 0, .int .i32 0, .int .i32 0, .int .i32 0, .int .i32 0, .int .i32 0, .int .i32 0, .int .i32 0, .int .i32 0, .int .i32 0, .int .i32 0, .int .i32 0, .int .i32 0, .int .i32 0] hz3.out (by rw [keyV_size]; exact sizeArr_mine) (zeroSize_mine ys) (keyV_one _ _) ?_)
      intro w4 hB hgr hsz
      have hb4 : Below w2.heap.size w2 w4 := (hb3.alloc hb3.size _).grown hgr (by have := hb3.size; simp; omega) (by intro k hk; have := hb3.size; simp at hk; omega)
      have hA4 : Hid (w4.heap[w1.heap.size]? = some (.cells (keyV .i32 xs) 65)) := (hb4.block _ hs2).trans hA.out
      have hb5 : Below w.heap.size w w4 := hb2.trans (hb4.mono hb2.size)
      have heq := hkey.out
      clear hgr hsz hz3 hA
      go_wp2_with (first
        | (with_reducible refine wpList_load_row rfl 65 (.tmp 5) rfl w1.heap.size rfl 65 (keyV .i32 xs) (0, 0) _ hA4.out Try.underlying65 rfl (by rw [keyV_size]; exact sizeArr_mine) ?_)
        | (with_reducible refine wpList_load_row rfl 65 (.tmp 7) rfl w3.heap.size rfl 65 (keyV .i32 ys) (0, 0) _ hB.out Try.underlying65 rfl (by rw [keyV_size]; exact sizeArr_mine) ?_))
      go_ret
      exact ⟨rfl, hb5⟩
    · have g16 : decide ((xs.length : Int) ≤ 16) = false := decide_eq_false (by omega)
      have hl := Lib.hid hl
      go_enter Try.func20, Try.ntmps20
      go_wp2
      go_loop [9, 10, 34] (fun p q i => ∃ (j : Nat), j ≤ xs.length ∧ i = .int .i64 j ∧ Hid (∀ i, i < j → nth xs i = nth ys i)) (fun _ _ i => xs.length - (intOf i).toNat)
      case atStart => exact ⟨0, Nat.zero_le _, rfl, fun i h => absurd h (by omega)⟩
      case round =>
        obtain ⟨j, hj, rfl, he⟩ := hrel
        by_cases hlt : j < xs.length
        · obtain ⟨b1, off1, rfl, hcell1⟩ := ha.cells j hlt
          obtain ⟨b2, off2, rfl, hcell2⟩ := hb.cells j (by omega)
          by_cases hd : nth xs j = nth ys j
          · have g3 : (nth xs j != nth ys j) = false := by simp [hd]
            have he2 : Hid (∀ i, i < j + 1 → nth xs i = nth ys i) := fun i hi => by
              rcases Nat.lt_or_ge i j with h | h
              · exact he.out i h
              · have : i = j := by omega
                rw [this]; exact hd
            clear he hd
            go_wp2
            go_round
            case rel => exact ⟨j + 1, by omega, by go_num, he2⟩
            case measure => simp [intOf]; omega
          · have g3 : (nth xs j != nth ys j) = true := by simp [hd]
            have h5 := Lib.hid (eqB_at j hd)
            clear he hd
            go_wp2
            go_ret
            exact ⟨ret_bool h5.out.symm, Below.refl _ _⟩
        · have h5 := Lib.hid (eqB_all hl.out (fun i hi => he.out i (by omega)))
          clear he
          go_wp2
          go_ret
          exact ⟨ret_bool h5.out.symm, Below.refl _ _⟩
  · have g1 : ((xs.length : Int) != (ys.length : Int)) = true := by simp; omega
    have h5 := Lib.hid (eqB_len hl)
    clear hl
    go_enter Try.func20, Try.ntmps20
    go_wp2
    go_ret
    exact ⟨ret_bool h5.out.symm, Below.refl _ _⟩


end Go.Proofs.Ytgndogoaenlchaa
