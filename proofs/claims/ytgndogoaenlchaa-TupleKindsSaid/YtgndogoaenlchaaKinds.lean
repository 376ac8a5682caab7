/- Compare and Hash at other kinds of numbers (gen_kinds.py). -/
import Derived.Test.YtgndogoaenlchaaProg
import Derived.Test.YtgndogoaenlchaaBase
import Derived.Test.YtgndogoaenlchaaKit
import Derived.Test.YtgndogoaenlchaaHash
import Derived.Test.YtgndogoaenlchaaCmp
namespace Go.Proofs.Ytgndogoaenlchaa
open Go.RowKit

theorem range_i8 {z : Int} (h : IntKind.i8.wrap z = z) : -128 ≤ z ∧ z ≤ 127 := by
  rw [← h]; simp [IntKind.wrap, IntKind.bits, IntKind.signed]; try (split <;> omega)
  try omega
theorem wrap_i8_i64 {z : Int} (h : IntKind.i8.wrap z = z) : IntKind.i64.wrap z = z := by
  have := range_i8 h
  rw [IntKind.wrap_i64]; omega

set_option maxHeartbeats 800000 in
theorem cmp_int8 (a b : Option Addr) (ca cb : Nat) (xs ys : List Int) (w : World) (ha : Ints .i8 w a xs) (hb : Ints .i8 w b ys) :
    Calls Try.prog 14 #[.slice a xs.length ca, .slice b ys.length cb] w fun e w' => e = .returned (.int .i64 (cmpL xs ys)) ∧ w = w' := by
  have hm := ha.len
  have hn := hb.len
  go_enter Try.func14, Try.ntmps14
  go_wp2
  go_loop [5, 6, 9] (fun p q i => ∃ (j : Nat), j ≤ xs.length ∧ j ≤ ys.length ∧ i = .int .i64 j ∧ Hid (cmpL (xs.drop j) (ys.drop j) = cmpL xs ys)) (fun _ _ i => xs.length - (intOf i).toNat)
  case atStart => exact ⟨0, Nat.zero_le _, Nat.zero_le _, rfl, rfl⟩
  case round =>
    obtain ⟨j, hj, hj2, rfl, he⟩ := hrel
    by_cases hlt : j < xs.length
    · obtain ⟨b1, off1, rfl, hcell1⟩ := ha.cells j hlt
      by_cases hlt2 : j < ys.length
      · obtain ⟨b2, off2, rfl, hcell2⟩ := hb.cells j hlt2
        have hg : ((j : Int) == (ys.length : Int)) = false := beq_eq_false_iff_ne.2 (by omega)
        by_cases hlo : nth xs j < nth ys j
        · have h5 := Lib.hid ((cmpL_lt xs ys j hlt hlt2 hlo).symm.trans he.out)
          have hg2 : decide (nth ys j < nth xs j) = false := decide_eq_false (by omega)
          clear he
          go_wp2
          go_ret
          exact ⟨ret_int h5.out, rfl⟩
        · by_cases hhi : nth ys j < nth xs j
          · have h5 := Lib.hid ((cmpL_gt xs ys j hlt hlt2 hhi).symm.trans he.out)
            clear he
            go_wp2
            go_ret
            exact ⟨ret_int h5.out, rfl⟩
          · have h5 := Lib.hid ((cmpL_step xs ys j hlt hlt2 hlo hhi).symm.trans he.out)
            clear he
            go_wp2
            go_round
            case rel => exact ⟨j + 1, by omega, by omega, by go_num, h5⟩
            case measure => simp [intOf]; omega
      · have h5 := Lib.hid ((cmpL_more xs ys j hlt (by omega)).symm.trans he.out)
        have hg : ((j : Int) == (ys.length : Int)) = true := beq_iff_eq.2 (by omega)
        clear he
        go_wp2
        go_ret
        exact ⟨ret_int h5.out, rfl⟩
    · by_cases hlt2 : xs.length < ys.length
      · have h5 := Lib.hid ((cmpL_less xs ys j (by omega) (by omega)).symm.trans he.out)
        clear he
        go_wp2
        go_ret
        exact ⟨ret_int h5.out, rfl⟩
      · have h5 := Lib.hid ((cmpL_end xs ys j (by omega) (by omega)).symm.trans he.out)
        clear he
        go_wp2
        go_ret
        exact ⟨ret_int h5.out, rfl⟩
set_option maxHeartbeats 400000 in
theorem hash_int8 (a : Option Addr) (cap : Nat) (zs : List Int) (w : World) (ha : Ints .i8 w a zs) :
    Calls Try.prog 21 #[.slice a zs.length cap] w fun e w' => e = .returned (.int .u64 (hashL zs)) ∧ w = w' := by
  have hm := ha.len
  go_enter Try.func21, Try.ntmps21
  go_wp2
  go_loop [3, 5, 6, 9, 16] (fun h x n i k => ∃ (j : Nat) (h0 : Int), j ≤ zs.length ∧ i = .int .i64 j ∧ h = .int .u64 h0 ∧ Hid ((zs.drop j).foldl hval h0 = hashL zs)) (fun _ _ _ i _ => zs.length - (intOf i).toNat)
  case atStart => exact ⟨0, _, Nat.zero_le _, rfl, rfl, rfl⟩
  case round =>
    obtain ⟨j, h0, hj, rfl, rfl, he⟩ := hrel
    by_cases hlt : j < zs.length
    · obtain ⟨b, off, rfl, hcell⟩ := ha.cells j hlt
      have hw64 : IntKind.i64.wrap (nth zs j) = nth zs j := wrap_i8_i64 (ha.wf j hlt)
      have he2 : Hid ((zs.drop (j + 1)).foldl hval (hval h0 (nth zs j)) = hashL zs) := by
        have := he.out; rw [drop_nth zs j hlt] at this; exact this
      clear he
      go_wp2
      go_loop [3, 6, 16] (fun h n k => ∃ (m : Nat) (h1 n1 : Int), m ≤ 8 ∧ k = .int .i64 m ∧ h = .int .u64 h1 ∧ n = .int .u64 n1 ∧ 0 ≤ n1 ∧ n1 < 18446744073709551616 ∧ Hid (hloop (8 - m) h1 n1 = hval h0 (nth zs j))) (fun _ _ k => 8 - (intOf k).toNat)
      case atStart => exact ⟨0, _, _, Nat.zero_le _, rfl, rfl, rfl, (wrap_u64_range _).1, (wrap_u64_range _).2, rfl⟩
      case round =>
        obtain ⟨m, h1, n1, hm, rfl, rfl, rfl, hn0, hn1, he3⟩ := hrel
        by_cases hlt8 : m < 8
        · go_wp2
          go_round
          case rel =>
            refine ⟨m + 1, _, n1 / 256, by omega, by go_num, rfl, rfl, by omega, by omega, ?_⟩
            rw [and255 n1 hn0 hn1]
            have := he3.out; rw [hloop_step m h1 n1 hlt8] at this; exact this
          case measure => simp [intOf]; omega
        · have he4 : h1 = hval h0 (nth zs j) := by
            have := he3.out; rw [show 8 - m = 0 from by omega] at this; exact this
          have he5 := Lib.hid he4
          clear he4
          go_wp2
          go_round
          case rel => exact ⟨j + 1, _, by omega, by go_num, rfl, by rw [he5.out]; exact he2⟩
          case measure => simp [intOf]; omega
    · have he4 : h0 = hashL zs := by
        have := he.out; rw [List.drop_of_length_le (by omega)] at this; exact this
      have he5 := Lib.hid he4
      clear he he4
      go_wp2
      go_ret
      exact ⟨ret_int he5.out, rfl⟩

theorem range_u16 {z : Int} (h : IntKind.u16.wrap z = z) : 0 ≤ z ∧ z ≤ 65535 := by
  rw [← h]; simp [IntKind.wrap, IntKind.bits, IntKind.signed]; try (split <;> omega)
  try omega
theorem wrap_u16_i64 {z : Int} (h : IntKind.u16.wrap z = z) : IntKind.i64.wrap z = z := by
  have := range_u16 h
  rw [IntKind.wrap_i64]; omega

set_option maxHeartbeats 800000 in
theorem cmp_uint16 (a b : Option Addr) (ca cb : Nat) (xs ys : List Int) (w : World) (ha : Ints .u16 w a xs) (hb : Ints .u16 w b ys) :
    Calls Try.prog 15 #[.slice a xs.length ca, .slice b ys.length cb] w fun e w' => e = .returned (.int .i64 (cmpL xs ys)) ∧ w = w' := by
  have hm := ha.len
  have hn := hb.len
  go_enter Try.func15, Try.ntmps15
  go_wp2
  go_loop [5, 6, 9] (fun p q i => ∃ (j : Nat), j ≤ xs.length ∧ j ≤ ys.length ∧ i = .int .i64 j ∧ Hid (cmpL (xs.drop j) (ys.drop j) = cmpL xs ys)) (fun _ _ i => xs.length - (intOf i).toNat)
  case atStart => exact ⟨0, Nat.zero_le _, Nat.zero_le _, rfl, rfl⟩
  case round =>
    obtain ⟨j, hj, hj2, rfl, he⟩ := hrel
    by_cases hlt : j < xs.length
    · obtain ⟨b1, off1, rfl, hcell1⟩ := ha.cells j hlt
      by_cases hlt2 : j < ys.length
      · obtain ⟨b2, off2, rfl, hcell2⟩ := hb.cells j hlt2
        have hg : ((j : Int) == (ys.length : Int)) = false := beq_eq_false_iff_ne.2 (by omega)
        by_cases hlo : nth xs j < nth ys j
        · have h5 := Lib.hid ((cmpL_lt xs ys j hlt hlt2 hlo).symm.trans he.out)
          have hg2 : decide (nth ys j < nth xs j) = false := decide_eq_false (by omega)
          clear he
          go_wp2
          go_ret
          exact ⟨ret_int h5.out, rfl⟩
        · by_cases hhi : nth ys j < nth xs j
          · have h5 := Lib.hid ((cmpL_gt xs ys j hlt hlt2 hhi).symm.trans he.out)
            clear he
            go_wp2
            go_ret
            exact ⟨ret_int h5.out, rfl⟩
          · have h5 := Lib.hid ((cmpL_step xs ys j hlt hlt2 hlo hhi).symm.trans he.out)
            clear he
            go_wp2
            go_round
            case rel => exact ⟨j + 1, by omega, by omega, by go_num, h5⟩
            case measure => simp [intOf]; omega
      · have h5 := Lib.hid ((cmpL_more xs ys j hlt (by omega)).symm.trans he.out)
        have hg : ((j : Int) == (ys.length : Int)) = true := beq_iff_eq.2 (by omega)
        clear he
        go_wp2
        go_ret
        exact ⟨ret_int h5.out, rfl⟩
    · by_cases hlt2 : xs.length < ys.length
      · have h5 := Lib.hid ((cmpL_less xs ys j (by omega) (by omega)).symm.trans he.out)
        clear he
        go_wp2
        go_ret
        exact ⟨ret_int h5.out, rfl⟩
      · have h5 := Lib.hid ((cmpL_end xs ys j (by omega) (by omega)).symm.trans he.out)
        clear he
        go_wp2
        go_ret
        exact ⟨ret_int h5.out, rfl⟩
set_option maxHeartbeats 400000 in
theorem hash_uint16 (a : Option Addr) (cap : Nat) (zs : List Int) (w : World) (ha : Ints .u16 w a zs) :
    Calls Try.prog 22 #[.slice a zs.length cap] w fun e w' => e = .returned (.int .u64 (hashL zs)) ∧ w = w' := by
  have hm := ha.len
  go_enter Try.func22, Try.ntmps22
  go_wp2
  go_loop [3, 5, 6, 9, 16] (fun h x n i k => ∃ (j : Nat) (h0 : Int), j ≤ zs.length ∧ i = .int .i64 j ∧ h = .int .u64 h0 ∧ Hid ((zs.drop j).foldl hval h0 = hashL zs)) (fun _ _ _ i _ => zs.length - (intOf i).toNat)
  case atStart => exact ⟨0, _, Nat.zero_le _, rfl, rfl, rfl⟩
  case round =>
    obtain ⟨j, h0, hj, rfl, rfl, he⟩ := hrel
    by_cases hlt : j < zs.length
    · obtain ⟨b, off, rfl, hcell⟩ := ha.cells j hlt
      have hw64 : IntKind.i64.wrap (nth zs j) = nth zs j := wrap_u16_i64 (ha.wf j hlt)
      have he2 : Hid ((zs.drop (j + 1)).foldl hval (hval h0 (nth zs j)) = hashL zs) := by
        have := he.out; rw [drop_nth zs j hlt] at this; exact this
      clear he
      go_wp2
      go_loop [3, 6, 16] (fun h n k => ∃ (m : Nat) (h1 n1 : Int), m ≤ 8 ∧ k = .int .i64 m ∧ h = .int .u64 h1 ∧ n = .int .u64 n1 ∧ 0 ≤ n1 ∧ n1 < 18446744073709551616 ∧ Hid (hloop (8 - m) h1 n1 = hval h0 (nth zs j))) (fun _ _ k => 8 - (intOf k).toNat)
      case atStart => exact ⟨0, _, _, Nat.zero_le _, rfl, rfl, rfl, (wrap_u64_range _).1, (wrap_u64_range _).2, rfl⟩
      case round =>
        obtain ⟨m, h1, n1, hm, rfl, rfl, rfl, hn0, hn1, he3⟩ := hrel
        by_cases hlt8 : m < 8
        · go_wp2
          go_round
          case rel =>
            refine ⟨m + 1, _, n1 / 256, by omega, by go_num, rfl, rfl, by omega, by omega, ?_⟩
            rw [and255 n1 hn0 hn1]
            have := he3.out; rw [hloop_step m h1 n1 hlt8] at this; exact this
          case measure => simp [intOf]; omega
        · have he4 : h1 = hval h0 (nth zs j) := by
            have := he3.out; rw [show 8 - m = 0 from by omega] at this; exact this
          have he5 := Lib.hid he4
          clear he4
          go_wp2
          go_round
          case rel => exact ⟨j + 1, _, by omega, by go_num, rfl, by rw [he5.out]; exact he2⟩
          case measure => simp [intOf]; omega
    · have he4 : h0 = hashL zs := by
        have := he.out; rw [List.drop_of_length_le (by omega)] at this; exact this
      have he5 := Lib.hid he4
      clear he he4
      go_wp2
      go_ret
      exact ⟨ret_int he5.out, rfl⟩

theorem range_i32 {z : Int} (h : IntKind.i32.wrap z = z) : -2147483648 ≤ z ∧ z ≤ 2147483647 := by
  rw [← h]; simp [IntKind.wrap, IntKind.bits, IntKind.signed]; try (split <;> omega)
  try omega
theorem wrap_i32_i64 {z : Int} (h : IntKind.i32.wrap z = z) : IntKind.i64.wrap z = z := by
  have := range_i32 h
  rw [IntKind.wrap_i64]; omega

set_option maxHeartbeats 800000 in
theorem cmp_mine (a b : Option Addr) (ca cb : Nat) (xs ys : List Int) (w : World) (ha : Ints .i32 w a xs) (hb : Ints .i32 w b ys) :
    Calls Try.prog 16 #[.slice a xs.length ca, .slice b ys.length cb] w fun e w' => e = .returned (.int .i64 (cmpL xs ys)) ∧ w = w' := by
  have hm := ha.len
  have hn := hb.len
  go_enter Try.func16, Try.ntmps16
  go_wp2
  go_loop [5, 6, 9] (fun p q i => ∃ (j : Nat), j ≤ xs.length ∧ j ≤ ys.length ∧ i = .int .i64 j ∧ Hid (cmpL (xs.drop j) (ys.drop j) = cmpL xs ys)) (fun _ _ i => xs.length - (intOf i).toNat)
  case atStart => exact ⟨0, Nat.zero_le _, Nat.zero_le _, rfl, rfl⟩
  case round =>
    obtain ⟨j, hj, hj2, rfl, he⟩ := hrel
    by_cases hlt : j < xs.length
    · obtain ⟨b1, off1, rfl, hcell1⟩ := ha.cells j hlt
      by_cases hlt2 : j < ys.length
      · obtain ⟨b2, off2, rfl, hcell2⟩ := hb.cells j hlt2
        have hg : ((j : Int) == (ys.length : Int)) = false := beq_eq_false_iff_ne.2 (by omega)
        by_cases hlo : nth xs j < nth ys j
        · have h5 := Lib.hid ((cmpL_lt xs ys j hlt hlt2 hlo).symm.trans he.out)
          have hg2 : decide (nth ys j < nth xs j) = false := decide_eq_false (by omega)
          clear he
          go_wp2
          go_ret
          exact ⟨ret_int h5.out, rfl⟩
        · by_cases hhi : nth ys j < nth xs j
          · have h5 := Lib.hid ((cmpL_gt xs ys j hlt hlt2 hhi).symm.trans he.out)
            clear he
            go_wp2
            go_ret
            exact ⟨ret_int h5.out, rfl⟩
          · have h5 := Lib.hid ((cmpL_step xs ys j hlt hlt2 hlo hhi).symm.trans he.out)
            clear he
            go_wp2
            go_round
            case rel => exact ⟨j + 1, by omega, by omega, by go_num, h5⟩
            case measure => simp [intOf]; omega
      · have h5 := Lib.hid ((cmpL_more xs ys j hlt (by omega)).symm.trans he.out)
        have hg : ((j : Int) == (ys.length : Int)) = true := beq_iff_eq.2 (by omega)
        clear he
        go_wp2
        go_ret
        exact ⟨ret_int h5.out, rfl⟩
    · by_cases hlt2 : xs.length < ys.length
      · have h5 := Lib.hid ((cmpL_less xs ys j (by omega) (by omega)).symm.trans he.out)
        clear he
        go_wp2
        go_ret
        exact ⟨ret_int h5.out, rfl⟩
      · have h5 := Lib.hid ((cmpL_end xs ys j (by omega) (by omega)).symm.trans he.out)
        clear he
        go_wp2
        go_ret
        exact ⟨ret_int h5.out, rfl⟩
set_option maxHeartbeats 400000 in
theorem hash_mine (a : Option Addr) (cap : Nat) (zs : List Int) (w : World) (ha : Ints .i32 w a zs) :
    Calls Try.prog 23 #[.slice a zs.length cap] w fun e w' => e = .returned (.int .u64 (hashL zs)) ∧ w = w' := by
  have hm := ha.len
  go_enter Try.func23, Try.ntmps23
  go_wp2
  go_loop [3, 5, 6, 9, 16] (fun h x n i k => ∃ (j : Nat) (h0 : Int), j ≤ zs.length ∧ i = .int .i64 j ∧ h = .int .u64 h0 ∧ Hid ((zs.drop j).foldl hval h0 = hashL zs)) (fun _ _ _ i _ => zs.length - (intOf i).toNat)
  case atStart => exact ⟨0, _, Nat.zero_le _, rfl, rfl, rfl⟩
  case round =>
    obtain ⟨j, h0, hj, rfl, rfl, he⟩ := hrel
    by_cases hlt : j < zs.length
    · obtain ⟨b, off, rfl, hcell⟩ := ha.cells j hlt
      have hw64 : IntKind.i64.wrap (nth zs j) = nth zs j := wrap_i32_i64 (ha.wf j hlt)
      have he2 : Hid ((zs.drop (j + 1)).foldl hval (hval h0 (nth zs j)) = hashL zs) := by
        have := he.out; rw [drop_nth zs j hlt] at this; exact this
      clear he
      go_wp2
      go_loop [3, 6, 16] (fun h n k => ∃ (m : Nat) (h1 n1 : Int), m ≤ 8 ∧ k = .int .i64 m ∧ h = .int .u64 h1 ∧ n = .int .u64 n1 ∧ 0 ≤ n1 ∧ n1 < 18446744073709551616 ∧ Hid (hloop (8 - m) h1 n1 = hval h0 (nth zs j))) (fun _ _ k => 8 - (intOf k).toNat)
      case atStart => exact ⟨0, _, _, Nat.zero_le _, rfl, rfl, rfl, (wrap_u64_range _).1, (wrap_u64_range _).2, rfl⟩
      case round =>
        obtain ⟨m, h1, n1, hm, rfl, rfl, rfl, hn0, hn1, he3⟩ := hrel
        by_cases hlt8 : m < 8
        · go_wp2
          go_round
          case rel =>
            refine ⟨m + 1, _, n1 / 256, by omega, by go_num, rfl, rfl, by omega, by omega, ?_⟩
            rw [and255 n1 hn0 hn1]
            have := he3.out; rw [hloop_step m h1 n1 hlt8] at this; exact this
          case measure => simp [intOf]; omega
        · have he4 : h1 = hval h0 (nth zs j) := by
            have := he3.out; rw [show 8 - m = 0 from by omega] at this; exact this
          have he5 := Lib.hid he4
          clear he4
          go_wp2
          go_round
          case rel => exact ⟨j + 1, _, by omega, by go_num, rfl, by rw [he5.out]; exact he2⟩
          case measure => simp [intOf]; omega
    · have he4 : h0 = hashL zs := by
        have := he.out; rw [List.drop_of_length_le (by omega)] at this; exact this
      have he5 := Lib.hid he4
      clear he he4
      go_wp2
      go_ret
      exact ⟨ret_int he5.out, rfl⟩

theorem range_u32 {z : Int} (h : IntKind.u32.wrap z = z) : 0 ≤ z ∧ z ≤ 4294967295 := by
  rw [← h]; simp [IntKind.wrap, IntKind.bits, IntKind.signed]; try (split <;> omega)
  try omega
theorem wrap_u32_i64 {z : Int} (h : IntKind.u32.wrap z = z) : IntKind.i64.wrap z = z := by
  have := range_u32 h
  rw [IntKind.wrap_i64]; omega

set_option maxHeartbeats 800000 in
theorem cmp_uint32 (a b : Option Addr) (ca cb : Nat) (xs ys : List Int) (w : World) (ha : Ints .u32 w a xs) (hb : Ints .u32 w b ys) :
    Calls Try.prog 17 #[.slice a xs.length ca, .slice b ys.length cb] w fun e w' => e = .returned (.int .i64 (cmpL xs ys)) ∧ w = w' := by
  have hm := ha.len
  have hn := hb.len
  go_enter Try.func17, Try.ntmps17
  go_wp2
  go_loop [5, 6, 9] (fun p q i => ∃ (j : Nat), j ≤ xs.length ∧ j ≤ ys.length ∧ i = .int .i64 j ∧ Hid (cmpL (xs.drop j) (ys.drop j) = cmpL xs ys)) (fun _ _ i => xs.length - (intOf i).toNat)
  case atStart => exact ⟨0, Nat.zero_le _, Nat.zero_le _, rfl, rfl⟩
  case round =>
    obtain ⟨j, hj, hj2, rfl, he⟩ := hrel
    by_cases hlt : j < xs.length
    · obtain ⟨b1, off1, rfl, hcell1⟩ := ha.cells j hlt
      by_cases hlt2 : j < ys.length
      · obtain ⟨b2, off2, rfl, hcell2⟩ := hb.cells j hlt2
        have hg : ((j : Int) == (ys.length : Int)) = false := beq_eq_false_iff_ne.2 (by omega)
        by_cases hlo : nth xs j < nth ys j
        · have h5 := Lib.hid ((cmpL_lt xs ys j hlt hlt2 hlo).symm.trans he.out)
          have hg2 : decide (nth ys j < nth xs j) = false := decide_eq_false (by omega)
          clear he
          go_wp2
          go_ret
          exact ⟨ret_int h5.out, rfl⟩
        · by_cases hhi : nth ys j < nth xs j
          · have h5 := Lib.hid ((cmpL_gt xs ys j hlt hlt2 hhi).symm.trans he.out)
            clear he
            go_wp2
            go_ret
            exact ⟨ret_int h5.out, rfl⟩
          · have h5 := Lib.hid ((cmpL_step xs ys j hlt hlt2 hlo hhi).symm.trans he.out)
            clear he
            go_wp2
            go_round
            case rel => exact ⟨j + 1, by omega, by omega, by go_num, h5⟩
            case measure => simp [intOf]; omega
      · have h5 := Lib.hid ((cmpL_more xs ys j hlt (by omega)).symm.trans he.out)
        have hg : ((j : Int) == (ys.length : Int)) = true := beq_iff_eq.2 (by omega)
        clear he
        go_wp2
        go_ret
        exact ⟨ret_int h5.out, rfl⟩
    · by_cases hlt2 : xs.length < ys.length
      · have h5 := Lib.hid ((cmpL_less xs ys j (by omega) (by omega)).symm.trans he.out)
        clear he
        go_wp2
        go_ret
        exact ⟨ret_int h5.out, rfl⟩
      · have h5 := Lib.hid ((cmpL_end xs ys j (by omega) (by omega)).symm.trans he.out)
        clear he
        go_wp2
        go_ret
        exact ⟨ret_int h5.out, rfl⟩
set_option maxHeartbeats 400000 in
theorem hash_uint32 (a : Option Addr) (cap : Nat) (zs : List Int) (w : World) (ha : Ints .u32 w a zs) :
    Calls Try.prog 24 #[.slice a zs.length cap] w fun e w' => e = .returned (.int .u64 (hashL zs)) ∧ w = w' := by
  have hm := ha.len
  go_enter Try.func24, Try.ntmps24
  go_wp2
  go_loop [3, 5, 6, 9, 16] (fun h x n i k => ∃ (j : Nat) (h0 : Int), j ≤ zs.length ∧ i = .int .i64 j ∧ h = .int .u64 h0 ∧ Hid ((zs.drop j).foldl hval h0 = hashL zs)) (fun _ _ _ i _ => zs.length - (intOf i).toNat)
  case atStart => exact ⟨0, _, Nat.zero_le _, rfl, rfl, rfl⟩
  case round =>
    obtain ⟨j, h0, hj, rfl, rfl, he⟩ := hrel
    by_cases hlt : j < zs.length
    · obtain ⟨b, off, rfl, hcell⟩ := ha.cells j hlt
      have hw64 : IntKind.i64.wrap (nth zs j) = nth zs j := wrap_u32_i64 (ha.wf j hlt)
      have he2 : Hid ((zs.drop (j + 1)).foldl hval (hval h0 (nth zs j)) = hashL zs) := by
        have := he.out; rw [drop_nth zs j hlt] at this; exact this
      clear he
      go_wp2
      go_loop [3, 6, 16] (fun h n k => ∃ (m : Nat) (h1 n1 : Int), m ≤ 8 ∧ k = .int .i64 m ∧ h = .int .u64 h1 ∧ n = .int .u64 n1 ∧ 0 ≤ n1 ∧ n1 < 18446744073709551616 ∧ Hid (hloop (8 - m) h1 n1 = hval h0 (nth zs j))) (fun _ _ k => 8 - (intOf k).toNat)
      case atStart => exact ⟨0, _, _, Nat.zero_le _, rfl, rfl, rfl, (wrap_u64_range _).1, (wrap_u64_range _).2, rfl⟩
      case round =>
        obtain ⟨m, h1, n1, hm, rfl, rfl, rfl, hn0, hn1, he3⟩ := hrel
        by_cases hlt8 : m < 8
        · go_wp2
          go_round
          case rel =>
            refine ⟨m + 1, _, n1 / 256, by omega, by go_num, rfl, rfl, by omega, by omega, ?_⟩
            rw [and255 n1 hn0 hn1]
            have := he3.out; rw [hloop_step m h1 n1 hlt8] at this; exact this
          case measure => simp [intOf]; omega
        · have he4 : h1 = hval h0 (nth zs j) := by
            have := he3.out; rw [show 8 - m = 0 from by omega] at this; exact this
          have he5 := Lib.hid he4
          clear he4
          go_wp2
          go_round
          case rel => exact ⟨j + 1, _, by omega, by go_num, rfl, by rw [he5.out]; exact he2⟩
          case measure => simp [intOf]; omega
    · have he4 : h0 = hashL zs := by
        have := he.out; rw [List.drop_of_length_le (by omega)] at this; exact this
      have he5 := Lib.hid he4
      clear he he4
      go_wp2
      go_ret
      exact ⟨ret_int he5.out, rfl⟩


end Go.Proofs.Ytgndogoaenlchaa
