/- The hash of a tuple: the program's and the reference's both compute hashL. -/
import Derived.Test.YtgndogoaenlchaaRows
import Derived.Test.YtgndogoaenlchaaBase
namespace Go.Proofs.Ytgndogoaenlchaa
open Go.RowKit

def hbyte (h n : Int) : Int := IntKind.u64.wrap (bits .xor .u64 h (n % 256) * 1099511628211)
def hloop : Nat → Int → Int → Int
  | 0, h, _ => h
  | m + 1, h, n => hloop m (hbyte h n) (n / 256)
def hval (h z : Int) : Int := hloop 8 h (IntKind.u64.wrap z)
def hashL (zs : List Int) : Int := zs.foldl hval 14695981039346656037

theorem and255 (n : Int) (h0 : 0 ≤ n) (h1 : n < 18446744073709551616) : bits .and .u64 n 255 = n % 256 :=
  bits_mask .u64 64 (by decide) (fun n a b => by rw [wrap_u64_eq]; omega) 8 (by decide) n h0 h1

theorem hloop_step (m : Nat) (h n : Int) (hm : m < 8) : hloop (8 - m) h n = hloop (8 - (m + 1)) (hbyte h n) (n / 256) := by
  rw [show 8 - m = (8 - (m + 1)) + 1 from by omega]; rfl

set_option maxHeartbeats 400000 in
theorem hash_int (a : Option Addr) (cap : Nat) (zs : List Int) (w : World) (ha : Ints .i64 w a zs) :
    Calls Try.prog 10 #[.slice a zs.length cap] w fun e w' => e = .returned (.int .u64 (hashL zs)) ∧ w = w' := by
  have hm := ha.len
  go_enter Try.func10, Try.ntmps10
  go_wp2
  go_loop [3, 5, 6, 9, 15] (fun h x n i k => ∃ (j : Nat) (h0 : Int), j ≤ zs.length ∧ i = .int .i64 j ∧ h = .int .u64 h0 ∧ Hid ((zs.drop j).foldl hval h0 = hashL zs)) (fun _ _ _ i _ => zs.length - (intOf i).toNat)
  case atStart => exact ⟨0, _, Nat.zero_le _, rfl, rfl, rfl⟩
  case round =>
    obtain ⟨j, h0, hj, rfl, rfl, he⟩ := hrel
    by_cases hlt : j < zs.length
    · obtain ⟨b, off, rfl, hcell⟩ := ha.cells j hlt
      have he2 : Hid ((zs.drop (j + 1)).foldl hval (hval h0 (nth zs j)) = hashL zs) := by
        have := he.out; rw [drop_nth zs j hlt] at this; exact this
      clear he
      go_wp2
      go_loop [3, 6, 15] (fun h n k => ∃ (m : Nat) (h1 n1 : Int), m ≤ 8 ∧ k = .int .i64 m ∧ h = .int .u64 h1 ∧ n = .int .u64 n1 ∧ 0 ≤ n1 ∧ n1 < 18446744073709551616 ∧ Hid (hloop (8 - m) h1 n1 = hval h0 (nth zs j))) (fun _ _ k => 8 - (intOf k).toNat)
      case atStart => exact ⟨0, _, _, Nat.zero_le _, rfl, rfl, rfl, (wrap_u64_range _).1, (wrap_u64_range _).2, rfl⟩
      case round =>
        obtain ⟨m, h1, n1, hm, rfl, rfl, rfl, hn0, hn1, he3⟩ := hrel
        by_cases hlt8 : m < 8
        · go_wp2
          go_round
          case rel =>
            refine ⟨m + 1, _, n1 / 256, by omega, by go_num, rfl, rfl, by omega, by omega, ?_⟩
            rw [and255 n1 hn0 hn1]
            have := he3.out; rw [hloop_step m h1 n1 hlt8] at this; exact this
          case measure => simp [intOf]; omega
        · have he4 : h1 = hval h0 (nth zs j) := by
            have := he3.out; rw [show 8 - m = 0 from by omega] at this; exact this
          have he5 := Lib.hid he4
          clear he4
          go_wp2
          go_round
          case rel => exact ⟨j + 1, _, by omega, by go_num, rfl, by rw [he5.out]; exact he2⟩
          case measure => simp [intOf]; omega
    · have he4 : h0 = hashL zs := by
        have := he.out; rw [List.drop_of_length_le (by omega)] at this; exact this
      have he5 := Lib.hid he4
      clear he he4
      go_wp2
      go_ret
      exact ⟨ret_int he5.out, rfl⟩

set_option maxHeartbeats 400000 in
theorem rhash (a : Option Addr) (cap : Nat) (zs : List Int) (w : World) (ha : Ints .i64 w a zs) :
    Calls Try.prog 11 #[.slice a zs.length cap] w fun e w' => e = .returned (.int .u64 (hashL zs)) ∧ w = w' := by
  have hm := ha.len
  go_enter Try.func11, Try.ntmps11
  go_wp2
  go_loop [3, 4, 5, 6] (fun h i x k => ∃ (j : Nat) (h0 : Int), j ≤ zs.length ∧ i = .int .i64 j ∧ h = .int .u64 h0 ∧ Hid ((zs.drop j).foldl hval h0 = hashL zs)) (fun _ i _ _ => zs.length - (intOf i).toNat)
  case atStart => exact ⟨0, _, Nat.zero_le _, rfl, rfl, rfl⟩
  case round =>
    obtain ⟨j, h0, hj, rfl, rfl, he⟩ := hrel
    by_cases hlt : j < zs.length
    · obtain ⟨b, off, rfl, hcell⟩ := ha.cells j hlt
      have he2 : Hid ((zs.drop (j + 1)).foldl hval (hval h0 (nth zs j)) = hashL zs) := by
        have := he.out; rw [drop_nth zs j hlt] at this; exact this
      clear he
      go_wp2
      go_loop [3, 5, 6] (fun h n k => ∃ (m : Nat) (h1 n1 : Int), m ≤ 8 ∧ k = .int .i64 m ∧ h = .int .u64 h1 ∧ n = .int .u64 n1 ∧ 0 ≤ n1 ∧ n1 < 18446744073709551616 ∧ Hid (hloop (8 - m) h1 n1 = hval h0 (nth zs j))) (fun _ _ k => 8 - (intOf k).toNat)
      case atStart => exact ⟨0, _, _, Nat.zero_le _, rfl, rfl, rfl, (wrap_u64_range _).1, (wrap_u64_range _).2, rfl⟩
      case round =>
        obtain ⟨m, h1, n1, hm, rfl, rfl, rfl, hn0, hn1, he3⟩ := hrel
        by_cases hlt8 : m < 8
        · go_wp2
          go_round
          case rel =>
            refine ⟨m + 1, _, n1 / 256, by omega, by go_num, rfl, rfl, by omega, by omega, ?_⟩
            have := he3.out; rw [hloop_step m h1 n1 hlt8] at this; exact this
          case measure => simp [intOf]; omega
        · have he4 : h1 = hval h0 (nth zs j) := by
            have := he3.out; rw [show 8 - m = 0 from by omega] at this; exact this
          have he5 := Lib.hid he4
          clear he4
          go_wp2
          go_round
          case rel => exact ⟨j + 1, _, by omega, by go_num, rfl, by rw [he5.out]; exact he2⟩
          case measure => simp [intOf]; omega
    · have he4 : h0 = hashL zs := by
        have := he.out; rw [List.drop_of_length_le (by omega)] at this; exact this
      have he5 := Lib.hid he4
      clear he he4
      go_wp2
      go_ret
      exact ⟨ret_int he5.out, rfl⟩

end Go.Proofs.Ytgndogoaenlchaa
