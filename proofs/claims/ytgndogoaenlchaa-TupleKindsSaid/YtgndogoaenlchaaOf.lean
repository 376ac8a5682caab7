/- tuple.Of, Cut, Least; num. -/
import Derived.Test.YtgndogoaenlchaaRows
import Derived.Test.YtgndogoaenlchaaBase
import Derived.Test.YtgndogoaenlchaaKit
import Derived.Test.YtgndogoaenlchaaCmp
namespace Go.Proofs.Ytgndogoaenlchaa
open Go.RowKit

theorem num_any (n : Int) (w : World) : Calls Try.prog 26 #[.int .i64 n] w fun e w' => e = .returned (.int .i64 n) ∧ w = w' := by
  go_enter Try.func26, Try.ntmps26
  go_wp2
  go_ret
  exact ⟨rfl, rfl⟩

def orBit (c x : Int) : Int := bits .or .u16 c (IntKind.u16.wrap (2 ^ x.toNat))
def ofL : List Int → Int → Option Int
  | [], c => some c
  | x :: r, c => if x < 0 ∨ 16 ≤ x then none else ofL r (orBit c x)

def ofV : Option Int → Value
  | some c => .tuple #[.int .u16 c, .int .i64 0]
  | none => .tuple #[.int .u16 0, .int .i64 2]

set_option maxHeartbeats 400000 in
theorem of_any (a : Option Addr) (cap : Nat) (zs : List Int) (w : World) (ha : Ints .i64 w a zs) :
    Calls Try.prog 27 #[.slice a zs.length cap] w fun e w' => e = .returned (ofV (ofL zs 0)) ∧ w = w' := by
  have hm := ha.len
  go_enter Try.func27, Try.ntmps27
  go_wp2
  go_loop [4, 6, 9] (fun c x i => ∃ (j : Nat) (c0 : Int), j ≤ zs.length ∧ i = .int .i64 j ∧ c = .int .u16 c0 ∧ Hid (ofL (zs.drop j) c0 = ofL zs 0)) (fun _ _ i => zs.length - (intOf i).toNat)
  case atStart => exact ⟨0, 0, Nat.zero_le _, rfl, rfl, rfl⟩
  case round =>
    obtain ⟨j, c0, hj, rfl, rfl, he⟩ := hrel
    by_cases hlt : j < zs.length
    · obtain ⟨b, off, rfl, hcell⟩ := ha.cells j hlt
      by_cases hneg : nth zs j < 0
      · have h5 : Hid (ofL zs 0 = none) := by rw [← he.out, drop_nth zs j hlt, ofL, if_pos (by omega)]; rfl
        clear he
        go_wp2
        go_ret2
        exact ⟨by rw [h5.out]; rfl, rfl⟩
      · by_cases hbig : 16 ≤ nth zs j
        · have h5 : Hid (ofL zs 0 = none) := by rw [← he.out, drop_nth zs j hlt, ofL, if_pos (by omega)]; rfl
          clear he
          go_wp2
          go_ret2
          exact ⟨by rw [h5.out]; rfl, rfl⟩
        · have h5 : Hid (ofL (zs.drop (j + 1)) (orBit c0 (nth zs j)) = ofL zs 0) := by rw [← he.out, drop_nth zs j hlt, ofL, if_neg (by omega)]; rfl
          clear he
          go_wp2
          go_round
          case rel => exact ⟨j + 1, _, by omega, by go_num, rfl, h5⟩
          case measure => simp [intOf]; omega
    · have h5 : Hid (ofL zs 0 = some c0) := by rw [← he.out, List.drop_of_length_le (by omega), ofL]; rfl
      clear he
      go_wp2
      go_ret2
      exact ⟨by rw [h5.out]; rfl, rfl⟩

end Go.Proofs.Ytgndogoaenlchaa
