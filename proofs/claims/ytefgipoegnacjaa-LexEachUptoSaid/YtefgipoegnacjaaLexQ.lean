/- the reference's longest. -/
import Derived.Test.YtefgipoegnacjaaProg
import Derived.Test.YtefgipoegnacjaaBase
import Derived.Test.YtefgipoegnacjaaBytes
import Derived.Test.YtefgipoegnacjaaLexSpec
import Derived.Test.YtefgipoegnacjaaLexA
import Derived.Test.YtefgipoegnacjaaLexB
import Derived.Test.YtefgipoegnacjaaLexD
import Derived.Test.YtefgipoegnacjaaLexE
import Derived.Test.YtefgipoegnacjaaLexP
namespace Go.Proofs.Ytefgipoegnacjaa
open Go.RowKit Lx

def LPost (s : ByteArray) (at_ : Nat) (w : World) (e : Ending) (w' : World) : Prop :=
  e = .returned (.int .i64 ((at_ + longN ((bl s).drop at_) : Nat) : Int)) ∧ w = w'
theorem LPost.of {s : ByteArray} {at_ m : Nat} {w : World} (h : m = at_ + longN ((bl s).drop at_)) : LPost s at_ w (.returned (.int .i64 m)) w := by
  unfold LPost; rw [← h]; exact ⟨rfl, rfl⟩

theorem long_step (s : ByteArray) (a0 m : Nat) (h1 : a0 ≤ m) (h2 : m < s.size) (h3 : m < a0 + 64) :
    kindI (bl (s.extract a0 (m + 1))) ≠ 0 ↔ m + 1 - a0 ≤ longN ((bl s).drop a0) := by
  rw [extract_mk', bl_mk]
  refine longN_iff _ _ (by omega) ?_ (by omega)
  rw [List.length_drop, bl_length]; omega

set_option maxHeartbeats 2000000 in
theorem rx_longest (s : ByteArray) (a0 : Nat) (w : World) (hs : s.size ≤ 4194304) (hlt : a0 < s.size) :
    Calls Try.prog 46 #[.string s, .int .i64 a0] w (LPost s a0 w) := by
  have hle := Lib.hid (longN_le ((bl s).drop a0))
  go_enter Try.func46, Try.ntmps46
  go_wp2_with fail
  go_loop [5, 6] (fun e i => ∃ m : Nat, a0 ≤ m ∧ m ≤ s.size ∧ m ≤ a0 + 64 ∧ e = .int .i64 m ∧ i = .int .i64 ((m : Int) + 1) ∧ Hid (m ≤ a0 + longN ((bl s).drop a0))) (fun e _ => s.size - (intOf e).toNat)
  case atStart => exact ⟨a0, by omega, by omega, by omega, rfl, by go_num, by show _ ≤ _; omega⟩
  case round =>
    obtain ⟨m, h1, h2, h3, rfl, rfl, hm⟩ := hrel
    have v1 : IntKind.i64.wrap ((m : Int) + 1) = (m : Int) + 1 := IntWalk.i64_in _ (by omega)
    have v2 : IntKind.i64.wrap ((a0 : Int) + 64) = (a0 : Int) + 64 := IntWalk.i64_in _ (by omega)
    by_cases hc1 : m < s.size
    · have hi1 : (m : Int) + 1 ≤ (s.size : Int) := by omega
      by_cases hc2 : m < a0 + 64
      · have hi2 : (m : Int) + 1 ≤ (a0 : Int) + 64 := by omega
        have hx1 : (a0 : Int) ≤ (m : Int) + 1 := by omega
        have hxs : Hid ((s.extract a0 (m + 1)).size ≤ 140737488355328) := by show _ ≤ _; rw [ByteArray.size_extract]; omega
        have hst := Lib.hid (long_step s a0 m h1 hc1 hc2)
        by_cases hk : kindI (bl (s.extract a0 (m + 1))) = 0
        · have hke : (kindI (bl (s.extract a0 (m + 1))) == 0) = true := by simp [hk]
          have hfin : Hid (m = a0 + longN ((bl s).drop a0)) := by
            show _ = _
            have h := hm.out
            have h' : ¬ m + 1 - a0 ≤ longN ((bl s).drop a0) := fun q => hst.out.2 q hk
            omega
          clear hk hst hm
          go_wp2_with (go_at_call 47; refine (rx_word _ _ hxs.out).mono ?_; rintro e w' ⟨rfl, rfl⟩)
          go_ret
          exact LPost.of hfin.out
        · have hke : (kindI (bl (s.extract a0 (m + 1))) == 0) = false := by simp [hk]
          have hm2 : Hid (m + 1 ≤ a0 + longN ((bl s).drop a0)) := by
            show _ ≤ _; have h' := hst.out.1 hk; omega
          clear hk hst hm
          go_wp2_with (go_at_call 47; refine (rx_word _ _ hxs.out).mono ?_; rintro e w' ⟨rfl, rfl⟩)
          go_round
          case rel => exact ⟨m + 1, by omega, by omega, by omega, by go_num, by go_num, hm2⟩
          case measure => simp [intOf]; omega
      · have hi2 : ¬ (m : Int) + 1 ≤ (a0 : Int) + 64 := by omega
        have hfin : Hid (m = a0 + longN ((bl s).drop a0)) := by
          show _ = _; have h := hm.out; have h' := hle.out; omega
        clear hm
        go_wp2_with fail
        go_ret
        exact LPost.of hfin.out
    · have hi1 : ¬ (m : Int) + 1 ≤ (s.size : Int) := by omega
      have hfin : Hid (m = a0 + longN ((bl s).drop a0)) := by
        show _ = _; have h := hm.out; have h' := hle.out; rw [List.length_drop, bl_length] at h'; omega
      clear hm
      go_wp2_with fail
      go_ret
      exact LPost.of hfin.out

end Go.Proofs.Ytefgipoegnacjaa
