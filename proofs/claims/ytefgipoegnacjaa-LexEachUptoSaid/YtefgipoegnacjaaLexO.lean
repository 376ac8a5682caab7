/- the reference's sign. -/
import Derived.Test.YtefgipoegnacjaaProg
import Derived.Test.YtefgipoegnacjaaBase
import Derived.Test.YtefgipoegnacjaaBytes
import Derived.Test.YtefgipoegnacjaaLexSpec
import Derived.Test.YtefgipoegnacjaaLexA
import Derived.Test.YtefgipoegnacjaaLexB
import Derived.Test.YtefgipoegnacjaaLexE
import Derived.Test.YtefgipoegnacjaaLexF
import Derived.OwnWalk
namespace Go.Proofs.Ytefgipoegnacjaa
open Go.RowKit Lx

namespace Lx
def signR (l : Bs) : Int × Int × Int :=
  match l with
  | [] => (0, 0, 0)
  | c :: r => match signI (bi c) with
    | none => (0, 0, 0)
    | some (k, n, d) => if n = 1 then (k, 1, 1) else if firstB (fun y => decide (y = d)) r then (k, 2, 2) else (k, 1, 2)
end Lx

def GPost (s : ByteArray) (at_ : Nat) (w : World) (e : Ending) (w' : World) : Prop :=
  e = .returned (.tuple #[.int .i64 (signR ((bl s).drop at_)).1, .int .i64 (signR ((bl s).drop at_)).2.1, .int .i64 (signR ((bl s).drop at_)).2.2]) ∧ w = w'
theorem GPost.of {s : ByteArray} {at_ : Nat} {w : World} {k a b : Int} (h : signR ((bl s).drop at_) = (k, a, b)) : GPost s at_ w (.returned (.tuple #[.int .i64 k, .int .i64 a, .int .i64 b])) w := by
  unfold GPost; rw [h]; exact ⟨rfl, rfl⟩

set_option maxHeartbeats 2000000 in
theorem rx_sign (s : ByteArray) (a0 : Nat) (w : World) (hs : s.size ≤ 4194304) (hlt : a0 < s.size) :
    Calls Try.prog 45 #[.string s, .int .i64 a0] w (GPost s a0 w) := by
  have hidx := fun w => run_index_str (P := Try.prog) Try.underlying9 s a0 hlt w
  have hi0 : (a0 : Int) < (s.size : Int) := by omega
  have v1 : IntKind.i64.wrap ((a0 : Int) + 1) = (a0 : Int) + 1 := IntWalk.i64_in _ (by omega)
  by_cases h0 : bat s a0 = 40
  · have hx : Hid (signR ((bl s).drop a0) = (8, 1, 1)) := by
      show _ = _; rw [drop_bl s a0 hlt]; show (match signI (bat s a0) with | none => _ | some (k, n, d) => _) = _; rw [h0]; rfl
    have t0 : (bat s a0 == 40) = true := by rw [h0]; rfl
    clear h0
    go_enter Try.func45, Try.ntmps45
    go_wp2_with fail
    go_ret3
    exact GPost.of hx.out
  have t0 : (bat s a0 == 40) = false := by rw [beq_eq_false_iff_ne]; exact h0
  by_cases h1 : bat s a0 = 41
  · have hx : Hid (signR ((bl s).drop a0) = (9, 1, 1)) := by
      show _ = _; rw [drop_bl s a0 hlt]; show (match signI (bat s a0) with | none => _ | some (k, n, d) => _) = _; rw [h1]; rfl
    have t1 : (bat s a0 == 41) = true := by rw [h1]; rfl
    clear h1
    go_enter Try.func45, Try.ntmps45
    go_wp2_with fail
    go_ret3
    exact GPost.of hx.out
  have t1 : (bat s a0 == 41) = false := by rw [beq_eq_false_iff_ne]; exact h1
  by_cases h2 : bat s a0 = 44
  · have hx : Hid (signR ((bl s).drop a0) = (10, 1, 1)) := by
      show _ = _; rw [drop_bl s a0 hlt]; show (match signI (bat s a0) with | none => _ | some (k, n, d) => _) = _; rw [h2]; rfl
    have t2 : (bat s a0 == 44) = true := by rw [h2]; rfl
    clear h2
    go_enter Try.func45, Try.ntmps45
    go_wp2_with fail
    go_ret3
    exact GPost.of hx.out
  have t2 : (bat s a0 == 44) = false := by rw [beq_eq_false_iff_ne]; exact h2
  by_cases h3 : bat s a0 = 46
  · have hx : Hid (signR ((bl s).drop a0) = (11, 1, 1)) := by
      show _ = _; rw [drop_bl s a0 hlt]; show (match signI (bat s a0) with | none => _ | some (k, n, d) => _) = _; rw [h3]; rfl
    have t3 : (bat s a0 == 46) = true := by rw [h3]; rfl
    clear h3
    go_enter Try.func45, Try.ntmps45
    go_wp2_with fail
    go_ret3
    exact GPost.of hx.out
  have t3 : (bat s a0 == 46) = false := by rw [beq_eq_false_iff_ne]; exact h3
  by_cases h4 : bat s a0 = 47
  · have hx : Hid (signR ((bl s).drop a0) = (12, 1, 1)) := by
      show _ = _; rw [drop_bl s a0 hlt]; show (match signI (bat s a0) with | none => _ | some (k, n, d) => _) = _; rw [h4]; rfl
    have t4 : (bat s a0 == 47) = true := by rw [h4]; rfl
    clear h4
    go_enter Try.func45, Try.ntmps45
    go_wp2_with fail
    go_ret3
    exact GPost.of hx.out
  have t4 : (bat s a0 == 47) = false := by rw [beq_eq_false_iff_ne]; exact h4
  by_cases h5 : bat s a0 = 58
  · have t5 : (bat s a0 == 58) = true := by rw [h5]; rfl
    by_cases hl : a0 + 1 < s.size
    · have hidx1 := fun w => run_index_str (P := Try.prog) Try.underlying9 s (a0 + 1) hl w
      rw [show ((a0 + 1 : Nat) : Int) = (a0 : Int) + 1 from by omega] at hidx1
      have hi1 : (a0 : Int) + 1 < (s.size : Int) := by omega
      by_cases hd : bat s (a0 + 1) = 45
      · have hx : Hid (signR ((bl s).drop a0) = (13, 2, 2)) := by
          show _ = _; rw [drop_bl s a0 hlt, drop_bl s (a0 + 1) hl]; show (match signI (bat s a0) with | none => _ | some (k, n, d) => if n = 1 then _ else if decide (bat s (a0 + 1) = d) = true then _ else _) = _; rw [h5, hd]; rfl
        have td : (bat s (a0 + 1) == 45) = true := by rw [hd]; rfl
        clear h5 hd
        go_enter Try.func45, Try.ntmps45
        go_wp2_with fail
        go_ret3
        exact GPost.of hx.out
      · have hx : Hid (signR ((bl s).drop a0) = (13, 1, 2)) := by
          show _ = _; rw [drop_bl s a0 hlt, drop_bl s (a0 + 1) hl]; show (match signI (bat s a0) with | none => _ | some (k, n, d) => if n = 1 then _ else if decide (bat s (a0 + 1) = d) = true then _ else _) = _; rw [h5]; show (if decide (bat s (a0 + 1) = 45) = true then _ else _) = _; rw [decide_eq_false hd]; rfl
        have td : (bat s (a0 + 1) == 45) = false := by rw [beq_eq_false_iff_ne]; exact hd
        clear h5 hd
        go_enter Try.func45, Try.ntmps45
        go_wp2_with fail
        go_ret3
        exact GPost.of hx.out
    · have hx : Hid (signR ((bl s).drop a0) = (13, 1, 2)) := by
        show _ = _; rw [drop_bl s a0 hlt, drop_bl_end s (a0 + 1) (by omega)]; show (match signI (bat s a0) with | none => _ | some (k, n, d) => if n = 1 then _ else if false = true then _ else _) = _; rw [h5]; rfl
      have hn1 : ¬ (a0 : Int) + 1 < (s.size : Int) := by omega
      clear h5
      go_enter Try.func45, Try.ntmps45
      go_wp2_with fail
      go_ret3
      exact GPost.of hx.out
  have t5 : (bat s a0 == 58) = false := by rw [beq_eq_false_iff_ne]; exact h5
  by_cases h6 : bat s a0 = 33
  · have t6 : (bat s a0 == 33) = true := by rw [h6]; rfl
    by_cases hl : a0 + 1 < s.size
    · have hidx1 := fun w => run_index_str (P := Try.prog) Try.underlying9 s (a0 + 1) hl w
      rw [show ((a0 + 1 : Nat) : Int) = (a0 : Int) + 1 from by omega] at hidx1
      have hi1 : (a0 : Int) + 1 < (s.size : Int) := by omega
      by_cases hd : bat s (a0 + 1) = 61
      · have hx : Hid (signR ((bl s).drop a0) = (14, 2, 2)) := by
          show _ = _; rw [drop_bl s a0 hlt, drop_bl s (a0 + 1) hl]; show (match signI (bat s a0) with | none => _ | some (k, n, d) => if n = 1 then _ else if decide (bat s (a0 + 1) = d) = true then _ else _) = _; rw [h6, hd]; rfl
        have td : (bat s (a0 + 1) == 61) = true := by rw [hd]; rfl
        clear h6 hd
        go_enter Try.func45, Try.ntmps45
        go_wp2_with fail
        go_ret3
        exact GPost.of hx.out
      · have hx : Hid (signR ((bl s).drop a0) = (14, 1, 2)) := by
          show _ = _; rw [drop_bl s a0 hlt, drop_bl s (a0 + 1) hl]; show (match signI (bat s a0) with | none => _ | some (k, n, d) => if n = 1 then _ else if decide (bat s (a0 + 1) = d) = true then _ else _) = _; rw [h6]; show (if decide (bat s (a0 + 1) = 61) = true then _ else _) = _; rw [decide_eq_false hd]; rfl
        have td : (bat s (a0 + 1) == 61) = false := by rw [beq_eq_false_iff_ne]; exact hd
        clear h6 hd
        go_enter Try.func45, Try.ntmps45
        go_wp2_with fail
        go_ret3
        exact GPost.of hx.out
    · have hx : Hid (signR ((bl s).drop a0) = (14, 1, 2)) := by
        show _ = _; rw [drop_bl s a0 hlt, drop_bl_end s (a0 + 1) (by omega)]; show (match signI (bat s a0) with | none => _ | some (k, n, d) => if n = 1 then _ else if false = true then _ else _) = _; rw [h6]; rfl
      have hn1 : ¬ (a0 : Int) + 1 < (s.size : Int) := by omega
      clear h6
      go_enter Try.func45, Try.ntmps45
      go_wp2_with fail
      go_ret3
      exact GPost.of hx.out
  have t6 : (bat s a0 == 33) = false := by rw [beq_eq_false_iff_ne]; exact h6
  have hx : Hid (signR ((bl s).drop a0) = (0, 0, 0)) := by
    show _ = _; rw [drop_bl s a0 hlt]; show (match signI (bat s a0) with | none => _ | some (k, n, d) => _) = _
    have hn : signI (bat s a0) = none := by unfold signI; simp [h0, h1, h2, h3, h4, h5, h6]
    rw [hn]
  clear h0 h1 h2 h3 h4 h5 h6
  go_enter Try.func45, Try.ntmps45
  go_wp2_with fail
  go_ret3
  exact GPost.of hx.out

end Go.Proofs.Ytefgipoegnacjaa
