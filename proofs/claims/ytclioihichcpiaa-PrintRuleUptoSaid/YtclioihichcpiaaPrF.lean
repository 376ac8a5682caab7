/- Print: a term. -/
import Derived.Test.YtclioihichcpiaaPrB
import Derived.Test.YtclioihichcpiaaPrE
namespace Go.Proofs.Ytclioihichcpiaa
open Go.RowKit Lx
namespace Lx
/-- a term's text as it is written; what says whether it has one -/
def termOk (v : Bool) (l : Bs) : Bool := if v then variableB l else decide (l.length ≤ 1024)
def termL (v : Bool) (l : Bs) : Bs := if termOk v l then (if v || bareB l then l else quoteL l) else []
def termE (v : Bool) (l : Bs) : Int := if termOk v l then 0 else 2
end Lx
set_option maxHeartbeats 1000000 in
theorem pt_Term_const (s : ByteArray) (w : World) (hs : s.size ≤ 1048576) :
    Calls Try.prog 14 #[.agg #[.bool false, .string s]] w fun e w' => e = .returned (.tuple #[.string (mk (termL false (bl s))), .int .i64 (termE false (bl s))]) ∧ Below w.heap.size w w' := by
  by_cases h1 : s.size ≤ 1024
  · cases hb : bareB (bl s) with
    | true =>
      have hr : Hid (mk (termL false (bl s)) = s ∧ termE false (bl s) = 0) := Lib.hid (by
        have : termOk false (bl s) = true := by unfold termOk; rw [if_neg (by decide), decide_eq_true (by rw [bl_length]; exact h1)]
        unfold termL termE; rw [this, hb]; exact ⟨rfl, rfl⟩)
      have hc := fun w => pt_Bare s w (by omega)
      rw [hb] at hc
      go_enter Try.func14, Try.ntmps14
      go_wp2_with (go_at_call 18; refine (hc _).mono ?_; rintro e w' ⟨rfl, rfl⟩)
      go_ret2
      rw [hr.out.1, hr.out.2]
      exact ⟨rfl, (Below.refl _ _).al _⟩
    | false =>
      have hr : Hid (termL false (bl s) = quoteL (bl s) ∧ termE false (bl s) = 0) := Lib.hid (by
        have : termOk false (bl s) = true := by unfold termOk; rw [if_neg (by decide), decide_eq_true (by rw [bl_length]; exact h1)]
        unfold termL termE; rw [this, hb]; exact ⟨rfl, rfl⟩)
      have hc := fun w => pt_Bare s w (by omega)
      rw [hb] at hc
      go_enter Try.func14, Try.ntmps14
      go_wp2_with (first
        | (go_at_call 18; refine (hc _).mono ?_; rintro e w' ⟨rfl, rfl⟩)
        | (go_at_call 20; refine (pt_Quote _ _ hs).mono ?_; rintro e w2 ⟨rfl, hb2⟩; replace hb2 := Lib.hid hb2))
      go_ret2
      rw [hr.out.1, hr.out.2]
      exact ⟨rfl, ((Below.refl _ _).al _).trans (hb2.out.mono (by rw [World.size_alloc]; omega))⟩
  · have hr : Hid (termL false (bl s) = [] ∧ termE false (bl s) = 2) := Lib.hid (by
      have : termOk false (bl s) = false := by unfold termOk; rw [if_neg (by decide), decide_eq_false (by rw [bl_length]; exact h1)]
      unfold termL termE; rw [this]; exact ⟨rfl, rfl⟩)
    go_enter Try.func14, Try.ntmps14
    go_wp2_with fail
    go_ret2
    rw [hr.out.1, hr.out.2]
    exact ⟨rfl, (Below.refl _ _).al _⟩
set_option maxHeartbeats 1000000 in
theorem pt_Term_var (s : ByteArray) (w : World) (hs : s.size ≤ 1048576) :
    Calls Try.prog 14 #[.agg #[.bool true, .string s]] w fun e w' => e = .returned (.tuple #[.string (mk (termL true (bl s))), .int .i64 (termE true (bl s))]) ∧ Below w.heap.size w w' := by
  cases hv : variableB (bl s) with
  | true =>
    have hr : Hid (mk (termL true (bl s)) = s ∧ termE true (bl s) = 0) := Lib.hid (by
      have : termOk true (bl s) = true := by unfold termOk; rw [if_pos rfl, hv]
      unfold termL termE; rw [this]; exact ⟨rfl, rfl⟩)
    have hc := fun w => lx_Variable s w (by omega)
    rw [hv] at hc
    go_enter Try.func14, Try.ntmps14
    go_wp2_with (go_at_call 38; refine (hc _).mono ?_; rintro e w' ⟨rfl, rfl⟩)
    go_ret2
    rw [hr.out.1, hr.out.2]
    exact ⟨rfl, (Below.refl _ _).al _⟩
  | false =>
    have hr : Hid (termL true (bl s) = [] ∧ termE true (bl s) = 2) := Lib.hid (by
      have : termOk true (bl s) = false := by unfold termOk; rw [if_pos rfl, hv]
      unfold termL termE; rw [this]; exact ⟨rfl, rfl⟩)
    have hc := fun w => lx_Variable s w (by omega)
    rw [hv] at hc
    go_enter Try.func14, Try.ntmps14
    go_wp2_with (go_at_call 38; refine (hc _).mono ?_; rintro e w' ⟨rfl, rfl⟩)
    go_ret2
    rw [hr.out.1, hr.out.2]
    exact ⟨rfl, (Below.refl _ _).al _⟩
end Go.Proofs.Ytclioihichcpiaa
