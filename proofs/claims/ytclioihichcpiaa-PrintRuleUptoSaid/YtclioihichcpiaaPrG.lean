/- Print: a term, in the document. -/
import Derived.Test.YtclioihichcpiaaPrF
namespace Go.Proofs.Ytclioihichcpiaa
open Go.RowKit Lx
theorem dec_le (s : ByteArray) : decide ((bl s).length ≤ 1024) = decide ((s.size : Int) ≤ 1024) := by
  rw [bl_length]; congr 1; apply propext; omega
set_option maxHeartbeats 1000000 in
theorem rk_constant (s : ByteArray) (w : World) :
    Calls Try.prog 61 #[.string s] w fun e w' => e = .returned (.bool (decide ((bl s).length ≤ 1024))) ∧ w = w' := by
  go_enter Try.func61, Try.ntmps61
  go_wp2_with fail
  go_ret
  exact ⟨by rw [dec_le]; rfl, rfl⟩
set_option maxHeartbeats 1000000 in
theorem rk_Term (v : Bool) (s : ByteArray) (w : World) (hs : s.size ≤ 1048576) :
    Calls Try.prog 39 #[.agg #[.bool v, .string s]] w fun e w' => e = .returned (.bool (termOk v (bl s))) ∧ Below w.heap.size w w' := by
  cases v with
  | true =>
    go_enter Try.func39, Try.ntmps39
    go_wp2_with (go_at_call 60; refine (rp_Variable s _ (by omega)).mono ?_; rintro e w' ⟨rfl, rfl⟩)
    go_ret
    exact ⟨rfl, (Below.refl _ _).al _⟩
  | false =>
    go_enter Try.func39, Try.ntmps39
    go_wp2_with (go_at_call 61; refine (rk_constant s _).mono ?_; rintro e w' ⟨rfl, rfl⟩)
    go_ret
    exact ⟨rfl, (Below.refl _ _).al _⟩
set_option maxHeartbeats 1000000 in
theorem rq_term_var (s : ByteArray) (w : World) :
    Calls Try.prog 40 #[.agg #[.bool true, .string s]] w fun e w' => e = .returned (.string s) ∧ Below w.heap.size w w' := by
  go_enter Try.func40, Try.ntmps40
  go_wp2_with fail
  go_ret
  exact ⟨rfl, (Below.refl _ _).al _⟩
set_option maxHeartbeats 1000000 in
theorem rq_term_const (s : ByteArray) (w : World) (hs : s.size ≤ 1048576) :
    Calls Try.prog 40 #[.agg #[.bool false, .string s]] w fun e w' => e = .returned (.string (mk (if bareB (bl s) then bl s else quoteL (bl s)))) ∧ Below w.heap.size w w' := by
  cases hb : bareB (bl s) with
  | true =>
    have hc := fun w => rp_Bare s w (by omega)
    rw [hb] at hc
    go_enter Try.func40, Try.ntmps40
    go_wp2_with (go_at_call 19; refine (hc _).mono ?_; rintro e w' ⟨rfl, rfl⟩)
    go_ret
    exact ⟨rfl, (Below.refl _ _).al _⟩
  | false =>
    have hc := fun w => rp_Bare s w (by omega)
    rw [hb] at hc
    go_enter Try.func40, Try.ntmps40
    go_wp2_with (first
      | (go_at_call 19; refine (hc _).mono ?_; rintro e w' ⟨rfl, rfl⟩)
      | (go_at_call 21; refine (rq_Quote _ _ (by omega)).mono ?_; rintro e w2 ⟨rfl, hb2⟩; replace hb2 := Lib.hid hb2))
    go_ret
    exact ⟨rfl, ((Below.refl _ _).al _).trans (hb2.out.mono (by rw [World.size_alloc]; omega))⟩
theorem new_cells {w w1 : World} {a b : Value} {t : TypeId} (hb : Below (w.alloc (.cells #[a, b] t)).heap.size (w.alloc (.cells #[a, b] t)) w1) : w1.cell? ⟨w.heap.size, 0, none⟩ = some a ∧ w1.cell? ⟨w.heap.size, 1, none⟩ = some b := by
  have h : w1.heap[w.heap.size]? = some (.cells #[a, b] t) := (hb.block _ (by rw [World.size_alloc]; omega)).trans (heap_alloc_new _ _)
  exact ⟨by simp [World.cell?, h], by simp [World.cell?, h]⟩
set_option maxHeartbeats 1000000 in
theorem rq_Term (v : Bool) (s : ByteArray) (w : World) (hs : s.size ≤ 1048576) :
    Calls Try.prog 15 #[.agg #[.bool v, .string s]] w fun e w' => e = .returned (.tuple #[.string (mk (termL v (bl s))), .int .i64 (termE v (bl s))]) ∧ Below w.heap.size w w' := by
  have hk := fun w => rk_Term v s w hs
  cases ht : termOk v (bl s) with
  | false =>
    have hr : Hid (termL v (bl s) = [] ∧ termE v (bl s) = 2) := Lib.hid (by unfold termL termE; rw [ht]; exact ⟨rfl, rfl⟩)
    rw [ht] at hk
    go_enter Try.func15, Try.ntmps15
    go_wp2_with (go_at_call 39; refine (hk _).mono ?_; rintro e w1 ⟨rfl, hb1⟩; replace hb1 := Lib.hid hb1)
    go_ret2
    rw [hr.out.1, hr.out.2]
    exact ⟨rfl, ((Below.refl _ _).al _).trans (hb1.out.mono (by rw [World.size_alloc]; omega))⟩
  | true =>
    rw [ht] at hk
    cases v with
    | true =>
      have hr : Hid (mk (termL true (bl s)) = s ∧ termE true (bl s) = 0) := Lib.hid (by unfold termL termE; rw [ht]; exact ⟨rfl, rfl⟩)
      go_enter Try.func15, Try.ntmps15
      go_wp2_with (first
        | (go_at_call 39; refine (hk _).mono ?_; rintro e w1 ⟨rfl, hb1⟩; obtain ⟨hc1, hc2⟩ := new_cells hb1; replace hb1 := Lib.hid hb1)
        | (go_at_call 40; refine (rq_term_var _ _).mono ?_; rintro e w2 ⟨rfl, hb2⟩; replace hb2 := Lib.hid hb2))
      go_ret2
      rw [hr.out.1, hr.out.2]
      exact ⟨rfl, ((Below.refl _ _).al _).trans ((hb1.out.trans (hb2.out.mono hb1.out.size)).mono (by rw [World.size_alloc]; omega))⟩
    | false =>
      have hq := fun w => rq_term_const s w hs
      have hr : Hid (mk (termL false (bl s)) = mk (if bareB (bl s) then bl s else quoteL (bl s)) ∧ termE false (bl s) = 0) := Lib.hid (by unfold termL termE; rw [ht]; exact ⟨rfl, rfl⟩)
      generalize mk (if bareB (bl s) then bl s else quoteL (bl s)) = X at hq hr
      go_enter Try.func15, Try.ntmps15
      go_wp2_with (first
        | (go_at_call 39; refine (hk _).mono ?_; rintro e w1 ⟨rfl, hb1⟩; obtain ⟨hc1, hc2⟩ := new_cells hb1; replace hb1 := Lib.hid hb1)
        | (go_at_call 40; refine (hq _).mono ?_; rintro e w2 ⟨rfl, hb2⟩; replace hb2 := Lib.hid hb2))
      go_ret2
      rw [hr.out.1, hr.out.2]
      exact ⟨rfl, ((Below.refl _ _).al _).trans ((hb1.out.trans (hb2.out.mono hb1.out.size)).mono (by rw [World.size_alloc]; omega))⟩
end Go.Proofs.Ytclioihichcpiaa
