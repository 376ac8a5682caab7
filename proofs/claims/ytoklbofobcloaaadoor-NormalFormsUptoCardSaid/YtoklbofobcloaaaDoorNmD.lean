/- Normal: worlds with some draws and some blocks behind; numbers and texts compared. -/
import Derived.Test.YtoklbofobcloaaaDoorNmC
import Derived.Shelf.SlSortCmp.QuietGrown
namespace Go.Proofs.YtoklbofobcloaaaDoor
open Go.RowKit Go.Sort
/-- some draws, some blocks behind -/
def Grw (w w' : World) : Prop := ∃ n os, w' = grow (w.drewN n) os
theorem Grw.refl (w : World) : Grw w w := ⟨0, #[], by rw [grow_empty]; rfl⟩
theorem Grw.trans {a b c : World} (h : Grw a b) (k : Grw b c) : Grw a c := by
  obtain ⟨n, os, rfl⟩ := h
  obtain ⟨m, os', rfl⟩ := k
  refine ⟨n + m, os ++ os', ?_⟩
  rw [← grow_grow, ← World.drewN_drewN]; rfl
theorem Grw.al {a b : World} (h : Grw a b) (o : Obj) : Grw a (b.alloc o) := h.trans ⟨0, #[o], by rw [alloc_eq_grow]; rfl⟩
theorem Grw.drewN {a b : World} (h : Grw a b) (n : Nat) : Grw a (b.drewN n) := h.trans ⟨n, #[], by rw [grow_empty]⟩
theorem Grw.drew {a b : World} (h : Grw a b) : Grw a b.drew := h.drewN 1
theorem Grw.below {a b : World} (h : Grw a b) : Below a.heap.size a b := by
  obtain ⟨n, os, rfl⟩ := h
  exact ⟨rfl, rfl, rfl, by rw [size_grow]; exact Nat.le_add_right _ _, fun k hk => heap_grow_old _ _ hk⟩
theorem Calls.grw {P : Program} {f : FuncId} {args : Array Value} {w0 w : World} {v : Value} (hw : Grw w0 w) (h : Calls P f args w fun e w' => e = .returned v ∧ Grw w w') : Calls P f args w fun e w' => e = .returned v ∧ Grw w0 w' :=
  h.mono fun _ _ ⟨he, hg⟩ => ⟨he, hw.trans hg⟩
theorem lessB_op (x y : ByteArray) : Op.bytesLess x.toList y.toList = lessB x y := by
  rw [Go.Proofs.bytesLess_eq, ByteArray.toList_eq, ByteArray.toList_eq]; rfl
theorem toList_ext {a b : ByteArray} (h : a.toList = b.toList) : a = b := by
  rw [ByteArray.toList_eq, ByteArray.toList_eq] at h; exact ba_ext h
/-- of two texts, the first not less: the second is less just if they are unlike -/
theorem gtr_str {a b : ByteArray} (h1 : lessB a b = false) : (!a.toList == b.toList) = lessB b a := by
  cases h2 : lessB b a with
  | true =>
    have : (a.toList == b.toList) = false := by
      rw [beq_eq_false_iff_ne]
      intro e
      rw [toList_ext e, lessB_irrefl] at h2
      cases h2
    rw [this]; rfl
  | false => rw [lessB_eq h1 h2]; simp
theorem same_self (x : ByteArray) : (x.toList != x.toList) = false := by simp
set_option maxHeartbeats 1000000 in
theorem nm_nanS (x : ByteArray) (w : World) : Calls Tryd.prog 77 #[.string x] w fun e w' => e = .returned (.bool false) ∧ w = w' := by
  have h := same_self x
  go_enter Tryd.func77, Tryd.ntmps77
  go_wp2
  go_ret
  exact ⟨by simp, rfl⟩
set_option maxHeartbeats 1000000 in
theorem nm_cmpS (x y : ByteArray) (w : World) : Calls Tryd.prog 64 #[.string x, .string y] w fun e w' => e = .returned (.int .i64 (cmpS x y)) ∧ w = w' := by
  have hx := lessB_op x y
  have hn := nm_nanS
  unfold cmpS
  cases h1 : lessB x y with
  | true =>
    rw [h1] at hx
    clear h1
    go_enter Tryd.func64, Tryd.ntmps64
    go_wp2_with (go_at_call 77; refine (hn _ _).mono ?_; rintro e w1 ⟨rfl, rfl⟩)
    go_ret
    exact ⟨rfl, rfl⟩
  | false =>
    have hy := gtr_str h1
    rw [h1] at hx
    cases h2 : lessB y x <;> rw [h2] at hy <;> clear h1 h2
    all_goals go_enter Tryd.func64, Tryd.ntmps64
    all_goals go_wp2_with (go_at_call 77; refine (hn _ _).mono ?_; rintro e w1 ⟨rfl, rfl⟩)
    all_goals go_ret
    all_goals exact ⟨rfl, rfl⟩
end Go.Proofs.YtoklbofobcloaaaDoor
