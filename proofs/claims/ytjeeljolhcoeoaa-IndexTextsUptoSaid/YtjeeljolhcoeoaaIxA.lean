/- Index: nil functions, tables that are not there, zero ones. -/
import Derived.Test.YtjeeljolhcoeoaaProg
import Derived.Test.YtjeeljolhcoeoaaBase
import Derived.Deep.QuietTactic
import Derived.BigQuiet
import Derived.OwnWalk
namespace Go.Proofs.Ytjeeljolhcoeoaa
open Go.RowKit

set_option maxRecDepth 100000 in
theorem eql_fn_h (f : Fn) (a c : Array Value) (w : World) : (binOp .eql 46 (.func f a c) .nilFunc).run Try.prog w = .ok (.bool false) w := rfl
set_option maxRecDepth 100000 in
theorem eql_nn_h (w : World) : (binOp .eql 46 .nilFunc .nilFunc).run Try.prog w = .ok (.bool true) w := rfl
set_option maxRecDepth 100000 in
theorem eql_fn_s (f : Fn) (a c : Array Value) (w : World) : (binOp .eql 48 (.func f a c) .nilFunc).run Try.prog w = .ok (.bool false) w := rfl
set_option maxRecDepth 100000 in
theorem eql_nn_s (w : World) : (binOp .eql 48 .nilFunc .nilFunc).run Try.prog w = .ok (.bool true) w := rfl
set_option maxRecDepth 100000 in
theorem eql_fn_i (f : Fn) (a c : Array Value) (w : World) : (binOp .eql 55 (.func f a c) .nilFunc).run Try.prog w = .ok (.bool false) w := rfl
set_option maxRecDepth 100000 in
theorem eql_nn_i (w : World) : (binOp .eql 55 .nilFunc .nilFunc).run Try.prog w = .ok (.bool true) w := rfl
attribute [local go_sem] eql_fn_h eql_nn_h eql_fn_s eql_nn_s eql_fn_i eql_nn_i

/-- no table: nil, or one whose first cell is the nil function -/
def NT (w : World) (p : Option Addr) : Prop := p = none ∨ ∃ Z, p = some ⟨Z, 0, none⟩ ∧ w.cell? ⟨Z, 0, none⟩ = some .nilFunc
theorem NT.below {w w' : World} {p : Option Addr} (h : NT w p) (hb : Below w.heap.size w w') : NT w' p := by
  rcases h with rfl | ⟨Z, rfl, hc⟩
  · exact .inl rfl
  · exact .inr ⟨Z, rfl, cell_below hb rfl hc⟩

theorem ix_none_nt (p : Option Addr) (w : World) (h : NT w p) : Calls Try.prog 46 #[.pointer p] w fun e w' => e = .returned (.bool true) ∧ w = w' := by
  rcases h with rfl | ⟨Z, rfl, hc⟩
  · go_enter Try.func46, Try.ntmps46
    go_wp2
    go_ret
    exact ⟨rfl, rfl⟩
  · go_enter Try.func46, Try.ntmps46
    go_wp2
    go_ret
    exact ⟨rfl, rfl⟩

/-- hashes, sames: the way is boxed -/
theorem ix_hashes (way : Int) (w : World) : Calls Try.prog 18 #[.int .i64 way] w fun e w' => e = .returned (.func (.func 42) #[] #[.pointer (some ⟨w.heap.size, 0, none⟩)]) ∧ w' = w.alloc (.cells #[.int .i64 way] 3) := by
  go_enter Try.func18, Try.ntmps18
  go_wp2
  go_ret
  exact ⟨rfl, rfl⟩
theorem ix_sames (way : Int) (w : World) : Calls Try.prog 19 #[.int .i64 way] w fun e w' => e = .returned (.func (.func 44) #[] #[.pointer (some ⟨w.heap.size, 0, none⟩)]) ∧ w' = w.alloc (.cells #[.int .i64 way] 3) := by
  go_enter Try.func19, Try.ntmps19
  go_wp2
  go_ret
  exact ⟨rfl, rfl⟩

theorem ix_new_nil1 (v : Value) (w : World) : Calls Try.prog 17 #[.nilFunc, v] w fun e w' => e = .returned (.tuple #[.pointer none, .int .i64 1]) ∧ w = w' := by
  go_enter Try.func17, Try.ntmps17
  go_wp2
  go_ret2
  exact ⟨rfl, rfl⟩
theorem ix_new_nil2 (f : Fn) (a c : Array Value) (w : World) : Calls Try.prog 17 #[.func f a c, .nilFunc] w fun e w' => e = .returned (.tuple #[.pointer none, .int .i64 1]) ∧ w = w' := by
  go_enter Try.func17, Try.ntmps17
  go_wp2
  go_ret2
  exact ⟨rfl, rfl⟩

theorem ix_put_nt (p : Option Addr) (k v : Int) (w : World) (h : NT w p) : Calls Try.prog 20 #[.pointer p, .int .i64 k, .int .i64 v] w fun e w' => e = .returned (.tuple #[.int .i64 0, .bool false, .int .i64 1]) ∧ w = w' := by
  go_enter Try.func20, Try.ntmps20
  go_wp2_with (go_at_call 46; refine (ix_none_nt _ _ h).mono ?_; rintro e w' ⟨rfl, rfl⟩)
  go_ret3
  exact ⟨rfl, rfl⟩
theorem ix_get_nt (p : Option Addr) (k : Int) (w : World) (h : NT w p) : Calls Try.prog 27 #[.pointer p, .int .i64 k] w fun e w' => e = .returned (.tuple #[.int .i64 0, .bool false]) ∧ w = w' := by
  go_enter Try.func27, Try.ntmps27
  go_wp2_with (go_at_call 46; refine (ix_none_nt _ _ h).mono ?_; rintro e w' ⟨rfl, rfl⟩)
  go_ret2
  exact ⟨rfl, rfl⟩
theorem ix_take_nt (p : Option Addr) (k : Int) (w : World) (h : NT w p) : Calls Try.prog 21 #[.pointer p, .int .i64 k] w fun e w' => e = .returned (.tuple #[.int .i64 0, .bool false]) ∧ w = w' := by
  go_enter Try.func21, Try.ntmps21
  go_wp2_with (go_at_call 46; refine (ix_none_nt _ _ h).mono ?_; rintro e w' ⟨rfl, rfl⟩)
  go_ret2
  exact ⟨rfl, rfl⟩
theorem ix_place_nt (p : Option Addr) (k : Int) (w : World) (h : NT w p) : Calls Try.prog 25 #[.pointer p, .int .i64 k] w fun e w' => e = .returned (.tuple #[.int .i64 0, .bool false]) ∧ w = w' := by
  go_enter Try.func25, Try.ntmps25
  go_wp2_with (go_at_call 46; refine (ix_none_nt _ _ h).mono ?_; rintro e w' ⟨rfl, rfl⟩)
  go_ret2
  exact ⟨rfl, rfl⟩
theorem ix_probes_nt (p : Option Addr) (k : Int) (w : World) (h : NT w p) : Calls Try.prog 26 #[.pointer p, .int .i64 k] w fun e w' => e = .returned (.int .i64 0) ∧ w = w' := by
  go_enter Try.func26, Try.ntmps26
  go_wp2_with (go_at_call 46; refine (ix_none_nt _ _ h).mono ?_; rintro e w' ⟨rfl, rfl⟩)
  go_ret
  exact ⟨rfl, rfl⟩
theorem ix_size_nt (p : Option Addr) (w : World) (h : NT w p) : Calls Try.prog 22 #[.pointer p] w fun e w' => e = .returned (.int .i64 0) ∧ w = w' := by
  go_enter Try.func22, Try.ntmps22
  go_wp2_with (go_at_call 46; refine (ix_none_nt _ _ h).mono ?_; rintro e w' ⟨rfl, rfl⟩)
  go_ret
  exact ⟨rfl, rfl⟩
theorem ix_len_nt (p : Option Addr) (w : World) (h : NT w p) : Calls Try.prog 23 #[.pointer p] w fun e w' => e = .returned (.int .i64 0) ∧ w = w' := by
  go_enter Try.func23, Try.ntmps23
  go_wp2_with (go_at_call 46; refine (ix_none_nt _ _ h).mono ?_; rintro e w' ⟨rfl, rfl⟩)
  go_ret
  exact ⟨rfl, rfl⟩
theorem ix_clone_nt (p : Option Addr) (w : World) (h : NT w p) : Calls Try.prog 59 #[.pointer p] w fun e w' => e = .returned (.pointer none) ∧ w = w' := by
  go_enter Try.func59, Try.ntmps59
  go_wp2_with (go_at_call 46; refine (ix_none_nt _ _ h).mono ?_; rintro e w' ⟨rfl, rfl⟩)
  go_ret
  exact ⟨rfl, rfl⟩
/-- All, Layout: the table is boxed -/
theorem ix_all (p : Option Addr) (w : World) : Calls Try.prog 28 #[.pointer p] w fun e w' => e = .returned (.func (.func 52) #[] #[.pointer (some ⟨w.heap.size, 0, none⟩)]) ∧ w' = w.alloc (.cells #[.pointer p] 43) := by
  go_enter Try.func28, Try.ntmps28
  go_wp2
  go_ret
  exact ⟨rfl, rfl⟩
theorem ix_layout (p : Option Addr) (w : World) : Calls Try.prog 24 #[.pointer p] w fun e w' => e = .returned (.func (.func 51) #[] #[.pointer (some ⟨w.heap.size, 0, none⟩)]) ∧ w' = w.alloc (.cells #[.pointer p] 43) := by
  go_enter Try.func24, Try.ntmps24
  go_wp2
  go_ret
  exact ⟨rfl, rfl⟩

end Go.Proofs.Ytjeeljolhcoeoaa
