/- Index: texts as keys: hash and comparison. -/
import Derived.Test.YtjeeljolhcoeoaaProg
import Derived.Test.YtjeeljolhcoeoaaBase
import Derived.Test.YtjeeljolhcoeoaaBytes
import Derived.Test.YtjeeljolhcoeoaaIxA
import Derived.Deep.QuietTactic
import Derived.BigQuiet
import Derived.WideShapes
namespace Go.Proofs.Ytjeeljolhcoeoaa.Str
open Go.RowKit
set_option maxRecDepth 100000 in
theorem eql_fn_h (f : Fn) (a c : Array Value) (w : World) : (binOp .eql 29 (.func f a c) .nilFunc).run Try.prog w = .ok (.bool false) w := rfl
set_option maxRecDepth 100000 in
theorem eql_nn_h (w : World) : (binOp .eql 29 .nilFunc .nilFunc).run Try.prog w = .ok (.bool true) w := rfl
set_option maxRecDepth 100000 in
theorem eql_fn_s (f : Fn) (a c : Array Value) (w : World) : (binOp .eql 30 (.func f a c) .nilFunc).run Try.prog w = .ok (.bool false) w := rfl
set_option maxRecDepth 100000 in
theorem eql_nn_s (w : World) : (binOp .eql 30 .nilFunc .nilFunc).run Try.prog w = .ok (.bool true) w := rfl
set_option maxRecDepth 100000 in
theorem eql_fn_i (f : Fn) (a c : Array Value) (w : World) : (binOp .eql 38 (.func f a c) .nilFunc).run Try.prog w = .ok (.bool false) w := rfl
set_option maxRecDepth 100000 in
theorem eql_nn_i (w : World) : (binOp .eql 38 .nilFunc .nilFunc).run Try.prog w = .ok (.bool true) w := rfl
/-- a list that is kept: its value -/
structure SlV where
  a : Option Addr
  n : Nat
  c : Nat
/-- there is nothing to be remembered of a way -/
def DBox (_ : World) (_ : Nat) (_ : Int) : Prop := True
def hashF (_ : Int) (s : ByteArray) : Int := if h : 0 < s.size then IntKind.u64.wrap (IntKind.u64.wrap (s.size : Int) + IntKind.u64.wrap (4 * IntKind.u64.wrap (s[0].toNat : Int))) else 3
def sameF (_ : Int) (a b : ByteArray) : Bool := a.toList == b.toList
theorem hashF_range (way : Int) (s : ByteArray) : 0 ≤ hashF way s ∧ hashF way s < 18446744073709551616 := by
  unfold hashF
  split
  · exact wrap_u64_range _
  · exact ⟨by decide, by decide⟩
theorem ix_same (way : Int) (a b : ByteArray) (w : World) : Calls Try.prog 11 #[.string a, .string b] w fun e w' => e = .returned (.bool (sameF way a b)) ∧ w = w' := by
  go_enter Try.func11, Try.ntmps11
  go_wp2
  go_ret
  exact ⟨rfl, rfl⟩
theorem ix_hash (way : Int) (s : ByteArray) (w : World) : Calls Try.prog 10 #[.string s] w fun e w' => e = .returned (.int .u64 (hashF way s)) ∧ w = w' := by
  by_cases h0 : 0 < s.size
  · have hh : Hid (hashF way s = IntKind.u64.wrap (IntKind.u64.wrap (s.size : Int) + IntKind.u64.wrap (4 * IntKind.u64.wrap (s[0].toNat : Int)))) := Lib.hid (by unfold hashF; rw [dif_pos h0])
    have he2 : s.toList.isEmpty = false := by
      rw [ByteArray.toList_eq]
      have : 0 < s.data.size := h0
      cases hd : s.data.toList with
      | nil =>
        have h2 : s.data.toList.length = s.data.size := Array.length_toList
        rw [hd] at h2
        have h3 : (0 : Nat) = s.data.size := h2
        omega
      | cons x r => rfl
    go_enter Try.func10, Try.ntmps10
    go_wp2
    go_ret
    exact ⟨ret_int hh.out.symm, rfl⟩
  · have hh : Hid (hashF way s = 3) := Lib.hid (by unfold hashF; rw [dif_neg h0])
    have he : s.toList = [] := by
      rw [ByteArray.toList_eq]
      have h1 : s.data.size = 0 := by have : s.data.size = s.size := rfl
                                      omega
      exact List.eq_nil_of_length_eq_zero (by simpa using h1)
    have he2 : s.toList.isEmpty = true := by rw [he]; rfl
    replace h0 := Lib.hid h0
    go_enter Try.func10, Try.ntmps10
    go_wp2
    go_ret
    exact ⟨ret_int hh.out.symm, rfl⟩
theorem same_iff (way : Int) (a b : ByteArray) : sameF way a b = true ↔ a = b := by
  unfold sameF
  rw [beq_iff_eq, ByteArray.toList_eq, ByteArray.toList_eq]
  exact ⟨WideShapes.bytes_inj, fun h => by rw [h]⟩
end Go.Proofs.Ytjeeljolhcoeoaa.Str
