/- Index: the document's hashes and comparisons. -/
import Derived.Test.YtjeeljolhcoeoaaProg
import Derived.Test.YtjeeljolhcoeoaaBase
namespace Go.Proofs.Ytjeeljolhcoeoaa
open Go.RowKit

theorem tmod_round (k n : Int) : (k.tmod n + n) % n = k % n := by
  have h : k.tmod n + n * k.tdiv n = k := Int.tmod_add_mul_tdiv k n
  rw [Int.add_emod_right]
  conv => rhs; rw [← h]
  rw [Int.add_mul_emod_self_left]

theorem rRound (k n : Int) (w : World) (h : 0 < n) (h2 : n ≤ 1000000) : Calls Try.prog 63 #[.int .i64 k, .int .i64 n] w fun e w' => e = .returned (.int .i64 (k % n)) ∧ w = w' := by
  have hn0 : ¬ n = 0 := by omega
  have e1 := Int.lt_tmod_of_pos k h
  have e2 := Int.tmod_lt_of_pos k h
  have hw : IntKind.i64.wrap (k.tmod n) = k.tmod n := IntWalk.i64_in _ (by omega)
  have hw2 : IntKind.i64.wrap (k.tmod n + n) = k.tmod n + n := IntWalk.i64_in _ (by omega)
  have hr := Lib.hid (tmod_round k n)
  go_enter Try.func63, Try.ntmps63
  go_wp2
  go_ret
  exact ⟨ret_int hr.out, rfl⟩

/-- the document's ways to make a number of a key -/
def hashF (way key : Int) : Int :=
  if way % 6 = 0 then IntKind.u64.wrap key else if way % 6 = 1 then 0 else if way % 6 = 2 then key % 3 else if way % 6 = 3 then IntKind.u64.wrap (IntKind.u64.wrap key * 11400714819323198485)
  else if way % 6 = 4 then 18446744073709551615 - key % 5 else key % 7
def sameF (way a b : Int) : Bool := if way % 6 = 5 then a % 7 == b % 7 else a == b
theorem wrapu_small (x : Int) (h : 0 ≤ x) (h2 : x < 1000) : IntKind.u64.wrap x = x := by rw [wrap_u64_eq]; omega

set_option maxHeartbeats 1000000 in
theorem rHash (way key : Int) (w : World) : Calls Try.prog 43 #[.int .i64 way, .int .i64 key] w fun e w' => e = .returned (.int .u64 (hashF way key)) ∧ w = w' := by
  obtain ⟨m, hm⟩ : ∃ m, way % 6 = m := ⟨_, rfl⟩
  have hb : m = 0 ∨ m = 1 ∨ m = 2 ∨ m = 3 ∨ m = 4 ∨ m = 5 := by omega
  have h3 := wrapu_small (key % 3) (by omega) (by omega)
  have h5 := wrapu_small (key % 5) (by omega) (by omega)
  have h7 := wrapu_small (key % 7) (by omega) (by omega)
  have h56 : IntKind.u64.wrap (18446744073709551615 - key % 5) = 18446744073709551615 - key % 5 := by rw [wrap_u64_eq]; omega
  obtain ⟨H, hH⟩ : ∃ H, hashF way key = H := ⟨_, rfl⟩
  rw [hH]
  unfold hashF at hH
  rw [hm] at hH
  replace hH := Lib.hid hH
  replace hm := Lib.hid hm
  go_enter Try.func43, Try.ntmps43
  go_wp2_with fail
  refine (rRound way 6 _ (by decide) (by decide)).mono ?_
  rintro e w1 ⟨rfl, rfl⟩
  rw [hm.out]
  clear hm
  rcases hb with rfl | rfl | rfl | rfl | rfl | rfl
  · go_wp2_with fail
    go_ret
    exact ⟨ret_int hH.out, rfl⟩
  · go_wp2_with fail
    go_ret
    exact ⟨ret_int hH.out, rfl⟩
  · go_wp2_with fail
    refine (rRound key 3 _ (by decide) (by decide)).mono ?_
    rintro e w1 ⟨rfl, rfl⟩
    go_wp2_with fail
    go_ret
    exact ⟨ret_int hH.out, rfl⟩
  · go_wp2_with fail
    go_ret
    exact ⟨ret_int hH.out, rfl⟩
  · go_wp2_with fail
    refine (rRound key 5 _ (by decide) (by decide)).mono ?_
    rintro e w1 ⟨rfl, rfl⟩
    go_wp2_with fail
    go_ret
    exact ⟨ret_int hH.out, rfl⟩
  · go_wp2_with fail
    refine (rRound key 7 _ (by decide) (by decide)).mono ?_
    rintro e w1 ⟨rfl, rfl⟩
    go_wp2_with fail
    go_ret
    exact ⟨ret_int hH.out, rfl⟩

theorem rSame (way a b : Int) (w : World) : Calls Try.prog 45 #[.int .i64 way, .int .i64 a, .int .i64 b] w fun e w' => e = .returned (.bool (sameF way a b)) ∧ w = w' := by
  go_enter Try.func45, Try.ntmps45
  go_wp2_with fail
  refine (rRound way 6 _ (by decide) (by decide)).mono ?_
  rintro e w1 ⟨rfl, rfl⟩
  by_cases h : way % 6 = 5
  · have hs : Hid (sameF way a b = (a % 7 == b % 7)) := Lib.hid (by unfold sameF; rw [if_pos h])
    rw [h]
    clear h
    go_wp2_with fail
    refine (rRound a 7 _ (by decide) (by decide)).mono ?_
    rintro e w1 ⟨rfl, rfl⟩
    go_wp2_with fail
    refine (rRound b 7 _ (by decide) (by decide)).mono ?_
    rintro e w1 ⟨rfl, rfl⟩
    go_wp2_with fail
    go_ret
    exact ⟨ret_bool hs.out.symm, rfl⟩
  · have hs : Hid (sameF way a b = (a == b)) := Lib.hid (by unfold sameF; rw [if_neg h])
    have h5 : (way % 6 == 5) = false := beq_eq_false_iff_ne.2 h
    clear h
    go_wp2_with fail
    go_ret
    exact ⟨ret_bool hs.out.symm, rfl⟩

/-- the closures -/
theorem ix_hash (way key : Int) (hb : Nat) (w : World) (hc : w.cell? ⟨hb, 0, none⟩ = some (.int .i64 way)) : Calls Try.prog 42 #[.int .i64 key, .pointer (some ⟨hb, 0, none⟩)] w fun e w' => e = .returned (.int .u64 (hashF way key)) ∧ w = w' := by
  go_enter Try.func42, Try.ntmps42
  go_wp2_with fail
  refine (rHash way key _).mono ?_
  rintro e w1 ⟨rfl, rfl⟩
  go_wp2_with fail
  go_ret
  exact ⟨rfl, rfl⟩
theorem ix_same (way a b : Int) (sb : Nat) (w : World) (hc : w.cell? ⟨sb, 0, none⟩ = some (.int .i64 way)) : Calls Try.prog 44 #[.int .i64 a, .int .i64 b, .pointer (some ⟨sb, 0, none⟩)] w fun e w' => e = .returned (.bool (sameF way a b)) ∧ w = w' := by
  go_enter Try.func44, Try.ntmps44
  go_wp2_with fail
  refine (rSame way a b _).mono ?_
  rintro e w1 ⟨rfl, rfl⟩
  go_wp2_with fail
  go_ret
  exact ⟨rfl, rfl⟩

end Go.Proofs.Ytjeeljolhcoeoaa
