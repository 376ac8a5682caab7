/- Normal: numbers compared; the first that is not 0; two terms. -/
import Derived.Test.YtoklbofobcloaaaDoorNmD
namespace Go.Proofs.YtoklbofobcloaaaDoor
open Go.RowKit Go.Sort
-- ints
set_option maxHeartbeats 1000000 in
theorem nm_nanI (x : Int) (w : World) : Calls Tryd.prog 89 #[.int .i64 x] w fun e w' => e = .returned (.bool false) ∧ w = w' := by
  have h : (x != x) = false := by simp
  go_enter Tryd.func89, Tryd.ntmps89
  go_wp2
  go_ret
  exact ⟨by simp, rfl⟩
set_option maxHeartbeats 1000000 in
theorem nm_cmpI (x y : Int) (w : World) : Calls Tryd.prog 71 #[.int .i64 x, .int .i64 y] w fun e w' => e = .returned (.int .i64 (cmpN x y)) ∧ w = w' := by
  have hn := nm_nanI
  have hx : cmpN x y = if x < y then -1 else if y < x then 1 else 0 := rfl
  by_cases h1 : x < y
  · have h2 : decide (x < y) = true := decide_eq_true h1
    rw [hx, if_pos h1]
    clear hx
    go_enter Tryd.func71, Tryd.ntmps71
    go_wp2_with (go_at_call 89; refine (hn _ _).mono ?_; rintro e w1 ⟨rfl, rfl⟩)
    go_ret
    exact ⟨rfl, rfl⟩
  · by_cases h2 : y < x
    · rw [hx, if_neg h1, if_pos h2]
      clear hx
      go_enter Tryd.func71, Tryd.ntmps71
      go_wp2_with (go_at_call 89; refine (hn _ _).mono ?_; rintro e w1 ⟨rfl, rfl⟩)
      go_ret
      exact ⟨rfl, rfl⟩
    · rw [hx, if_neg h1, if_neg h2]
      clear hx
      go_enter Tryd.func71, Tryd.ntmps71
      go_wp2_with (go_at_call 89; refine (hn _ _).mono ?_; rintro e w1 ⟨rfl, rfl⟩)
      go_ret
      exact ⟨rfl, rfl⟩
set_option maxHeartbeats 1000000 in
theorem nm_nanK (x : Int) (w : World) : Calls Tryd.prog 73 #[.int .i64 x] w fun e w' => e = .returned (.bool false) ∧ w = w' := by
  have h : (x != x) = false := by simp
  go_enter Tryd.func73, Tryd.ntmps73
  go_wp2
  go_ret
  exact ⟨by simp, rfl⟩
set_option maxHeartbeats 1000000 in
theorem nm_cmpK (x y : Int) (w : World) : Calls Tryd.prog 58 #[.int .i64 x, .int .i64 y] w fun e w' => e = .returned (.int .i64 (cmpN x y)) ∧ w = w' := by
  have hn := nm_nanK
  have hx : cmpN x y = if x < y then -1 else if y < x then 1 else 0 := rfl
  by_cases h1 : x < y
  · have h2 : decide (x < y) = true := decide_eq_true h1
    rw [hx, if_pos h1]
    clear hx
    go_enter Tryd.func58, Tryd.ntmps58
    go_wp2_with (go_at_call 73; refine (hn _ _).mono ?_; rintro e w1 ⟨rfl, rfl⟩)
    go_ret
    exact ⟨rfl, rfl⟩
  · by_cases h2 : y < x
    · rw [hx, if_neg h1, if_pos h2]
      clear hx
      go_enter Tryd.func58, Tryd.ntmps58
      go_wp2_with (go_at_call 73; refine (hn _ _).mono ?_; rintro e w1 ⟨rfl, rfl⟩)
      go_ret
      exact ⟨rfl, rfl⟩
    · rw [hx, if_neg h1, if_neg h2]
      clear hx
      go_enter Tryd.func58, Tryd.ntmps58
      go_wp2_with (go_at_call 73; refine (hn _ _).mono ?_; rintro e w1 ⟨rfl, rfl⟩)
      go_ret
      exact ⟨rfl, rfl⟩
-- ints end
/-- the first that is not 0 -/
def orr : List Int → Int
  | [] => 0
  | x :: l => thn x (orr l)
set_option maxHeartbeats 1000000 in
set_option maxRecDepth 100000 in
theorem nm_Or (a : Option Addr) (zs : List Int) (cap : Nat) (w : World) (h : Ints .i64 w a zs) : Calls Tryd.prog 53 #[.slice a zs.length cap] w fun e w' => e = .returned (.int .i64 (orr zs)) ∧ w = w' := by
  have hlen := h.len
  go_enter Tryd.func53, Tryd.ntmps53
  go_wp2
  go_loopw [8, 5] (fun i _ wr => ∃ k : Nat, k ≤ zs.length ∧ i = .int .i64 k ∧ w = wr ∧ Hid (orr zs = orr (zs.drop k))) (fun i _ _ => zs.length - (intOf i).toNat)
  case atStart => exact ⟨0, Nat.zero_le _, rfl, rfl, Lib.hid rfl⟩
  case round =>
    obtain ⟨k, hk, rfl, rfl, hr⟩ := hrel
    by_cases hlt : k < zs.length
    · obtain ⟨b, off, rfl, hc⟩ := h.cells k hlt
      have hq0 : (0 : Int) ≤ (k : Int) := Int.natCast_nonneg _
      have hq1 : (k : Int) < (zs.length : Int) := by omega
      have hd : orr (zs.drop k) = thn (nth zs k) (orr (zs.drop (k + 1))) := by rw [drop_nth zs k hlt]; rfl
      generalize nth zs k = z at hc hd
      by_cases hz : z = 0
      · subst hz
        have hr2 : Hid (orr zs = orr (zs.drop (k + 1))) := Lib.hid (by rw [hr.out, hd]; rfl)
        clear hd
        go_wp2
        go_roundw
        case rel => exact ⟨k + 1, by omega, by go_num, by simp, hr2⟩
        case measure => simp [intOf]; omega
      · have hr2 : Hid (orr zs = z) := Lib.hid (by rw [hr.out, hd]; exact if_neg hz)
        have hz2 : (z != 0) = true := by simp [hz]
        clear hd hz
        go_wp2
        go_ret
        exact ⟨by rw [hr2.out]; rfl, rfl⟩
    · have hr2 : Hid (orr zs = 0) := Lib.hid (by rw [hr.out, List.drop_of_length_le (by omega)]; rfl)
      have hke : k = zs.length := by omega
      subst hke
      go_wp2
      go_ret
      exact ⟨by rw [hr2.out]; rfl, rfl⟩
theorem grw_box2 (w : World) (o1 o2 : Obj) : Grw w ((w.alloc o1).alloc o2) := ((Grw.refl w).al _).al _
set_option maxHeartbeats 1000000 in
set_option maxRecDepth 100000 in
theorem nm_terms (x y : Tm) (w : World) : Calls Tryd.prog 42 #[.agg #[.bool x.1, .string x.2], .agg #[.bool y.1, .string y.2]] w fun e w' => e = .returned (.int .i64 (cmpT x y)) ∧ Grw w w' := by
  obtain ⟨xv, xs⟩ := x
  obtain ⟨yv, ys⟩ := y
  have hn := nm_cmpS xs ys
  have hc : cmpT (xv, xs) (yv, ys) = thn (cmpB xv yv) (cmpS xs ys) := rfl
  rw [hc]
  clear hc
  cases xv <;> cases yv
  case false.false | true.true =>
    show Calls _ _ _ _ fun e w' => e = .returned (.int .i64 (cmpS xs ys)) ∧ Grw w w'
    generalize cmpS xs ys = c at hn ⊢
    go_enter Tryd.func42, Tryd.ntmps42
    go_wp2_with (go_at_call 64; refine (hn _).mono ?_; rintro e w1 ⟨rfl, rfl⟩)
    go_ret
    exact ⟨rfl, grw_box2 _ _ _⟩
  case false.true =>
    clear hn
    show Calls _ _ _ _ fun e w' => e = .returned (.int .i64 (-1)) ∧ Grw w w'
    go_enter Tryd.func42, Tryd.ntmps42
    go_wp2
    go_ret
    exact ⟨rfl, grw_box2 _ _ _⟩
  case true.false =>
    clear hn
    show Calls _ _ _ _ fun e w' => e = .returned (.int .i64 1) ∧ Grw w w'
    go_enter Tryd.func42, Tryd.ntmps42
    go_wp2
    go_ret
    exact ⟨rfl, grw_box2 _ _ _⟩
end Go.Proofs.YtoklbofobcloaaaDoor
