/- tuple.Least: the tuple that comes first, as new memory. -/
import Derived.Test.YtgndogoaenlchaaRows
import Derived.Test.YtgndogoaenlchaaBase
import Derived.Test.YtgndogoaenlchaaKit
import Derived.Test.YtgndogoaenlchaaLend
import Derived.Test.YtgndogoaenlchaaCmp
namespace Go.Proofs.Ytgndogoaenlchaa
open Go.RowKit

/-- a slice of numbers as a value: where it lies, its capacity, its numbers -/
structure IRow where
  a : Option Addr
  cap : Nat
  zs : List Int
instance : Inhabited IRow := ⟨⟨none, 0, []⟩⟩
def IRow.v (r : IRow) : Value := .slice r.a r.zs.length r.cap
def rth (l : List IRow) (i : Nat) : IRow := l.getD i default
theorem rth_eq (l : List IRow) (i : Nat) (h : i < l.length) : rth l i = l[i] := by simp [rth, h]
theorem drop_rth (l : List IRow) (j : Nat) (h : j < l.length) : l.drop j = rth l j :: l.drop (j + 1) := by
  rw [List.drop_eq_getElem_cons h, rth_eq l j h]

def leastF (best : List Int) (l : List IRow) : List Int := l.foldl (fun b t => if cmpL t.zs b < 0 then t.zs else b) best

/-- a slice of slices of numbers -/
structure IRows (w : World) (a : Option Addr) (cap : Nat) (rs : List IRow) : Prop where
  len : rs.length ≤ 17592186044200
  cap : rs.length ≤ cap
  at_ : ∀ i, i < rs.length → ∃ b off, a = some ⟨b, off, none⟩ ∧ w.cell? ⟨b, off + i, none⟩ = some (rth rs i).v
  row : ∀ i, i < rs.length → Ints .i64 w (rth rs i).a (rth rs i).zs
  nil : ∀ i, i < rs.length → (rth rs i).a = none → (rth rs i).zs = [] ∧ (rth rs i).cap = 0

set_option maxHeartbeats 1000000 in
theorem least_nil (a : Option Addr) (cap : Nat) (w : World) :
    Calls Try.prog 29 #[.slice a 0 cap] w fun e w' => e = .returned (.tuple #[.slice none 0 0, .bool false]) ∧ w = w' := by
  go_enter Try.func29, Try.ntmps29
  go_wp2
  go_ret2
  exact ⟨rfl, rfl⟩

set_option maxHeartbeats 2000000 in
theorem least_any (b off : Nat) (cap : Nat) (rs : List IRow) (w : World) (hr : IRows w (some ⟨b, off, none⟩) cap rs) (hpos : 0 < rs.length) (hm : cap ≤ maxLen) :
    Calls Try.prog 29 #[.slice (some ⟨b, off, none⟩) rs.length cap] w fun e w' => ∃ v, e = .returned (.tuple #[v, .bool true]) ∧
      w'.ownsRow w.heap.size 3 1 v (leastF (rth rs 0).zs (rs.drop 1)).length ((leastF (rth rs 0).zs (rs.drop 1)).map (Value.int .i64)) ∧ Below w.heap.size w w' := by
  have hl := hr.len
  have hc := hr.cap
  unfold maxLen at hm
  obtain ⟨i0, hi, hz0, hz1, hz2⟩ := info_parts infoInt
  have g1 : ((rs.length : Int) == 0) = false := beq_eq_false_iff_ne.2 (by omega)
  have hcells : ∀ i, i < rs.length → w.cell? ⟨b, off + i, none⟩ = some (.slice (rth rs i).a (rth rs i).zs.length (rth rs i).cap) := fun i hi => by
    obtain ⟨b', off', e, h⟩ := hr.at_ i hi
    injection e with e; injection e with e1 e2
    subst e1 e2
    exact h
  have hcell0 := hcells 0 hpos
  rw [Nat.add_zero] at hcell0
  have hcells2 : Hid (∀ j, j + 1 < rs.length → w.cell? ⟨b, off + 1 + j, none⟩ = some (.slice (rth rs (j + 1)).a (rth rs (j + 1)).zs.length (rth rs (j + 1)).cap)) := fun j hj => by
    have := hcells (j + 1) hj
    rwa [show off + (j + 1) = off + 1 + j from by omega] at this
  clear hcells
  by_cases hcap : cap = 1
  · have hone : rs.length = 1 := by omega
    have hd : rs.drop 1 = [] := List.drop_of_length_le (by omega)
    subst hcap
    have h0 := hr.row 0 hpos
    have hnil := hr.nil 0 hpos
    have hn0 : Hid ((rth rs 0).a = none → (rth rs 0).zs.length = 0 ∧ (rth rs 0).cap = 0) := fun h => by obtain ⟨h1, h2⟩ := hnil h; exact ⟨by rw [h1]; rfl, h2⟩
    clear hnil
    rw [hd, hone]
    clear hd hone g1 hpos hl hc
    have hfin : leastF (rth rs 0).zs [] = (rth rs 0).zs := rfl
    rw [hfin]
    clear hfin
    go_enter Try.func29, Try.ntmps29
    go_wp2_with fail
    refine wp_loop_rounds 1 ?_
    rw [rounds_succ]
    have hb63 : Hid (0 + (rth rs 0).zs.length ≤ maxLen) := by have := h0.len; show _ ≤ maxLen; unfold maxLen; omega
    have hby : Hid ((0 + (rth rs 0).zs.length) * 8 ≤ 140737488355328) := by have := h0.len; show _ ≤ 140737488355328; omega
    go_wp2_with (first
      | (at_builtin; refine wpList_append_src _ rfl (.const (.slice none 0 0)) (.tmp 26) 22 rfl w.heap.size 3 i0 (.int .i64 0) 1 8 Try.underlying22 hi hz0 hz1 hz2 rfl (by decide) _ 0 [] rfl (World.ownsRow_nil _ _ _ _) (rth rs 0).a (rth rs 0).zs.length (rth rs 0).cap ((rth rs 0).zs.map (Value.int .i64)) rfl hn0.out (by rw [List.length_map, Nat.mul_one]) h0.news (ints_one _ _) hb63.out hby.out (Nat.le_refl _) ?_))
    intro v1 w1 hown1 hgrow1 hv1
    go_wp2
    go_ret2
    refine ⟨_, rfl, by simpa using hown1, (Below.refl _ _).grown hgrow1 (Nat.le_refl _) (by intro k hk; simp [Value.ownBlock] at hk)⟩
  · have hcap2 : 1 < cap := by omega
    have hl1 : 1 ≤ rs.length := hpos
    clear hcap
    have hrow := Lib.hid hr.row
    have hnil := Lib.hid hr.nil
    go_enter Try.func29, Try.ntmps29
    go_wp2_with fail
    go_loop [4, 6, 16] (fun s4 s6 s16 => ∃ (j k : Nat), j + 1 ≤ rs.length ∧ k < rs.length ∧ s16 = .int .i64 j ∧ s4 = .slice (rth rs k).a (rth rs k).zs.length (rth rs k).cap ∧ Hid (leastF (rth rs k).zs (rs.drop (j + 1)) = leastF (rth rs 0).zs (rs.drop 1))) (fun _ _ s16 => rs.length - (intOf s16).toNat)
    case atStart => exact ⟨0, 0, by omega, by omega, rfl, rfl, rfl⟩
    case round =>
      obtain ⟨j, k, hj, hk, rfl, rfl, he⟩ := hrel
      by_cases hlt : j + 1 < rs.length
      · have hcell := hcells2.out j hlt
        have hlt2 : (j : Int) < ((rs.length - 1 : Nat) : Int) := by omega
        have hrj := hrow.out (j + 1) hlt
        have hrk := hrow.out k hk
        have hcmp := Lib.hid (cmp_int (rth rs (j + 1)).a (rth rs k).a (rth rs (j + 1)).cap (rth rs k).cap (rth rs (j + 1)).zs (rth rs k).zs w hrj hrk)
        have he2 := he.out
        rw [drop_rth rs (j + 1) hlt] at he2
        clear hrj hrk
        by_cases hc0 : cmpL (rth rs (j + 1)).zs (rth rs k).zs < 0
        · have h6 : Hid (leastF (rth rs (j + 1)).zs (rs.drop (j + 1 + 1)) = leastF (rth rs 0).zs (rs.drop 1)) := by
            rw [← he2]; show _ = leastF (if _ then _ else _) _; rw [if_pos hc0]
          clear he2 he
          go_wp2_with fail
          refine hcmp.out.mono ?_
          rintro e w' ⟨rfl, rfl⟩
          go_wp2
          go_round
          case rel => exact ⟨j + 1, j + 1, by omega, by omega, by go_num, rfl, h6⟩
          case measure => simp [intOf]; omega
        · have h6 : Hid (leastF (rth rs k).zs (rs.drop (j + 1 + 1)) = leastF (rth rs 0).zs (rs.drop 1)) := by
            rw [← he2]; show _ = leastF (if _ then _ else _) _; rw [if_neg hc0]
          clear he2 he
          go_wp2_with fail
          refine hcmp.out.mono ?_
          rintro e w' ⟨rfl, rfl⟩
          go_wp2
          go_round
          case rel => exact ⟨j + 1, k, by omega, by omega, by go_num, rfl, h6⟩
          case measure => simp [intOf]; omega
      · have hlt2 : ¬ (j : Int) < ((rs.length - 1 : Nat) : Int) := by omega
        have h6 : Hid (leastF (rth rs 0).zs (rs.drop 1) = (rth rs k).zs) := by
          rw [← he.out, List.drop_of_length_le (by omega)]; rfl
        have hrk := hrow.out k hk
        have hnk := hnil.out k hk
        have hn0 : Hid ((rth rs k).a = none → (rth rs k).zs.length = 0 ∧ (rth rs k).cap = 0) := fun h => by obtain ⟨h1, h2⟩ := hnk h; exact ⟨by rw [h1]; rfl, h2⟩
        clear he hnk
        have hb63 : Hid (0 + (rth rs k).zs.length ≤ maxLen) := by have := hrk.len; show _ ≤ maxLen; unfold maxLen; omega
        have hby : Hid ((0 + (rth rs k).zs.length) * 8 ≤ 140737488355328) := by have := hrk.len; show _ ≤ 140737488355328; omega
        go_wp2_with (first
          | (at_builtin; refine wpList_append_src _ rfl (.const (.slice none 0 0)) (.tmp 26) 22 rfl w.heap.size 3 i0 (.int .i64 0) 1 8 Try.underlying22 hi hz0 hz1 hz2 rfl (by decide) _ 0 [] rfl (World.ownsRow_nil _ _ _ _) (rth rs k).a (rth rs k).zs.length (rth rs k).cap ((rth rs k).zs.map (Value.int .i64)) rfl hn0.out (by rw [List.length_map, Nat.mul_one]) hrk.news (ints_one _ _) hb63.out hby.out (Nat.le_refl _) ?_))
        intro v1 w1 hown1 hgrow1 hv1
        go_wp2
        go_ret2
        refine ⟨_, rfl, ?_, (Below.refl _ _).grown hgrow1 (Nat.le_refl _) (by intro k hk; simp [Value.ownBlock] at hk)⟩
        rw [h6.out]
        simpa using hown1

theorem least_anyN (b off : Nat) (cap n : Nat) (rs : List IRow) (w : World) (hr : IRows w (some ⟨b, off, none⟩) cap rs) (hn : rs.length = n) (hpos : 0 < n) (hm : cap ≤ maxLen) :
    Calls Try.prog 29 #[.slice (some ⟨b, off, none⟩) n cap] w fun e w' => ∃ v, e = .returned (.tuple #[v, .bool true]) ∧
      w'.ownsRow w.heap.size 3 1 v (leastF (rth rs 0).zs (rs.drop 1)).length ((leastF (rth rs 0).zs (rs.drop 1)).map (Value.int .i64)) ∧ Below w.heap.size w w' := by
  subst hn; exact least_any b off cap rs w hr hpos hm

end Go.Proofs.Ytgndogoaenlchaa
