/- Index: the document's table: home and Layout. -/
import Derived.Test.YtjeeljolhcoeoaaMxC
namespace Go.Proofs.Ytjeeljolhcoeoaa
open Go.RowKit Go.Shelf

/-- a row of numbers by its places -/
def lvs (sz : Nat) (f : Nat → Int) : List Value := (List.range sz).map fun j => Value.int .i64 (f j)
theorem lvs_length (sz : Nat) (f : Nat → Int) : (lvs sz f).length = sz := by simp [lvs]
theorem lvs_get {sz j : Nat} (f : Nat → Int) (h : j < sz) : (lvs sz f)[j]? = some (.int .i64 (f j)) := by simp [lvs, h]
theorem lvs_set (sz : Nat) (f : Nat → Int) (j : Nat) (x : Int) : (lvs sz f).set j (.int .i64 x) = lvs sz (fun i => if i = j then x else f i) := by
  apply List.ext_getElem?
  intro i
  rw [List.getElem?_set]
  by_cases hij : j = i
  · subst hij
    rw [if_pos rfl]
    by_cases h : j < sz
    · rw [if_pos (by rw [lvs_length]; exact h), lvs_get _ h, if_pos rfl]
    · rw [if_neg (by rw [lvs_length]; exact h)]
      simp [lvs, h]
  · rw [if_neg hij]
    by_cases h : i < sz
    · rw [lvs_get _ h, lvs_get _ h, if_neg (fun e => hij e.symm)]
    · simp [lvs, h]
theorem lvs_congr {sz : Nat} {f g : Nat → Int} (h : ∀ j, j < sz → f j = g j) : lvs sz f = lvs sz g := by
  unfold lvs
  refine List.map_congr_left fun j hj => ?_
  rw [h j (List.mem_range.1 hj)]
/-- the turn of what lies there; -1: nothing -/
def lvP (pl : Nat → Option Nat) (j : Nat) : Int := match pl j with
  | some i => (i : Int)
  | none => -1
theorem lvP_none {pl : Nat → Option Nat} {j : Nat} (h : pl j = none) : lvP pl j = -1 := by unfold lvP; rw [h]
theorem lvP_some {pl : Nat → Option Nat} {j i : Nat} (h : pl j = some i) : lvP pl j = i := by unfold lvP; rw [h]
theorem lvP_upd (pl : Nat → Option Nat) (j i : Nat) : lvP (updP pl j (some i)) = fun x => if x = j then (i : Int) else lvP pl x := by
  funext x
  by_cases h : x = j
  · subst h; rw [lvP_some (updP_same pl x (some i)), if_pos rfl]
  · rw [if_neg h]; unfold lvP; rw [updP_other pl (some i) h]
/-- the pairs as entries: each one's block is its turn -/
def refE (way : Int) (ps : List (Int × Int)) : List Ent := ps.mapIdx fun i p => ⟨i, p.1, p.2, hashF way p.1⟩
theorem refE_length (way : Int) (ps : List (Int × Int)) : (refE way ps).length = ps.length := by simp [refE]
theorem refE_get (way : Int) (ps : List (Int × Int)) (i : Nat) (h : i < (refE way ps).length) : (refE way ps)[i] = ⟨i, (ps[i]'(by rw [refE_length] at h; exact h)).1, (ps[i]'(by rw [refE_length] at h; exact h)).2, hashF way (ps[i]'(by rw [refE_length] at h; exact h)).1⟩ := by simp [refE]
theorem refE_snoc (way : Int) (ps : List (Int × Int)) (x : Int × Int) : refE way (ps ++ [x]) = refE way ps ++ [⟨ps.length, x.1, x.2, hashF way x.1⟩] := by simp [refE, List.mapIdx_append]

section
variable {w w' : World} {base Rt : Nat} {way : Int} {sz : Nat} {v : Value} {ps : List (Int × Int)}
theorem rf_home (h : RF w base Rt way sz v ps) (key : Int) (h8 : 8 ≤ sz) (hs : sz ≤ 16777216) : Calls Try.prog 65 #[.pointer (some ⟨Rt, 0, none⟩), .int .i64 key] w fun e w' => e = .returned (.int .i64 (homeN (hashF way key) sz : Nat)) ∧ Drawn w w' := by
  obtain ⟨H, hH⟩ : ∃ H, hashF way key = H := ⟨_, rfl⟩
  obtain ⟨h0, h1⟩ := hashF_range way key
  rw [hH] at h0 h1 ⊢
  obtain ⟨m, hm⟩ : ∃ m, homeN H sz = m := ⟨_, rfl⟩
  have hmlt : m < sz := by rw [← hm]; exact Nat.mod_lt _ (by omega)
  rw [hm]
  have hws : IntKind.u64.wrap (sz : Int) = sz := by rw [wrap_u64_eq]; omega
  have hne : ¬ (sz : Int) = 0 := by omega
  have hr : H % (sz : Int) = (m : Int) := by obtain ⟨n, rfl⟩ := Int.eq_ofNat_of_zero_le h0; rw [← hm]; rfl
  have hw2 : IntKind.i64.wrap (m : Int) = m := IntWalk.i64_in _ (by omega)
  have hw3 : IntKind.u64.wrap (m : Int) = m := by rw [wrap_u64_eq]; omega
  have hC : Hid (∀ n, Calls Try.prog 43 #[.int .i64 way, .int .i64 key] (w.drewN n) fun e w' => e = .returned (.int .u64 H) ∧ ∃ m, w' = w.drewN m) := Lib.hid fun n => (rHash way key _).mono fun e w' hh => ⟨by rw [hh.1, hH], n, hh.2.symm⟩
  have c0 := h.c0
  have c2 := h.c2
  clear hH hm
  go_enter Try.func65, Try.ntmps65
  go_wp2_with fail
  go_quiet ((go_at_call 43; with_reducible exact hC.out _))
  go_wp2_with fail
  go_ret
  exact ⟨rfl, ⟨nq, rfl⟩⟩
end
end Go.Proofs.Ytjeeljolhcoeoaa
