/- Index: the document's table: what it is in memory, At, Get. -/
import Derived.Test.YtjeeljolhcoeoaaJxG
import Derived.Test.YtjeeljolhcoeoaaKxA
import Derived.Deep.QuietTactic
import Derived.BigQuiet
namespace Go.Proofs.Ytjeeljolhcoeoaa
open Go.RowKit Go.Shelf

def prCs (ps : List (Int × Int)) : List Value := ps.flatMap fun p => [.int .i64 p.1, .int .i64 p.2]
theorem prCs_snoc (ps : List (Int × Int)) (x : Int × Int) : prCs (ps ++ [x]) = prCs ps ++ [.int .i64 x.1, .int .i64 x.2] := by simp [prCs]
theorem prCs_length (ps : List (Int × Int)) : (prCs ps).length = 2 * ps.length := by
  induction ps with
  | nil => rfl
  | cons x ps ih => simp [prCs] at ih ⊢; omega
theorem prCs_get : ∀ (ps : List (Int × Int)) (i : Nat) (h : i < ps.length), (prCs ps)[i * 2]? = some (.int .i64 ps[i].1) ∧ (prCs ps)[i * 2 + 1]? = some (.int .i64 ps[i].2)
  | [], i, h => by simp at h
  | x :: ps, 0, _ => ⟨rfl, rfl⟩
  | x :: ps, i + 1, h => by
    have := prCs_get ps i (by simpa using h)
    have e : prCs (x :: ps) = [.int .i64 x.1, .int .i64 x.2] ++ prCs ps := rfl
    rw [e, List.getElem?_append_right (by simp; omega), List.getElem?_append_right (by simp; omega)]
    simp only [List.length_cons, List.length_nil, List.getElem_cons_succ]
    rw [show (i + 1) * 2 - (0 + 1 + 1) = i * 2 from by omega, show (i + 1) * 2 + 1 - (0 + 1 + 1) = i * 2 + 1 from by omega]
    exact this
/-- the document's table -/
structure RF (w : World) (base Rt : Nat) (way : Int) (sz : Nat) (v : Value) (ps : List (Int × Int)) : Prop where
  hR : w.heap[Rt]? = some (.cells #[.int .i64 way, v, .int .i64 sz] 79)
  row : w.ownsRow base 111 2 v ps.length (prCs ps)
section
variable {w w' : World} {base Rt : Nat} {way : Int} {sz : Nat} {v : Value} {ps : List (Int × Int)}
theorem RF.below (h : RF w base Rt way sz v ps) (hb : Below w.heap.size w w') : RF w' base Rt way sz v ps := ⟨(hb.block _ (Array.getElem?_eq_some_iff.1 h.hR).1).trans h.hR, own_below h.row hb⟩
theorem RF.c0 (h : RF w base Rt way sz v ps) : w.cell? ⟨Rt, 0, none⟩ = some (.int .i64 way) := cell_of_row _ _ _ _ _ _ h.hR
theorem RF.c1 (h : RF w base Rt way sz v ps) : w.cell? ⟨Rt, 1, none⟩ = some v := cell_of_row _ _ _ _ _ _ h.hR
theorem RF.c2 (h : RF w base Rt way sz v ps) : w.cell? ⟨Rt, 2, none⟩ = some (.int .i64 sz) := cell_of_row _ _ _ _ _ _ h.hR
theorem RF.pair (h : RF w base Rt way sz v ps) (i : Nat) (hi : i < ps.length) : ∃ g c, v = .slice (some ⟨g, 0, none⟩) ps.length c ∧ w.cell? ⟨g, i * 2, none⟩ = some (.int .i64 ps[i].1) ∧ w.cell? ⟨g, i * 2 + 1, none⟩ = some (.int .i64 ps[i].2) := by
  obtain ⟨g, c, rfl, _⟩ := own_shape h.row (by omega)
  obtain ⟨h1, h2⟩ := prCs_get ps i hi
  refine ⟨g, c, rfl, ?_, ?_⟩
  · have := h.row.cells (g := g) rfl (i * 2) _ h1
    simpa [addr_add] using this
  · have := h.row.cells (g := g) rfl (i * 2 + 1) _ h2
    simpa [addr_add] using this
end
/-- a key's turn -/
def rAt (way : Int) (ps : List (Int × Int)) (key : Int) : Int := match ps.findIdx? (fun p => sameF way p.1 key) with
  | some i => i
  | none => -1
theorem rAt_hit {way : Int} {ps : List (Int × Int)} {key : Int} {i : Nat} (hi : i < ps.length) (h : sameF way ps[i].1 key = true) (hb : ∀ j (hj : j < ps.length), j < i → sameF way ps[j].1 key = false) : rAt way ps key = i := by
  unfold rAt
  have : ps.findIdx? (fun p => sameF way p.1 key) = some i := by
    rw [List.findIdx?_eq_some_iff_getElem]
    exact ⟨hi, h, fun j hj => by simp [hb j (by omega) hj]⟩
  rw [this]
theorem rAt_none {way : Int} {ps : List (Int × Int)} {key : Int} (hb : ∀ j (hj : j < ps.length), sameF way ps[j].1 key = false) : rAt way ps key = -1 := by
  unfold rAt
  have : ps.findIdx? (fun p => sameF way p.1 key) = none := by
    rw [List.findIdx?_eq_none_iff]
    intro x hx
    obtain ⟨j, hj, rfl⟩ := List.getElem_of_mem hx
    exact hb j hj
  rw [this]

section
variable {w : World} {base Rt : Nat} {way : Int} {sz : Nat} {v : Value} {ps : List (Int × Int)}
set_option maxRecDepth 100000 in
set_option maxHeartbeats 4000000 in
theorem rf_At (h : RF w base Rt way sz v ps) (key : Int) : Calls Try.prog 61 #[.pointer (some ⟨Rt, 0, none⟩), .int .i64 key] w fun e w' => e = .returned (.int .i64 (rAt way ps key)) ∧ Drawn w w' := by
  obtain ⟨va, vc, rfl, -⟩ := own_sliceI h.row
  have hlen : ps.length ≤ maxLen := by
    rcases h.row.2 with ⟨hv, h0⟩ | ⟨g, cap, cur, hv, _, _, h1, h2, _⟩
    · unfold maxLen; omega
    · omega
  unfold maxLen at hlen
  go_enter Try.func61, Try.ntmps61
  go_wp2_with fail
  go_loopw [5] (fun i wr => ∃ k : Nat, k ≤ ps.length ∧ i = .int .i64 k ∧ Hid (∀ j (hj : j < ps.length), j < k → sameF way ps[j].1 key = false) ∧ Hid (Drawn w wr)) (fun i _ => ps.length - (intOf i).toNat)
  case atStart => exact ⟨0, Nat.zero_le _, rfl, Lib.hid (fun j _ h => absurd h (Nat.not_lt_zero _)), Lib.hid (Drawn.refl w)⟩
  case round =>
    obtain ⟨k, hk, rfl, hbef, hd⟩ := hrel
    have hr := h.below (hd.out.below _)
    have c0 := hr.c0
    have c1 := hr.c1
    by_cases hlt : k < ps.length
    · obtain ⟨g, c, hv, p0, _⟩ := hr.pair k hlt
      injection hv with hv _ hvc
      subst hv hvc
      obtain ⟨K, hK⟩ : ∃ K, ps[k].1 = K := ⟨_, rfl⟩
      rw [hK] at p0
      obtain ⟨S, hS⟩ : ∃ S, sameF way K key = S := ⟨_, rfl⟩
      have hC : Hid (∀ n, Calls Try.prog 45 #[.int .i64 way, .int .i64 K, .int .i64 key] (wr.drewN n) fun e w' => e = .returned (.bool S) ∧ ∃ m, w' = wr.drewN m) := Lib.hid fun n => (rSame way K key _).mono fun e w' hh => ⟨by rw [hh.1, hS], n, hh.2.symm⟩
      replace hK := Lib.hid hK
      replace hS := Lib.hid hS
      clear hr
      go_wp2_with fail
      go_quiet ((go_at_call 45; with_reducible exact hC.out _))
      have hd2 := Lib.hid (hd.out.step nq)
      clear hC c0 c1 p0
      cases S with
      | true =>
        go_wp2_with fail
        go_ret
        refine ⟨?_, hd2.out⟩
        rw [rAt_hit hlt (by rw [hK.out]; exact hS.out) (fun j hj hjk => hbef.out j hj hjk)]
        rfl
      | false =>
        have hbef2 : Hid (∀ j (hj : j < ps.length), j < k + 1 → sameF way ps[j].1 key = false) := Lib.hid fun j hj hjk => by
          rcases Nat.lt_or_ge j k with h3 | h3
          · exact hbef.out j hj h3
          · obtain rfl : j = k := by omega
            rw [hK.out]; exact hS.out
        go_wp2_with fail
        go_roundw
        case rel => exact ⟨k + 1, by omega, by go_num, hbef2, hd2⟩
        case measure => simp [intOf]; omega
    · obtain rfl : k = ps.length := by omega
      clear hr
      go_wp2_with fail
      go_ret
      refine ⟨?_, hd.out⟩
      rw [rAt_none fun j hj => hbef.out j hj hj]
      rfl
theorem rAt_cases (way : Int) (ps : List (Int × Int)) (key : Int) : (∃ i, ∃ hi : i < ps.length, sameF way ps[i].1 key = true ∧ (∀ j (hj : j < ps.length), j < i → sameF way ps[j].1 key = false) ∧ rAt way ps key = i) ∨ ((∀ j (hj : j < ps.length), sameF way ps[j].1 key = false) ∧ rAt way ps key = -1) := by
  cases hf : ps.findIdx? (fun p => sameF way p.1 key) with
  | some i =>
    rw [List.findIdx?_eq_some_iff_getElem] at hf
    obtain ⟨hi, h1, h2⟩ := hf
    have hb : ∀ j (hj : j < ps.length), j < i → sameF way ps[j].1 key = false := fun j hj hji => by simpa using h2 j hji
    exact .inl ⟨i, hi, h1, hb, rAt_hit hi h1 hb⟩
  | none =>
    rw [List.findIdx?_eq_none_iff] at hf
    have hb : ∀ j (hj : j < ps.length), sameF way ps[j].1 key = false := fun j hj => hf _ (List.getElem_mem hj)
    exact .inr ⟨hb, rAt_none hb⟩

theorem rf_Get (h : RF w base Rt way sz v ps) (key : Int) : Calls Try.prog 54 #[.pointer (some ⟨Rt, 0, none⟩), .int .i64 key] w fun e w' => Drawn w w' ∧
    ((∃ i, ∃ hi : i < ps.length, sameF way ps[i].1 key = true ∧ (∀ j (hj : j < ps.length), j < i → sameF way ps[j].1 key = false) ∧ e = .returned (.tuple #[.int .i64 ps[i].2, .bool true])) ∨ ((∀ j (hj : j < ps.length), sameF way ps[j].1 key = false) ∧ e = .returned (.tuple #[.int .i64 0, .bool false]))) := by
  rcases rAt_cases way ps key with ⟨i, hi, hm, hb, hr⟩ | ⟨hno, hr⟩
  · go_enter Try.func54, Try.ntmps54
    go_wp2_with fail
    refine (rf_At h key).mono ?_
    rintro e w1 ⟨rfl, hd⟩
    rw [hr]
    have h1 := h.below (hd.below _)
    have c1 := h1.c1
    obtain ⟨g, c, rfl, _, p1⟩ := h1.pair i hi
    obtain ⟨V, hV⟩ : ∃ V, ps[i].2 = V := ⟨_, rfl⟩
    rw [hV] at p1
    replace hb := Lib.hid hb
    replace hr := Lib.hid hr
    replace hV := Lib.hid hV
    clear h1
    go_wp2_with fail
    go_ret2
    refine ⟨hd, .inl ⟨i, hi, hm, hb.out, ?_⟩⟩
    rw [hV.out]; rfl
  · go_enter Try.func54, Try.ntmps54
    go_wp2_with fail
    refine (rf_At h key).mono ?_
    rintro e w1 ⟨rfl, hd⟩
    rw [hr]
    replace hno := Lib.hid hno
    replace hr := Lib.hid hr
    go_wp2_with fail
    go_ret2
    exact ⟨hd, .inr ⟨hno.out, rfl⟩⟩
end
end Go.Proofs.Ytjeeljolhcoeoaa
