/- Index: the document's table: Layout. -/
import Derived.Test.YtjeeljolhcoeoaaMxD
namespace Go.Proofs.Ytjeeljolhcoeoaa
open Go.RowKit Go.Shelf

theorem made_zeros (n : Nat) : (madeCells (Value.int .i64 0).cells (n * 1)).toList = lvs n (fun _ => 0) := by
  rw [show (Value.int .i64 0).cells = #[Value.int .i64 0] from rfl, Nat.mul_one, toList_madeCells_one]
  unfold lvs
  rw [List.map_const', List.length_range]
theorem dist_mod {k m t D : Nat} (hD : D < k) (ht : t ≤ D) : ((m + D) % k + k - (m + t) % k) % k = D - t := by
  have h1 : ((m + t) % k + (D - t)) % k = (m + D) % k := by rw [Nat.mod_add_mod]; congr 1; omega
  have h2 : (m + t) % k < k := Nat.mod_lt _ (by omega)
  rw [← h1]
  generalize (m + t) % k = p at h2
  by_cases h3 : p + (D - t) < k
  · rw [Nat.mod_eq_of_lt h3, show p + (D - t) + k - p = D - t + k from by omega, Nat.add_mod_right, Nat.mod_eq_of_lt (by omega)]
  · have e2 : (p + (D - t)) % k = p + (D - t) - k := by
      rw [Nat.mod_eq_sub_mod (show p + (D - t) ≥ k by omega)]
      exact Nat.mod_eq_of_lt (by omega)
    rw [e2, show p + (D - t) - k + k - p = D - t from by omega]
    exact Nat.mod_eq_of_lt (by omega)
section
variable {w w' : World} {base Rt : Nat} {way : Int} {sz : Nat} {v : Value} {ps : List (Int × Int)}
set_option maxRecDepth 100000 in
set_option maxHeartbeats 8000000 in
theorem rf_Layout (h : RF w base Rt way sz v ps) (h8 : 8 ≤ sz) (hs : sz ≤ 16777216) (hroom : ps.length < sz) : Calls Try.prog 60 #[.pointer (some ⟨Rt, 0, none⟩)] w fun e w' =>
    ∃ g pl, e = .returned (.slice (some ⟨g, 0, none⟩) sz sz) ∧ Can sz (refE way ps) pl ∧ w'.ownsRow w.heap.size 3 1 (.slice (some ⟨g, 0, none⟩) sz sz) sz (lvs sz (lvP pl)) ∧ Below w.heap.size w w' := by
  obtain ⟨i0, hi, hz0, hz1, hz2⟩ := info_parts infoInt
  have c2 := h.c2
  have hne0 : ¬ (sz : Int) = 0 := by omega
  go_enter Try.func60, Try.ntmps60
  go_upto_region 2 with (refine wpList_make_full _ rfl _ _ _ rfl w.heap.size 3 i0 _ 1 Try.underlying28 hi hz0 hz1 .i64 .i64 sz sz sz rfl rfl rfl rfl (by rw [hz2]; omega) (by unfold maxLen; omega) (Nat.le_refl _) ?_; intro w1 hown hgrow)
  rw [made_zeros] at hown
  have hb1 : Hid (Below w.heap.size w w1) := Lib.hid ((Below.refl w.heap.size w).grown hgrow (Nat.le_refl _) (fun k e => by cases e))
  obtain ⟨G, hG⟩ : ∃ G, w.heap.size = G := ⟨_, rfl⟩
  have hrow1 : Hid (w1.ownsRow w.heap.size 3 1 (.slice (some ⟨G, 0, none⟩) sz sz) sz (lvs sz (fun j => if j < 0 then -1 else 0))) := Lib.hid (by
    rw [← hG]
    refine (lvs_congr fun j _ => ?_) ▸ hown
    rw [if_neg (Nat.not_lt_zero _)])
  rw [hG]
  replace hG := Lib.hid hG
  clear hown hgrow c2
  go_wp2_with fail
  go_loopw [4] (fun i wr => ∃ k : Nat, k ≤ sz ∧ i = .int .i64 k ∧ Hid (Below w.heap.size w wr) ∧ Hid (wr.ownsRow w.heap.size 3 1 (.slice (some ⟨G, 0, none⟩) sz sz) sz (lvs sz (fun j => if j < k then -1 else 0)))) (fun i _ => sz - (intOf i).toNat)
  case atStart => exact ⟨0, Nat.zero_le _, rfl, hb1, hrow1⟩
  case round =>
    clear hb1 hrow1
    obtain ⟨k, hk, rfl, hbw, hrow⟩ := hrel
    by_cases hlt : k < sz
    · have fk := own_frozenI hrow.out k
      have ck : wr.cell? ⟨G, k, none⟩ = some (.int .i64 0) := by
        have := hrow.out.cells (g := G) rfl k _ (lvs_get _ hlt)
        rw [if_neg (Nat.lt_irrefl _)] at this
        simpa [addr_add] using this
      have hrow2 : Hid ((wr.setCell ⟨G, k, none⟩ (.int .i64 (-1))).ownsRow w.heap.size 3 1 (.slice (some ⟨G, 0, none⟩) sz sz) sz (lvs sz (fun j => if j < k + 1 then -1 else 0))) := Lib.hid (by
        have := own_putI (j := k) (u := .int .i64 (-1)) hrow.out
        rw [lvs_set] at this
        refine (lvs_congr fun j _ => ?_) ▸ this
        by_cases e : j = k
        · rw [if_pos e, if_pos (by omega)]
        · rw [if_neg e]
          by_cases e2 : j < k
          · rw [if_pos e2, if_pos (by omega)]
          · rw [if_neg e2, if_neg (by omega)])
      have hb2 : Hid (Below w.heap.size w (wr.setCell ⟨G, k, none⟩ (.int .i64 (-1)))) := Lib.hid (hbw.out.setCell (p := ⟨G, k, none⟩) (Nat.le_of_eq hG.out) _)
      go_wp2_with fail
      go_roundw
      case rel => exact ⟨k + 1, by omega, by go_num, hb2, hrow2⟩
      case measure => simp [intOf]; omega
    · obtain rfl : k = sz := by omega
      have hrow0 : Hid (wr.ownsRow w.heap.size 3 1 (.slice (some ⟨G, 0, none⟩) k k) k (lvs k (lvP fun _ => none))) := Lib.hid (by
        have e : lvs k (fun j => if j < k then -1 else 0) = lvs k (lvP fun _ => none) := lvs_congr fun j hj => by rw [if_pos hj]; rfl
        rw [← e]; exact hrow.out)
      clear hrow
      go_wp2_with fail
      go_loopw [5] (fun i wr => ∃ (q : Nat) (pl : Nat → Option Nat), q ≤ ps.length ∧ i = .int .i64 q ∧ Hid (Can k (refE way (ps.take q)) pl) ∧ Hid (Below w.heap.size w wr) ∧ Hid (wr.ownsRow w.heap.size 3 1 (.slice (some ⟨G, 0, none⟩) k k) k (lvs k (lvP pl)))) (fun i _ => ps.length - (intOf i).toNat)
      case atStart => exact ⟨0, fun _ => none, Nat.zero_le _, rfl, Lib.hid (by rw [List.take_zero]; exact Can.nil k), hbw, hrow0⟩
      case round =>
        clear hrow0 hbw
        obtain ⟨q, pl, hq, rfl, hcan, hbw, hrow⟩ := hrel
        have hr1 := h.below hbw.out
        have c1 := hr1.c1
        obtain ⟨va, vc, hva, -⟩ := own_sliceI hr1.row
        by_cases hlq : q < ps.length
        · obtain ⟨g, c, hv, k1, _⟩ := hr1.pair q hlq
          obtain ⟨X, hX⟩ : ∃ X, ps[q].1 = X := ⟨_, rfl⟩
          rw [hX] at k1
          subst hv
          obtain ⟨H, hH⟩ : ∃ H, hashF way X = H := ⟨_, rfl⟩
          obtain ⟨m, hm⟩ : ∃ m, homeN H k = m := ⟨_, rfl⟩
          have hmlt : m < k := by rw [← hm]; exact Nat.mod_lt _ (by omega)
          have hlen : (refE way (ps.take q)).length < k := by rw [refE_length, List.length_take]; omega
          obtain ⟨D0, hD0, hn0, hb0⟩ := first_none hmlt (hcan.out.free hlen)
          have hps : Hid (refE way (ps.take (q + 1)) = refE way (ps.take q) ++ [⟨q, X, ps[q].2, H⟩]) := Lib.hid (by
            rw [List.take_succ_eq_append_getElem hlq, refE_snoc, List.length_take, Nat.min_eq_left hq, hX, hH])
          have hhome := rf_home hr1 X (by omega) (by omega)
          rw [hH, hm] at hhome
          replace hn0 := Lib.hid hn0
          replace hb0 := Lib.hid hb0
          replace hhome := Lib.hid hhome
          replace hm := Lib.hid hm
          replace hX := Lib.hid hX
          clear hva hr1 hH hlen
          go_wp2_with fail
          refine hhome.out.mono ?_
          rintro e w2 ⟨rfl, hd⟩
          have hbw2 : Hid (Below w.heap.size w w2) := Lib.hid (hbw.out.trans (hd.below _))
          have hrow2 : Hid (w2.ownsRow w.heap.size 3 1 (.slice (some ⟨G, 0, none⟩) k k) k (lvs k (lvP pl))) := Lib.hid (own_below hrow.out (hd.below _))
          clear hd hbw hrow c1 k1 hhome
          go_wp2_with fail
          go_loopw [6] (fun pv wr => ∃ t : Nat, t ≤ D0 ∧ pv = .int .i64 (((m + t) % k : Nat) : Int) ∧ Hid (Below w.heap.size w wr) ∧ Hid (wr.ownsRow w.heap.size 3 1 (.slice (some ⟨G, 0, none⟩) k k) k (lvs k (lvP pl)))) (fun pv _ => ((m + D0) % k + k - (intOf pv).toNat) % k)
          case atStart => exact ⟨0, Nat.zero_le _, by rw [Nat.add_zero, Nat.mod_eq_of_lt hmlt], hbw2, hrow2⟩
          case round =>
            clear hbw2 hrow2
            obtain ⟨t, ht, rfl, hbw3, hrow3⟩ := hrel
            obtain ⟨p, hp⟩ : ∃ p, (m + t) % k = p := ⟨_, rfl⟩
            rw [hp]
            have hpl : p < k := by rw [← hp]; exact Nat.mod_lt _ (by omega)
            have hcp : wr.cell? ⟨G, p, none⟩ = some (.int .i64 (lvP pl p)) := by
              have := hrow3.out.cells (g := G) rfl p _ (lvs_get _ hpl)
              simpa [addr_add] using this
            have hr3 := h.below hbw3.out
            cases hpp : pl p with
            | some q2 =>
              rw [lvP_some hpp] at hcp
              have htD : t < D0 := by
                rcases Nat.lt_or_ge t D0 with h1 | h1
                · exact h1
                · obtain rfl : t = D0 := by omega
                  have := hn0.out
                  rw [hp, hpp] at this; cases this
              have hge : decide ((0 : Int) ≤ (q2 : Int)) = true := decide_eq_true (by omega)
              have c2 := hr3.c2
              have hw1 : IntKind.i64.wrap ((p : Int) + 1) = (p : Int) + 1 := IntWalk.i64_in _ (by omega)
              have hnxt : Hid ((m + (t + 1)) % k = (p + 1) % k) := Lib.hid (by rw [← hp, Nat.mod_add_mod, Nat.add_assoc])
              clear hr3
              go_wp2_with fail
              go_roundw
              case rel => exact ⟨t + 1, by omega, by rw [hnxt.out]; rfl, hbw3, hrow3⟩
              case measure =>
                have h1 := dist_mod (m := m) (t := t) hD0 ht
                have h2 := dist_mod (m := m) (t := t + 1) hD0 (by omega)
                rw [hp] at h1
                rw [hnxt.out] at h2
                show ((m + D0) % k + k - (p + 1) % k) % k < ((m + D0) % k + k - p) % k
                rw [h1, h2]
                omega
            | none =>
              rw [lvP_none hpp] at hcp
              obtain rfl : t = D0 := by
                rcases Nat.lt_or_ge t D0 with h1 | h1
                · have := hb0.out t h1
                  rw [hp] at this
                  exact absurd hpp this
                · omega
              have hge : decide ((0 : Int) ≤ -1) = false := by decide
              have fp := own_frozenI hrow3.out p
              have hcan2 : Hid (Can k (refE way (ps.take (q + 1))) (updP pl p (some q))) := Lib.hid (by
                rw [hps.out, ← hp]
                have hm2 : homeN H k = m := hm.out
                refine hm2 ▸ hcan.out.push ⟨q, X, ps[q].2, H⟩ (D := t) hD0 ?_ ?_ (fun i hi => ?_)
                · show pl ((homeN H k + t) % k) = none
                  rw [hm2, hp]; exact hpp
                · show ∀ t', t' < t → pl ((homeN H k + t') % k) ≠ none
                  rw [hm2]; exact hb0.out
                · rw [refE_get]
                  have : i < ps.length ∧ i < q := by rw [refE_length, List.length_take] at hi; omega
                  show i ≠ q
                  omega)
              have hrow4 : Hid ((wr.setCell ⟨G, p, none⟩ (.int .i64 (q : Int))).ownsRow w.heap.size 3 1 (.slice (some ⟨G, 0, none⟩) k k) k (lvs k (lvP (updP pl p (some q))))) := Lib.hid (by
                rw [lvP_upd]
                have := own_putI (j := p) (u := .int .i64 (q : Int)) hrow3.out
                rw [lvs_set] at this
                exact this)
              have hbw4 : Hid (Below w.heap.size w (wr.setCell ⟨G, p, none⟩ (.int .i64 (q : Int)))) := Lib.hid (hbw3.out.setCell (p := ⟨G, p, none⟩) (Nat.le_of_eq hG.out) _)
              clear hr3 hrow3 hbw3 hcan
              go_wp2_with fail
              go_roundw
              case rel => exact ⟨q + 1, _, by omega, by go_num, hcan2, hbw4, hrow4⟩
              case measure => simp [intOf]; omega
        · obtain rfl : q = ps.length := by omega
          have hcan2 : Hid (Can k (refE way ps) pl) := Lib.hid (by have := hcan.out; rwa [List.take_of_length_le (Nat.le_refl _)] at this)
          subst hva
          clear hr1 hcan
          go_wp2_with fail
          go_ret
          exact ⟨G, pl, rfl, hcan2.out, hrow.out, hbw.out⟩
end
end Go.Proofs.Ytjeeljolhcoeoaa
