/- Index: the document's table: Place and Probes. -/
import Derived.Test.YtjeeljolhcoeoaaMxE
namespace Go.Proofs.Ytjeeljolhcoeoaa
open Go.RowKit Go.Shelf

section
variable {w w' : World} {base Rt : Nat} {way : Int} {sz : Nat} {v : Value} {ps : List (Int × Int)}
set_option maxRecDepth 100000 in
set_option maxHeartbeats 8000000 in
theorem rf_Place (h : RF w base Rt way sz v ps) (h8 : 8 ≤ sz) (hs : sz ≤ 16777216) (hroom : ps.length < sz) (key : Int) : Calls Try.prog 56 #[.pointer (some ⟨Rt, 0, none⟩), .int .i64 key] w fun e w' => Below w.heap.size w w' ∧
    ((∃ i, ∃ hi : i < ps.length, sameF way ps[i].1 key = true ∧ (∀ j (hj : j < ps.length), j < i → sameF way ps[j].1 key = false) ∧ ∃ pl p, Can sz (refE way ps) pl ∧ p < sz ∧ pl p = some i ∧ e = .returned (.tuple #[.int .i64 (p : Nat), .bool true])) ∨
     ((∀ j (hj : j < ps.length), sameF way ps[j].1 key = false) ∧ e = .returned (.tuple #[.int .i64 0, .bool false]))) := by
  rcases rAt_cases way ps key with ⟨i, hi, hm, hbf, hr⟩ | ⟨hno, hr⟩
  · replace hbf := Lib.hid hbf
    go_enter Try.func56, Try.ntmps56
    go_wp2_with fail
    refine (rf_At h key).mono ?_
    rintro e w1 ⟨rfl, hd⟩
    rw [hr]
    replace hr := Lib.hid hr
    have hb1 : Hid (Below w.heap.size w w1) := Lib.hid (hd.below _)
    have h1 := h.below (hd.below _)
    clear hd
    go_wp2_with fail
    refine (rf_Layout h1 h8 hs hroom).mono ?_
    rintro e w2 ⟨g, pl, rfl, hcan, hrow, hb2⟩
    have hb3 := Lib.hid (hb1.out.trans (hb2.mono hb1.out.size))
    replace hrow := Lib.hid hrow
    have hil : i < (refE way ps).length := by rw [refE_length]; exact hi
    obtain ⟨D, hD, hp, -⟩ := hcan.lies i hil
    obtain ⟨p0, hp0⟩ : ∃ p0, (homeN (refE way ps)[i].hash sz + D) % sz = p0 := ⟨_, rfl⟩
    have hp0l : p0 < sz := by rw [← hp0]; exact Nat.mod_lt _ (by omega)
    rw [hp0, refE_get] at hp
    replace hp : Hid (pl p0 = some i) := Lib.hid hp
    replace hcan := Lib.hid hcan
    have hige : decide ((0 : Int) ≤ (i : Int)) = true := decide_eq_true (by omega)
    clear hb1 hb2 h1 hp0 hD hil
    go_wp2_with fail
    go_loopw [8] (fun kv wr => ∃ k : Nat, k ≤ p0 ∧ kv = .int .i64 k ∧ Hid (wr = w2)) (fun kv _ => p0 - (intOf kv).toNat)
    case atStart => exact ⟨0, Nat.zero_le _, rfl, Lib.hid rfl⟩
    case round =>
      obtain ⟨k, hk, rfl, hwr⟩ := hrel
      have hwr2 := hwr.out
      subst hwr2
      have hlt : k < sz := by omega
      have hltb : decide ((k : Int) < (sz : Int)) = true := decide_eq_true (by omega)
      have hck : wr.cell? ⟨g, k, none⟩ = some (.int .i64 (lvP pl k)) := by
        have := hrow.out.cells (g := g) rfl k _ (lvs_get _ hlt)
        simpa [addr_add] using this
      by_cases hkp : k = p0
      · subst hkp
        have e1 : lvP pl k = (i : Int) := lvP_some hp.out
        rw [e1] at hck
        have heq : ((i : Int) == (i : Int)) = true := by simp
        clear hwr
        go_wp2_with fail
        go_ret2
        exact ⟨hb3.out, .inl ⟨i, hi, hm, hbf.out, pl, k, hcan.out, hp0l, hp.out, rfl⟩⟩
      · have hne : (lvP pl k == (i : Int)) = false := by
          rw [beq_eq_false_iff_ne]
          intro e
          cases hpk : pl k with
          | none => rw [lvP_none hpk] at e; omega
          | some j =>
            rw [lvP_some hpk] at e
            have : j = i := by omega
            subst this
            exact hkp (hcan.out.inj k p0 hlt hp0l _ hpk hp.out)
        go_wp2_with fail
        go_roundw
        case rel => exact ⟨k + 1, by omega, by go_num, Lib.hid trivial⟩
        case measure => simp [intOf]; omega
  · replace hno := Lib.hid hno
    go_enter Try.func56, Try.ntmps56
    go_wp2_with fail
    refine (rf_At h key).mono ?_
    rintro e w1 ⟨rfl, hd⟩
    rw [hr]
    replace hr := Lib.hid hr
    have hb1 : Hid (Below w.heap.size w w1) := Lib.hid (hd.below _)
    have h1 := h.below (hd.below _)
    clear hd
    go_wp2_with fail
    refine (rf_Layout h1 h8 hs hroom).mono ?_
    rintro e w2 ⟨g, pl, rfl, hcan, hrow, hb2⟩
    have hb3 := Lib.hid (hb1.out.trans (hb2.mono hb1.out.size))
    have hltb : decide ((0 : Int) < (sz : Int)) = true := decide_eq_true (by omega)
    clear hb1 hb2 h1 hcan hrow
    go_wp2_with fail
    go_loopw [8] (fun kv wr => kv = .int .i64 0 ∧ Hid (wr = w2)) (fun _ _ => 0)
    case atStart => exact ⟨rfl, Lib.hid rfl⟩
    case round =>
      obtain ⟨rfl, hwr⟩ := hrel
      have hwr2 := hwr.out
      subst hwr2
      clear hwr
      go_wp2_with fail
      go_ret2
      exact ⟨hb3.out, .inr ⟨hno.out, rfl⟩⟩

/-- the way of Probes to its end: to what is looked for, or to the first empty place -/
theorem rf_Probes (h : RF w base Rt way sz v ps) (h8 : 8 ≤ sz) (hs : sz ≤ 16777216) (hroom : ps.length < sz) (key : Int) : Calls Try.prog 57 #[.pointer (some ⟨Rt, 0, none⟩), .int .i64 key] w fun e w' => Below w.heap.size w w' ∧
    ∃ pl D, Can sz (refE way ps) pl ∧ D < sz ∧ e = .returned (.int .i64 ((D : Int) + 1)) ∧ (∀ t, t < D → pl ((homeN (hashF way key) sz + t) % sz) ≠ none) ∧
    ((∃ i, ∃ hi : i < ps.length, sameF way ps[i].1 key = true ∧ (∀ j (hj : j < ps.length), j < i → sameF way ps[j].1 key = false) ∧ pl ((homeN (hashF way key) sz + D) % sz) = some i) ∨
     ((∀ j (hj : j < ps.length), sameF way ps[j].1 key = false) ∧ pl ((homeN (hashF way key) sz + D) % sz) = none)) := by
  obtain ⟨A, hA⟩ : ∃ A, rAt way ps key = A := ⟨_, rfl⟩
  obtain ⟨m, hm⟩ : ∃ m, homeN (hashF way key) sz = m := ⟨_, rfl⟩
  have hmlt : m < sz := by rw [← hm]; exact Nat.mod_lt _ (by omega)
  rw [hm]
  replace hm := Lib.hid hm
  have hne0 : ¬ (sz : Int) = 0 := by omega
  go_enter Try.func57, Try.ntmps57
  go_wp2_with fail
  refine (rf_At h key).mono ?_
  rintro e w1 ⟨rfl, hd⟩
  rw [hA]
  have hb1 : Hid (Below w.heap.size w w1) := Lib.hid (hd.below _)
  have h1 := h.below (hd.below _)
  clear hd
  go_wp2_with fail
  refine (rf_Layout h1 h8 hs hroom).mono ?_
  rintro e w2 ⟨g, pl, rfl, hcan, hrow, hb2⟩
  have hb3 := Lib.hid (hb1.out.trans (hb2.mono hb1.out.size))
  have h2 := h.below hb3.out
  -- the end of the way
  have hend : Hid (∃ D, D < sz ∧ (∀ t, t < D → pl ((m + t) % sz) ≠ none ∧ lvP pl ((m + t) % sz) ≠ A) ∧
      ((∃ i, ∃ hi : i < ps.length, sameF way ps[i].1 key = true ∧ (∀ j (hj : j < ps.length), j < i → sameF way ps[j].1 key = false) ∧ pl ((m + D) % sz) = some i ∧ A = i) ∨ ((∀ j (hj : j < ps.length), sameF way ps[j].1 key = false) ∧ pl ((m + D) % sz) = none))) := Lib.hid (by
    rcases rAt_cases way ps key with ⟨i, hi, hms, hbf, hr⟩ | ⟨hno, hr⟩
    · have hil : i < (refE way ps).length := by rw [refE_length]; exact hi
      obtain ⟨D, hD, hp, hbef⟩ := hcan.lies i hil
      have e1 : (refE way ps)[i].hash = hashF way key := by rw [refE_get]; exact same_hash hms
      have e2 : (refE way ps)[i].b = i := by rw [refE_get]
      have hm2 : homeN (hashF way key) sz = m := hm.out
      rw [e1, hm2, e2] at hp
      refine ⟨D, hD, fun t ht => ?_, .inl ⟨i, hi, hms, hbf, hp, by rw [← hA, hr]⟩⟩
      obtain ⟨k, hk, hki, hpk⟩ := hbef t ht
      rw [e1, hm2, refE_get] at hpk
      refine ⟨(by rw [hpk]; intro e; cases e), ?_⟩
      rw [lvP_some hpk, ← hA, hr]
      show ((k : Nat) : Int) ≠ (i : Int)
      omega
    · obtain ⟨D, hD, hn, hb⟩ := first_none hmlt (hcan.free (by rw [refE_length]; exact hroom))
      refine ⟨D, hD, fun t ht => ⟨hb t ht, ?_⟩, .inr ⟨hno, hn⟩⟩
      cases hp : pl ((m + t) % sz) with
      | none => exact absurd hp (hb t ht)
      | some q => rw [lvP_some hp, ← hA, hr]; omega)
  obtain ⟨D, hD, hbef, hfin⟩ := hend.out
  replace hbef := Lib.hid hbef
  replace hfin := Lib.hid hfin
  replace hcan := Lib.hid hcan
  replace hrow := Lib.hid hrow
  have hhome := rf_home h2 key h8 hs
  rw [hm.out] at hhome
  replace hhome := Lib.hid hhome
  clear hb1 hb2 h1 hend h2
  go_wp2_with fail
  refine hhome.out.mono ?_
  rintro e w3 ⟨rfl, hd3⟩
  have hb4 : Hid (Below w.heap.size w w3) := Lib.hid (hb3.out.trans (hd3.below _))
  have hrow3 : Hid (w3.ownsRow w1.heap.size 3 1 (.slice (some ⟨g, 0, none⟩) sz sz) sz (lvs sz (lvP pl))) := Lib.hid (own_below hrow.out (hd3.below _))
  have hr3 := h.below hb4.out
  have c2 := hr3.c2
  clear hd3 hhome hrow hb3 hr3
  go_wp2_with fail
  go_loopw [7, 8] (fun nv pv wr => ∃ t : Nat, t ≤ D ∧ nv = .int .i64 ((t : Int) + 1) ∧ pv = .int .i64 (((m + t) % sz : Nat) : Int) ∧ wr = w3) (fun nv _ _ => sz - (intOf nv).toNat)
  case atStart => exact ⟨0, Nat.zero_le _, rfl, by rw [Nat.add_zero, Nat.mod_eq_of_lt hmlt], rfl⟩
  case round =>
    obtain ⟨t, ht, rfl, rfl, rfl⟩ := hrel
    obtain ⟨p, hp⟩ : ∃ p, (m + t) % sz = p := ⟨_, rfl⟩
    rw [hp]
    have hpl : p < sz := by rw [← hp]; exact Nat.mod_lt _ (by omega)
    have hcp : wr.cell? ⟨g, p, none⟩ = some (.int .i64 (lvP pl p)) := by
      have := hrow3.out.cells (g := g) rfl p _ (lvs_get _ hpl)
      simpa [addr_add] using this
    have hw1 : IntKind.i64.wrap ((p : Int) + 1) = (p : Int) + 1 := IntWalk.i64_in _ (by omega)
    have hw4 : IntKind.i64.wrap ((t : Int) + 1 + 1) = (t : Int) + 1 + 1 := IntWalk.i64_in _ (by omega)
    rcases Nat.lt_or_ge t D with htD | htD
    · obtain ⟨n1, n2⟩ := hbef.out t htD
      rw [hp] at n1 n2
      have hge : decide ((0 : Int) ≤ lvP pl p) = true := decide_eq_true (by
        cases hpp : pl p with
        | none => exact absurd hpp n1
        | some q => rw [lvP_some hpp]; omega)
      have hne : (lvP pl p != A) = true := by simpa using n2
      have hnxt : Hid ((m + (t + 1)) % sz = (p + 1) % sz) := Lib.hid (by rw [← hp, Nat.mod_add_mod, Nat.add_assoc])
      clear n1 n2
      go_wp2_with fail
      go_roundw
      case rel => exact ⟨t + 1, by omega, by go_num, by rw [hnxt.out]; rfl, by first | trivial | rfl⟩
      case measure => simp [intOf]; omega
    · obtain rfl : t = D := by omega
      have hout : Hid (Below w.heap.size w wr ∧ ∃ pl D, Can sz (refE way ps) pl ∧ D < sz ∧ (Ending.returned (.int .i64 ((t : Int) + 1)) = .returned (.int .i64 ((D : Int) + 1))) ∧ (∀ t, t < D → pl ((m + t) % sz) ≠ none) ∧
          ((∃ i, ∃ hi : i < ps.length, sameF way ps[i].1 key = true ∧ (∀ j (hj : j < ps.length), j < i → sameF way ps[j].1 key = false) ∧ pl ((m + D) % sz) = some i) ∨ ((∀ j (hj : j < ps.length), sameF way ps[j].1 key = false) ∧ pl ((m + D) % sz) = none))) := Lib.hid ⟨hb4.out, pl, t, hcan.out, hD, rfl, fun t' ht' => (hbef.out t' ht').1, hfin.out.imp (fun ⟨i, hi, h1, h2, h3, _⟩ => ⟨i, hi, h1, h2, h3⟩) id⟩
      rcases hfin.out with ⟨i, hi, _, _, hpi, hAi⟩ | ⟨_, hpn⟩
      · rw [hp] at hpi
        have e1 : lvP pl p = (i : Int) := lvP_some hpi
        rw [e1] at hcp
        have hge : decide ((0 : Int) ≤ (i : Int)) = true := decide_eq_true (by omega)
        have hne : ((i : Int) != A) = false := by rw [hAi]; simp
        clear hpi hAi
        go_wp2_with fail
        go_ret
        exact hout.out
      · rw [hp] at hpn
        rw [lvP_none hpn] at hcp
        have hge : decide ((0 : Int) ≤ -1) = false := by decide
        clear hpn
        go_wp2_with fail
        go_ret
        exact hout.out
end
end Go.Proofs.Ytjeeljolhcoeoaa
