/- Index, plain: how a table's entries lie. -/
import Derived.Test.YtjeeljolhcoeoaaSxF
namespace Go.Proofs.Ytjeeljolhcoeoaa.Str
open Go.RowKit

/-- every entry lies at a place such that from its home up to there stand entries that came before it; and nothing else stands there -/
structure Can (sz : Nat) (es : List Ent) (pl : Nat → Option Nat) : Prop where
  lies : ∀ i (h : i < es.length), ∃ D, D < sz ∧ pl ((homeN es[i].hash sz + D) % sz) = some es[i].b ∧ ∀ t, t < D → ∃ k, ∃ hk : k < es.length, k < i ∧ pl ((homeN es[i].hash sz + t) % sz) = some es[k].b
  only : ∀ j, j < sz → ∀ b, pl j = some b → ∃ i, ∃ h : i < es.length, es[i].b = b
  inj : ∀ j j', j < sz → j' < sz → ∀ b, pl j = some b → pl j' = some b → j = j'
  nodup : ∀ i j (hi : i < es.length) (hj : j < es.length), es[i].b = es[j].b → i = j

theorem Can.nil (sz : Nat) : Can sz [] (fun _ => none) := ⟨fun i h => absurd h (by simp), fun _ _ _ h => (by cases h), fun _ _ _ _ _ h => (by cases h), fun i j h => absurd h (by simp)⟩

theorem updP_same (pl : Nat → Option Nat) (j : Nat) (v : Option Nat) : updP pl j v j = v := by simp [updP]
theorem updP_other (pl : Nat → Option Nat) {j k : Nat} (v : Option Nat) (h : k ≠ j) : updP pl j v k = pl k := by simp [updP, h]

theorem Can.push {sz : Nat} {es : List Ent} {pl : Nat → Option Nat} (h : Can sz es pl) (x : Ent) {D : Nat} (hD : D < sz) (hn : pl ((homeN x.hash sz + D) % sz) = none)
    (hf : ∀ t, t < D → pl ((homeN x.hash sz + t) % sz) ≠ none) (hx : ∀ i (hi : i < es.length), es[i].b ≠ x.b) : Can sz (es ++ [x]) (updP pl ((homeN x.hash sz + D) % sz) (some x.b)) := by
  have hsz : 0 < sz := by omega
  have hold : ∀ i (hi : i < es.length), (es ++ [x])[i]'(by rw [List.length_append]; omega) = es[i] := fun i hi => List.getElem_append_left hi
  have hnew : (es ++ [x])[es.length]'(by simp) = x := by rw [List.getElem_append_right (Nat.le_refl _)]; simp
  have hne : ∀ j b, pl j = some b → j ≠ (homeN x.hash sz + D) % sz := fun j b hb e => by rw [e, hn] at hb; cases hb
  refine ⟨fun i hi => ?_, fun j hj b hb => ?_, fun j j' hj hj' b hb hb' => ?_, fun i j hi hj he => ?_⟩
  · rw [List.length_append] at hi
    rcases Nat.lt_or_ge i es.length with h1 | h1
    · obtain ⟨d, hd, hp, ht⟩ := h.lies i h1
      rw [hold i h1]
      refine ⟨d, hd, by rw [updP_other _ _ (hne _ _ hp)]; exact hp, fun t htd => ?_⟩
      obtain ⟨k, hk, hki, hpk⟩ := ht t htd
      exact ⟨k, by rw [List.length_append]; omega, hki, by rw [updP_other _ _ (hne _ _ hpk), hold k hk]; exact hpk⟩
    · have : i = es.length := by simp at hi; omega
      subst this
      rw [hnew]
      refine ⟨D, hD, updP_same _ _ _, fun t htd => ?_⟩
      cases hp : pl ((homeN x.hash sz + t) % sz) with
      | none => exact absurd hp (hf t htd)
      | some b =>
        obtain ⟨k, hk, hkb⟩ := h.only _ (Nat.mod_lt _ hsz) b hp
        exact ⟨k, by rw [List.length_append]; omega, hk, by rw [updP_other _ _ (hne _ _ hp), hold k hk, hkb]; exact hp⟩
  · by_cases e : j = (homeN x.hash sz + D) % sz
    · subst e
      rw [updP_same] at hb
      injection hb with hb
      exact ⟨es.length, by simp, by rw [hnew]; exact hb⟩
    · rw [updP_other _ _ e] at hb
      obtain ⟨i, hi, hib⟩ := h.only j hj b hb
      exact ⟨i, by rw [List.length_append]; omega, by rw [hold i hi]; exact hib⟩
  · have hxb : ∀ j, j < sz → pl j ≠ some x.b := fun j hj e => by
      obtain ⟨i, hi, hib⟩ := h.only j hj _ e
      exact hx i hi hib
    by_cases e : j = (homeN x.hash sz + D) % sz
    · by_cases e' : j' = (homeN x.hash sz + D) % sz
      · rw [e, e']
      · rw [e, updP_same] at hb
        rw [updP_other _ _ e'] at hb'
        injection hb with hb
        exact absurd hb' (by rw [← hb]; exact hxb j' hj')
    · by_cases e' : j' = (homeN x.hash sz + D) % sz
      · rw [e', updP_same] at hb'
        rw [updP_other _ _ e] at hb
        injection hb' with hb'
        exact absurd hb (by rw [← hb']; exact hxb j hj)
      · rw [updP_other _ _ e] at hb
        rw [updP_other _ _ e'] at hb'
        exact h.inj j j' hj hj' b hb hb'
  · rw [List.length_append] at hi hj
    simp at hi hj
    rcases Nat.lt_or_ge i es.length with h1 | h1 <;> rcases Nat.lt_or_ge j es.length with h2 | h2
    · rw [hold i h1, hold j h2] at he; exact h.nodup i j h1 h2 he
    · have e2 : j = es.length := by omega
      subst e2
      rw [hold i h1, hnew] at he
      exact absurd he (hx i h1)
    · have e2 : i = es.length := by omega
      subst e2
      rw [hold j h2, hnew] at he
      exact absurd he.symm (hx j h2)
    · omega

/-- find, as it goes on from the t-th place -/
theorem fnd_go {pl : Nat → Option Nat} {mt : Nat → Bool} {sz m D : Nat} (hf : ∀ t, t < D → ∃ b, pl ((m + t) % sz) = some b ∧ mt b = false) :
    ∀ t f, t ≤ D → D - t < f → fnd pl mt sz f ((m + t) % sz) (t + 1) = fnd pl mt sz (f - (D - t)) ((m + D) % sz) (D + 1) := by
  intro t f ht hft
  obtain ⟨r, hr⟩ : ∃ r, D - t = r := ⟨_, rfl⟩
  induction r generalizing t f with
  | zero => have : t = D := by omega
            subst this; rw [Nat.sub_self, Nat.sub_zero]
  | succ r ih =>
    obtain ⟨b, hb, hm⟩ := hf t (by omega)
    rw [fnd_next hb hm (by omega), Nat.mod_add_mod, Nat.add_assoc, ih (t + 1) (f - 1) (by omega) (by omega) (by omega)]
    congr 1
    omega
/-- the entry that matches is found, at its place -/
theorem Can.hit {sz : Nat} {es : List Ent} {pl : Nat → Option Nat} (h : Can sz es pl) {mt : Nat → Bool} (hs : 0 < sz) (i : Nat) (hi : i < es.length) (hm : mt es[i].b = true) (hu : ∀ k (hk : k < es.length), k ≠ i → mt es[k].b = false) :
    ∃ D, D < sz ∧ pl ((homeN es[i].hash sz + D) % sz) = some es[i].b ∧ (∀ t, t < D → pl ((homeN es[i].hash sz + t) % sz) ≠ none) ∧ fnd pl mt sz sz (homeN es[i].hash sz) 1 = ((homeN es[i].hash sz + D) % sz, D + 1, true) := by
  obtain ⟨D, hD, hp, ht⟩ := h.lies i hi
  refine ⟨D, hD, hp, fun t htd => ?_, ?_⟩
  · obtain ⟨k, hk, _, hpk⟩ := ht t htd
    rw [hpk]; simp
  · have h0 := fnd_go (pl := pl) (mt := mt) (m := homeN es[i].hash sz) (D := D) (fun t htd => by
      obtain ⟨k, hk, hki, hpk⟩ := ht t htd
      exact ⟨_, hpk, hu k hk (by omega)⟩) 0 sz (Nat.zero_le _) (by omega)
    rw [Nat.add_zero, show homeN es[i].hash sz % sz = homeN es[i].hash sz from Nat.mod_eq_of_lt (Nat.mod_lt _ hs)] at h0
    rw [h0]
    exact fnd_hit hp hm (by omega)
/-- where nothing matches the first empty place is found -/
theorem fnd_miss {pl : Nat → Option Nat} {mt : Nat → Bool} {sz m : Nat} (hs : 0 < sz) (hm : m < sz) (hfree : ∃ q, q < sz ∧ pl q = none) (hmt : ∀ j, j < sz → ∀ b, pl j = some b → mt b = false) :
    ∃ D, D < sz ∧ pl ((m + D) % sz) = none ∧ (∀ t, t < D → pl ((m + t) % sz) ≠ none) ∧ fnd pl mt sz sz m 1 = ((m + D) % sz, D + 1, false) := by
  obtain ⟨q, hq, hn⟩ := hfree
  obtain ⟨d, hd, hdn⟩ := free_from hq hm hn
  -- the least one
  have hex : ∃ D, D < sz ∧ pl ((m + D) % sz) = none ∧ ∀ t, t < D → pl ((m + t) % sz) ≠ none := by
    clear hn hq
    induction d using Nat.strongRecOn with
    | ind d ih =>
      by_cases hall : ∀ t, t < d → pl ((m + t) % sz) ≠ none
      · exact ⟨d, hd, hdn, hall⟩
      · have hex : ∃ t, t < d ∧ pl ((m + t) % sz) = none := by
          refine Classical.byContradiction fun hno => hall fun t ht e => hno ⟨t, ht, e⟩
        obtain ⟨t, ht, hn⟩ := hex
        exact ih t ht (by omega) hn
  obtain ⟨D, hD, hn, hf⟩ := hex
  refine ⟨D, hD, hn, hf, ?_⟩
  have h0 := fnd_go (pl := pl) (mt := mt) (m := m) (D := D) (fun t htd => by
    cases hp : pl ((m + t) % sz) with
    | none => exact absurd hp (hf t htd)
    | some b => exact ⟨b, rfl, hmt _ (Nat.mod_lt _ hs) b hp⟩) 0 sz (Nat.zero_le _) (by omega)
  rw [Nat.add_zero, Nat.mod_eq_of_lt hm] at h0
  rw [h0]
  exact fnd_none hn (by omega)

end Go.Proofs.Ytjeeljolhcoeoaa.Str
