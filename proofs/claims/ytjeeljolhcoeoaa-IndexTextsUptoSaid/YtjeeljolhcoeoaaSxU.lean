/- Index, plain: a place becomes empty; those behind it whose way led over it come back. -/
import Derived.Test.YtjeeljolhcoeoaaSxT
namespace Go.Proofs.Ytjeeljolhcoeoaa.Str
open Go.RowKit

/-- the way of close: h is the hole, h + a the place looked at; E: the entries that stay, rk: which came first -/
structure CI (sz : Nat) (E : Ent → Prop) (rk : Nat → Nat) (pl : Nat → Option Nat) (h a : Nat) : Prop where
  hh : h < sz
  ha : 1 ≤ a ∧ a ≤ sz
  hole : pl h = none
  lies : ∀ e, E e → ∃ D, D < sz ∧ pl ((homeN e.hash sz + D) % sz) = some e.b ∧ ∀ t, t < D →
    ((homeN e.hash sz + t) % sz ≠ h → ∃ e', E e' ∧ rk e'.b < rk e.b ∧ pl ((homeN e.hash sz + t) % sz) = some e'.b) ∧ ((homeN e.hash sz + t) % sz = h → a ≤ D - t)
  only : ∀ j, j < sz → ∀ b, pl j = some b → ∃ e, E e ∧ e.b = b
  inj : ∀ j j', j < sz → j' < sz → ∀ b, pl j = some b → pl j' = some b → j = j'
  one : ∀ e e', E e → E e' → e.b = e'.b → e = e'

theorem mod_cancel {sz m a b : Nat} (ha : a < sz) (hb : b < sz) (h : (m + a) % sz = (m + b) % sz) : a = b := by
  have h1 : (m % sz + a) % sz = (m % sz + b) % sz := by rw [Nat.mod_add_mod, Nat.mod_add_mod]; exact h
  have hm : m % sz < sz := Nat.mod_lt _ (by omega)
  generalize m % sz = r at h1 hm
  rcases Nat.lt_or_ge (r + a) sz with h2 | h2 <;> rcases Nat.lt_or_ge (r + b) sz with h3 | h3
  · rw [Nat.mod_eq_of_lt h2, Nat.mod_eq_of_lt h3] at h1; omega
  · rw [Nat.mod_eq_of_lt h2, Nat.mod_eq_sub_mod h3, Nat.mod_eq_of_lt (by omega)] at h1; omega
  · rw [Nat.mod_eq_sub_mod h2, Nat.mod_eq_of_lt (by omega), Nat.mod_eq_of_lt h3] at h1; omega
  · rw [Nat.mod_eq_sub_mod h2, Nat.mod_eq_of_lt (by omega), Nat.mod_eq_sub_mod h3, Nat.mod_eq_of_lt (by omega)] at h1; omega
/-- the place h + a lies a behind the hole on a way that led over it -/
theorem mod_on {sz m t a h : Nat} (hq : (m + t) % sz = h) : (m + (t + a)) % sz = (h + a) % sz := by
  rw [← hq, Nat.mod_add_mod, Nat.add_assoc]
theorem mod_back {sz m D a h : Nat} (hh : h < sz) (ha : a ≤ D) (h1 : (m + D) % sz = (h + a) % sz) : (m + (D - a)) % sz = h := by
  have h2 : ((m + (D - a)) + a) % sz = (h + a) % sz := by rw [← h1]; congr 1; omega
  have h3 : (a % sz + (m + (D - a)) % sz) % sz = (a % sz + h) % sz := by
    rw [← Nat.add_mod, Nat.add_comm a, h2, Nat.add_comm h a, Nat.mod_add_mod]
  have := mod_cancel (m := a % sz) (Nat.mod_lt _ (by omega)) hh h3
  exact this

section
variable {sz : Nat} {E : Ent → Prop} {rk : Nat → Nat} {pl : Nat → Option Nat} {h a : Nat}

theorem CI.at_ne (c : CI sz E rk pl h a) {b : Nat} (hx : pl ((h + a) % sz) = some b) : (h + a) % sz ≠ h := by
  intro e; rw [e, c.hole] at hx; cases hx
/-- the entry looked at stays -/
theorem CI.skip (c : CI sz E rk pl h a) {x : Ent} (hE : E x) (hx : pl ((h + a) % sz) = some x.b) {D : Nat} (hD : D < sz) (hp : (homeN x.hash sz + D) % sz = (h + a) % sz) (hlt : D < a) (ha : a < sz) : CI sz E rk pl h (a + 1) := by
  refine ⟨c.hh, ⟨by omega, by omega⟩, c.hole, fun y hy => ?_, c.only, c.inj, c.one⟩
  obtain ⟨Dy, hDy, hpy, hty⟩ := c.lies y hy
  refine ⟨Dy, hDy, hpy, fun t ht => ⟨(hty t ht).1, fun hq => ?_⟩⟩
  have h1 := (hty t ht).2 hq
  rcases Nat.lt_or_ge a (Dy - t) with h2 | h2
  · omega
  · exfalso
    have e : Dy = t + a := by omega
    have h3 : (homeN y.hash sz + Dy) % sz = (h + a) % sz := by rw [e]; exact mod_on hq
    rw [h3, hx] at hpy
    injection hpy with hpy
    obtain rfl := c.one x y hE hy hpy
    have := mod_cancel hDy hD (h3.trans hp.symm)
    omega
/-- the entry looked at goes into the hole -/
theorem CI.move (c : CI sz E rk pl h a) {x : Ent} (hE : E x) (hx : pl ((h + a) % sz) = some x.b) {D : Nat} (hD : D < sz) (hp : (homeN x.hash sz + D) % sz = (h + a) % sz) (hge : a ≤ D) :
    CI sz E rk (updP (updP pl h (some x.b)) ((h + a) % sz) none) ((h + a) % sz) 1 := by
  have hs : 0 < sz := by omega
  have hne := c.at_ne hx
  have hat : (h + a) % sz < sz := Nat.mod_lt _ hs
  have hback := mod_back c.hh hge hp
  have e1 : ∀ j, j ≠ h → j ≠ (h + a) % sz → updP (updP pl h (some x.b)) ((h + a) % sz) none j = pl j := fun j h1 h2 => by rw [updP_other _ _ h2, updP_other _ _ h1]
  have e2 : updP (updP pl h (some x.b)) ((h + a) % sz) none h = some x.b := by rw [updP_other _ _ (Ne.symm hne), updP_same]
  have hatx : ∀ j, j < sz → pl j = some x.b → j = (h + a) % sz := fun j hj hb => c.inj j _ hj hat _ hb hx
  refine ⟨hat, ⟨by omega, by omega⟩, updP_same _ _ _, fun y hy => ?_, fun j hj b hb => ?_, fun j j' hj hj' b hb hb' => ?_, c.one⟩
  · obtain ⟨Dy, hDy, hpy, hty⟩ := c.lies y hy
    by_cases hxy : y = x
    · subst hxy
      have hDD : Dy = D := mod_cancel hDy hD ((hatx _ (Nat.mod_lt _ hs) hpy).trans hp.symm)
      subst hDD
      refine ⟨Dy - a, by omega, by rw [hback]; exact e2, fun t ht => ?_⟩
      have hqh : (homeN y.hash sz + t) % sz ≠ h := by
        intro hq
        have := mod_cancel (m := homeN y.hash sz) (by omega) (by omega) (hq.trans hback.symm)
        omega
      obtain ⟨e', he', hrk, hpe⟩ := (hty t (by omega)).1 hqh
      have hqa : (homeN y.hash sz + t) % sz ≠ (h + a) % sz := by
        intro hq
        rw [hq, hx] at hpe
        injection hpe with hpe
        obtain rfl := c.one y e' hE he' hpe
        omega
      exact ⟨fun _ => ⟨e', he', hrk, by rw [e1 _ hqh hqa]; exact hpe⟩, fun hq => absurd hq hqa⟩
    · have hpa : (homeN y.hash sz + Dy) % sz ≠ (h + a) % sz := by
        intro hq
        rw [hq, hx] at hpy
        injection hpy with hpy
        exact hxy (c.one x y hE hy hpy).symm
      have hph : (homeN y.hash sz + Dy) % sz ≠ h := by intro hq; rw [hq, c.hole] at hpy; cases hpy
      refine ⟨Dy, hDy, by rw [e1 _ hph hpa]; exact hpy, fun t ht => ⟨fun hqa => ?_, fun _ => by omega⟩⟩
      by_cases hqh : (homeN y.hash sz + t) % sz = h
      · have h1 := (hty t ht).2 hqh
        have h3 : (homeN y.hash sz + (t + a)) % sz = (h + a) % sz := mod_on hqh
        have h2 : t + a < Dy := by
          rcases Nat.lt_or_ge (t + a) Dy with h2 | h2
          · exact h2
          · exact absurd (by rw [show Dy = t + a from by omega]; exact h3) hpa
        obtain ⟨e', he', hrk, hpe⟩ := (hty (t + a) h2).1 (by rw [h3]; exact hne)
        rw [h3, hx] at hpe
        injection hpe with hpe
        obtain rfl := c.one x e' hE he' hpe
        exact ⟨x, hE, hrk, by rw [hqh]; exact e2⟩
      · obtain ⟨e', he', hrk, hpe⟩ := (hty t ht).1 hqh
        exact ⟨e', he', hrk, by rw [e1 _ hqh hqa]; exact hpe⟩
  · by_cases h1 : j = (h + a) % sz
    · rw [h1, updP_same] at hb; cases hb
    · by_cases h2 : j = h
      · rw [h2, e2] at hb; injection hb with hb; exact ⟨x, hE, hb⟩
      · rw [e1 _ h2 h1] at hb; exact c.only j hj b hb
  · have hna : ∀ j b, updP (updP pl h (some x.b)) ((h + a) % sz) none j = some b → j ≠ (h + a) % sz := fun j b hb e => by rw [e, updP_same] at hb; cases hb
    have h1 := hna j b hb
    have h1' := hna j' b hb'
    by_cases h2 : j = h
    · by_cases h2' : j' = h
      · rw [h2, h2']
      · rw [h2, e2] at hb
        rw [e1 _ h2' h1'] at hb'
        injection hb with hb
        subst hb
        exact absurd (hatx j' hj' hb') h1'
    · by_cases h2' : j' = h
      · rw [h2', e2] at hb'
        rw [e1 _ h2 h1] at hb
        injection hb' with hb'
        subst hb'
        exact absurd (hatx j hj hb) h1
      · rw [e1 _ h2 h1] at hb
        rw [e1 _ h2' h1'] at hb'
        exact c.inj j j' hj hj' b hb hb'
/-- at an empty place: all lie as they should -/
theorem CI.done (c : CI sz E rk pl h a) (hn : pl ((h + a) % sz) = none) (e : Ent) (he : E e) :
    ∃ D, D < sz ∧ pl ((homeN e.hash sz + D) % sz) = some e.b ∧ ∀ t, t < D → ∃ e', E e' ∧ rk e'.b < rk e.b ∧ pl ((homeN e.hash sz + t) % sz) = some e'.b := by
  obtain ⟨D, hD, hp, ht⟩ := c.lies e he
  refine ⟨D, hD, hp, fun t htd => (ht t htd).1 fun hq => ?_⟩
  have h1 := (ht t htd).2 hq
  have h3 : (homeN e.hash sz + (t + a)) % sz = (h + a) % sz := mod_on hq
  rcases Nat.lt_or_ge (t + a) D with h2 | h2
  · have hne : (h + a) % sz ≠ h := by
      intro e2
      have h4 := mod_cancel (sz := sz) (m := h) (a := a) (b := 0) (by omega) (by omega) (by rw [e2, Nat.add_zero, Nat.mod_eq_of_lt c.hh])
      have := c.ha.1
      omega
    obtain ⟨e', _, _, hpe⟩ := (ht (t + a) h2).1 (by rw [h3]; exact hne)
    rw [h3, hn] at hpe; cases hpe
  · rw [show D = t + a from by omega, h3, hn] at hp; cases hp
end
end Go.Proofs.Ytjeeljolhcoeoaa.Str
