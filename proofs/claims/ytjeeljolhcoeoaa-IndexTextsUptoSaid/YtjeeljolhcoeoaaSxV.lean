/- Index, plain: an entry leaves; how a table's entries lie is one way alone. -/
import Derived.Test.YtjeeljolhcoeoaaSxU
namespace Go.Proofs.Ytjeeljolhcoeoaa.Str
open Go.RowKit

def rkE (es : List Ent) (b : Nat) : Nat := es.findIdx fun e => e.b == b
theorem rk_at {es : List Ent} (hn : ∀ i j (hi : i < es.length) (hj : j < es.length), es[i].b = es[j].b → i = j) (k : Nat) (hk : k < es.length) : rkE es es[k].b = k := by
  unfold rkE
  rw [List.findIdx_eq hk]
  refine ⟨by simp, fun j hj => ?_⟩
  rw [beq_eq_false_iff_ne]
  intro e
  have := hn j k (by omega) hk e
  omega
/-- the entries that stay -/
def EE (es : List Ent) (ie : Nat) (e : Ent) : Prop := ∃ k, ∃ hk : k < es.length, k ≠ ie ∧ es[k] = e

theorem ci_start {sz : Nat} {es : List Ent} {pl : Nat → Option Nat} (h : Can sz es pl) {ie p : Nat} (hie : ie < es.length) (hp : p < sz) (hpl : pl p = some es[ie].b) : CI sz (EE es ie) (rkE es) (updP pl p none) p 1 := by
  have hs : 0 < sz := by omega
  have hoth : ∀ j, j < sz → ∀ k (hk : k < es.length), k ≠ ie → pl j = some es[k].b → j ≠ p := by
    intro j _ k hk hne hb e
    rw [e, hpl] at hb
    injection hb with hb
    exact hne (h.nodup k ie hk hie hb.symm)
  refine ⟨hp, ⟨by omega, by omega⟩, updP_same _ _ _, ?_, fun j hj b hb => ?_, fun j j' hj hj' b hb hb' => ?_, ?_⟩
  · rintro e ⟨i, hi, hne, rfl⟩
    obtain ⟨D, hD, hpe, ht⟩ := h.lies i hi
    refine ⟨D, hD, by rw [updP_other _ _ (hoth _ (Nat.mod_lt _ hs) i hi hne hpe)]; exact hpe, fun t htd => ⟨fun hq => ?_, fun _ => by omega⟩⟩
    obtain ⟨k, hk, hki, hpk⟩ := ht t htd
    have hkie : k ≠ ie := by
      intro e; subst e
      exact hq (h.inj _ _ (Nat.mod_lt _ hs) hp _ hpk hpl)
    exact ⟨es[k], ⟨k, hk, hkie, rfl⟩, by rw [rk_at h.nodup k hk, rk_at h.nodup i hi]; exact hki, by rw [updP_other _ _ hq]; exact hpk⟩
  · by_cases e : j = p
    · rw [e, updP_same] at hb; cases hb
    · rw [updP_other _ _ e] at hb
      obtain ⟨i, hi, hib⟩ := h.only j hj b hb
      refine ⟨es[i], ⟨i, hi, ?_, rfl⟩, hib⟩
      intro e2; subst e2
      exact e (h.inj j p hj hp b hb (by rw [← hib]; exact hpl))
  · have hjp : ∀ j b, updP pl p none j = some b → j ≠ p := fun j b hb e => by rw [e, updP_same] at hb; cases hb
    rw [updP_other _ _ (hjp j b hb)] at hb
    rw [updP_other _ _ (hjp j' b hb')] at hb'
    exact h.inj j j' hj hj' b hb hb'
  · rintro e e' ⟨i, hi, _, rfl⟩ ⟨k, hk, _, rfl⟩ hb
    have := h.nodup i k hi hk hb
    subst this; rfl

/-- where what is left of the list stood -/
def sg (ie k : Nat) : Nat := if k < ie then k else k + 1
theorem sg_mono {ie a b : Nat} (h : sg ie a < sg ie b) : a < b := by unfold sg at h; split at h <;> split at h <;> omega
theorem sg_inj {ie a b : Nat} (h : sg ie a = sg ie b) : a = b := by unfold sg at h; split at h <;> split at h <;> omega
theorem sg_of {ie k : Nat} (h : k ≠ ie) : ∃ k', sg ie k' = k := by
  rcases Nat.lt_or_ge k ie with h1 | h1
  · exact ⟨k, by unfold sg; rw [if_pos h1]⟩
  · exact ⟨k - 1, by unfold sg; rw [if_neg (by omega)]; omega⟩
theorem erase_len {es : List Ent} {ie : Nat} (h : ie < es.length) : (es.eraseIdx ie).length = es.length - 1 := by rw [List.length_eraseIdx]; rw [if_pos h]
theorem erase_at {es : List Ent} {ie k : Nat} (h : ie < es.length) (hk : k < (es.eraseIdx ie).length) : ∃ hs : sg ie k < es.length, (es.eraseIdx ie)[k] = es[sg ie k] := by
  have hl := erase_len h
  have hs : sg ie k < es.length := by unfold sg; split <;> omega
  refine ⟨hs, ?_⟩
  rw [List.getElem_eraseIdx]
  unfold sg
  split
  · rfl
  · rfl

theorem ci_end {sz : Nat} {es : List Ent} {pl : Nat → Option Nat} {ie h a : Nat} (hn : ∀ i j (hi : i < es.length) (hj : j < es.length), es[i].b = es[j].b → i = j) (hie : ie < es.length)
    (c : CI sz (EE es ie) (rkE es) pl h a) (hat : pl ((h + a) % sz) = none) : Can sz (es.eraseIdx ie) pl := by
  have hl := erase_len hie
  have back : ∀ e, EE es ie e → ∃ k, ∃ hk : k < (es.eraseIdx ie).length, (es.eraseIdx ie)[k] = e ∧ ∃ hs : sg ie k < es.length, es[sg ie k] = e := by
    rintro e ⟨i, hi, hne, rfl⟩
    obtain ⟨k, hk⟩ := sg_of hne
    have hkl : k < (es.eraseIdx ie).length := by rw [hl]; unfold sg at hk; split at hk <;> omega
    obtain ⟨hs, he⟩ := erase_at hie hkl
    subst hk
    exact ⟨k, hkl, he, hs, rfl⟩
  have fore : ∀ k (hk : k < (es.eraseIdx ie).length), EE es ie (es.eraseIdx ie)[k] := by
    intro k hk
    obtain ⟨hs, he⟩ := erase_at hie hk
    exact ⟨sg ie k, hs, by unfold sg; split <;> omega, he.symm⟩
  refine ⟨fun i hi => ?_, fun j hj b hb => ?_, c.inj, fun i j hi hj he => ?_⟩
  · obtain ⟨D, hD, hp, ht⟩ := c.done hat _ (fore i hi)
    refine ⟨D, hD, hp, fun t htd => ?_⟩
    obtain ⟨e', hE', hrk, hpe⟩ := ht t htd
    obtain ⟨k, hk, hke, hs, hse⟩ := back e' hE'
    obtain ⟨hs2, hse2⟩ := erase_at hie hi
    refine ⟨k, hk, ?_, by rw [hke]; exact hpe⟩
    rw [hse2, rk_at hn _ hs2, ← hse, rk_at hn _ hs] at hrk
    exact sg_mono hrk
  · obtain ⟨e, hE, heb⟩ := c.only j hj b hb
    obtain ⟨k, hk, hke, _⟩ := back e hE
    exact ⟨k, hk, by rw [hke]; exact heb⟩
  · obtain ⟨hs, h1⟩ := erase_at hie hi
    obtain ⟨hs2, h2⟩ := erase_at hie hj
    rw [h1, h2] at he
    exact sg_inj (hn _ _ hs hs2 he)

/-- two tables of one size whose entries have the same hashes, in the same order, lie alike -/
theorem Can.unique {sz : Nat} {es es2 : List Ent} {pl pl2 : Nat → Option Nat} (hs : 0 < sz) (h : Can sz es pl) (h2 : Can sz es2 pl2) (hl : es.length = es2.length) (hh : ∀ i (hi : i < es.length), es[i].hash = (es2[i]'(by omega)).hash) :
    ∀ i (hi : i < es.length) j, j < sz → (pl j = some es[i].b ↔ pl2 j = some (es2[i]'(by omega)).b) := by
  intro i
  induction i using Nat.strongRecOn with
  | ind i ih =>
    intro hi
    obtain ⟨D, hD, hp, ht⟩ := h.lies i hi
    obtain ⟨D2, hD2, hp2, ht2⟩ := h2.lies i (by omega)
    have hDD : D = D2 := by
      rcases Nat.lt_trichotomy D D2 with h3 | h3 | h3
      · obtain ⟨k, hk, hki, hpk⟩ := ht2 D h3
        rw [← hh i hi] at hpk
        have := (ih k hki (by omega) _ (Nat.mod_lt _ hs)).2 hpk
        rw [hp] at this
        injection this with this
        have := h.nodup i k hi (by omega) this
        omega
      · exact h3
      · obtain ⟨k, hk, hki, hpk⟩ := ht D2 h3
        have := (ih k hki hk _ (Nat.mod_lt _ hs)).1 hpk
        rw [hh i hi, hp2] at this
        injection this with this
        have := h2.nodup i k (by omega) (by omega) this
        omega
    subst hDD
    rw [← hh i hi] at hp2
    intro j hj
    constructor
    · intro hb
      rw [h.inj j _ hj (Nat.mod_lt _ hs) _ hb hp]; exact hp2
    · intro hb
      rw [h2.inj j _ hj (Nat.mod_lt _ hs) _ hb hp2]; exact hp

end Go.Proofs.Ytjeeljolhcoeoaa.Str
