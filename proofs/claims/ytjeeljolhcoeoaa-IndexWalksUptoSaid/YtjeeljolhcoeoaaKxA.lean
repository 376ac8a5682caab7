/- IndexLies: the plain part. -/
import Derived.Test.YtjeeljolhcoeoaaJxH
namespace Go.Proofs.Ytjeeljolhcoeoaa
open Go.RowKit Go.Shelf

theorem least {p : Nat → Prop} : ∀ m, (∃ n, n < m ∧ p n) → ∃ n, n < m ∧ p n ∧ ∀ k, k < n → ¬ p k
  | 0, ⟨n, h, _⟩ => by omega
  | m + 1, ⟨n, h, hp⟩ => by
    by_cases hx : ∃ n, n < m ∧ p n
    · obtain ⟨n, h1, h2, h3⟩ := least m hx
      exact ⟨n, by omega, h2, h3⟩
    · refine ⟨n, h, hp, fun k hk hpk => hx ⟨k, by omega, hpk⟩⟩
theorem first_none {pl : Nat → Option Nat} {sz m : Nat} (hm : m < sz) (hf : ∃ q, q < sz ∧ pl q = none) : ∃ D, D < sz ∧ pl ((m + D) % sz) = none ∧ ∀ t, t < D → pl ((m + t) % sz) ≠ none := by
  obtain ⟨q, hq, hn⟩ := hf
  refine least sz ⟨(q + sz - m) % sz, Nat.mod_lt _ (by omega), ?_⟩
  rw [Nat.add_mod_mod, show m + (q + sz - m) = q + sz from by omega, Nat.add_mod_right, Nat.mod_eq_of_lt hq]
  exact hn

/-- what find finds -/
def frOf (way : Int) (sz : Nat) (es : List Ent) (pl : Nat → Option Nat) (key : Int) : Nat × Nat × Bool := fnd pl (mtch es way key (hashF way key)) sz sz (homeN (hashF way key) sz) 1

section
variable {w : World} {T P hb sb : Nat} {way : Int} {sz : Nat} {es : List Ent} {pl : Nat → Option Nat}
theorem TS.home_lt (h : TS w T P hb sb way sz es pl) (key : Int) : homeN (hashF way key) sz < sz := Nat.mod_lt _ (by have := h.tab.hsz; omega)
theorem layL_mem {n : Nat} {x : Int × Int} : x ∈ layL es pl n ↔ ∃ j, j < n ∧ ∃ b, pl j = some b ∧ x = ((j : Int), keyOf es b) := by
  unfold layL
  rw [List.mem_filterMap]
  constructor
  · rintro ⟨j, hj, he⟩
    rw [List.mem_range] at hj
    cases hp : pl j with
    | none => rw [hp] at he; cases he
    | some b => rw [hp] at he; injection he with he; exact ⟨j, hj, b, hp, he.symm⟩
  · rintro ⟨j, hj, b, hp, rfl⟩
    exact ⟨j, List.mem_range.2 hj, by rw [hp]; rfl⟩
theorem layL_rise (es : List Ent) (pl : Nat → Option Nat) : ∀ n, (layL es pl n).Pairwise (fun x y => x.1 < y.1)
  | 0 => List.Pairwise.nil
  | n + 1 => by
    cases hp : pl n with
    | none => rw [layL_none _ _ _ hp]; exact layL_rise es pl n
    | some b =>
      rw [layL_some _ _ _ _ hp, List.pairwise_append]
      refine ⟨layL_rise es pl n, List.pairwise_singleton _ _, fun x hx y hy => ?_⟩
      obtain ⟨j, hj, _, _, rfl⟩ := layL_mem.1 hx
      simp at hy; subst hy
      show (j : Int) < n
      omega
/-- what stands in the layout -/
theorem TS.layAt (h : TS w T P hb sb way sz es pl) {x : Int × Int} (hx : x ∈ layL es pl sz) : ∃ j, j < sz ∧ ∃ i, ∃ hi : i < es.length, pl j = some es[i].b ∧ x = ((j : Int), es[i].key) := by
  obtain ⟨j, hj, b, hp, rfl⟩ := layL_mem.1 hx
  obtain ⟨i, hi, rfl⟩ := h.can.only j hj b hp
  exact ⟨j, hj, i, hi, hp, by rw [keyOf_at h.tab.nd i hi]⟩
theorem TS.find_at (h : TS w T P hb sb way sz es pl) {j i : Nat} (hj : j < sz) (hi : i < es.length) (hp : pl j = some es[i].b) :
    ∃ D, D < sz ∧ (homeN (hashF way es[i].key) sz + D) % sz = j ∧ (∀ t, t < D → pl ((homeN (hashF way es[i].key) sz + t) % sz) ≠ none) ∧ frOf way sz es pl es[i].key = (j, D + 1, true) := by
  have hs : 0 < sz := by omega
  rcases h.find es[i].key with ⟨k, hk, hm, D, hD, hp2, ht, hf⟩ | ⟨hno, _⟩
  · obtain rfl := h.na k i hk hi hm
    have e := h.can.inj _ _ (Nat.mod_lt _ hs) hj _ hp2 hp
    refine ⟨D, hD, e, ht, ?_⟩
    unfold frOf; rw [hf, e]
  · have := hno i hi
    rw [same_refl] at this; cases this
/-- the keys on a way are some keys -/
theorem TS.way_le (h : TS w T P hb sb way sz es pl) {m D : Nat} (hD : D ≤ sz) (ht : ∀ t, t < D → pl ((m + t) % sz) ≠ none) : D ≤ es.length := by
  have hs : 0 < sz := by have := h.tab.hsz; omega
  have hex : ∀ t, t < D → ∃ i, ∃ hi : i < es.length, pl ((m + t) % sz) = some es[i].b := fun t htD => by
    cases hp : pl ((m + t) % sz) with
    | none => exact absurd hp (ht t htD)
    | some b =>
      obtain ⟨i, hi, rfl⟩ := h.can.only _ (Nat.mod_lt _ hs) b hp
      exact ⟨i, hi, rfl⟩
  refine pigeon es.length D (fun t => if ht : t < D then Classical.choose (hex t ht) else 0) (fun t htD => ?_) fun a b ha hb2 e => ?_
  · simp only [htD, dif_pos]
    exact (Classical.choose_spec (hex t htD)).1
  · simp only [ha, hb2, dif_pos] at e
    obtain ⟨h1, h2⟩ := Classical.choose_spec (hex a ha)
    obtain ⟨h3, h4⟩ := Classical.choose_spec (hex b hb2)
    have h5 : pl ((m + b) % sz) = some (es[Classical.choose (hex a ha)]'h1).b := by rw [h4]; simp only [e]
    exact mod_cancel (m := m) (by omega) (by omega) (h.can.inj _ _ (Nat.mod_lt _ hs) (Nat.mod_lt _ hs) _ h2 h5)
theorem TS.fr (h : TS w T P hb sb way sz es pl) (key : Int) : ∃ D, D < sz ∧ (frOf way sz es pl key).2.1 = D + 1 ∧ D ≤ es.length ∧ (∀ t, t < D → pl ((homeN (hashF way key) sz + t) % sz) ≠ none) ∧ ((frOf way sz es pl key).2.2 = false → pl ((homeN (hashF way key) sz + D) % sz) = none) := by
  rcases h.find key with ⟨k, hk, hm, D, hD, hp2, ht, hf⟩ | ⟨hno, D, hD, hn, ht, hf⟩
  · exact ⟨D, hD, by unfold frOf; rw [hf], h.way_le (by omega) ht, ht, fun e => by unfold frOf at e; rw [hf] at e; cases e⟩
  · exact ⟨D, hD, by unfold frOf; rw [hf], h.way_le (by omega) ht, ht, fun _ => hn⟩
theorem TS.lay_len (h : TS w T P hb sb way sz es pl) : (layL es pl sz).length = es.length := by
  have hs : 0 < sz := by have := h.tab.hsz; omega
  refine Nat.le_antisymm ?_ ?_
  · have hex : ∀ n, n < (layL es pl sz).length → ∃ i, i < es.length ∧ ∃ (j : Nat) (k : Int), j < sz ∧ pl j = (es[i]?).map Ent.b ∧ (layL es pl sz)[n]? = some ((j : Int), k) := fun n hn => by
      obtain ⟨j, hj, i, hi, hp, hx⟩ := h.layAt (List.getElem_mem hn)
      exact ⟨i, hi, j, _, hj, by rw [hp, List.getElem?_eq_getElem hi]; rfl, by rw [List.getElem?_eq_getElem hn, hx]⟩
    refine pigeon es.length _ (fun t => if ht : t < (layL es pl sz).length then Classical.choose (hex t ht) else 0) (fun t ht => ?_) fun a b ha hb2 e => ?_
    · simp only [ht, dif_pos]
      exact (Classical.choose_spec (hex t ht)).1
    · simp only [ha, hb2, dif_pos] at e
      obtain ⟨h1, j1, k1, h2, h3, h4⟩ := Classical.choose_spec (hex a ha)
      obtain ⟨h5, j2, k2, h6, h7, h8⟩ := Classical.choose_spec (hex b hb2)
      rw [← e] at h7
      have hjj : j1 = j2 := by
        generalize Classical.choose (hex a ha) = c at h1 h3 h7
        rw [List.getElem?_eq_getElem h1] at h3 h7
        exact h.can.inj _ _ h2 h6 _ h3 h7
      clear h1 h3 h5 h7 e
      have hr := layL_rise es pl sz
      rw [List.getElem?_eq_getElem ha] at h4
      rw [List.getElem?_eq_getElem hb2] at h8
      injection h4 with h4
      injection h8 with h8
      rcases Nat.lt_trichotomy a b with hab | hab | hab
      · have := List.pairwise_iff_getElem.1 hr a b ha hb2 hab
        rw [h4, h8] at this
        have : (j1 : Int) < j2 := this
        omega
      · exact hab
      · have := List.pairwise_iff_getElem.1 hr b a hb2 ha hab
        rw [h4, h8] at this
        have : (j2 : Int) < j1 := this
        omega
  · have hex : ∀ i, i < es.length → ∃ n, n < (layL es pl sz).length ∧ ∃ (j : Nat) (k : Int), pl j = (es[i]?).map Ent.b ∧ (layL es pl sz)[n]? = some ((j : Int), k) := fun i hi => by
      obtain ⟨D, hD, hp, _⟩ := h.can.lies i hi
      have : ((((homeN es[i].hash sz + D) % sz : Nat) : Int), es[i].key) ∈ layL es pl sz := layL_mem.2 ⟨_, Nat.mod_lt _ hs, _, hp, by rw [keyOf_at h.tab.nd i hi]⟩
      obtain ⟨n, hn, he⟩ := List.getElem_of_mem this
      exact ⟨n, hn, _, _, by rw [hp, List.getElem?_eq_getElem hi]; rfl, by rw [List.getElem?_eq_getElem hn, he]⟩
    refine pigeon (layL es pl sz).length es.length (fun t => if ht : t < es.length then Classical.choose (hex t ht) else 0) (fun t ht => ?_) fun a b ha hb2 e => ?_
    · simp only [ht, dif_pos]
      exact (Classical.choose_spec (hex t ht)).1
    · simp only [ha, hb2, dif_pos] at e
      obtain ⟨h1, j1, k1, h3, h4⟩ := Classical.choose_spec (hex a ha)
      obtain ⟨h5, j2, k2, h7, h8⟩ := Classical.choose_spec (hex b hb2)
      rw [← e, h4] at h8
      injection h8 with h8
      injection h8 with hj _
      have hj : j1 = j2 := by omega
      subst hj
      rw [h3, List.getElem?_eq_getElem ha, List.getElem?_eq_getElem hb2] at h7
      injection h7 with h7
      exact h.tab.nd a b ha hb2 h7
end
/-- what comes next in the layout -/
theorem TS.lay_next {w : World} {T P hb sb : Nat} {way : Int} {sz : Nat} {es : List Ent} {pl : Nat → Option Nat} (h : TS w T P hb sb way sz es pl) {pre : List (Int × Int)} {x : Int × Int} (hp : pre ++ [x] <+: layL es pl sz) :
    ∃ j, j < sz ∧ ∃ i, ∃ hi : i < es.length, pl j = some es[i].b ∧ x = ((j : Int), es[i].key) ∧ pre.any (fun y => y.1 == (j : Int)) = false := by
  have hx : x ∈ layL es pl sz := hp.subset (List.mem_append.2 (.inr (List.mem_singleton.2 rfl)))
  obtain ⟨j, hj, i, hi, hpl, rfl⟩ := h.layAt hx
  refine ⟨j, hj, i, hi, hpl, rfl, ?_⟩
  have hr : (pre ++ [((j : Int), es[i].key)]).Pairwise (fun x y => x.1 < y.1) := (layL_rise es pl sz).sublist hp.sublist
  rw [List.pairwise_append] at hr
  rw [List.any_eq_false]
  intro y hy he
  have := hr.2.2 y hy _ (List.mem_singleton.2 rfl)
  simp at he
  rw [he] at this
  exact Int.lt_irrefl _ this
/-- where something lies when the whole layout has been told -/
theorem any_lay {es : List Ent} {pl : Nat → Option Nat} {sz j : Nat} (hj : j < sz) : (layL es pl sz).any (fun y => y.1 == (j : Int)) = (pl j).isSome := by
  cases hp : pl j with
  | none =>
    show _ = false
    rw [List.any_eq_false]
    intro y hy he
    obtain ⟨k, hk, b, hb, rfl⟩ := layL_mem.1 hy
    simp at he
    have he2 : k = j := by omega
    rw [he2, hp] at hb; cases hb
  | some b =>
    rw [List.any_eq_true.2 ⟨((j : Int), keyOf es b), layL_mem.2 ⟨j, hj, b, hp, rfl⟩, by simp⟩]
    rfl
theorem TS.get_val {w : World} {T P hb sb : Nat} {way : Int} {sz : Nat} {es : List Ent} {pl : Nat → Option Nat} (h : TS w T P hb sb way sz es pl) (key : Int) : ∃ v : Int, ((frOf way sz es pl key).2.2 = true → ∃ i, ∃ hi : i < es.length, pl (frOf way sz es pl key).1 = some es[i].b ∧ es[i].val = v) ∧ ((frOf way sz es pl key).2.2 = false → v = 0) := by
  rcases h.find key with ⟨k, hk, hm, D, hD, hp2, ht, hf⟩ | ⟨hno, D, hD, hn, ht, hf⟩
  · exact ⟨es[k].val, ⟨fun _ => ⟨k, hk, by unfold frOf; rw [hf]; exact hp2, rfl⟩, fun e => (by unfold frOf at e; rw [hf] at e; cases e)⟩⟩
  · exact ⟨0, ⟨fun e => (by unfold frOf at e; rw [hf] at e; cases e), fun _ => rfl⟩⟩
end Go.Proofs.Ytjeeljolhcoeoaa
