/- Index: a table that is in order; Put and Take whole. -/
import Derived.Test.YtjeeljolhcoeoaaUxC
namespace Go.Proofs.Ytjeeljolhcoeoaa.Str
open Go.RowKit

theorem same_refl (way : Int) (a : ByteArray) : sameF way a a = true := (same_iff way a a).2 rfl
theorem same_symm {way : Int} {a b : ByteArray} (h : sameF way a b = true) : sameF way b a = true := (same_iff way b a).2 ((same_iff way a b).1 h).symm
theorem same_trans {way : Int} {a b c : ByteArray} (h : sameF way a b = true) (g : sameF way b c = true) : sameF way a c = true := (same_iff way a c).2 (((same_iff way a b).1 h).trans ((same_iff way b c).1 g))
theorem same_hash {way : Int} {a b : ByteArray} (h : sameF way a b = true) : hashF way a = hashF way b := by rw [(same_iff way a b).1 h]
/-- a table in order -/
structure TS (w : World) (T P hb sb : Nat) (way : Int) (sz : Nat) (es : List Ent) (pl : Nat → Option Nat) : Prop where
  tab : Tab w T P hb sb way sz es pl
  can : Can sz es pl
  na : ∀ i j (hi : i < es.length) (hj : j < es.length), sameF way es[i].key es[j].key = true → i = j
  room : 4 * es.length ≤ 3 * sz
  pow : ∃ n, sz = 8 * 2 ^ n

section
variable {w : World} {T P hb sb : Nat} {way : Int} {sz : Nat} {es : List Ent} {pl : Nat → Option Nat}
theorem TS.lt (h : TS w T P hb sb way sz es pl) : es.length < sz := by have := h.room; have := h.tab.hsz; omega
theorem TS.free (h : TS w T P hb sb way sz es pl) : ∃ q, q < sz ∧ pl q = none := h.can.free h.lt
theorem TS.below (h : TS w T P hb sb way sz es pl) {w' : World} (hb2 : Below w.heap.size w w') : TS w' T P hb sb way sz es pl := ⟨h.tab.below hb2, h.can, h.na, h.room, h.pow⟩
theorem TS.match_at (h : TS w T P hb sb way sz es pl) (key : ByteArray) (i : Nat) (hi : i < es.length) : mtch es way key (hashF way key) es[i].b = sameF way es[i].key key := by
  rw [mtch_at h.tab key (hashF way key) i hi, h.tab.hh _ (List.getElem_mem hi)]
  cases hs : sameF way es[i].key key with
  | true => rw [same_hash hs]; simp
  | false => simp
/-- what find finds -/
theorem TS.find (h : TS w T P hb sb way sz es pl) (key : ByteArray) :
    (∃ i, ∃ hi : i < es.length, sameF way es[i].key key = true ∧ ∃ D, D < sz ∧ pl ((homeN (hashF way key) sz + D) % sz) = some es[i].b ∧ (∀ t, t < D → pl ((homeN (hashF way key) sz + t) % sz) ≠ none) ∧ fnd pl (mtch es way key (hashF way key)) sz sz (homeN (hashF way key) sz) 1 = ((homeN (hashF way key) sz + D) % sz, D + 1, true)) ∨
    ((∀ i (hi : i < es.length), sameF way es[i].key key = false) ∧ ∃ D, D < sz ∧ pl ((homeN (hashF way key) sz + D) % sz) = none ∧ (∀ t, t < D → pl ((homeN (hashF way key) sz + t) % sz) ≠ none) ∧ fnd pl (mtch es way key (hashF way key)) sz sz (homeN (hashF way key) sz) 1 = ((homeN (hashF way key) sz + D) % sz, D + 1, false)) := by
  have hs : 0 < sz := by have := h.tab.hsz; omega
  by_cases hex : ∃ i, ∃ hi : i < es.length, sameF way es[i].key key = true
  · obtain ⟨i, hi, hm⟩ := hex
    have hhash : es[i].hash = hashF way key := by rw [h.tab.hh _ (List.getElem_mem hi)]; exact same_hash hm
    obtain ⟨D, hD, hp, ht, hf⟩ := h.can.hit (mt := mtch es way key (hashF way key)) hs i hi (by rw [h.match_at key i hi]; exact hm) (fun k hk hne => by
      rw [h.match_at key k hk]
      cases hs2 : sameF way es[k].key key with
      | false => rfl
      | true => exact absurd (h.na k i hk hi (same_trans hs2 (same_symm hm))) hne)
    rw [hhash] at hp ht hf
    exact .inl ⟨i, hi, hm, D, hD, hp, ht, hf⟩
  · have hno : ∀ i (hi : i < es.length), sameF way es[i].key key = false := fun i hi => by
      cases hs2 : sameF way es[i].key key with
      | false => rfl
      | true => exact absurd ⟨i, hi, hs2⟩ hex
    obtain ⟨D, hD, hn, ht, hf⟩ := fnd_miss (pl := pl) (mt := mtch es way key (hashF way key)) hs (Nat.mod_lt _ hs : homeN (hashF way key) sz < sz) h.free (fun j hj b hb2 => by
      obtain ⟨i, hi, rfl⟩ := h.can.only j hj b hb2
      rw [h.match_at key i hi]; exact hno i hi)
    exact .inr ⟨hno, D, hD, hn, ht, hf⟩

theorem na_push {x : Ent} (h : TS w T P hb sb way sz es pl) (hx : ∀ i (hi : i < es.length), sameF way es[i].key x.key = false) : ∀ i j (hi : i < (es ++ [x]).length) (hj : j < (es ++ [x]).length), sameF way (es ++ [x])[i].key (es ++ [x])[j].key = true → i = j := by
  intro i j hi hj he
  have hold : ∀ i (hi : i < es.length), (es ++ [x])[i]'(by rw [List.length_append]; omega) = es[i] := fun i hi => List.getElem_append_left hi
  have hnew : (es ++ [x])[es.length]'(by simp) = x := by rw [List.getElem_append_right (Nat.le_refl _)]; simp
  have hi2 : i < es.length + 1 := by simpa using hi
  have hj2 : j < es.length + 1 := by simpa using hj
  rcases Nat.lt_or_ge i es.length with h1 | h1 <;> rcases Nat.lt_or_ge j es.length with h2 | h2
  · rw [hold i h1, hold j h2] at he; exact h.na i j h1 h2 he
  · have e2 : j = es.length := by omega
    subst e2
    rw [hold i h1, hnew, hx i h1] at he; cases he
  · have e2 : i = es.length := by omega
    subst e2
    rw [hold j h2, hnew] at he
    have := hx j h2
    rw [same_symm he] at this; cases this
  · omega

/-- Put, whole: the key is there, or it comes behind all others -/
theorem ts_put (h : TS w T P hb sb way sz es pl) (key : ByteArray) (value : SlV) (hbig : es.length ≤ 13194139533312) :
    Calls Try.prog 13 #[.pointer (some ⟨T, 0, none⟩), .string key, .slice value.a value.n value.c] w fun e w' =>
      (∃ i, ∃ hi : i < es.length, sameF way es[i].key key = true ∧ e = .returned (.tuple #[.slice es[i].val.a es[i].val.n es[i].val.c, .bool true, .int .i64 0]) ∧ TS w' T P hb sb way sz (es.set i { es[i] with val := value }) pl ∧ KeptR (tabB T P es) w w') ∨
      ((∀ i (hi : i < es.length), sameF way es[i].key key = false) ∧ e = .returned (.tuple #[.slice none 0 0, .bool false, .int .i64 0]) ∧ ∃ b P' pl', w.heap.size ≤ b ∧ (P' = P ∨ w.heap.size ≤ P') ∧
        TS w' T P' hb sb way (if 4 * (es.length + 1) ≤ 3 * sz then sz else 2 * sz) (es ++ [⟨b, key, value, hashF way key⟩]) pl' ∧ KeptR (tabB T P es) w w') := by
  rcases h.find key with ⟨i, hi, hm, D, hD, hp, ht, hf⟩ | ⟨hno, D, hD, hn, ht, hf⟩
  · refine (ix_put_there h.tab h.can key value h.free hi hf (Nat.mod_lt _ (by omega)) hp).mono ?_
    rintro e w' ⟨rfl, h1, h2, h3⟩
    refine .inl ⟨i, hi, hm, rfl, ⟨h1, h2, fun a b ha hb2 he => ?_, by rw [List.length_set]; exact h.room, h.pow⟩, h3⟩
    have hk : ∀ a (ha : a < (es.set i { es[i] with val := value }).length), (es.set i { es[i] with val := value })[a].key = (es[a]'(by rw [List.length_set] at ha; exact ha)).key := by
      intro a ha
      rw [List.getElem_set]
      by_cases e : i = a
      · subst e; rw [if_pos rfl]
      · rw [if_neg e]
    rw [hk a ha, hk b hb2] at he
    exact h.na a b _ _ he
  · by_cases hroom : 4 * (es.length + 1) ≤ 3 * sz
    · refine (ix_put_new h.tab key value h.free hf rfl (Nat.mod_lt _ (by omega)) hn hroom).mono ?_
      rintro e w' ⟨rfl, b, hb2, h1, h3⟩
      rw [if_pos hroom]
      refine .inr ⟨hno, rfl, b, P, _, hb2, .inl rfl, ⟨h1, h.can.push ⟨b, key, value, hashF way key⟩ hD hn ht (fun i hi => Nat.ne_of_lt (Nat.lt_of_lt_of_le (h.tab.ltE i hi) hb2)), na_push h hno, by rw [List.length_append]; simpa using hroom, h.pow⟩, h3⟩
    · have h8 := h.tab.hsz
      have hr0 := h.room
      obtain ⟨n, hn8⟩ := h.pow
      have hb45 : 2 * sz ≤ 35184372088832 := by
        -- 3 sz < 4 (len + 1), so sz < 2^44 + 2 and, being a power of two, at most 2^44
        have h1 : sz < 17592186044417 + 1 := by omega
        rw [hn8] at h1 ⊢
        have h2 : 2 ^ n ≤ 2 ^ 41 := by
          refine Nat.pow_le_pow_right (by decide) ?_
          refine Nat.le_of_not_lt fun h3 => ?_
          have h4 : 2 ^ 42 ≤ 2 ^ n := Nat.pow_le_pow_right (by decide) h3
          omega
        omega
      refine (ix_put_grow h.tab key value h.free hf (fun i hi => by rw [h.match_at key i hi]; exact hno i hi) h.lt (by omega) hb45).mono ?_
      rintro e w' ⟨rfl, b, P', pl', hb2, hP, h1, h2, h3⟩
      rw [if_neg hroom]
      refine .inr ⟨hno, rfl, b, P', pl', hb2, .inr hP, ⟨h1, h2, na_push h hno, by rw [List.length_append]; simp; omega, n + 1, by rw [hn8, Nat.pow_succ]; omega⟩, h3⟩

/-- Take, whole -/
theorem ts_take (h : TS w T P hb sb way sz es pl) (key : ByteArray) (hbig : es.length ≤ 35184372088832) :
    Calls Try.prog 12 #[.pointer (some ⟨T, 0, none⟩), .string key] w fun e w' =>
      (∃ i, ∃ hi : i < es.length, sameF way es[i].key key = true ∧ e = .returned (.tuple #[.slice es[i].val.a es[i].val.n es[i].val.c, .bool true]) ∧ ∃ pl', TS w' T P hb sb way sz (es.eraseIdx i) pl' ∧ KeptR (tabB T P (es.eraseIdx i)) w w') ∨
      ((∀ i (hi : i < es.length), sameF way es[i].key key = false) ∧ e = .returned (.tuple #[.slice none 0 0, .bool false]) ∧ Drawn w w') := by
  rcases h.find key with ⟨i, hi, hm, D, hD, hp, ht, hf⟩ | ⟨hno, D, hD, hn, ht, hf⟩
  · refine (ix_take_hit h.tab h.can key hi h.free hf (Nat.mod_lt _ (by omega)) hp hbig).mono ?_
    rintro e w' ⟨rfl, pl', h1, h2, h3⟩
    refine .inl ⟨i, hi, hm, rfl, pl', ⟨h1, h2, fun a b ha hb2 he => ?_, by rw [erase_len hi]; have := h.room; omega, h.pow⟩, h3⟩
    obtain ⟨s1, e1⟩ := erase_at hi ha
    obtain ⟨s2, e2⟩ := erase_at hi hb2
    rw [e1, e2] at he
    exact sg_inj (h.na _ _ s1 s2 he)
  · refine (ix_take_miss h.tab key h.free hf).mono ?_
    rintro e w' ⟨rfl, hd⟩
    exact .inr ⟨hno, rfl, hd⟩
end
end Go.Proofs.Ytjeeljolhcoeoaa.Str
