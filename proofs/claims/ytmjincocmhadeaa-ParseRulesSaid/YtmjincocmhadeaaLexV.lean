/- tokens: plain laws on the next token and on all of them. -/
import Derived.Test.YtmjincocmhadeaaLexU
namespace Go.Proofs.Ytmjincocmhadeaa.Lx

/-! ### skipping -/
theorem skip_cut : ∀ (b : Bool) (l m : Bs), skipN b l < l.length → skipN b (l ++ m) = skipN b l
  | _, [], _, h => by simp at h
  | true, c :: r, m, h => by
    rw [skipN, List.length_cons] at h
    rw [List.cons_append, skipN, skipN, skip_cut _ r m (by omega)]
  | false, c :: r, m, h => by
    rw [List.cons_append, skipN, skipN]
    rw [skipN, List.length_cons] at h
    by_cases h1 : bi c = 37
    · rw [if_pos h1] at h
      rw [if_pos h1, if_pos h1, skip_cut _ r m (by omega)]
    · rw [if_neg h1] at h
      rw [if_neg h1, if_neg h1]
      by_cases h2 : blankB (bi c) = true
      · rw [if_pos h2] at h
        rw [if_pos h2, if_pos h2, skip_cut _ r m (by omega)]
      · rw [if_neg h2, if_neg h2]
theorem skip_take (b : Bool) (l : Bs) (k : Nat) : skipN b l ≤ k → skipN b (l.take k) = skipN b l := by
  induction l generalizing b k with
  | nil => intro _; simp
  | cons c r ih =>
    intro h
    cases k with
    | zero =>
      have : skipN b (c :: r) = 0 := by omega
      rw [this]; cases b <;> rfl
    | succ k =>
      rw [List.take_succ_cons]
      cases b
      · rw [skipN] at h ⊢
        rw [skipN]
        by_cases h1 : bi c = 37
        · rw [if_pos h1] at h ⊢; rw [if_pos h1, ih _ _ (by omega)]
        · rw [if_neg h1] at h ⊢; rw [if_neg h1]
          by_cases h2 : blankB (bi c) = true
          · rw [if_pos h2] at h ⊢; rw [if_pos h2, ih _ _ (by omega)]
          · rw [if_neg h2, if_neg h2]
      · rw [skipN] at h ⊢
        rw [skipN, ih _ _ (by omega)]
/-- blanks to the end, a byte 10 behind them -/
theorem skip_ten (b : Bool) (l m : Bs) : skipN b l = l.length → skipN b (l ++ 10 :: m) = l.length + 1 + skipN false m := by
  induction l generalizing b with
  | nil =>
    intro _
    cases b
    · show skipN false (10 :: m) = _
      rw [skipN, if_neg (by decide), if_pos (by decide)]; simp
    · show skipN true (10 :: m) = _
      rw [skipN]; simp [bi]
  | cons c r ih =>
    have hr := fun b => skip_le' b r
    intro h
    rw [List.cons_append]
    cases b
    · rw [skipN] at h ⊢
      by_cases h1 : bi c = 37
      · rw [if_pos h1] at h ⊢; rw [ih _ (by simp at h; omega)]; simp; omega
      · rw [if_neg h1] at h ⊢
        by_cases h2 : blankB (bi c) = true
        · rw [if_pos h2] at h ⊢; rw [ih _ (by simp at h; omega)]; simp; omega
        · rw [if_neg h2] at h; simp at h
    · rw [skipN] at h ⊢
      rw [ih _ (by simp at h; omega)]; simp; omega
where
  skip_le' : ∀ (r : Bool) (l : Bs), skipN r l ≤ l.length
  | r, [] => by cases r <;> simp [skipN]
  | true, c :: l => by rw [skipN, List.length_cons]; have := skip_le' (!(bi c == 10)) l; omega
  | false, c :: l => by
    rw [skipN, List.length_cons]; split
    · have := skip_le' true l; omega
    · split
      · have := skip_le' false l; omega
      · omega

/-! ### words -/
theorem takeWhile_stop {α} (p : α → Bool) : ∀ l : List α, ∀ c ∈ (l.drop (l.takeWhile p).length).head?, p c = false
  | [], c, h => by simp at h
  | x :: r, c, h => by
    rw [List.takeWhile_cons] at h
    cases hp : p x
    · rw [hp] at h; simp at h; rw [← h]; exact hp
    · rw [hp] at h; simp at h; exact takeWhile_stop p r c (by simpa using h)
theorem takeWhile_append_all {α} (p : α → Bool) (xs ys : List α) (h : xs.all p = true) : (xs ++ ys).takeWhile p = xs ++ ys.takeWhile p := by
  induction xs with
  | nil => rfl
  | cons x r ih =>
    simp only [List.all_cons, Bool.and_eq_true] at h
    rw [List.cons_append, List.takeWhile_cons, h.1, if_pos rfl, ih h.2]; rfl
def Stops (l m : Bs) : Prop := wordN l = 64 ∨ ∀ c ∈ m.head?, wpred (firstB digitB l) c = false
theorem stops_nil (l : Bs) : Stops l [] := .inr (by simp)
theorem stops_self (l : Bs) (k : Nat) : Stops l ((l.drop (wordN l)).take k) := by
  by_cases h : wordN l = 64
  · exact .inl h
  refine .inr fun c hc => ?_
  have hle := wordN_le l
  have hs := takeWhile_stop (wpred (firstB digitB l)) (l.take 64) c
  rw [← wordN_pred] at hs
  refine hs ?_
  rw [List.drop_take]
  cases k with
  | zero => simp at hc
  | succ k =>
    rw [show 64 - wordN l = (63 - wordN l) + 1 from by omega]
    revert hc
    cases l.drop (wordN l) <;> simp
theorem word_all (l : Bs) : (l.take (wordN l)).all (wpred (firstB digitB l)) = true := by
  have hle := wordN_le l
  rw [all_take_iff _ l (wordN l) 64 hle.2 hle.1, ← wordN_pred]; exact Nat.le_refl _
theorem wordN_cut (l m : Bs) (hk : 1 ≤ wordN l) (hs : Stops l m) : wordN (l.take (wordN l) ++ m) = wordN l := by
  have hle := wordN_le l
  have hf : firstB digitB (l.take (wordN l) ++ m) = firstB digitB l := by
    cases l with
    | nil => simp at hle; omega
    | cons c r => rw [show wordN (c :: r) = (wordN (c :: r) - 1) + 1 from by omega]; rfl
  rw [wordN_pred (l.take (wordN l) ++ m), hf]
  have hlen : (l.take (wordN l)).length = wordN l := by simp; omega
  rw [List.take_append, hlen, List.take_of_length_le (by omega), takeWhile_append_all _ _ _ (word_all l), List.length_append, hlen]
  have : (m.take (64 - wordN l)).takeWhile (wpred (firstB digitB l)) = [] := by
    rcases hs with h | h
    · rw [h]; simp
    · cases m with
      | nil => simp
      | cons c r =>
        have hc := h c (by simp)
        cases 64 - wordN l with
        | zero => simp
        | succ n => rw [List.take_succ_cons, List.takeWhile_cons, hc]; rfl
  rw [this]; simp
theorem take_cut (l m : Bs) (k : Nat) (h : k ≤ l.length) : (l.take k ++ m).take k = l.take k := by
  rw [List.take_append, List.take_take]; simp [List.length_take]; omega
theorem kind_isWord (l : Bs) (h : kindI l ≠ 0) : isWordB (kindI l) = true := by
  unfold kindI at *
  by_cases e1 : l = sInput
  · rw [if_pos e1]; decide
  by_cases e2 : l = sOutput
  · rw [if_neg e1, if_pos e2]; decide
  by_cases e3 : l = sNot
  · rw [if_neg e1, if_neg e2, if_pos e3]; decide
  rw [if_neg e1, if_neg e2, if_neg e3] at h ⊢
  revert h; cases numberB l <;> cases variableB l <;> cases nameB l <;> simp <;> decide

/-! ### the next token -/
theorem signI_ge {c k d : Int} {n : Nat} (h : signI c = some (k, n, d)) : 8 ≤ k := by
  unfold signI at h
  repeat' split at h
  all_goals (first | (injection h with h; injection h with h _; omega) | cases h)

inductive Next (a : Nat) : Bs → Tok × Bool → Prop
  | str (c r) : bi c = 34 → Next a (c :: r) (⟨4, if (quo r 0).2.2 then (quo r 0).1 else [], a, a + 1 + (quo r 0).2.1⟩, (quo r 0).2.2)
  | sign1 (c r k) : ¬ bi c = 34 → signI (bi c) = some (k, 1, 0) → 8 ≤ k → Next a (c :: r) (⟨k, [], a, a + 1⟩, true)
  | sign2 (c x r k) : ¬ bi c = 34 → signI (bi c) = some (k, 2, bi x) → 8 ≤ k → Next a (c :: x :: r) (⟨k, [], a, a + 2⟩, true)
  | half (c r k d) : ¬ bi c = 34 → signI (bi c) = some (k, 2, d) → 8 ≤ k → firstB (fun y => decide (y = d)) r = false → Next a (c :: r) (⟨k, [], a, a + 1⟩, false)
  | no (c r) : ¬ bi c = 34 → signI (bi c) = none → kindI ((c :: r).take (wordN (c :: r))) = 0 → Next a (c :: r) (zeroTok, false)
  | word (c r) : ¬ bi c = 34 → signI (bi c) = none → kindI ((c :: r).take (wordN (c :: r))) ≠ 0 →
      Next a (c :: r) (⟨kindI ((c :: r).take (wordN (c :: r))), if reservedB ((c :: r).take (wordN (c :: r))) then [] else (c :: r).take (wordN (c :: r)), a, a + wordN (c :: r)⟩, true)

theorem Next.of (l : Bs) (a : Nat) (h : l ≠ []) : Next a l (nextT l a) := by
  cases l with
  | nil => exact absurd rfl h
  | cons c r =>
    by_cases h34 : bi c = 34
    · rw [next_str c r a h34]; exact .str c r h34
    rcases signI_cases (bi c) with hs | ⟨k, hs, _⟩ | ⟨k, d, hs, _⟩
    · rw [next_word c r a h34 hs]
      by_cases hk : kindI ((c :: r).take (wordN (c :: r))) = 0
      · rw [if_pos hk]; exact .no c r h34 hs hk
      · rw [if_neg hk]; exact .word c r h34 hs hk
    · rw [next_sign1 c r a k 0 h34 hs]; exact .sign1 c r k h34 hs (signI_ge hs)
    · by_cases hd : firstB (fun y => decide (y = d)) r = true
      · cases r with
        | nil => cases hd
        | cons x r =>
          have hx : bi x = d := by simpa [firstB] using hd
          rw [next_sign2 c x r a k d h34 hs hx]
          subst hx
          exact .sign2 c x r k h34 hs (signI_ge hs)
      · have hd' : firstB (fun y => decide (y = d)) r = false := by simpa using hd
        rw [next_sign2n c r a k d h34 hs hd']; exact .half c r k d h34 hs (signI_ge hs) hd'

theorem isWordB_big {k : Int} (h : 8 ≤ k) : isWordB k = false := by unfold isWordB; simp; omega
theorem wordN_pos {l : Bs} (h : kindI (l.take (wordN l)) ≠ 0) : 1 ≤ wordN l := by
  rcases Nat.eq_zero_or_pos (wordN l) with h0 | h0
  · exact absurd (by rw [h0]; rfl) h
  · exact h0

structure NextFacts (l : Bs) (a : Nat) (t : Tok) (wh : Bool) : Prop where
  at_ : t.kind ≠ 0 → t.at_ = a
  lo : t.kind ≠ 0 → a < t.end_
  hi : t.kind ≠ 0 → t.end_ ≤ a + l.length
  whole : wh = true → t.kind ≠ 0
  zero : t.kind = 0 → t = zeroTok
  text : wh = false → t.text = []
  notword : wh = false → isWordB t.kind = false

theorem Next.facts {l : Bs} {a : Nat} {x : Tok × Bool} (h : Next a l x) : NextFacts l a x.1 x.2 := by
  cases h with
  | str c r h34 =>
    have := quo_far r 0
    exact ⟨fun _ => rfl, fun _ => (by show _ < _ + 1 + _; omega), fun _ => (by show _ + 1 + _ ≤ _; simp; omega), fun _ => (by show (4 : Int) ≠ 0; decide), fun h => absurd h (by show ¬ (4 : Int) = 0; decide), fun h => (by simp_all), fun _ => rfl⟩
  | sign1 c r k h34 hs hk => exact ⟨fun _ => rfl, fun _ => (by show _ < _ + 1; omega), fun _ => (by show _ + 1 ≤ _; simp), fun _ => (by show k ≠ 0; omega), fun h => absurd h (by show ¬ k = 0; omega), fun h => (by cases h), fun h => (by cases h)⟩
  | sign2 c x r k h34 hs hk => exact ⟨fun _ => rfl, fun _ => (by show _ < _ + 2; omega), fun _ => (by show _ + 2 ≤ _; simp), fun _ => (by show k ≠ 0; omega), fun h => absurd h (by show ¬ k = 0; omega), fun h => (by cases h), fun h => (by cases h)⟩
  | half c r k d h34 hs hk hd => exact ⟨fun _ => rfl, fun _ => (by show _ < _ + 1; omega), fun _ => (by show _ + 1 ≤ _; simp), fun h => (by cases h), fun h => absurd h (by show ¬ k = 0; omega), fun _ => rfl, fun _ => isWordB_big hk⟩
  | no c r h34 hs hk => exact ⟨fun h => absurd rfl h, fun h => absurd rfl h, fun h => absurd rfl h, fun h => (by cases h), fun _ => rfl, fun _ => rfl, fun _ => rfl⟩
  | word c r h34 hs hk =>
    have h1 := wordN_pos hk
    have h2 := wordN_le (c :: r)
    exact ⟨fun _ => rfl, fun _ => (by show _ < _ + _; omega), fun _ => (by show _ + _ ≤ _; omega), fun _ => hk, fun h => absurd h hk, fun h => (by cases h), fun h => (by cases h)⟩

theorem next_facts {l : Bs} {a : Nat} {t : Tok} {wh : Bool} (hl : l ≠ []) (h : nextT l a = (t, wh)) : NextFacts l a t wh := by
  have := (Next.of l a hl).facts; rw [h] at this; exact this

def moveT (d : Nat) (t : Tok) : Tok := if t.kind = 0 then t else ⟨t.kind, t.text, t.at_ + d, t.end_ + d⟩
theorem moveT_ne (d : Nat) (t : Tok) (h : ¬ t.kind = 0) : moveT d t = ⟨t.kind, t.text, t.at_ + d, t.end_ + d⟩ := if_neg h
theorem next_move (l : Bs) (a d : Nat) : nextT l (a + d) = (moveT d (nextT l a).1, (nextT l a).2) := by
  cases l with
  | nil => rfl
  | cons c r =>
    have h := Next.of (c :: r) a (by simp)
    generalize hx : nextT (c :: r) a = x at h
    cases h with
    | str _ _ h34 => rw [next_str c r _ h34]; rw [moveT_ne _ _ (by show ¬ (4 : Int) = 0; decide)]; simp; omega
    | sign1 _ _ k h34 hs hk => rw [next_sign1 c r _ k 0 h34 hs]; rw [moveT_ne _ _ (by show ¬ k = 0; omega)]; simp; omega
    | sign2 _ x r k h34 hs hk => rw [next_sign2 c x r _ k _ h34 hs rfl]; rw [moveT_ne _ _ (by show ¬ k = 0; omega)]; simp; omega
    | half _ _ k d h34 hs hk hd => rw [next_sign2n c r _ k d h34 hs hd]; rw [moveT_ne _ _ (by show ¬ k = 0; omega)]; simp; omega
    | no _ _ h34 hs hk => rw [next_word c r _ h34 hs, if_pos hk]; rfl
    | word _ _ h34 hs hk => rw [next_word c r _ h34 hs, if_neg hk]; rw [moveT_ne _ _ hk]; simp; omega

/-- a whole token is read the same, whatever stands behind it, if a word ends there -/
theorem next_cut {l : Bs} {a : Nat} {t : Tok} (hl : l ≠ []) (h : nextT l a = (t, true)) (m : Bs) (hst0 : isWordB t.kind = true → Stops l m) : nextT (l.take (t.end_ - a) ++ m) a = (t, true) := by
  have hx := Next.of l a hl
  rw [h] at hx
  generalize hy : (t, true) = y at hx
  cases hx with
  | str c r h34 =>
    injection hy with h1 h2
    subst h1
    have e : a + 1 + (quo r 0).2.1 - a = (quo r 0).2.1 + 1 := by omega
    show nextT (List.take (a + 1 + (quo r 0).2.1 - a) (c :: r) ++ m) a = _
    rw [e, List.take_succ_cons, List.cons_append, next_str _ _ _ h34, quo_whole m r 0 h2.symm, ← h2]
  | sign1 c r k h34 hs hk =>
    injection hy with h1 h2
    subst h1
    show nextT (List.take (a + 1 - a) (c :: r) ++ m) a = _
    rw [show a + 1 - a = 1 from by omega]
    exact next_sign1 c _ a k 0 h34 hs
  | sign2 c x r k h34 hs hk =>
    injection hy with h1 h2
    subst h1
    show nextT (List.take (a + 2 - a) (c :: x :: r) ++ m) a = _
    rw [show a + 2 - a = 2 from by omega]
    exact next_sign2 c x _ a k _ h34 hs rfl
  | half c r k d h34 hs hk hd => injection hy with h1 h2; cases h2
  | no c r h34 hs hk => injection hy with h1 h2; cases h2
  | word c r h34 hsg hk =>
    injection hy with h1 h2
    subst h1
    show nextT (List.take (a + wordN (c :: r) - a) (c :: r) ++ m) a = _
    have h1 := wordN_pos hk
    have h2 := wordN_le (c :: r)
    have hst := hst0 (kind_isWord _ hk)
    have e : a + wordN (c :: r) - a = wordN (c :: r) := by omega
    rw [e]
    have hc := wordN_cut (c :: r) m h1 hst
    have ht := take_cut (c :: r) m (wordN (c :: r)) h2.1
    obtain ⟨r', hr'⟩ : ∃ r', List.take (wordN (c :: r)) (c :: r) ++ m = c :: r' := by
      rw [show wordN (c :: r) = (wordN (c :: r) - 1) + 1 from by omega]; exact ⟨_, rfl⟩
    rw [hr'] at hc ht ⊢
    rw [next_word c r' a h34 hsg, hc, ht, if_neg hk]

theorem next_stops {l : Bs} {a : Nat} {t : Tok} (hl : l ≠ []) (h : nextT l a = (t, true)) (hw : isWordB t.kind = true) : t.end_ - a = wordN l := by
  have hx := Next.of l a hl
  rw [h] at hx
  generalize hy : (t, true) = y at hx
  cases hx with
  | str c r h34 => injection hy with h1 h2; subst h1; cases hw
  | sign1 c r k h34 hs hk => injection hy with h1 h2; subst h1; rw [isWordB_big hk] at hw; cases hw
  | sign2 c x r k h34 hs hk => injection hy with h1 h2; subst h1; rw [isWordB_big hk] at hw; cases hw
  | half c r k d h34 hs hk hd => injection hy with h1 h2; cases h2
  | no c r h34 hs hk => injection hy with h1 h2; cases h2
  | word c r h34 hsg hk => injection hy with h1 h2; subst h1; show a + wordN (c :: r) - a = _; omega

/-- an open token that has begun: cut at its end it is open there -/
theorem next_openCut {l : Bs} {a : Nat} {t : Tok} (hl : l ≠ []) (h : nextT l a = (t, false)) (hk0 : t.kind ≠ 0) : nextT (l.take (t.end_ - a)) a = (t, false) := by
  have hx := Next.of l a hl
  rw [h] at hx
  generalize hy : (t, false) = y at hx
  cases hx with
  | str c r h34 =>
    injection hy with h1 h2
    subst h1
    have e : a + 1 + (quo r 0).2.1 - a = (quo r 0).2.1 + 1 := by omega
    show nextT (List.take (a + 1 + (quo r 0).2.1 - a) (c :: r)) a = _
    have hq := quo_open r 0 h2.symm
    rw [e, List.take_succ_cons, next_str _ _ _ h34, hq.1, hq.2, ← h2, if_neg (by decide), if_neg (by decide)]
  | sign1 c r k h34 hs hk => injection hy with h1 h2; cases h2
  | sign2 c x r k h34 hs hk => injection hy with h1 h2; cases h2
  | half c r k d h34 hs hk hd =>
    injection hy with h1 h2
    subst h1
    show nextT (List.take (a + 1 - a) (c :: r)) a = _
    rw [show a + 1 - a = 1 from by omega]
    exact next_sign2n c _ a k d h34 hs rfl
  | no c r h34 hs hk => injection hy with h1 h2; subst h1; exact absurd rfl hk0
  | word c r h34 hsg hk => injection hy with h1 h2; cases h2

/-- more bytes behind an open token: it goes as far, or further -/
theorem next_openMore {l : Bs} {a : Nat} {t : Tok} (hl : l ≠ []) (h : nextT l a = (t, false)) (hk0 : t.kind ≠ 0) (m : Bs) :
    (nextT (l ++ m) a).1.kind = t.kind ∧ t.end_ ≤ (nextT (l ++ m) a).1.end_ := by
  have hx := Next.of l a hl
  rw [h] at hx
  generalize hy : (t, false) = y at hx
  cases hx with
  | str c r h34 =>
    injection hy with h1 h2
    subst h1
    have := quo_more m r 0
    rw [List.cons_append, next_str _ _ _ h34]
    refine ⟨rfl, ?_⟩
    show a + 1 + _ ≤ a + 1 + _
    omega
  | sign1 c r k h34 hs hk => injection hy with h1 h2; cases h2
  | sign2 c x r k h34 hs hk => injection hy with h1 h2; cases h2
  | half c r k d h34 hs hk hd =>
    injection hy with h1 h2
    subst h1
    rw [List.cons_append]
    by_cases hd : firstB (fun y => decide (y = d)) (r ++ m) = true
    · generalize hrm : r ++ m = rm at hd
      cases rm with
      | nil => cases hd
      | cons x r' =>
        rw [next_sign2 c x r' a k d h34 hs (by simpa [firstB] using hd)]
        exact ⟨rfl, by show a + 1 ≤ a + 2; omega⟩
    · rw [next_sign2n c _ a k d h34 hs (by simpa using hd)]
      exact ⟨rfl, Nat.le_refl _⟩
  | no c r h34 hs hk => injection hy with h1 h2; subst h1; exact absurd rfl hk0
  | word c r h34 hsg hk => injection hy with h1 h2; cases h2

end Go.Proofs.Ytmjincocmhadeaa.Lx
