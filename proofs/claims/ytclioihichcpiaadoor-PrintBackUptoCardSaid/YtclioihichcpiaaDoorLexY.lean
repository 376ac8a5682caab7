/- tokens, plain: moved, cut, one byte more, a text behind. -/
import Derived.Test.YtclioihichcpiaaDoorJoE
namespace Go.Proofs.YtclioihichcpiaaDoor.Lx

theorem ne_nil_append {l m : Bs} (h : l ≠ []) : l ++ m ≠ [] := by
  cases l with
  | nil => exact absurd rfl h
  | cons c r => simp
theorem drop_append_lt (l m : Bs) (n : Nat) (h : n ≤ l.length) : (l ++ m).drop n = l.drop n ++ m := by
  rw [List.drop_append, show n - l.length = 0 from by omega, List.drop_zero]

/-! ### moved -/
def moveR (d : Nat) (r : Res) : Res := ⟨r.toks.map (moveT d), moveT d r.open_, r.far + d, r.ok⟩
theorem moveT_kind (d : Nat) (t : Tok) : (moveT d t).kind = t.kind := by
  unfold moveT; split <;> rfl
theorem moveT_zero (d : Nat) : moveT d zeroTok = zeroTok := rfl
theorem tk_move (d : Nat) (l : Bs) (a : Nat) (j : Bool) : tk l (a + d) j = moveR d (tk l a j) := by
  refine tk_ind (P := fun l a j r => tk l (a + d) j = moveR d r) ?_ ?_ ?_ ?_ l a j
  · intro l a j h
    rw [tk_end h (Nat.le_refl _)]
    unfold moveR; simp [moveT_zero]; omega
  · intro l a t wh hn h1 hx hw
    have := next_move l a d
    rw [hx] at this
    rw [tk_joint hn h1 this (by rw [moveT_kind]; exact hw)]; rfl
  · intro l a j n l1 t hn hl1 h1 hlt hx
    have := next_move l1 (a + n) d
    rw [hx, show a + n + d = a + d + n from by omega] at this
    rw [tk_open hn hl1 h1 this, moveT_kind]
    unfold moveR
    simp only [List.map_nil]
    congr 1
    by_cases hk : t.kind = 0
    · rw [if_pos hk, if_pos hk]; omega
    · rw [if_neg hk, if_neg hk, moveT_ne _ _ hk]
  · intro l a j n l1 t r hn hl1 h1 hlt hx hj hr hlo hhi ih
    have h := next_move l1 (a + n) d
    rw [hx, show a + n + d = a + d + n from by omega] at h
    have hk := (next_facts h1 hx).whole rfl
    rw [tk_more hn hl1 h1 h (by rw [moveT_kind]; exact hj), moveT_kind]
    have e : (moveT d t).end_ = t.end_ + d := by rw [moveT_ne _ _ hk]
    show ({ tk (List.drop ((moveT d t).end_ - (a + d + n)) l1) (moveT d t).end_ (isWordB t.kind) with toks := _ } : Res) = _
    rw [e, show t.end_ + d - (a + d + n) = t.end_ - (a + n) from by omega, ih]
    rfl

/-! ### blanks ahead -/
theorem tk_skip {L X : Bs} {a d : Nat} {j : Bool} (h : skipN false L = d + skipN false X) (hd : L.drop d = X) (h1 : 1 ≤ d) (hlen : L.length = d + X.length) : tk L a j = tk X (a + d) false := by
  have hle := skip_ten.skip_le' false X
  by_cases hn : skipN false X = X.length
  · rw [tk_end h (by omega), tk_end rfl (Nat.le_of_eq hn.symm)]
    congr 1; omega
  · have hX : X.drop (skipN false X) ≠ [] := by
      intro h; have := congrArg List.length h; rw [List.length_drop] at this; simp at this; omega
    have hdr : L.drop (d + skipN false X) = X.drop (skipN false X) := by rw [← hd, List.drop_drop]
    cases hx : nextT (X.drop (skipN false X)) (a + d + skipN false X) with
    | mk t wh =>
      cases wh with
      | false =>
        rw [tk_open rfl rfl hX hx, tk_open h hdr hX (by rw [← Nat.add_assoc]; exact hx), ← Nat.add_assoc]
      | true =>
        have hz : (d + skipN false X == 0) = false := by rw [beq_eq_false_iff_ne]; omega
        rw [tk_more rfl rfl hX hx (by simp), tk_more h hdr hX (by rw [← Nat.add_assoc]; exact hx) (by rw [hz]; simp), ← Nat.add_assoc]

/-! ### a text behind -/
theorem tk_behind (text : Bs) (l : Bs) (a : Nat) (j : Bool) : (tk l a j).ok = true → tk (l ++ 10 :: text) a j = glue (tk l a j).toks (tk text (a + l.length + 1) false) := by
  refine tk_ind (P := fun l a j r => r.ok = true → tk (l ++ 10 :: text) a j = glue r.toks (tk text (a + l.length + 1) false)) ?_ ?_ ?_ ?_ l a j
  · intro l a j h _
    rw [tk_skip (d := l.length + 1) (X := text) (skip_ten false l text h) ?_ (by omega) (by simp; omega), glue_nil, Nat.add_assoc]
    rw [List.drop_append, List.drop_of_length_le (by omega), show l.length + 1 - l.length = 1 from by omega]; rfl
  · intro l a t wh hn h1 hx hw h; cases h
  · intro l a j n l1 t hn hl1 h1 hlt hx h; cases h
  · intro l a j n l1 t r hn hl1 h1 hlt hx hj hr hlo hhi ih hok
    have hlen1 : l1.length = l.length - n := by rw [← hl1, List.length_drop]
    have hdr : (l ++ 10 :: text).drop n = l1 ++ 10 :: text := by rw [drop_append_lt _ _ _ (by omega), hl1]
    have hx2 : nextT (l1 ++ 10 :: text) (a + n) = (t, true) := by
      have := next_cut h1 hx (l1.drop (t.end_ - (a + n)) ++ 10 :: text) (fun hw => by
        rw [next_stops h1 hx hw]
        cases hd : l1.drop (wordN l1) with
        | nil => exact .inr (fun c hc => by simp at hc; subst hc; unfold wpred; rw [show letterB (bi 10) = false from by decide]; rfl)
        | cons c r =>
          have := stops_self l1 1
          rw [hd] at this
          rcases this with h | h
          · exact .inl h
          · exact .inr (fun x hx => h x (by simpa using hx)))
      rw [← List.append_assoc, List.take_append_drop] at this
      exact this
    rw [tk_more (by rw [skip_cut _ _ _ (by omega)]; exact hn) hdr (ne_nil_append h1) hx2 hj, drop_append_lt _ _ _ (by omega), ih hok]
    rw [show t.end_ + (l1.drop (t.end_ - (a + n))).length + 1 = a + l.length + 1 from by rw [List.length_drop]; omega]
    rfl

/-! ### cut where it goes no further -/
theorem tk_cut (l : Bs) (a : Nat) (j : Bool) : tk (l.take ((tk l a j).far - a)) a j = { tk l a j with ok := (tk l a j).open_.kind == 0 } := by
  have hle := fun l => skip_ten.skip_le' false l
  refine tk_ind (P := fun l a j r => r = tk l a j → tk (l.take (r.far - a)) a j = { r with ok := r.open_.kind == 0 }) ?_ ?_ ?_ ?_ l a j rfl
  · intro l a j h _
    show tk (l.take (a + l.length - a)) a j = _
    rw [show a + l.length - a = l.length from by omega, List.take_length, tk_end h (Nat.le_refl _)]; rfl
  · intro l a t wh hn h1 hx hw _
    show tk (l.take (a - a)) a true = _
    rw [Nat.sub_self, List.take_zero, tk_end (n := 0) rfl (Nat.zero_le _)]; rfl
  · intro l a j n l1 t hn hl1 h1 hlt hx _
    have hf := next_facts h1 hx
    by_cases hk : t.kind = 0
    · simp only [hk, if_true]
      rw [show a + n - a = n from by omega, hf.zero hk]
      rw [tk_end (n := n) (by rw [skip_take _ _ _ (by omega)]; exact hn) (by rw [List.length_take]; omega)]; rfl
    · simp only [hk, if_false]
      have hlo := hf.lo hk
      have hx2 := next_openCut h1 hx hk
      have hd : (l.take (t.end_ - a)).drop n = l1.take (t.end_ - (a + n)) := by rw [List.drop_take, hl1]; congr 1; omega
      have h2 : l1.take (t.end_ - (a + n)) ≠ [] := by
        cases l1 with
        | nil => exact absurd rfl h1
        | cons c r => rw [show t.end_ - (a + n) = (t.end_ - (a + n) - 1) + 1 from by omega]; simp
      rw [tk_open (by rw [skip_take _ _ _ (by omega)]; exact hn) hd h2 hx2, if_neg hk]
      congr 1
      simp [hk]
  · intro l a j n l1 t r hn hl1 h1 hlt hx hj hr hlo hhi ih hall
    have hfar := (tk_far (l1.drop (t.end_ - (a + n))) t.end_ (isWordB t.kind)).1
    rw [← hr] at hfar
    have hd : (l.take (r.far - a)).drop n = l1.take (r.far - (a + n)) := by rw [List.drop_take, hl1]; congr 1; omega
    have h2 : l1.take (r.far - (a + n)) ≠ [] := by
      cases l1 with
      | nil => exact absurd rfl h1
      | cons c r' => rw [show r.far - (a + n) = (r.far - (a + n) - 1) + 1 from by omega]; simp
    have hsplit : l1.take (r.far - (a + n)) = l1.take (t.end_ - (a + n)) ++ (l1.drop (t.end_ - (a + n))).take (r.far - t.end_) := by
      rw [show r.far - (a + n) = (t.end_ - (a + n)) + (r.far - t.end_) from by omega, List.take_add]
    have hx2 : nextT (l1.take (r.far - (a + n))) (a + n) = (t, true) := by
      rw [hsplit]
      exact next_cut h1 hx _ (fun hw => by rw [next_stops h1 hx hw]; exact stops_self _ _)
    show tk (l.take (r.far - a)) a j = _
    rw [tk_more (by rw [skip_take _ _ _ (by omega)]; exact hn) hd h2 hx2 hj]
    have hrest : (l1.take (r.far - (a + n))).drop (t.end_ - (a + n)) = (l1.drop (t.end_ - (a + n))).take (r.far - t.end_) := by
      rw [List.drop_take]; congr 1; omega
    rw [hrest, ih hr]

/-! ### one byte more -/
theorem next_byte (c : UInt8) (a : Nat) : (nextT [c] a).1.kind = 0 ∨ (nextT [c] a).1.end_ = a + 1 := by
  have hf := (Next.of [c] a (by simp)).facts
  by_cases hk : (nextT [c] a).1.kind = 0
  · exact .inl hk
  · have := hf.lo hk; have := hf.hi hk; right; simp at this; omega
theorem tk_byte (c : UInt8) (a : Nat) (j : Bool) : ((tk [c] a j).far = a ∧ (tk [c] a j).ok = false) ∨ (tk [c] a j).far = a + 1 := by
  refine tk_ind (P := fun l a j r => l.length = 1 → (r.far = a ∧ r.ok = false) ∨ r.far = a + 1) ?_ ?_ ?_ ?_ [c] a j rfl
  · intro l a j h h1; right; show a + l.length = _; rw [h1]
  · intro l a t wh hn h1 hx hw _; exact .inl ⟨rfl, rfl⟩
  · intro l a j n l1 t hn hl1 h1 hlt hx hl
    have hf := next_facts h1 hx
    have hl1l : l1.length = l.length - n := by rw [← hl1, List.length_drop]
    by_cases hk : t.kind = 0
    · left; refine ⟨?_, rfl⟩; show ite _ _ _ = _; rw [if_pos hk]; omega
    · right; show ite _ _ _ = _; rw [if_neg hk]; have := hf.lo hk; have := hf.hi hk; omega
  · intro l a j n l1 t r hn hl1 h1 hlt hx hj hr hlo hhi ih hl
    right
    have := tk_far (l1.drop (t.end_ - (a + n))) t.end_ (isWordB t.kind)
    rw [← hr] at this
    have hl1l : l1.length = l.length - n := by rw [← hl1, List.length_drop]
    rw [List.length_drop] at this
    show r.far = _
    omega

/-- a row, a byte more behind it -/
theorem tk_byteOk (c : UInt8) (l : Bs) (a : Nat) (j : Bool) : (tk l a j).ok = true → ((tk (l ++ [c]) a j).far = a + l.length ∧ (tk (l ++ [c]) a j).ok = false) ∨ (tk (l ++ [c]) a j).far = a + l.length + 1 := by
  refine tk_ind (P := fun l a j r => r.ok = true → ((tk (l ++ [c]) a j).far = a + l.length ∧ (tk (l ++ [c]) a j).ok = false) ∨ (tk (l ++ [c]) a j).far = a + l.length + 1) ?_ ?_ ?_ ?_ l a j
  · intro l a j h _
    have h2 : l.length ≤ skipN false (l ++ [c]) := by
      rcases Nat.lt_or_ge (skipN false (l ++ [c])) l.length with h3 | h3
      · have := skip_take false (l ++ [c]) l.length (by omega)
        rw [List.take_left] at this; omega
      · exact h3
    have h3 := skip_ten.skip_le' false (l ++ [c])
    rw [List.length_append] at h3
    simp at h3
    by_cases h4 : skipN false (l ++ [c]) = l.length + 1
    · right; rw [tk_end h4 (by simp)]; show a + (l.length + 1) = _; omega
    have h5 : skipN false (l ++ [c]) = l.length := by omega
    have hd : (l ++ [c]).drop l.length = [c] := List.drop_left
    cases hx : nextT [c] (a + l.length) with
    | mk t wh =>
      have hb := next_byte c (a + l.length)
      rw [hx] at hb
      cases wh with
      | false =>
        rw [tk_open h5 hd (by simp) hx]
        rcases hb with hk | hk
        · left; refine ⟨?_, rfl⟩; show ite _ _ _ = _; exact if_pos hk
        · by_cases hk0 : t.kind = 0
          · left; refine ⟨?_, rfl⟩; show ite _ _ _ = _; exact if_pos hk0
          · right; show ite _ _ _ = _; rw [if_neg hk0]; exact hk
      | true =>
        have hf := next_facts (by simp) hx
        have hk := hf.whole rfl
        have he : t.end_ = a + l.length + 1 := by
          rcases hb with h | h
          · exact absurd h hk
          · exact h
        by_cases hj : (isWordB t.kind && j && l.length == 0) = true
        · simp only [Bool.and_eq_true, beq_iff_eq] at hj
          obtain ⟨⟨hw, rfl⟩, hz⟩ := hj
          obtain rfl : l = [] := List.eq_nil_of_length_eq_zero hz
          left
          rw [List.nil_append, tk_joint (by rw [← hz]; exact h5) (by simp) (by simpa using hx) hw]
          exact ⟨rfl, rfl⟩
        · rw [tk_more h5 hd (by simp) hx (by simpa using hj)]
          right
          show (tk (List.drop (t.end_ - (a + l.length)) [c]) t.end_ (isWordB t.kind)).far = _
          rw [he, show a + l.length + 1 - (a + l.length) = 1 from by omega]
          show (tk [] _ _).far = _
          rw [tk_end (n := 0) rfl (Nat.zero_le _)]
  · intro l a t wh hn h1 hx hw h; cases h
  · intro l a j n l1 t hn hl1 h1 hlt hx h; cases h
  · intro l a j n l1 t r hn hl1 h1 hlt hx hj hr hlo hhi ih hok
    have hlen1 : l1.length = l.length - n := by rw [← hl1, List.length_drop]
    have hdr : (l ++ [c]).drop n = l1 ++ [c] := by rw [drop_append_lt _ _ _ (by omega), hl1]
    have hsk : skipN false (l ++ [c]) = n := by rw [skip_cut _ _ _ (by omega)]; exact hn
    by_cases hgrow : isWordB t.kind = true ∧ l1.drop (t.end_ - (a + n)) = [] ∧ ¬ Stops l1 [c]
    · -- a word to the end that goes on
      obtain ⟨hw, hnil, hst⟩ := hgrow
      have hend := next_stops h1 hx hw
      have hwl : wordN l1 = l1.length := by
        have := congrArg List.length hnil; rw [List.length_drop] at this; simp at this; have := wordN_le l1; omega
      have hx0 := Next.of l1 (a + n) h1
      rw [hx] at hx0
      have hkind : kindI (l1.take (wordN l1)) ≠ 0 ∧ ∃ x r, l1 = x :: r ∧ ¬ bi x = 34 ∧ signI (bi x) = none := by
        generalize hy : (t, true) = y at hx0
        cases hx0 with
        | str x r h34 => injection hy with h1 h2; subst h1; cases hw
        | sign1 x r k h34 hs hk => injection hy with h1 h2; subst h1; rw [isWordB_big hk] at hw; cases hw
        | sign2 x y r k h34 hs hk => injection hy with h1 h2; subst h1; rw [isWordB_big hk] at hw; cases hw
        | half x r k d h34 hs hk hd => injection hy with h1 h2; cases h2
        | no x r h34 hs hk => injection hy with h1 h2; cases h2
        | word x r h34 hsg hk => exact ⟨hk, x, r, rfl, h34, hsg⟩
      obtain ⟨hk, x, r', rfl, h34, hsg⟩ := hkind
      have hwp := wordN_pos hk
      have hle := wordN_le (x :: r')
      unfold Stops at hst
      have h64 : ¬ wordN (x :: r') = 64 := fun h => hst (.inl h)
      have hpc : wpred (firstB digitB (x :: r')) c = true := by
        cases hp : wpred (firstB digitB (x :: r')) c
        · exact absurd (.inr (by intro d hd; simp at hd; subst hd; exact hp)) hst
        · rfl
      have hall : (x :: r').all (wpred (firstB digitB (x :: r'))) = true := by
        have := word_all (x :: r'); rw [hwl, List.take_length] at this; exact this
      have hf2 : firstB digitB (x :: r' ++ [c]) = firstB digitB (x :: r') := rfl
      have hw2 : wordN (x :: r' ++ [c]) = (x :: r').length + 1 := by
        rw [wordN_pred, hf2, List.take_of_length_le (by simp at hle hwl h64 ⊢; omega), takeWhile_append_all _ _ _ hall]
        simp [hpc]
      have hk2 : kindI ((x :: r' ++ [c]).take (wordN (x :: r' ++ [c]))) ≠ 0 := by
        have h1 := (kind_take (x :: r') (wordN (x :: r')) hwp hle.1 hle.2).1 hk
        rw [kind_take (x :: r' ++ [c]) (wordN (x :: r' ++ [c])) (by rw [hw2]; omega) (by rw [hw2]; simp) (by rw [hw2]; omega)]
        exact ⟨Nat.le_refl _, h1.2⟩
      have hx2 := next_word x (r' ++ [c]) (a + n) h34 hsg
      rw [if_neg (by exact hk2)] at hx2
      have hj2 : (isWordB (kindI ((x :: (r' ++ [c])).take (wordN (x :: (r' ++ [c]))))) && j && n == 0) = false := by
        rw [show isWordB (kindI ((x :: (r' ++ [c])).take (wordN (x :: (r' ++ [c]))))) = true from kind_isWord _ hk2, ← hw]; exact hj
      right
      rw [tk_more hsk hdr (by simp) hx2 hj2]
      show (tk (List.drop (a + n + wordN (x :: (r' ++ [c])) - (a + n)) (x :: r' ++ [c])) _ _).far = _
      rw [show wordN (x :: (r' ++ [c])) = (x :: r').length + 1 from hw2, List.drop_of_length_le (by simp), tk_end (n := 0) rfl (Nat.zero_le _)]
      show a + n + ((x :: r').length + 1) + 0 = _
      omega
    · have hx2 : nextT (l1 ++ [c]) (a + n) = (t, true) := by
        have := next_cut h1 hx (l1.drop (t.end_ - (a + n)) ++ [c]) (fun hw => by
          cases hd : l1.drop (t.end_ - (a + n)) with
          | nil =>
            by_cases hs : Stops l1 [c]
            · exact hs
            · exact absurd ⟨hw, hd, hs⟩ hgrow
          | cons x r' =>
            have hs := stops_self l1 1
            rw [← next_stops h1 hx hw, hd] at hs
            rcases hs with h | h
            · exact .inl h
            · exact .inr (fun y hy => h y (by simpa using hy)))
        rw [← List.append_assoc, List.take_append_drop] at this
        exact this
      rw [tk_more hsk hdr (ne_nil_append h1) hx2 hj, drop_append_lt _ _ _ (by omega)]
      have h := ih hok
      rw [show t.end_ + (l1.drop (t.end_ - (a + n))).length = a + l.length from by rw [List.length_drop]; omega] at h
      exact h

/-- no row: more behind it goes as far -/
theorem tk_byteNo (m : Bs) (l : Bs) (a : Nat) (j : Bool) : (tk l a j).ok = false → (tk l a j).far ≤ (tk (l ++ m) a j).far := by
  refine tk_ind (P := fun l a j r => r.ok = false → r.far ≤ (tk (l ++ m) a j).far) ?_ ?_ ?_ ?_ l a j
  · intro l a j h hk; cases hk
  · intro l a t wh hn h1 hx hw _; exact (tk_far _ _ _).1
  · intro l a j n l1 t hn hl1 h1 hlt hx _
    have hf := next_facts h1 hx
    have hlen1 : l1.length = l.length - n := by rw [← hl1, List.length_drop]
    have hdr : (l ++ m).drop n = l1 ++ m := by rw [drop_append_lt _ _ _ (by omega), hl1]
    have hsk : skipN false (l ++ m) = n := by rw [skip_cut _ _ _ (by omega)]; exact hn
    show ite _ _ _ ≤ _
    cases hx2 : nextT (l1 ++ m) (a + n) with
    | mk t2 wh2 =>
      have hf2 := next_facts (ne_nil_append h1) hx2
      by_cases hk : t.kind = 0
      · rw [if_pos hk]
        cases wh2 with
        | false =>
          rw [tk_open hsk hdr (ne_nil_append h1) hx2]
          show _ ≤ ite _ _ _
          by_cases hk2 : t2.kind = 0
          · rw [if_pos hk2]; exact Nat.le_refl _
          · rw [if_neg hk2]; have := hf2.lo hk2; omega
        | true =>
          by_cases hj : (isWordB t2.kind && j && n == 0) = true
          · simp only [Bool.and_eq_true, beq_iff_eq] at hj
            have := (tk_far (l ++ m) a j).1; omega
          · rw [tk_more hsk hdr (ne_nil_append h1) hx2 (by simpa using hj)]
            have h1 := (tk_far ((l1 ++ m).drop (t2.end_ - (a + n))) t2.end_ (isWordB t2.kind)).1
            have h2 := hf2.lo (hf2.whole rfl)
            show _ ≤ (tk ((l1 ++ m).drop (t2.end_ - (a + n))) t2.end_ (isWordB t2.kind)).far
            omega
      · rw [if_neg hk]
        have hm := next_openMore h1 hx hk m
        rw [hx2] at hm
        have hk2 : t2.kind ≠ 0 := by rw [hm.1]; exact hk
        have hw2 : isWordB t2.kind = false := by rw [show t2.kind = t.kind from hm.1]; exact hf.notword rfl
        have h3 : t.end_ ≤ t2.end_ := hm.2
        cases wh2 with
        | false =>
          rw [tk_open hsk hdr (ne_nil_append h1) hx2]
          show _ ≤ ite _ _ _
          rw [if_neg hk2]; exact h3
        | true =>
          rw [tk_more hsk hdr (ne_nil_append h1) hx2 (by rw [hw2]; rfl)]
          have h1 := (tk_far ((l1 ++ m).drop (t2.end_ - (a + n))) t2.end_ (isWordB t2.kind)).1
          show _ ≤ (tk ((l1 ++ m).drop (t2.end_ - (a + n))) t2.end_ (isWordB t2.kind)).far
          omega
  · intro l a j n l1 t r hn hl1 h1 hlt hx hj hr hlo hhi ih hok
    have hlen1 : l1.length = l.length - n := by rw [← hl1, List.length_drop]
    have hdr : (l ++ m).drop n = l1 ++ m := by rw [drop_append_lt _ _ _ (by omega), hl1]
    have hsk : skipN false (l ++ m) = n := by rw [skip_cut _ _ _ (by omega)]; exact hn
    have hx2 : nextT (l1 ++ m) (a + n) = (t, true) := by
      have := next_cut h1 hx (l1.drop (t.end_ - (a + n)) ++ m) (fun hw => by
        cases hd : l1.drop (t.end_ - (a + n)) with
        | nil =>
          rw [hd] at hr
          have : r.ok = true := by rw [hr, tk_end (n := 0) rfl (Nat.zero_le _)]
          rw [this] at hok; cases hok
        | cons x r' =>
          have hs := stops_self l1 1
          rw [← next_stops h1 hx hw, hd] at hs
          rcases hs with h | h
          · exact .inl h
          · exact .inr (fun y hy => h y (by simpa using hy)))
      rw [← List.append_assoc, List.take_append_drop] at this
      exact this
    rw [tk_more hsk hdr (ne_nil_append h1) hx2 hj, drop_append_lt _ _ _ (by omega)]
    exact ih hok

end Go.Proofs.YtclioihichcpiaaDoor.Lx
