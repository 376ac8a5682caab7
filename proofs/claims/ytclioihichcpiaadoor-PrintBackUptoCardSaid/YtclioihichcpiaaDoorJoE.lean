/- strings, plain: by their pieces; cut, and with more behind them. -/
import Derived.Test.YtclioihichcpiaaDoorJoA
import Derived.Test.YtclioihichcpiaaDoorJoB
import Derived.Test.YtclioihichcpiaaDoorJoC
import Derived.Test.YtclioihichcpiaaDoorJoD
import Derived.Test.YtclioihichcpiaaDoorProg
import Derived.Test.YtclioihichcpiaaDoorBase
import Derived.Test.YtclioihichcpiaaDoorBytes
import Derived.Deep.RegionWith
import Derived.BigRegion
namespace Go.Proofs.YtclioihichcpiaaDoor.Lx

theorem quoS_end (n : Nat) : quoS [] n = ([], 0, false) := rfl
theorem quoS_esc (d : UInt8) (n : Nat) (h : bi d = 34 ∨ bi d = 92 ∨ bi d = 110 ∨ bi d = 116) :
    ∃ b, ∀ r, quoS (d :: r) n = (b :: (quo r (n + 1)).1, (quo r (n + 1)).2.1 + 1, (quo r (n + 1)).2.2) := by
  by_cases h1 : bi d = 34 ∨ bi d = 92
  · exact ⟨d, fun r => by simp only [quoS]; rw [if_pos h1]⟩
  by_cases h2 : bi d = 110
  · exact ⟨10, fun r => by simp only [quoS]; rw [if_neg h1, if_pos h2]⟩
  by_cases h3 : bi d = 116
  · exact ⟨9, fun r => by simp only [quoS]; rw [if_neg h1, if_neg h2, if_pos h3]⟩
  · omega
theorem quoS_x (d : UInt8) (r : Bs) (n : Nat) (h : bi d = 120) : quoS (d :: r) n = ((quoF r n).1, (quoF r n).2.1 + 1, (quoF r n).2.2) := by
  simp only [quoS]; rw [if_neg (by omega), if_neg (by omega), if_neg (by omega), if_pos h]
theorem quoS_bad (d : UInt8) (r : Bs) (n : Nat) (h : ¬ (bi d = 34 ∨ bi d = 92 ∨ bi d = 110 ∨ bi d = 116 ∨ bi d = 120)) : quoS (d :: r) n = ([], 0, false) := by
  simp only [quoS]; rw [if_neg (by omega), if_neg (by omega), if_neg (by omega), if_neg (by omega)]
theorem quoF_end' (c : UInt8) (m : Bs) (n : Nat) (h : ¬ halfI (bi c) < 0) : 1 ≤ (quoF (c :: m) n).2.1 := by
  cases m with
  | nil => rw [quoF_end c n h]; exact Nat.le_refl _
  | cons d r =>
    by_cases h2 : halfI (bi d) < 0
    · rw [quoF_bad2 c d r n h h2]; exact Nat.le_refl _
    · rw [quoF_ok c d r n _ _ rfl rfl h h2]; show 1 ≤ _ + 2; omega

/-- strings by their pieces -/
theorem quo_ind {P : Bs → Nat → Bs × Nat × Bool → Prop}
    (q34 : ∀ c r n, (∀ r, quo (c :: r) n = ([], 1, true)) → P (c :: r) n ([], 1, true))
    (step : ∀ (p r : Bs) n b, (∀ r, quo (p ++ r) n = (b :: (quo r (n + 1)).1, (quo r (n + 1)).2.1 + p.length, (quo r (n + 1)).2.2)) → P r (n + 1) (quo r (n + 1)) →
      P (p ++ r) n (b :: (quo r (n + 1)).1, (quo r (n + 1)).2.1 + p.length, (quo r (n + 1)).2.2))
    (stop : ∀ (p r : Bs) n, quo p n = ([], p.length, false) → (∀ m, p.length ≤ (quo (p ++ m) n).2.1) → (∀ m, r ≠ [] → quo (p ++ r ++ m) n = ([], p.length, false)) → P (p ++ r) n ([], p.length, false)) :
    ∀ l n, P l n (quo l n) := by
  intro l
  induction hlen : l.length using Nat.strongRecOn generalizing l with
  | ind N ih =>
    intro n
    have stepq : ∀ (p r : Bs) b, l = p ++ r → p ≠ [] → (∀ r, quo (p ++ r) n = (b :: (quo r (n + 1)).1, (quo r (n + 1)).2.1 + p.length, (quo r (n + 1)).2.2)) → P l n (quo l n) := by
      intro p r b hl hp hq
      subst hl
      rw [hq r]
      refine step p r n b hq (ih _ ?_ r rfl (n + 1))
      have := List.length_pos_iff.2 hp
      rw [← hlen, List.length_append]; omega
    have stopq : ∀ (p r : Bs), l = p ++ r → quo p n = ([], p.length, false) → (∀ m, p.length ≤ (quo (p ++ m) n).2.1) → (∀ m, r ≠ [] → quo (p ++ r ++ m) n = ([], p.length, false)) → P l n (quo l n) := by
      intro p r hl h1 h2 h3
      subst hl
      have h4 : quo (p ++ r) n = ([], p.length, false) := by
        cases r with
        | nil => rw [List.append_nil]; exact h1
        | cons x r => have := h3 [] (by simp); rwa [List.append_nil] at this
      rw [h4]
      exact stop p r n h1 h2 h3
    cases l with
    | nil => exact stopq [] [] rfl (quo_nil n) (fun m => Nat.zero_le _) (fun m h => absurd rfl h)
    | cons c r =>
      by_cases h34 : bi c = 34
      · have hq : ∀ r, quo (c :: r) n = ([], 1, true) := fun r => quo_34 c r n h34
        rw [hq r]; exact q34 c r n hq
      by_cases hb : n = 1024 ∨ bi c < 32 ∨ 126 < bi c
      · refine stopq [] (c :: r) rfl (quo_nil n) (fun m => Nat.zero_le _) (fun m _ => ?_)
        exact quo_bad c (r ++ m) n h34 hb
      by_cases h92 : bi c = 92
      · have hn : ¬ n = 1024 := by omega
        have e92 := fun r => quo_92 c r n h92 hn
        have one : ∀ m, 1 ≤ (quo (c :: m) n).2.1 := fun m => by rw [e92]; show 1 ≤ _ + 1; omega
        cases r with
        | nil => exact stopq [c] [] rfl (by rw [e92]; rfl) one (fun m h => absurd rfl h)
        | cons d r =>
          by_cases hd : bi d = 34 ∨ bi d = 92 ∨ bi d = 110 ∨ bi d = 116
          · obtain ⟨b, hb⟩ := quoS_esc d n hd
            exact stepq [c, d] r b rfl (by simp) (fun r => by show quo (c :: d :: r) n = _; rw [e92, hb]; rfl)
          by_cases h120 : bi d = 120
          · have ex := fun r => quoS_x d r n h120
            have two : ∀ m, 2 ≤ (quo (c :: d :: m) n).2.1 := fun m => by rw [e92, ex]; show 2 ≤ _ + 1 + 1; omega
            cases r with
            | nil => exact stopq [c, d] [] rfl (by rw [e92, ex]; rfl) two (fun m h => absurd rfl h)
            | cons h1 r =>
              by_cases hh1 : halfI (bi h1) < 0
              · refine stopq [c, d] (h1 :: r) rfl (by rw [e92, ex]; rfl) two (fun m _ => ?_)
                show quo (c :: d :: h1 :: (r ++ m)) n = _
                rw [e92, ex, quoF_bad _ _ _ hh1]; rfl
              · have three : ∀ m, 3 ≤ (quo (c :: d :: h1 :: m) n).2.1 := fun m => by
                  rw [e92, ex]; have := quoF_end' h1 m n hh1; show 3 ≤ _ + 1 + 1; omega
                have three' : quo [c, d, h1] n = ([], 3, false) := by rw [e92, ex, quoF_end _ _ hh1]
                cases r with
                | nil => exact stopq [c, d, h1] [] rfl three' three (fun m h => absurd rfl h)
                | cons h2 r =>
                  by_cases hh2 : halfI (bi h2) < 0
                  · refine stopq [c, d, h1] (h2 :: r) rfl three' three (fun m _ => ?_)
                    show quo (c :: d :: h1 :: h2 :: (r ++ m)) n = _
                    rw [e92, ex, quoF_bad2 _ _ _ _ hh1 hh2]; rfl
                  · exact stepq [c, d, h1, h2] r _ rfl (by simp) (fun r => by show quo (c :: d :: h1 :: h2 :: r) n = _; rw [e92, ex, quoF_ok _ _ _ _ _ _ rfl rfl hh1 hh2]; rfl)
          · refine stopq [c] (d :: r) rfl (by rw [e92]; rfl) one (fun m _ => ?_)
            show quo (c :: d :: (r ++ m)) n = _
            rw [e92, quoS_bad _ _ _ (by omega)]; rfl
      · exact stepq [c] r c rfl (by simp) (fun r => by show quo (c :: r) n = _; rw [quo_chr _ _ _ h34 hb h92]; rfl)

theorem quo_far (l : Bs) (n : Nat) : (quo l n).2.1 ≤ l.length := by
  refine quo_ind (P := fun l _ q => q.2.1 ≤ l.length) ?_ ?_ ?_ l n
  · intro c r n _; show 1 ≤ _; simp
  · intro p r n b _ ih; show _ + p.length ≤ _; rw [List.length_append]; omega
  · intro p r n _ _ _; show p.length ≤ _; rw [List.length_append]; omega
theorem take_plus (p r : Bs) (k : Nat) : (p ++ r).take (k + p.length) = p ++ r.take k := by
  rw [List.take_append, List.take_of_length_le (by omega), show k + p.length - p.length = k from by omega]
/-- a whole string is read the same, whatever stands behind it -/
theorem quo_whole (m : Bs) (l : Bs) (n : Nat) : (quo l n).2.2 = true → quo (l.take (quo l n).2.1 ++ m) n = quo l n := by
  refine quo_ind (P := fun l n q => q.2.2 = true → quo (l.take q.2.1 ++ m) n = q) ?_ ?_ ?_ l n
  · intro c r n h _; exact h _
  · intro p r n b h ih hk
    show quo ((p ++ r).take (_ + p.length) ++ m) n = _
    rw [take_plus, List.append_assoc, h, ih hk]
  · intro p r n _ _ _ h; cases h
/-- cut where it goes no further, an open string is open there -/
theorem quo_open (l : Bs) (n : Nat) : (quo l n).2.2 = false → (quo (l.take (quo l n).2.1) n).2.1 = (quo l n).2.1 ∧ (quo (l.take (quo l n).2.1) n).2.2 = false := by
  refine quo_ind (P := fun l n q => q.2.2 = false → (quo (l.take q.2.1) n).2.1 = q.2.1 ∧ (quo (l.take q.2.1) n).2.2 = false) ?_ ?_ ?_ l n
  · intro c r n _ h; cases h
  · intro p r n b h ih hk
    show (quo ((p ++ r).take (_ + p.length)) n).2.1 = _ + p.length ∧ (quo ((p ++ r).take (_ + p.length)) n).2.2 = false
    rw [take_plus, h]
    have := ih hk
    exact ⟨by show _ + p.length = _; rw [this.1], this.2⟩
  · intro p r n h _ _ _
    show (quo ((p ++ r).take p.length) n).2.1 = p.length ∧ (quo ((p ++ r).take p.length) n).2.2 = false
    rw [List.take_left, h]; exact ⟨rfl, rfl⟩
theorem quo_more (m : Bs) (l : Bs) (n : Nat) : (quo l n).2.1 ≤ (quo (l ++ m) n).2.1 := by
  refine quo_ind (P := fun l n q => q.2.1 ≤ (quo (l ++ m) n).2.1) ?_ ?_ ?_ l n
  · intro c r n h; rw [List.cons_append, h]; exact Nat.le_refl _
  · intro p r n b h ih
    rw [List.append_assoc, h]; show _ + p.length ≤ _ + p.length; omega
  · intro p r n _ h _; rw [List.append_assoc]; exact h _

end Go.Proofs.YtclioihichcpiaaDoor.Lx


/- tokens: plain laws on the next token and on all of them. -/
namespace Go.Proofs.YtclioihichcpiaaDoor.Lx

/-! ### skipping -/
theorem skip_cut : ∀ (b : Bool) (l m : Bs), skipN b l < l.length → skipN b (l ++ m) = skipN b l
  | _, [], _, h => by simp at h
  | true, c :: r, m, h => by
    rw [skipN, List.length_cons] at h
    rw [List.cons_append, skipN, skipN, skip_cut _ r m (by omega)]
  | false, c :: r, m, h => by
    rw [List.cons_append, skipN, skipN]
    rw [skipN, List.length_cons] at h
    by_cases h1 : bi c = 37
    · rw [if_pos h1] at h
      rw [if_pos h1, if_pos h1, skip_cut _ r m (by omega)]
    · rw [if_neg h1] at h
      rw [if_neg h1, if_neg h1]
      by_cases h2 : blankB (bi c) = true
      · rw [if_pos h2] at h
        rw [if_pos h2, if_pos h2, skip_cut _ r m (by omega)]
      · rw [if_neg h2, if_neg h2]
theorem skip_take (b : Bool) (l : Bs) (k : Nat) : skipN b l ≤ k → skipN b (l.take k) = skipN b l := by
  induction l generalizing b k with
  | nil => intro _; simp
  | cons c r ih =>
    intro h
    cases k with
    | zero =>
      have : skipN b (c :: r) = 0 := by omega
      rw [this]; cases b <;> rfl
    | succ k =>
      rw [List.take_succ_cons]
      cases b
      · rw [skipN] at h ⊢
        rw [skipN]
        by_cases h1 : bi c = 37
        · rw [if_pos h1] at h ⊢; rw [if_pos h1, ih _ _ (by omega)]
        · rw [if_neg h1] at h ⊢; rw [if_neg h1]
          by_cases h2 : blankB (bi c) = true
          · rw [if_pos h2] at h ⊢; rw [if_pos h2, ih _ _ (by omega)]
          · rw [if_neg h2, if_neg h2]
      · rw [skipN] at h ⊢
        rw [skipN, ih _ _ (by omega)]
/-- blanks to the end, a byte 10 behind them -/
theorem skip_ten (b : Bool) (l m : Bs) : skipN b l = l.length → skipN b (l ++ 10 :: m) = l.length + 1 + skipN false m := by
  induction l generalizing b with
  | nil =>
    intro _
    cases b
    · show skipN false (10 :: m) = _
      rw [skipN, if_neg (by decide), if_pos (by decide)]; simp
    · show skipN true (10 :: m) = _
      rw [skipN]; simp [bi]
  | cons c r ih =>
    have hr := fun b => skip_le' b r
    intro h
    rw [List.cons_append]
    cases b
    · rw [skipN] at h ⊢
      by_cases h1 : bi c = 37
      · rw [if_pos h1] at h ⊢; rw [ih _ (by simp at h; omega)]; simp; omega
      · rw [if_neg h1] at h ⊢
        by_cases h2 : blankB (bi c) = true
        · rw [if_pos h2] at h ⊢; rw [ih _ (by simp at h; omega)]; simp; omega
        · rw [if_neg h2] at h; simp at h
    · rw [skipN] at h ⊢
      rw [ih _ (by simp at h; omega)]; simp; omega
where
  skip_le' : ∀ (r : Bool) (l : Bs), skipN r l ≤ l.length
  | r, [] => by cases r <;> simp [skipN]
  | true, c :: l => by rw [skipN, List.length_cons]; have := skip_le' (!(bi c == 10)) l; omega
  | false, c :: l => by
    rw [skipN, List.length_cons]; split
    · have := skip_le' true l; omega
    · split
      · have := skip_le' false l; omega
      · omega

/-! ### words -/
theorem takeWhile_stop {α} (p : α → Bool) : ∀ l : List α, ∀ c ∈ (l.drop (l.takeWhile p).length).head?, p c = false
  | [], c, h => by simp at h
  | x :: r, c, h => by
    rw [List.takeWhile_cons] at h
    cases hp : p x
    · rw [hp] at h; simp at h; rw [← h]; exact hp
    · rw [hp] at h; simp at h; exact takeWhile_stop p r c (by simpa using h)
theorem takeWhile_append_all {α} (p : α → Bool) (xs ys : List α) (h : xs.all p = true) : (xs ++ ys).takeWhile p = xs ++ ys.takeWhile p := by
  induction xs with
  | nil => rfl
  | cons x r ih =>
    simp only [List.all_cons, Bool.and_eq_true] at h
    rw [List.cons_append, List.takeWhile_cons, h.1, if_pos rfl, ih h.2]; rfl
def Stops (l m : Bs) : Prop := wordN l = 64 ∨ ∀ c ∈ m.head?, wpred (firstB digitB l) c = false
theorem stops_nil (l : Bs) : Stops l [] := .inr (by simp)
theorem stops_self (l : Bs) (k : Nat) : Stops l ((l.drop (wordN l)).take k) := by
  by_cases h : wordN l = 64
  · exact .inl h
  refine .inr fun c hc => ?_
  have hle := wordN_le l
  have hs := takeWhile_stop (wpred (firstB digitB l)) (l.take 64) c
  rw [← wordN_pred] at hs
  refine hs ?_
  rw [List.drop_take]
  cases k with
  | zero => simp at hc
  | succ k =>
    rw [show 64 - wordN l = (63 - wordN l) + 1 from by omega]
    revert hc
    cases l.drop (wordN l) <;> simp
theorem word_all (l : Bs) : (l.take (wordN l)).all (wpred (firstB digitB l)) = true := by
  have hle := wordN_le l
  rw [all_take_iff _ l (wordN l) 64 hle.2 hle.1, ← wordN_pred]; exact Nat.le_refl _
theorem wordN_cut (l m : Bs) (hk : 1 ≤ wordN l) (hs : Stops l m) : wordN (l.take (wordN l) ++ m) = wordN l := by
  have hle := wordN_le l
  have hf : firstB digitB (l.take (wordN l) ++ m) = firstB digitB l := by
    cases l with
    | nil => simp at hle; omega
    | cons c r => rw [show wordN (c :: r) = (wordN (c :: r) - 1) + 1 from by omega]; rfl
  rw [wordN_pred (l.take (wordN l) ++ m), hf]
  have hlen : (l.take (wordN l)).length = wordN l := by simp; omega
  rw [List.take_append, hlen, List.take_of_length_le (by omega), takeWhile_append_all _ _ _ (word_all l), List.length_append, hlen]
  have : (m.take (64 - wordN l)).takeWhile (wpred (firstB digitB l)) = [] := by
    rcases hs with h | h
    · rw [h]; simp
    · cases m with
      | nil => simp
      | cons c r =>
        have hc := h c (by simp)
        cases 64 - wordN l with
        | zero => simp
        | succ n => rw [List.take_succ_cons, List.takeWhile_cons, hc]; rfl
  rw [this]; simp
theorem take_cut (l m : Bs) (k : Nat) (h : k ≤ l.length) : (l.take k ++ m).take k = l.take k := by
  rw [List.take_append, List.take_take]; simp [List.length_take]; omega
theorem kind_isWord (l : Bs) (h : kindI l ≠ 0) : isWordB (kindI l) = true := by
  unfold kindI at *
  by_cases e1 : l = sInput
  · rw [if_pos e1]; decide
  by_cases e2 : l = sOutput
  · rw [if_neg e1, if_pos e2]; decide
  by_cases e3 : l = sNot
  · rw [if_neg e1, if_neg e2, if_pos e3]; decide
  rw [if_neg e1, if_neg e2, if_neg e3] at h ⊢
  revert h; cases numberB l <;> cases variableB l <;> cases nameB l <;> simp <;> decide

/-! ### the next token -/
theorem signI_ge {c k d : Int} {n : Nat} (h : signI c = some (k, n, d)) : 8 ≤ k := by
  unfold signI at h
  repeat' split at h
  all_goals (first | (injection h with h; injection h with h _; omega) | cases h)

inductive Next (a : Nat) : Bs → Tok × Bool → Prop
  | str (c r) : bi c = 34 → Next a (c :: r) (⟨4, if (quo r 0).2.2 then (quo r 0).1 else [], a, a + 1 + (quo r 0).2.1⟩, (quo r 0).2.2)
  | sign1 (c r k) : ¬ bi c = 34 → signI (bi c) = some (k, 1, 0) → 8 ≤ k → Next a (c :: r) (⟨k, [], a, a + 1⟩, true)
  | sign2 (c x r k) : ¬ bi c = 34 → signI (bi c) = some (k, 2, bi x) → 8 ≤ k → Next a (c :: x :: r) (⟨k, [], a, a + 2⟩, true)
  | half (c r k d) : ¬ bi c = 34 → signI (bi c) = some (k, 2, d) → 8 ≤ k → firstB (fun y => decide (y = d)) r = false → Next a (c :: r) (⟨k, [], a, a + 1⟩, false)
  | no (c r) : ¬ bi c = 34 → signI (bi c) = none → kindI ((c :: r).take (wordN (c :: r))) = 0 → Next a (c :: r) (zeroTok, false)
  | word (c r) : ¬ bi c = 34 → signI (bi c) = none → kindI ((c :: r).take (wordN (c :: r))) ≠ 0 →
      Next a (c :: r) (⟨kindI ((c :: r).take (wordN (c :: r))), if reservedB ((c :: r).take (wordN (c :: r))) then [] else (c :: r).take (wordN (c :: r)), a, a + wordN (c :: r)⟩, true)

theorem Next.of (l : Bs) (a : Nat) (h : l ≠ []) : Next a l (nextT l a) := by
  cases l with
  | nil => exact absurd rfl h
  | cons c r =>
    by_cases h34 : bi c = 34
    · rw [next_str c r a h34]; exact .str c r h34
    rcases signI_cases (bi c) with hs | ⟨k, hs, _⟩ | ⟨k, d, hs, _⟩
    · rw [next_word c r a h34 hs]
      by_cases hk : kindI ((c :: r).take (wordN (c :: r))) = 0
      · rw [if_pos hk]; exact .no c r h34 hs hk
      · rw [if_neg hk]; exact .word c r h34 hs hk
    · rw [next_sign1 c r a k 0 h34 hs]; exact .sign1 c r k h34 hs (signI_ge hs)
    · by_cases hd : firstB (fun y => decide (y = d)) r = true
      · cases r with
        | nil => cases hd
        | cons x r =>
          have hx : bi x = d := by simpa [firstB] using hd
          rw [next_sign2 c x r a k d h34 hs hx]
          subst hx
          exact .sign2 c x r k h34 hs (signI_ge hs)
      · have hd' : firstB (fun y => decide (y = d)) r = false := by simpa using hd
        rw [next_sign2n c r a k d h34 hs hd']; exact .half c r k d h34 hs (signI_ge hs) hd'

theorem isWordB_big {k : Int} (h : 8 ≤ k) : isWordB k = false := by unfold isWordB; simp; omega
theorem wordN_pos {l : Bs} (h : kindI (l.take (wordN l)) ≠ 0) : 1 ≤ wordN l := by
  rcases Nat.eq_zero_or_pos (wordN l) with h0 | h0
  · exact absurd (by rw [h0]; rfl) h
  · exact h0

structure NextFacts (l : Bs) (a : Nat) (t : Tok) (wh : Bool) : Prop where
  at_ : t.kind ≠ 0 → t.at_ = a
  lo : t.kind ≠ 0 → a < t.end_
  hi : t.kind ≠ 0 → t.end_ ≤ a + l.length
  whole : wh = true → t.kind ≠ 0
  zero : t.kind = 0 → t = zeroTok
  text : wh = false → t.text = []
  notword : wh = false → isWordB t.kind = false

theorem Next.facts {l : Bs} {a : Nat} {x : Tok × Bool} (h : Next a l x) : NextFacts l a x.1 x.2 := by
  cases h with
  | str c r h34 =>
    have := quo_far r 0
    exact ⟨fun _ => rfl, fun _ => (by show _ < _ + 1 + _; omega), fun _ => (by show _ + 1 + _ ≤ _; simp; omega), fun _ => (by show (4 : Int) ≠ 0; decide), fun h => absurd h (by show ¬ (4 : Int) = 0; decide), fun h => (by simp_all), fun _ => rfl⟩
  | sign1 c r k h34 hs hk => exact ⟨fun _ => rfl, fun _ => (by show _ < _ + 1; omega), fun _ => (by show _ + 1 ≤ _; simp), fun _ => (by show k ≠ 0; omega), fun h => absurd h (by show ¬ k = 0; omega), fun h => (by cases h), fun h => (by cases h)⟩
  | sign2 c x r k h34 hs hk => exact ⟨fun _ => rfl, fun _ => (by show _ < _ + 2; omega), fun _ => (by show _ + 2 ≤ _; simp), fun _ => (by show k ≠ 0; omega), fun h => absurd h (by show ¬ k = 0; omega), fun h => (by cases h), fun h => (by cases h)⟩
  | half c r k d h34 hs hk hd => exact ⟨fun _ => rfl, fun _ => (by show _ < _ + 1; omega), fun _ => (by show _ + 1 ≤ _; simp), fun h => (by cases h), fun h => absurd h (by show ¬ k = 0; omega), fun _ => rfl, fun _ => isWordB_big hk⟩
  | no c r h34 hs hk => exact ⟨fun h => absurd rfl h, fun h => absurd rfl h, fun h => absurd rfl h, fun h => (by cases h), fun _ => rfl, fun _ => rfl, fun _ => rfl⟩
  | word c r h34 hs hk =>
    have h1 := wordN_pos hk
    have h2 := wordN_le (c :: r)
    exact ⟨fun _ => rfl, fun _ => (by show _ < _ + _; omega), fun _ => (by show _ + _ ≤ _; omega), fun _ => hk, fun h => absurd h hk, fun h => (by cases h), fun h => (by cases h)⟩

theorem next_facts {l : Bs} {a : Nat} {t : Tok} {wh : Bool} (hl : l ≠ []) (h : nextT l a = (t, wh)) : NextFacts l a t wh := by
  have := (Next.of l a hl).facts; rw [h] at this; exact this

def moveT (d : Nat) (t : Tok) : Tok := if t.kind = 0 then t else ⟨t.kind, t.text, t.at_ + d, t.end_ + d⟩
theorem moveT_ne (d : Nat) (t : Tok) (h : ¬ t.kind = 0) : moveT d t = ⟨t.kind, t.text, t.at_ + d, t.end_ + d⟩ := if_neg h
theorem next_move (l : Bs) (a d : Nat) : nextT l (a + d) = (moveT d (nextT l a).1, (nextT l a).2) := by
  cases l with
  | nil => rfl
  | cons c r =>
    have h := Next.of (c :: r) a (by simp)
    generalize hx : nextT (c :: r) a = x at h
    cases h with
    | str _ _ h34 => rw [next_str c r _ h34]; rw [moveT_ne _ _ (by show ¬ (4 : Int) = 0; decide)]; simp; omega
    | sign1 _ _ k h34 hs hk => rw [next_sign1 c r _ k 0 h34 hs]; rw [moveT_ne _ _ (by show ¬ k = 0; omega)]; simp; omega
    | sign2 _ x r k h34 hs hk => rw [next_sign2 c x r _ k _ h34 hs rfl]; rw [moveT_ne _ _ (by show ¬ k = 0; omega)]; simp; omega
    | half _ _ k d h34 hs hk hd => rw [next_sign2n c r _ k d h34 hs hd]; rw [moveT_ne _ _ (by show ¬ k = 0; omega)]; simp; omega
    | no _ _ h34 hs hk => rw [next_word c r _ h34 hs, if_pos hk]; rfl
    | word _ _ h34 hs hk => rw [next_word c r _ h34 hs, if_neg hk]; rw [moveT_ne _ _ hk]; simp; omega

/-- a whole token is read the same, whatever stands behind it, if a word ends there -/
theorem next_cut {l : Bs} {a : Nat} {t : Tok} (hl : l ≠ []) (h : nextT l a = (t, true)) (m : Bs) (hst0 : isWordB t.kind = true → Stops l m) : nextT (l.take (t.end_ - a) ++ m) a = (t, true) := by
  have hx := Next.of l a hl
  rw [h] at hx
  generalize hy : (t, true) = y at hx
  cases hx with
  | str c r h34 =>
    injection hy with h1 h2
    subst h1
    have e : a + 1 + (quo r 0).2.1 - a = (quo r 0).2.1 + 1 := by omega
    show nextT (List.take (a + 1 + (quo r 0).2.1 - a) (c :: r) ++ m) a = _
    rw [e, List.take_succ_cons, List.cons_append, next_str _ _ _ h34, quo_whole m r 0 h2.symm, ← h2]
  | sign1 c r k h34 hs hk =>
    injection hy with h1 h2
    subst h1
    show nextT (List.take (a + 1 - a) (c :: r) ++ m) a = _
    rw [show a + 1 - a = 1 from by omega]
    exact next_sign1 c _ a k 0 h34 hs
  | sign2 c x r k h34 hs hk =>
    injection hy with h1 h2
    subst h1
    show nextT (List.take (a + 2 - a) (c :: x :: r) ++ m) a = _
    rw [show a + 2 - a = 2 from by omega]
    exact next_sign2 c x _ a k _ h34 hs rfl
  | half c r k d h34 hs hk hd => injection hy with h1 h2; cases h2
  | no c r h34 hs hk => injection hy with h1 h2; cases h2
  | word c r h34 hsg hk =>
    injection hy with h1 h2
    subst h1
    show nextT (List.take (a + wordN (c :: r) - a) (c :: r) ++ m) a = _
    have h1 := wordN_pos hk
    have h2 := wordN_le (c :: r)
    have hst := hst0 (kind_isWord _ hk)
    have e : a + wordN (c :: r) - a = wordN (c :: r) := by omega
    rw [e]
    have hc := wordN_cut (c :: r) m h1 hst
    have ht := take_cut (c :: r) m (wordN (c :: r)) h2.1
    obtain ⟨r', hr'⟩ : ∃ r', List.take (wordN (c :: r)) (c :: r) ++ m = c :: r' := by
      rw [show wordN (c :: r) = (wordN (c :: r) - 1) + 1 from by omega]; exact ⟨_, rfl⟩
    rw [hr'] at hc ht ⊢
    rw [next_word c r' a h34 hsg, hc, ht, if_neg hk]

theorem next_stops {l : Bs} {a : Nat} {t : Tok} (hl : l ≠ []) (h : nextT l a = (t, true)) (hw : isWordB t.kind = true) : t.end_ - a = wordN l := by
  have hx := Next.of l a hl
  rw [h] at hx
  generalize hy : (t, true) = y at hx
  cases hx with
  | str c r h34 => injection hy with h1 h2; subst h1; cases hw
  | sign1 c r k h34 hs hk => injection hy with h1 h2; subst h1; rw [isWordB_big hk] at hw; cases hw
  | sign2 c x r k h34 hs hk => injection hy with h1 h2; subst h1; rw [isWordB_big hk] at hw; cases hw
  | half c r k d h34 hs hk hd => injection hy with h1 h2; cases h2
  | no c r h34 hs hk => injection hy with h1 h2; cases h2
  | word c r h34 hsg hk => injection hy with h1 h2; subst h1; show a + wordN (c :: r) - a = _; omega

/-- an open token that has begun: cut at its end it is open there -/
theorem next_openCut {l : Bs} {a : Nat} {t : Tok} (hl : l ≠ []) (h : nextT l a = (t, false)) (hk0 : t.kind ≠ 0) : nextT (l.take (t.end_ - a)) a = (t, false) := by
  have hx := Next.of l a hl
  rw [h] at hx
  generalize hy : (t, false) = y at hx
  cases hx with
  | str c r h34 =>
    injection hy with h1 h2
    subst h1
    have e : a + 1 + (quo r 0).2.1 - a = (quo r 0).2.1 + 1 := by omega
    show nextT (List.take (a + 1 + (quo r 0).2.1 - a) (c :: r)) a = _
    have hq := quo_open r 0 h2.symm
    rw [e, List.take_succ_cons, next_str _ _ _ h34, hq.1, hq.2, ← h2, if_neg (by decide), if_neg (by decide)]
  | sign1 c r k h34 hs hk => injection hy with h1 h2; cases h2
  | sign2 c x r k h34 hs hk => injection hy with h1 h2; cases h2
  | half c r k d h34 hs hk hd =>
    injection hy with h1 h2
    subst h1
    show nextT (List.take (a + 1 - a) (c :: r)) a = _
    rw [show a + 1 - a = 1 from by omega]
    exact next_sign2n c _ a k d h34 hs rfl
  | no c r h34 hs hk => injection hy with h1 h2; subst h1; exact absurd rfl hk0
  | word c r h34 hsg hk => injection hy with h1 h2; cases h2

/-- more bytes behind an open token: it goes as far, or further -/
theorem next_openMore {l : Bs} {a : Nat} {t : Tok} (hl : l ≠ []) (h : nextT l a = (t, false)) (hk0 : t.kind ≠ 0) (m : Bs) :
    (nextT (l ++ m) a).1.kind = t.kind ∧ t.end_ ≤ (nextT (l ++ m) a).1.end_ := by
  have hx := Next.of l a hl
  rw [h] at hx
  generalize hy : (t, false) = y at hx
  cases hx with
  | str c r h34 =>
    injection hy with h1 h2
    subst h1
    have := quo_more m r 0
    rw [List.cons_append, next_str _ _ _ h34]
    refine ⟨rfl, ?_⟩
    show a + 1 + _ ≤ a + 1 + _
    omega
  | sign1 c r k h34 hs hk => injection hy with h1 h2; cases h2
  | sign2 c x r k h34 hs hk => injection hy with h1 h2; cases h2
  | half c r k d h34 hs hk hd =>
    injection hy with h1 h2
    subst h1
    rw [List.cons_append]
    by_cases hd : firstB (fun y => decide (y = d)) (r ++ m) = true
    · generalize hrm : r ++ m = rm at hd
      cases rm with
      | nil => cases hd
      | cons x r' =>
        rw [next_sign2 c x r' a k d h34 hs (by simpa [firstB] using hd)]
        exact ⟨rfl, by show a + 1 ≤ a + 2; omega⟩
    · rw [next_sign2n c _ a k d h34 hs (by simpa using hd)]
      exact ⟨rfl, Nat.le_refl _⟩
  | no c r h34 hs hk => injection hy with h1 h2; subst h1; exact absurd rfl hk0
  | word c r h34 hsg hk => injection hy with h1 h2; cases h2

end Go.Proofs.YtclioihichcpiaaDoor.Lx


/- tokens: all of them, without fuel, step by step. -/
namespace Go.Proofs.YtclioihichcpiaaDoor.Lx

theorem toks_step (f : Nat) (l : Bs) (a : Nat) (j : Bool) : toks (f + 1) l a j =
    if l.drop (skipN false l) = [] then ⟨[], zeroTok, a + skipN false l, true⟩
    else if (isWordB (nextT (l.drop (skipN false l)) (a + skipN false l)).1.kind && j && skipN false l == 0) = true then ⟨[], zeroTok, a + skipN false l, false⟩
    else if (!(nextT (l.drop (skipN false l)) (a + skipN false l)).2) = true then
      ⟨[], (nextT (l.drop (skipN false l)) (a + skipN false l)).1, if (nextT (l.drop (skipN false l)) (a + skipN false l)).1.kind = 0 then a + skipN false l else (nextT (l.drop (skipN false l)) (a + skipN false l)).1.end_, false⟩
    else { toks f ((l.drop (skipN false l)).drop ((nextT (l.drop (skipN false l)) (a + skipN false l)).1.end_ - (a + skipN false l))) (nextT (l.drop (skipN false l)) (a + skipN false l)).1.end_ (isWordB (nextT (l.drop (skipN false l)) (a + skipN false l)).1.kind) with
      toks := (nextT (l.drop (skipN false l)) (a + skipN false l)).1 :: (toks f ((l.drop (skipN false l)).drop ((nextT (l.drop (skipN false l)) (a + skipN false l)).1.end_ - (a + skipN false l))) (nextT (l.drop (skipN false l)) (a + skipN false l)).1.end_ (isWordB (nextT (l.drop (skipN false l)) (a + skipN false l)).1.kind)).toks } := rfl

theorem toks_fuel : ∀ (f f' : Nat) (l : Bs) (a : Nat) (j : Bool), l.length < f → l.length < f' → toks f l a j = toks f' l a j := by
  intro f
  induction f with
  | zero => intro f' l a j h; omega
  | succ f ih =>
    intro f' l a j h h'
    obtain ⟨f', rfl⟩ : ∃ g, f' = g + 1 := ⟨f' - 1, by omega⟩
    rw [toks_step, toks_step]
    by_cases h1 : l.drop (skipN false l) = []
    · rw [if_pos h1, if_pos h1]
    rw [if_neg h1, if_neg h1]
    split
    · rfl
    split
    · rfl
    rename_i h2 h3
    have hf := next_facts h1 (show nextT (l.drop (skipN false l)) (a + skipN false l) = ((nextT (l.drop (skipN false l)) (a + skipN false l)).1, (nextT (l.drop (skipN false l)) (a + skipN false l)).2) from rfl)
    have hk := hf.whole (by simpa using h3)
    have h4 := hf.lo hk
    have hl : 0 < (l.drop (skipN false l)).length := List.length_pos_iff.2 h1
    have : ((l.drop (skipN false l)).drop ((nextT (l.drop (skipN false l)) (a + skipN false l)).1.end_ - (a + skipN false l))).length < l.length := by
      rw [List.length_drop] at hl
      rw [List.length_drop, List.length_drop]; omega
    rw [ih f' _ _ _ (by omega) (by omega)]

/-- the tokens from the place a on; j: a word ends there -/
def tk (l : Bs) (a : Nat) (j : Bool) : Res := toks (l.length + 1) l a j
theorem tokens_tk (l : Bs) : tokens l = tk l 0 false := rfl

theorem tk_end {l : Bs} {a : Nat} {j : Bool} {n : Nat} (hn : skipN false l = n) (h : l.length ≤ n) : tk l a j = ⟨[], zeroTok, a + n, true⟩ := by
  unfold tk; rw [toks_step, hn, if_pos (List.drop_of_length_le h)]
theorem tk_joint {l : Bs} {a : Nat} {t : Tok} {wh : Bool} (hn : skipN false l = 0) (h1 : l ≠ []) (hx : nextT l a = (t, wh)) (hw : isWordB t.kind = true) : tk l a true = ⟨[], zeroTok, a, false⟩ := by
  unfold tk; rw [toks_step, hn, List.drop_zero, if_neg h1, Nat.add_zero, hx, if_pos (by simp [hw])]
theorem tk_open {l l1 : Bs} {a n : Nat} {j : Bool} {t : Tok} (hn : skipN false l = n) (hl1 : l.drop n = l1) (h1 : l1 ≠ []) (hx : nextT l1 (a + n) = (t, false)) :
    tk l a j = ⟨[], t, if t.kind = 0 then a + n else t.end_, false⟩ := by
  have hw := (next_facts h1 hx).notword rfl
  unfold tk; rw [toks_step, hn, hl1, if_neg h1, hx, if_neg (by simp [hw]), if_pos (by rfl)]
theorem tk_more {l l1 : Bs} {a n : Nat} {j : Bool} {t : Tok} (hn : skipN false l = n) (hl1 : l.drop n = l1) (h1 : l1 ≠ []) (hx : nextT l1 (a + n) = (t, true)) (hj : (isWordB t.kind && j && n == 0) = false) :
    tk l a j = { tk (l1.drop (t.end_ - (a + n))) t.end_ (isWordB t.kind) with toks := t :: (tk (l1.drop (t.end_ - (a + n))) t.end_ (isWordB t.kind)).toks } := by
  have hf := next_facts h1 hx
  have h4 := hf.lo (hf.whole rfl)
  have hl : 0 < l1.length := List.length_pos_iff.2 h1
  have hlen : (l1.drop (t.end_ - (a + n))).length < l.length := by
    rw [← hl1, List.length_drop] at hl
    rw [← hl1, List.length_drop, List.length_drop]; omega
  have e : toks l.length (l1.drop (t.end_ - (a + n))) t.end_ (isWordB t.kind) = tk (l1.drop (t.end_ - (a + n))) t.end_ (isWordB t.kind) := toks_fuel _ _ _ _ _ hlen (by omega)
  rw [← e]
  unfold tk; rw [toks_step, hn, hl1, if_neg h1, hx, if_neg (by simp [hj]), if_neg (by simp)]

theorem tk_ind {P : Bs → Nat → Bool → Res → Prop}
    (hend : ∀ l a j, skipN false l = l.length → P l a j ⟨[], zeroTok, a + l.length, true⟩)
    (hjoint : ∀ l a t wh, skipN false l = 0 → l ≠ [] → nextT l a = (t, wh) → isWordB t.kind = true → P l a true ⟨[], zeroTok, a, false⟩)
    (hopen : ∀ l a j n l1 t, skipN false l = n → l.drop n = l1 → l1 ≠ [] → n < l.length → nextT l1 (a + n) = (t, false) → P l a j ⟨[], t, if t.kind = 0 then a + n else t.end_, false⟩)
    (hmore : ∀ l a j n l1 t r, skipN false l = n → l.drop n = l1 → l1 ≠ [] → n < l.length → nextT l1 (a + n) = (t, true) → (isWordB t.kind && j && n == 0) = false → r = tk (l1.drop (t.end_ - (a + n))) t.end_ (isWordB t.kind) →
      a + n < t.end_ → t.end_ ≤ a + l.length → P (l1.drop (t.end_ - (a + n))) t.end_ (isWordB t.kind) r → P l a j { r with toks := t :: r.toks }) :
    ∀ l a j, P l a j (tk l a j) := by
  intro l
  induction hlen : l.length using Nat.strongRecOn generalizing l with
  | ind N ih =>
    intro a j
    have hle := skip_ten.skip_le' false l
    by_cases hn : skipN false l = l.length
    · rw [tk_end hn (Nat.le_refl _)]; exact hend l a j hn
    have h1 : l.drop (skipN false l) ≠ [] := by
      intro h; have := congrArg List.length h; rw [List.length_drop] at this; simp at this; omega
    cases hx : nextT (l.drop (skipN false l)) (a + skipN false l) with
    | mk t wh =>
      have hf := next_facts h1 hx
      cases wh with
      | false => rw [tk_open rfl rfl h1 hx]; exact hopen l a j _ _ t rfl rfl h1 (by omega) hx
      | true =>
        have hlo := hf.lo (hf.whole rfl)
        have hhi := hf.hi (hf.whole rfl)
        rw [List.length_drop] at hhi
        by_cases hj : (isWordB t.kind && j && skipN false l == 0) = true
        · have hj' := hj
          simp only [Bool.and_eq_true, beq_iff_eq] at hj'
          obtain ⟨⟨hw, rfl⟩, hz⟩ := hj'
          rw [hz, List.drop_zero, Nat.add_zero] at hx
          have hl0 : l ≠ [] := by rintro rfl; simp at h1
          rw [tk_joint hz hl0 hx hw]
          exact hjoint l a t true hz hl0 hx hw
        · have hj' : (isWordB t.kind && j && skipN false l == 0) = false := by simpa using hj
          rw [tk_more rfl rfl h1 hx hj']
          refine hmore l a j _ _ t _ rfl rfl h1 (by omega) hx hj' rfl hlo (by omega) ?_
          exact ih _ (by rw [List.length_drop, List.length_drop]; omega) _ rfl _ _

/-! ### what holds of them -/
theorem tk_far (l : Bs) (a : Nat) (j : Bool) : a ≤ (tk l a j).far ∧ (tk l a j).far ≤ a + l.length ∧ ((tk l a j).ok = true → (tk l a j).far = a + l.length ∧ (tk l a j).open_ = zeroTok) ∧ (tk l a j).toks.length ≤ l.length := by
  refine tk_ind (P := fun l a _ r => a ≤ r.far ∧ r.far ≤ a + l.length ∧ (r.ok = true → r.far = a + l.length ∧ r.open_ = zeroTok) ∧ r.toks.length ≤ l.length) ?_ ?_ ?_ ?_ l a j
  · intro l a j _; exact ⟨by show a ≤ a + _; omega, Nat.le_refl _, fun _ => ⟨rfl, rfl⟩, Nat.zero_le _⟩
  · intro l a t wh _ _ _ _; exact ⟨Nat.le_refl _, by show a ≤ _; omega, fun h => (by cases h), Nat.zero_le _⟩
  · intro l a j n l1 t hn hl1 h1 hlt hx
    have hf := next_facts h1 hx
    refine ⟨?_, ?_, fun h => (by cases h), Nat.zero_le _⟩
    · show a ≤ ite _ _ _
      split
      · omega
      · have := hf.lo ‹_›; omega
    · show ite _ _ _ ≤ _
      split
      · omega
      · have := hf.hi ‹_›; rw [← hl1, List.length_drop] at this; omega
  · intro l a j n l1 t r hn hl1 h1 hlt hx hj hr hlo hhi ⟨i1, i2, i3, i4⟩
    have hlen : (l1.drop (t.end_ - (a + n))).length = a + l.length - t.end_ := by rw [← hl1, List.length_drop, List.length_drop]; omega
    rw [hlen] at i2 i3 i4
    refine ⟨by show a ≤ r.far; omega, by show r.far ≤ _; omega, fun h => ?_, by show r.toks.length + 1 ≤ _; omega⟩
    have := i3 h
    exact ⟨by show r.far = _; omega, this.2⟩

/-! ### the state of a turn: behind the tokens done -/
def glue (done : List Tok) (r : Res) : Res := { r with toks := done ++ r.toks }
theorem glue_nil (r : Res) : glue [] r = r := rfl
theorem glue_more (done : List Tok) (t : Tok) (r : Res) : glue done { r with toks := t :: r.toks } = glue (done ++ [t]) r := by
  unfold glue; simp

end Go.Proofs.YtclioihichcpiaaDoor.Lx


/- lex.Tokens. -/
namespace Go.Proofs.YtclioihichcpiaaDoor
open Go.RowKit Lx

/-- four results, the second in memory -/
theorem results_cellB4 {P : Program} {fn : Func} {p s u v : Tmp} {ty : TypeId} (h : fn.results = #[.tmp s, .cell p ty, .tmp u, .tmp v]) (tmps : Array Value) (w : World) (g : Nat) (t : TypeId) (cs : Array Value) (fr : Nat × Nat) (d : TypeDesc)
    (hp : tmps.getD p undef = .pointer (some ⟨g, 0, none⟩)) (hg : w.heap[g]? = some (.cells cs t fr)) (hu : P.underlying ty = some d)
    (hd : (match d, hu with | .struct _, _ => true | .array _ _, _ => true | _, _ => false) = true) (hi : (P.info? ty).map (fun x => x.size) = some cs.size) (x a b : Value) (hx : tmps.getD s undef = x) (ha : tmps.getD u undef = a) (hb : tmps.getD v undef = b) :
    (results fn tmps).run P w = .ok (.tuple #[x, .agg cs, a, b]) w := by
  have hl := run_loadVar_row (P := P) w g t ty cs fr d hg hu hd hi
  subst ha hb hx
  have hp2 : tmps[p]?.getD undef = .pointer (some ⟨g, 0, none⟩) := by simpa using hp
  simp only [results, h]
  simp [hp2, asAddr, hl]

/-- a token's cells, as values -/
def tcs (t : Tok) : List Value := [.int .i64 t.kind, .string (mk t.text), .int .i64 t.at_, .int .i64 t.end_]
def tcells (l : List Tok) : List Value := l.flatMap tcs
theorem tcells_length (l : List Tok) : (tcells l).length = l.length * 4 := by
  induction l with
  | nil => rfl
  | cons t r ih => unfold tcells at *; rw [List.flatMap_cons, List.length_append, ih]; simp [tcs]; omega
theorem tcells_snoc (l : List Tok) (t : Tok) : tcells (l ++ [t]) = tcells l ++ tcs t := by simp [tcells]
theorem tcs_one (t : Tok) : ∀ u ∈ tcs t, u.oneCell' = true := by
  intro u hu; simp [tcs] at hu; rcases hu with rfl | rfl | rfl | rfl <;> rfl
theorem tokC_tcs (t : Tok) : (tokC t).toList = tcs t := rfl
theorem infoTok : (Tryd.prog.info? 92).map (fun i => (i.zero, i.size, i.bytes)) = some (some (.agg (tokCs 0 [] 0 0)), 4, 40) := by kernel_rfl

theorem own_cells_row {w : World} {us : List Value} {cs : Array Value} {e : TypeId} {b : Nat} (hb : w.heap.size = b) (h : cs = us.toArray) : ∀ j x, us[j]? = some x → (w.alloc (.cells cs e)).cell? ((⟨b, 0, none⟩ : Addr).add j) = some x := by
  subst h hb
  intro j x hx
  rw [addr_add, Nat.zero_add, cell_of_row _ _ _ _ _ (0, 0) (heap_alloc_new w _)]
  simpa using hx
theorem own_grown' {w wr w2 : World} {et : TypeId} {size : Nat} {v : Value} {n : Nat} {xs : List Value} {ob : Obj} (h : wr.ownsRow w.heap.size et size v n xs) (hb : Below w.heap.size w wr) (hg : (wr.alloc ob).grownBy w2 v.ownBlock) : Below w.heap.size w w2 :=
  (hb.al ob).grown hg (by have := hb.size; simp; omega) (own_ge h)

/-- what Tokens answers: the list a row of its own -/
def TPost (R : Res) (w : World) (e : Ending) (w' : World) : Prop :=
  ∃ v : Value, e = .returned (.tuple #[v, .agg (tokC R.open_), .int .i64 R.far, .int .i64 (if R.ok then 0 else 11)]) ∧ w'.ownsRow w.heap.size 92 4 v R.toks.length (tcells R.toks) ∧ Below w.heap.size w w'
theorem TPost.of {R : Res} {w w' : World} {done : List Tok} {o : Tok} {far : Nat} {ok : Bool} {v : Value} {cs : Array Value} {f n : Int} (h : R = glue done ⟨[], o, far, ok⟩) (hc : cs = tokC o) (hf : f = (far : Int)) (hn : n = if ok then 0 else 11)
    (hown : w'.ownsRow w.heap.size 92 4 v done.length (tcells done)) (hb : Below w.heap.size w w') : TPost R w (.returned (.tuple #[v, .agg cs, .int .i64 f, .int .i64 n])) w' := by
  subst h hc hf hn
  exact ⟨v, rfl, by simpa [glue] using hown, hb⟩

theorem next_kinds {l : Bs} {a : Nat} {t : Tok} {wh : Bool} (hl : l ≠ []) (h : nextT l a = (t, wh)) :
    (t = zeroTok ∧ wh = false) ∨ (t.kind ≠ 0 ∧ isWordB t.kind = false ∧ decide (0 < t.kind) = true ∧ ((decide (t.kind < 8) = true ∧ (t.kind != 4) = false) ∨ decide (t.kind < 8) = false)) ∨
    (t.kind ≠ 0 ∧ wh = true ∧ isWordB t.kind = true ∧ decide (0 < t.kind) = true ∧ decide (t.kind < 8) = true ∧ (t.kind != 4) = true) := by
  have hf := next_facts hl h
  by_cases h0 : t.kind = 0
  · left
    refine ⟨hf.zero h0, ?_⟩
    cases wh with
    | false => rfl
    | true => exact absurd h0 (hf.whole rfl)
  right
  have hx := Next.of l a hl
  rw [h] at hx
  have hpos : 0 < t.kind := by
    generalize hy : (t, wh) = y at hx
    cases hx with
    | str c r h34 => injection hy with h1 h2; subst h1; show (0 : Int) < 4; decide
    | sign1 c r k h34 hs hk => injection hy with h1 h2; subst h1; show 0 < k; omega
    | sign2 c x r k h34 hs hk => injection hy with h1 h2; subst h1; show 0 < k; omega
    | half c r k d h34 hs hk hd => injection hy with h1 h2; subst h1; show 0 < k; omega
    | no c r h34 hs hk => injection hy with h1 h2; subst h1; exact absurd rfl h0
    | word c r h34 hsg hk =>
      injection hy with h1 h2; subst h1
      have := kind_isWord _ hk
      unfold isWordB at this
      simp at this
      show 0 < kindI _; omega
  by_cases hw : isWordB t.kind = true
  · right
    have hwh : wh = true := by
      cases wh with
      | true => rfl
      | false => rw [hf.notword rfl] at hw; cases hw
    have hw' := hw
    unfold isWordB at hw'
    simp at hw'
    exact ⟨h0, hwh, hw, by simpa using hpos, by simp; omega, by rw [bne_iff_ne]; exact hw'.2.2⟩
  · left
    have hw2 : isWordB t.kind = false := by simpa using hw
    refine ⟨h0, hw2, by simpa using hpos, ?_⟩
    unfold isWordB at hw2
    simp at hw2
    by_cases h8 : t.kind < 8
    · left
      have : t.kind = 4 := hw2 (by omega) (by omega)
      rw [this]; decide
    · right; simpa using h8

theorem glue_at {R : Res} {s : ByteArray} {done : List Tok} {e p : Nat} {j : Bool} (h0' : R = glue done (tk ((bl s).drop e) e j)) (hp : p = blankP s e) (he : e ≤ s.size) :
    p ≤ s.size ∧ e ≤ p ∧ (p = s.size → R = glue done ⟨[], zeroTok, s.size, true⟩) ∧ (p < s.size → (bl s).drop p ≠ [] ∧
      (∀ t, nextT ((bl s).drop p) p = (t, true) → (isWordB t.kind && j && p == e) = true → R = glue done ⟨[], zeroTok, p, false⟩) ∧
      (∀ t, nextT ((bl s).drop p) p = (t, false) → R = glue done ⟨[], t, if t.kind = 0 then p else t.end_, false⟩) ∧
      (∀ t, nextT ((bl s).drop p) p = (t, true) → (isWordB t.kind && j && p == e) = false → R = glue (done ++ [t]) (tk ((bl s).drop t.end_) t.end_ (isWordB t.kind)) ∧ p < t.end_ ∧ t.end_ ≤ s.size)) := by
  have hb := blankP_le s e he
  rw [← hp] at hb
  obtain ⟨n, hn⟩ : ∃ n, n = skipN false ((bl s).drop e) := ⟨_, rfl⟩
  have hpn : p = e + n := by rw [hp, hn]; rfl
  have hd : ((bl s).drop e).drop n = (bl s).drop p := by rw [List.drop_drop, hpn]
  have hl : ((bl s).drop e).length = s.size - e := by rw [List.length_drop, bl_length]
  refine ⟨hb.2, hb.1, fun h => ?_, fun h => ⟨?_, ?_, ?_, ?_⟩⟩
  · rw [tk_end hn.symm (by omega)] at h0'
    rw [h0', show e + n = s.size from by omega]
  · intro h2; have := congrArg List.length h2; rw [List.length_drop, bl_length] at this; simp at this; omega
  · intro t hx hj
    simp only [Bool.and_eq_true, beq_iff_eq] at hj
    obtain ⟨⟨hw, rfl⟩, rfl⟩ := hj
    have hn0 : n = 0 := by omega
    rw [tk_joint (by rw [← hn, hn0]) (by intro h2; have := congrArg List.length h2; rw [List.length_drop, bl_length] at this; simp at this; omega) hx hw] at h0'; exact h0'
  · intro t hx
    have h1 : (bl s).drop p ≠ [] := by intro h2; have := congrArg List.length h2; rw [List.length_drop, bl_length] at this; simp at this; omega
    rw [tk_open hn.symm hd h1 (by rw [← hpn]; exact hx), ← hpn] at h0'; exact h0'
  · intro t hx hj
    have h1 : (bl s).drop p ≠ [] := by intro h2; have := congrArg List.length h2; rw [List.length_drop, bl_length] at this; simp at this; omega
    have hf := next_facts h1 hx
    have hlo := hf.lo (hf.whole rfl)
    have hhi := hf.hi (hf.whole rfl)
    rw [List.length_drop, bl_length] at hhi
    have hj2 : (isWordB t.kind && j && n == 0) = false := by rw [← hj]; congr 1; rw [Bool.eq_iff_iff]; simp; omega
    rw [tk_more hn.symm hd h1 (by rw [← hpn]; exact hx) hj2, ← hpn, List.drop_drop, show p + (t.end_ - p) = t.end_ from by omega, glue_more] at h0'
    exact ⟨h0', hlo, by omega⟩

theorem own_start (W : World) (b : Nat) (hb : W.heap.size = b) : (W.alloc (.cells #[] 92)).ownsRow W.heap.size 92 4 (.slice (some ⟨b, 0, none⟩) 0 0) 0 (tcells []) := by
  subst hb; exact World.ownsRow_lit W #[] 0 (Nat.le_refl _) (by unfold maxLen; omega) (by simp)
theorem own_other {w w' : World} {base base' k : Nat} {e : TypeId} {size : Nat} {v : Value} {n : Nat} {xs : List Value} (h : w.ownsRow base e size v n xs) (hg : w.grownBy w' (some k)) (hk : k < base) (hb : base' ≤ base) : w'.ownsRow base' e size v n xs := by
  refine ⟨h.1, ?_⟩
  rcases h.2 with hn | ⟨g, cap, cur, rfl, hg1, hh, r⟩
  · exact .inl hn
  · refine .inr ⟨g, cap, cur, rfl, by omega, ?_, r⟩
    rw [hg.block g (Array.getElem?_eq_some_iff.1 hh).1 (by intro h2; injection h2 with h2; omega)]; exact hh

theorem below_drew {B : Nat} {a w : World} (h : Below B a w) : Below B a w.drew := below_drewN h 1
theorem set4_heap {w : World} {g : Nat} {T : TypeId} (hg : w.heap[g]? = some (.cells (tokCs 0 [] 0 0) T)) (a b c d : Value) :
    ((((w.setCell ⟨g, 0, none⟩ a).setCell ⟨g, 1, none⟩ b).setCell ⟨g, 2, none⟩ c).setCell ⟨g, 3, none⟩ d).heap[g]? = some (.cells #[a, b, c, d] T) :=
  heap_setCell_same _ _ 3 _ _ d (heap_setCell_same _ _ 2 _ _ c (heap_setCell_same _ _ 1 _ _ b (heap_setCell_same _ _ 0 _ _ a hg)))
theorem own_set {w : World} {base g i : Nat} {e : TypeId} {size : Nat} {v u : Value} {n : Nat} {xs : List Value} (h : w.ownsRow base e size v n xs) (hk : g < base) : (w.setCell ⟨g, i, none⟩ u).ownsRow base e size v n xs := by
  refine ⟨h.1, ?_⟩
  rcases h.2 with hn | ⟨k, cap, cur, rfl, hg1, hh, r⟩
  · exact .inl hn
  · exact .inr ⟨k, cap, cur, rfl, hg1, by rw [heap_setCell_other _ _ _ _ (by show k ≠ g; omega)]; exact hh, r⟩
theorem own_base {w : World} {base base' : Nat} {e : TypeId} {size : Nat} {v : Value} {n : Nat} {xs : List Value} (h : w.ownsRow base e size v n xs) (hb : base' ≤ base) : w.ownsRow base' e size v n xs := by
  refine ⟨h.1, ?_⟩
  rcases h.2 with hn | ⟨k, cap, cur, rfl, hg1, r⟩
  · exact .inl hn
  · exact .inr ⟨k, cap, cur, rfl, by omega, r⟩
theorem set4_own {w : World} {base base' g : Nat} {e : TypeId} {size : Nat} {v : Value} {n : Nat} {xs : List Value} (h : w.ownsRow base e size v n xs) (hk : g < base) (hb : base' ≤ base) (a b c d : Value) :
    ((((w.setCell ⟨g, 0, none⟩ a).setCell ⟨g, 1, none⟩ b).setCell ⟨g, 2, none⟩ c).setCell ⟨g, 3, none⟩ d).ownsRow base' e size v n xs :=
  own_base (own_set (own_set (own_set (own_set h hk) hk) hk) hk) hb
theorem set4_below {w0 w : World} {g : Nat} (h : Below w0.heap.size w0 w) (hg : w0.heap.size ≤ g) (a b c d : Value) :
    Below w0.heap.size w0 ((((w.setCell ⟨g, 0, none⟩ a).setCell ⟨g, 1, none⟩ b).setCell ⟨g, 2, none⟩ c).setCell ⟨g, 3, none⟩ d) :=
  (((h.setCell hg _).setCell hg _).setCell hg _).setCell hg _

/-- a token's four cells -/
theorem row_cells {w : World} {g : Nat} {t : Tok} {e : TypeId} (h : w.heap[g]? = some (.cells (tokC t) e)) :
    w.cell? ⟨g, 0, none⟩ = some (.int .i64 t.kind) ∧ w.cell? ⟨g, 1, none⟩ = some (.string (mk t.text)) ∧ w.cell? ⟨g, 2, none⟩ = some (.int .i64 t.at_) ∧ w.cell? ⟨g, 3, none⟩ = some (.int .i64 t.end_) :=
  ⟨cell_of_row _ _ _ _ _ _ h, cell_of_row _ _ _ _ _ _ h, cell_of_row _ _ _ _ _ _ h, cell_of_row _ _ _ _ _ _ h⟩

set_option maxHeartbeats 8000000 in
theorem lx_Tokens (s : ByteArray) (w : World) (hs : s.size ≤ 4194304) :
    Calls Tryd.prog 53 #[.string s] w (TPost (tokens (bl s)) w) := by
  obtain ⟨it, hit, hz0, hz1, hz2⟩ := info_parts infoTok
  obtain ⟨R, hR⟩ : ∃ R, R = tokens (bl s) := ⟨_, rfl⟩
  have hR0 : Hid (R = glue [] (tk ((bl s).drop 0) 0 false)) := hR
  rw [← hR]
  clear hR
  have hW : Hid ((w.alloc (.cells #[.int .i64 0, .string ⟨#[]⟩, .int .i64 0, .int .i64 0] 92)).heap[w.heap.size]? = some (.cells (tokCs 0 [] 0 0) 92)) := heap_alloc_new _ _
  have hWb : Below w.heap.size w (w.alloc (.cells #[.int .i64 0, .string ⟨#[]⟩, .int .i64 0, .int .i64 0] 92)) := (Below.refl _ _).al _
  have hWs : w.heap.size < (w.alloc (.cells #[.int .i64 0, .string ⟨#[]⟩, .int .i64 0, .int .i64 0] 92)).heap.size := by simp
  have hWz : Hid ((w.alloc (.cells #[.int .i64 0, .string ⟨#[]⟩, .int .i64 0, .int .i64 0] 92)).heap.size = w.heap.size + 1) := World.size_alloc _ _
  go_enter Tryd.func53, Tryd.ntmps53
  go_wp2_with (go_at_call 70; refine (lx_blank _ _ _ hs (by omega) (by omega)).mono ?_; rintro e w' ⟨rfl, rfl⟩)
  generalize w.alloc (.cells #[.int .i64 0, .string ⟨#[]⟩, .int .i64 0, .int .i64 0] 92) = W at hW hWb hWs hWz ⊢
  go_loopw [6, 7, 8] (fun l jv at_ wr => ∃ (e p : Nat) (j : Bool) (done : List Tok) (J : Int), e ≤ s.size ∧ at_ = .int .i64 p ∧ jv = .int .i64 J ∧ done.length ≤ e ∧
      Hid (p = blankP s e) ∧ Hid (J = if j then (e : Int) else -1) ∧ Hid (R = glue done (tk ((bl s).drop e) e j)) ∧ Hid (wr.ownsRow W.heap.size 92 4 l done.length (tcells done)) ∧ Hid (Below W.heap.size W wr))
    (fun _ _ at_ _ => s.size - (intOf at_).toNat)
  case atStart => exact ⟨0, _, false, [], -1, by omega, rfl, rfl, Nat.le_refl _, rfl, rfl, hR0, own_start W _ hWz.out, (Below.refl _ _).al _⟩
  case round =>
    obtain ⟨e, p, j, done, J, he, rfl, rfl, hdone, hp, hJ, hRd, hown0, hb0⟩ := hrel
    obtain ⟨va, vc, rfl, hva⟩ := own_slice hown0.out
    clear hva
    obtain ⟨g1, g2, g3, g4⟩ := glue_at hRd.out hp.out he
    have hcell : Hid (wr.heap[w.heap.size]? = some (.cells (tokCs 0 [] 0 0) 92)) := (hb0.out.block _ hWs).trans hW.out
    have hbw : Hid (Below w.heap.size w wr) := hWb.trans (hb0.out.mono (by omega))
    by_cases hlt : p < s.size
    · obtain ⟨t, wh, hx⟩ : ∃ t wh, nextT ((bl s).drop p) p = (t, wh) := ⟨_, _, rfl⟩
      obtain ⟨h1, gj, go, gm⟩ := g4 hlt
      have hks := next_kinds h1 hx
      replace hx := Lib.hid hx
      replace gj := Lib.hid gj
      replace go := Lib.hid go
      replace gm := Lib.hid gm
      clear h1 g3 g4 hRd hp
      go_wp2_with fail
      refine (lx_next s p _ hs hlt).mono ?_
      rintro e2 w2 ⟨he2, hb2⟩
      rw [hx.out] at he2
      subst he2
      have hs2 : wr.heap.size ≤ w2.heap.size := hb2.size
      have hbw2 : Hid (Below w.heap.size w w2) := hbw.out.trans (hb2.mono hbw.out.size)
      have hbW2 : Hid (Below W.heap.size W w2) := hb0.out.trans (hb2.mono hb0.out.size)
      have hown2 : Hid (w2.ownsRow W.heap.size 92 4 (.slice va done.length vc) done.length (tcells done)) := own_below hown0.out hb2
      clear hb2 hown0 hb0 hbw hcell
      go_wp2_with (refine wpList_store_rowA rfl 92 (.tmp 9) (.tmp 32) rfl w2.heap.size (tokC t) rfl rfl 92 (tokCs 0 [] 0 0) (heap_alloc_new _ _) sizeTok rfl (tokCs_one _ _ _ _) ?_)
      intro w3 hg3 hgr hsz
      have hb23 : Below w2.heap.size w2 w3 := ((Below.refl _ _).al _).grown hgr (by simp) (by intro k hk; injection hk with hk; omega)
      have hs3 : w2.heap.size < w3.heap.size := by have h := hsz.out; first | omega | (simp at h; omega)
      have hbw3 : Hid (Below w.heap.size w w3) := hbw2.out.trans (hb23.mono hbw2.out.size)
      have hbW3 : Hid (Below W.heap.size W w3) := hbW2.out.trans (hb23.mono hbW2.out.size)
      have hown3 : Hid (w3.ownsRow W.heap.size 92 4 (.slice va done.length vc) done.length (tcells done)) := own_below hown2.out hb23
      have hcell : Hid (w3.heap[w.heap.size]? = some (.cells (tokCs 0 [] 0 0) 92)) := (hbW3.out.block _ hWs).trans hW.out
      have hsw : w.heap.size < w2.heap.size := by have := hbW2.out.size; omega
      clear hgr hsz hb23 hown2 hbw2 hbW2
      obtain ⟨k0, k1, k2, k3⟩ := row_cells hg3.out
      obtain ⟨c0, c1, c2, c3⟩ := row_cells (t := zeroTok) hcell.out
      have z0 : w3.frozen? ⟨w.heap.size, 0, none⟩ = false := frozen_of_row _ _ _ _ _ hcell.out
      have z1 : w3.frozen? ⟨w.heap.size, 1, none⟩ = false := frozen_of_row _ _ _ _ _ hcell.out
      have z2 : w3.frozen? ⟨w.heap.size, 2, none⟩ = false := frozen_of_row _ _ _ _ _ hcell.out
      have z3 : w3.frozen? ⟨w.heap.size, 3, none⟩ = false := frozen_of_row _ _ _ _ _ hcell.out
      rcases hks with ⟨rfl, rfl⟩ | ⟨hk, hw, q1, q2⟩ | ⟨hk, rfl, hw, q1, q2, q3⟩
      · have hRf := Lib.hid (go.out _ hx.out)
        replace k0 : w3.cell? ⟨w2.heap.size, 0, none⟩ = some (.int .i64 0) := k0
        replace k1 : w3.cell? ⟨w2.heap.size, 1, none⟩ = some (.string ⟨#[]⟩) := k1
        replace k2 : w3.cell? ⟨w2.heap.size, 2, none⟩ = some (.int .i64 0) := k2
        replace k3 : w3.cell? ⟨w2.heap.size, 3, none⟩ = some (.int .i64 0) := k3
        clear hx gj go gm
        go_wp2_with fail
        go_region_with (fail)
        go_wp2_with fail
        refine bodyPost_ret (v := .tuple #[.slice va done.length vc, .agg (tokCs 0 [] 0 0), .int .i64 p, .int .i64 11]) ?_ rfl (TPost.of hRf.out rfl rfl rfl (set4_own hown3.out hWs (Nat.le_of_lt hWs) _ _ _ _) (below_drew (set4_below hbw3.out (Nat.le_refl _) _ _ _ _)))
        apply results_cellB4 (p := 3) (s := 2) (u := 4) (v := 5) (ty := 92) (g := w.heap.size) (t := 92) (fr := (0, 0)) (hu := Tryd.underlying92)
        · rfl
        · rfl
        · exact set4_heap hcell.out _ _ _ _
        · rfl
        · exact sizeTok
        · rfl
        · rfl
        · rfl

      · have hk0 : (t.kind == 0) = false := by rw [beq_eq_false_iff_ne]; exact hk
        cases wh with
        | false =>
          have hRf := go.out _ hx.out
          rw [if_neg hk] at hRf
          replace hRf := Lib.hid hRf
          clear hx gj go gm hk hw
          rcases q2 with ⟨q2, q3⟩ | q2
          all_goals
            go_wp2_with fail
            go_region_with (fail)
            all_goals
              go_wp2_with fail
              refine bodyPost_ret (v := .tuple #[.slice va done.length vc, .agg (tokC t), .int .i64 t.end_, .int .i64 11]) ?_ rfl (TPost.of hRf.out rfl rfl rfl (set4_own hown3.out hWs (Nat.le_of_lt hWs) _ _ _ _) (below_drew (set4_below hbw3.out (Nat.le_refl _) _ _ _ _)))
              apply results_cellB4 (p := 3) (s := 2) (u := 4) (v := 5) (ty := 92) (g := w.heap.size) (t := 92) (fr := (0, 0)) (hu := Tryd.underlying92)
              · rfl
              · rfl
              · exact set4_heap hcell.out _ _ _ _
              · rfl
              · exact sizeTok
              · rfl
              · rfl
              · rfl
        | true =>
          clear hJ
          have hw' : Hid (isWordB t.kind = false) := hw
          rcases q2 with ⟨q2, q3⟩ | q2
          all_goals
            obtain ⟨hR2, hlo, hhi⟩ := gm.out _ hx.out (by rw [hw]; rfl)
            replace hR2 := Lib.hid hR2
            have h63 : Hid (done.length + 1 ≤ maxLen) := by show done.length + 1 ≤ maxLen; unfold maxLen; omega
            have h64 : Hid ((done.length + 1) * 40 ≤ 140737488355328) := by show (done.length + 1) * 40 ≤ 140737488355328; omega
            clear hx gj go gm hk hw c0 c1 c2 c3 z0 z1 z2 z3 hcell
            go_wp2_with (first
              | (at_builtin; refine wpList_append_own _ rfl (.tmp 71) (.tmp 73) 89 rfl W.heap.size 92 it (.agg (tokCs 0 [] 0 0)) 4 40 Tryd.underlying89 hit hz0 hz1 hz2 rfl (by decide) _ done.length _ rfl (hown3.out.alloc _) ⟨w3.heap.size, 0, none⟩ 1 1 (tcs t) rfl rfl (own_cells_row rfl rfl) (tcs_one t) h63.out h64.out (by rw [World.size_alloc]; have := hbW3.out.size; omega) ?_))
            intro v2 w4 hown4 hgrow4 hv2
            have hb4 : Hid (Below W.heap.size W w4) := own_grown' hown3.out hbW3.out hgrow4
            obtain ⟨g, cap, rfl, hg0, hg1, hcap, hcm⟩ := own_shape hown4 (by omega)
            have hown5 : Hid (w4.ownsRow W.heap.size 92 4 (.slice (some ⟨g, 0, none⟩) (done.length + 1) cap) (done ++ [t]).length (tcells (done ++ [t]))) := by
              show World.ownsRow _ _ _ _ _ _ _; rw [tcells_snoc, List.length_append]; exact hown4
            have e3 : w4.cell? ⟨g, done.length * 4 + 3, none⟩ = some (.int .i64 t.end_) := by
              rw [hown4.cellAt _ (by omega), List.getElem?_append_right (by rw [tcells_length]; omega), tcells_length, show done.length * 4 + 3 - done.length * 4 = 3 from by omega]; rfl
            clear hown4 hgrow4 hv2 hown3 hbW3 hbw3 k0 k1 k2 k3 hg0 hg1 hcm
            go_wp2_with fail
            refine (lx_blank s _ w4 hs (by omega) (by omega)).mono ?_
            rintro e5 w5 ⟨rfl, rfl⟩
            have hbl := blankP_le s t.end_ hhi
            go_wp2_with fail
            go_roundw
            case rel => exact ⟨t.end_, _, isWordB t.kind, done ++ [t], -1, hhi, rfl, rfl, by rw [List.length_append]; simp; omega, by show blankP s (t.end_ : Int).toNat = _; rw [Int.toNat_natCast], by show _ = _; rw [hw'.out]; rfl, hR2, hown5, hb4⟩
            case measure => simp [intOf]; omega
      · have hk0 : (t.kind == 0) = false := by rw [beq_eq_false_iff_ne]; exact hk
        by_cases hj : (isWordB t.kind && j && p == e) = true
        · have hRf := Lib.hid (gj.out _ hx.out hj)
          have hJe : (J == (p : Int)) = true := by
            simp only [Bool.and_eq_true, beq_iff_eq] at hj
            rw [beq_iff_eq, hJ.out, if_pos hj.1.2, hj.2]
          clear hx gj go gm hk hw hj hJ
          go_wp2_with (refine wpList_store_rowA rfl 92 (.tmp 3) (.tmp 54) rfl w.heap.size (tokCs 0 [] 0 0) rfl rfl 92 (tokCs 0 [] 0 0) hcell.out sizeTok rfl (tokCs_one _ _ _ _) ?_)
          intro w4 hg4 hgr hsz
          have hb4 : Below w.heap.size w w4 := hbw3.out.grown hgr hbw3.out.size (by intro k hk; injection hk with hk; omega)
          have hown4 := own_other hown3.out hgr hWs (Nat.le_of_lt hWs)
          clear hgr hsz
          go_wp2_with fail
          refine bodyPost_ret (v := .tuple #[.slice va done.length vc, .agg (tokCs 0 [] 0 0), .int .i64 p, .int .i64 11]) ?_ rfl (TPost.of hRf.out rfl rfl rfl hown4 hb4)
          exact results_cellB4 rfl _ _ w.heap.size 92 _ (0, 0) _ rfl hg4.out Tryd.underlying92 rfl sizeTok _ _ _ rfl rfl rfl
        · have hj2 : Hid ((isWordB t.kind && j && p == e) = false) := Lib.hid (by simpa using hj)
          have hJe : (J == (p : Int)) = false := by
            rw [beq_eq_false_iff_ne, hJ.out]
            intro h
            apply hj
            rw [hw]
            cases j with
            | false => rw [if_neg (by decide)] at h; omega
            | true => rw [if_pos rfl] at h; simp; omega
          have hw' : Hid (isWordB t.kind = true) := hw
          clear hj hw hJ
          obtain ⟨hR2, hlo, hhi⟩ := gm.out _ hx.out hj2.out
          replace hR2 := Lib.hid hR2
          have h63 : Hid (done.length + 1 ≤ maxLen) := by show done.length + 1 ≤ maxLen; unfold maxLen; omega
          have h64 : Hid ((done.length + 1) * 40 ≤ 140737488355328) := by show (done.length + 1) * 40 ≤ 140737488355328; omega
          clear hx gj go gm hk c0 c1 c2 c3 z0 z1 z2 z3 hcell
          go_wp2_with (first
            | (at_builtin; refine wpList_append_own _ rfl (.tmp 71) (.tmp 73) 89 rfl W.heap.size 92 it (.agg (tokCs 0 [] 0 0)) 4 40 Tryd.underlying89 hit hz0 hz1 hz2 rfl (by decide) _ done.length _ rfl (hown3.out.alloc _) ⟨w3.heap.size, 0, none⟩ 1 1 (tcs t) rfl rfl (own_cells_row rfl rfl) (tcs_one t) h63.out h64.out (by rw [World.size_alloc]; have := hbW3.out.size; omega) ?_))
          intro v2 w4 hown4 hgrow4 hv2
          have hb4 : Hid (Below W.heap.size W w4) := own_grown' hown3.out hbW3.out hgrow4
          obtain ⟨g, cap, rfl, hg0, hg1, hcap, hcm⟩ := own_shape hown4 (by omega)
          have hown5 : Hid (w4.ownsRow W.heap.size 92 4 (.slice (some ⟨g, 0, none⟩) (done.length + 1) cap) (done ++ [t]).length (tcells (done ++ [t]))) := by
            show World.ownsRow _ _ _ _ _ _ _; rw [tcells_snoc, List.length_append]; exact hown4
          have e3 : w4.cell? ⟨g, done.length * 4 + 3, none⟩ = some (.int .i64 t.end_) := by
            rw [hown4.cellAt _ (by omega), List.getElem?_append_right (by rw [tcells_length]; omega), tcells_length, show done.length * 4 + 3 - done.length * 4 = 3 from by omega]; rfl
          clear hown4 hgrow4 hv2 hown3 hbW3 hbw3 k0 k1 k2 k3 hg0 hg1 hcm
          go_wp2_with fail
          refine (lx_blank s _ w4 hs (by omega) (by omega)).mono ?_
          rintro e5 w5 ⟨rfl, rfl⟩
          have hbl := blankP_le s t.end_ hhi
          go_wp2_with fail
          go_roundw
          case rel => exact ⟨t.end_, _, isWordB t.kind, done ++ [t], t.end_, hhi, rfl, rfl, by rw [List.length_append]; simp; omega, by show blankP s (t.end_ : Int).toNat = _; rw [Int.toNat_natCast], by show _ = _; rw [hw'.out]; rfl, hR2, hown5, hb4⟩
          case measure => simp [intOf]; omega
    · have hRf := Lib.hid (g3 (by omega))
      clear g3 g4 hRd hp hJ
      go_wp2_with (refine wpList_store_rowA rfl 92 (.tmp 3) (.tmp 76) rfl w.heap.size (tokCs 0 [] 0 0) rfl rfl 92 (tokCs 0 [] 0 0) hcell.out sizeTok rfl (tokCs_one _ _ _ _) ?_)
      intro w2 hg2 hgr hsz
      have hb2 : Below w.heap.size w w2 := hbw.out.grown hgr hbw.out.size (by intro k hk; injection hk with hk; omega)
      have hown2 := own_other hown0.out hgr hWs (Nat.le_of_lt hWs)
      clear hgr hsz
      go_wp2_with fail
      refine bodyPost_ret (v := .tuple #[.slice va done.length vc, .agg (tokCs 0 [] 0 0), .int .i64 s.size, .int .i64 0]) ?_ rfl (TPost.of hRf.out rfl rfl rfl hown2 hb2)
      exact results_cellB4 rfl _ _ w.heap.size 92 _ (0, 0) _ rfl hg2.out Tryd.underlying92 rfl sizeTok _ _ _ rfl rfl rfl

end Go.Proofs.YtclioihichcpiaaDoor
