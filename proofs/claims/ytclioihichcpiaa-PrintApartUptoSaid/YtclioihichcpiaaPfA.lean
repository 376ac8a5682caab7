/- The document's reader, plain: two texts gone through side by side; a text that is shut with more behind it. No program in sight. -/
import Derived.Test.YtclioihichcpiaaPmH
namespace Go.Proofs.Ytclioihichcpiaa
open Go.RowKit Lx
namespace Lx
theorem bi_inj {a b : UInt8} (h : bi a = bi b) : a = b := by
  have h1 : ((a.toNat : Nat) : Int) = (b.toNat : Int) := h
  exact UInt8.toNat_inj.1 (by omega)
theorem bi_nonneg (a : UInt8) : 0 ≤ bi a := Int.natCast_nonneg _
theorem quo_nl (m : Bs) : ∀ (l : Bs) (n : Nat), quo (l ++ 10 :: m) n = if (l.all fun c => decide (bi c ≠ 10)) = true then quo l n else quo (l ++ 10 :: m) n := by
  intro l
  induction hlen : l.length using Nat.strongRecOn generalizing l with
  | ind N ih =>
    intro n
    have rec1 : ∀ (r : Bs), r.length < N → (r.all fun c => decide (bi c ≠ 10)) = true → ∀ n, quo (r ++ 10 :: m) n = quo r n := fun r hr hall n => by
      have := ih _ hr r rfl n
      rw [if_pos hall] at this; exact this
    split
    · rename_i hall
      have h10 : bi 10 = 10 := rfl
      cases l with
      | nil => rw [List.nil_append, quo_nil, quo_bad _ _ _ (by rw [h10]; decide) (by rw [h10]; omega)]
      | cons c r =>
        have hc : ∀ x ∈ c :: r, bi x ≠ 10 := fun x hx => by have := List.all_eq_true.1 hall x hx; simpa using this
        have hsub : ∀ (x : Bs), (∀ y ∈ x, y ∈ c :: r) → (x.all fun c => decide (bi c ≠ 10)) = true := fun x hx => List.all_eq_true.2 fun y hy => by simpa using hc y (hx y hy)
        have hlt : r.length < N := by rw [← hlen]; simp
        by_cases h34 : bi c = 34
        · rw [List.cons_append, quo_34 _ _ _ h34, quo_34 _ _ _ h34]
        by_cases hb : n = 1024 ∨ bi c < 32 ∨ 126 < bi c
        · rw [List.cons_append, quo_bad _ _ _ h34 hb, quo_bad _ _ _ h34 hb]
        by_cases h92 : bi c = 92
        · have hn : ¬ n = 1024 := by omega
          rw [List.cons_append, quo_92 _ _ _ h92 hn, quo_92 _ _ _ h92 hn]
          have : quoS (r ++ 10 :: m) n = quoS r n := by
            cases r with
            | nil => rw [List.nil_append, quoS_end, quoS_bad _ _ _ (by rw [h10]; omega)]
            | cons d r2 =>
              by_cases hd : bi d = 34 ∨ bi d = 92 ∨ bi d = 110 ∨ bi d = 116
              · obtain ⟨b, hb2⟩ := quoS_esc d n hd
                rw [List.cons_append, hb2, hb2, rec1 r2 (by simp at hlt; omega) (hsub _ fun y hy => by simp [hy])]
              by_cases h120 : bi d = 120
              · rw [List.cons_append, quoS_x _ _ _ h120, quoS_x _ _ _ h120]
                have : quoF (r2 ++ 10 :: m) n = quoF r2 n := by
                  have hf : halfI 10 < 0 := by decide
                  cases r2 with
                  | nil => rw [List.nil_append, quoF_bad _ _ _ (by rw [h10]; exact hf)]; rfl
                  | cons h1 r3 =>
                    by_cases hh1 : halfI (bi h1) < 0
                    · rw [List.cons_append, quoF_bad _ _ _ hh1, quoF_bad _ _ _ hh1]
                    cases r3 with
                    | nil => rw [List.cons_append, List.nil_append, quoF_bad2 _ _ _ _ hh1 (by rw [h10]; exact hf), quoF_end _ _ hh1]
                    | cons h2 r4 =>
                      by_cases hh2 : halfI (bi h2) < 0
                      · rw [List.cons_append, List.cons_append, quoF_bad2 _ _ _ _ hh1 hh2, quoF_bad2 _ _ _ _ hh1 hh2]
                      · rw [List.cons_append, List.cons_append, quoF_ok _ _ _ _ _ _ rfl rfl hh1 hh2, quoF_ok _ _ _ _ _ _ rfl rfl hh1 hh2, rec1 r4 (by simp at hlt; omega) (hsub _ fun y hy => by simp [hy])]
                rw [this]
              · rw [List.cons_append, quoS_bad _ _ _ (by omega), quoS_bad _ _ _ (by omega)]
          rw [this]
        · rw [List.cons_append, quo_chr _ _ _ h34 hb h92, quo_chr _ _ _ h34 hb h92, rec1 r hlt (hsub _ fun y hy => by simp [hy])]
    · rfl
/-- the line that a text begins with -/
def lineB (c : UInt8) : Bool := decide (bi c ≠ 10)
theorem line_split (l : Bs) : l = l.takeWhile lineB ∨ ∃ r, l = l.takeWhile lineB ++ 10 :: r := by
  induction l with
  | nil => exact .inl rfl
  | cons c r ih =>
    by_cases hc : bi c = 10
    · have : c = 10 := bi_inj hc
      subst this
      exact .inr ⟨r, rfl⟩
    · have hl : lineB c = true := by simp [lineB, hc]
      rw [List.takeWhile_cons, if_pos hl]
      rcases ih with ih | ⟨x, ih⟩
      · exact .inl (by rw [← ih])
      · exact .inr ⟨x, by rw [List.cons_append, ← ih]⟩
theorem quo_line (l : Bs) (n : Nat) : quo l n = quo (l.takeWhile lineB) n := by
  rcases line_split l with h | ⟨r, h⟩
  · rw [← h]
  · have := quo_nl r (l.takeWhile lineB) n
    rw [if_pos (List.all_eq_true.2 fun c hc => by
      have := List.all_takeWhile (p := lineB) (l := l)
      have h2 := List.all_eq_true.1 this c hc
      simpa [lineB] using h2)] at this
    rw [← h] at this
    exact this
/-- two texts side by side: places that answer one another -/
structure Sim (L M : Bs) (R : Nat → Nat → Prop) : Prop where
  pkq : ∀ p q, R p q → pk L p = pk M q
  step : ∀ p q, R p q → 0 ≤ pk L p → pk L p ≠ 10 → R (p + 1) (q + 1)
  skip : ∀ p q, R p q → R (rSkip L p) (rSkip M q)
def SR (R : Nat → Nat → Prop) {α : Type} (V : α → α → Prop) : Except Int (α × Nat) → Except Int (α × Nat) → Prop
  | .ok x, .ok y => V x.1 y.1 ∧ R x.2 y.2
  | .error e, .error f => ∃ p q : Nat, e = p ∧ f = q ∧ R p q
  | _, _ => False
section
variable {L M : Bs} {R : Nat → Nat → Prop}
theorem SR.bind {α β : Type} {V : α → α → Prop} {W : β → β → Prop} {A B : Except Int (α × Nat)} {F G : α × Nat → Except Int (β × Nat)} (h : SR R V A B) (hF : ∀ x y : α × Nat, V x.1 y.1 → R x.2 y.2 → SR R W (F x) (G y)) : SR R W (A.bind F) (B.bind G) := by
  cases A with
  | error e =>
    cases B with
    | error f => exact h
    | ok y => exact h.elim
  | ok x =>
    cases B with
    | error f => exact h.elim
    | ok y => exact hF x y h.1 h.2
theorem SR.err {α : Type} {V : α → α → Prop} {p q : Nat} (h : R p q) : SR R V (.error (p : Int)) (.error (q : Int)) := ⟨p, q, rfl, rfl, h⟩
theorem SR.ok {α : Type} {V : α → α → Prop} {x y : α} {p q : Nat} (hv : V x y) (h : R p q) : SR R V (.ok (x, p)) (.ok (y, q)) := ⟨hv, h⟩
theorem drop_nil' {L : Bs} {p : Nat} (h : L.length ≤ p) : L.drop p = [] := List.drop_eq_nil_iff.2 h
theorem Sim.run (S : Sim L M R) (f : UInt8 → Bool) (hf : f 10 = false) : ∀ (n p q : Nat), R p q → n = ((L.drop p).takeWhile f).length → (M.drop q).takeWhile f = (L.drop p).takeWhile f ∧ ∀ m, m ≤ n → R (p + m) (q + m)
  | 0, p, q, h, hn => by
    refine ⟨?_, fun m hm => by have : m = 0 := by omega
                               subst this; exact h⟩
    have h0 : (L.drop p).takeWhile f = [] := List.length_eq_zero_iff.1 hn.symm
    rw [h0]
    have hpk := S.pkq p q h
    rcases Nat.lt_or_ge q M.length with hq | hq
    · have hp : p < L.length := pk_lt (by rw [hpk, pk_get hq]; exact bi_nonneg _)
      rw [pk_get hp, pk_get hq] at hpk
      have := bi_inj hpk
      rw [drop_cons' hp, List.takeWhile_cons] at h0
      rw [drop_cons' hq, List.takeWhile_cons, ← this]
      by_cases hc : f L[p] = true
      · rw [if_pos hc] at h0; cases h0
      · rw [if_neg hc]
    · rw [drop_nil' hq]; rfl
  | n + 1, p, q, h, hn => by
    have hpk := S.pkq p q h
    have hp : p < L.length := by
      rcases Nat.lt_or_ge p L.length with h1 | h1
      · exact h1
      · rw [drop_nil' h1] at hn; cases hn
    have hq : q < M.length := pk_lt (by rw [← hpk, pk_get hp]; exact bi_nonneg _)
    rw [drop_cons' hp, List.takeWhile_cons] at hn
    by_cases hc : f L[p] = true
    · rw [if_pos hc] at hn
      have hne : pk L p ≠ 10 := by
        rw [pk_get hp]
        intro e
        have : L[p] = 10 := bi_inj e
        rw [this, hf] at hc; cases hc
      have hst := S.step p q h (by rw [pk_get hp]; exact bi_nonneg _) hne
      obtain ⟨i1, i2⟩ := S.run f hf n (p + 1) (q + 1) hst (by simpa using hn)
      have he : L[p] = M[q] := bi_inj (by rw [← pk_get hp, ← pk_get hq]; exact hpk)
      refine ⟨?_, fun m hm => ?_⟩
      · rw [drop_cons' hp, drop_cons' hq, List.takeWhile_cons, List.takeWhile_cons, if_pos hc, if_pos (by rw [← he]; exact hc), i1, he]
      · cases m with
        | zero => exact h
        | succ m => have := i2 m (by omega); rw [show p + 1 + m = p + (m + 1) from by omega, show q + 1 + m = q + (m + 1) from by omega] at this; exact this
    · rw [if_neg hc] at hn; cases hn
theorem take_run (f : UInt8 → Bool) (l : Bs) : l.take (l.takeWhile f).length = l.takeWhile f := by
  have h := List.takeWhile_prefix (p := f) (l := l)
  exact (List.prefix_iff_eq_take.1 h).symm
theorem Sim.sRun (S : Sim L M R) {p q : Nat} (h : R p q) : SR R Eq (rRun L p) (rRun M q) := by
  obtain ⟨h1, h2⟩ := S.run (fun c => letterB (bi c)) (by decide) _ p q h rfl
  have hn : letN (M.drop q) = letN (L.drop p) := by unfold letN; rw [h1]
  have ht : (M.drop q).take (letN (M.drop q)) = (L.drop p).take (letN (L.drop p)) := by unfold letN; rw [take_run, take_run, h1]
  unfold rRun
  rw [ht, hn]
  by_cases h64 : letN (L.drop p) ≤ 64
  · rw [if_pos h64, if_pos h64]; exact SR.ok rfl (h2 _ (Nat.le_refl _))
  · rw [if_neg h64, if_neg h64]; exact SR.err (h2 64 (by unfold letN at h64; omega))
theorem Sim.sDigits (S : Sim L M R) {p q : Nat} (h : R p q) : SR R Eq (rDigits L p) (rDigits M q) := by
  obtain ⟨h1, h2⟩ := S.run (fun c => digitB (bi c)) (by decide) _ p q h rfl
  have hn : digN (M.drop q) = digN (L.drop p) := by unfold digN; rw [h1]
  have ht : (M.drop q).take (digN (M.drop q)) = (L.drop p).take (digN (L.drop p)) := by unfold digN; rw [take_run, take_run, h1]
  have h3 : R (p + digN (L.drop p)) (q + digN (L.drop p)) := h2 _ (Nat.le_refl _)
  unfold rDigits
  rw [ht, hn, S.pkq _ _ h3]
  by_cases h64 : digN (L.drop p) ≤ 64
  · rw [if_pos h64, if_pos h64]
    split
    · exact SR.err h3
    · exact SR.ok rfl h3
  · rw [if_neg h64, if_neg h64]; exact SR.err (h2 64 (by unfold digN at h64; omega))
theorem Sim.sQuo (S : Sim L M R) {p q : Nat} (h : R p q) : SR R Eq (rQuo L p) (rQuo M q) := by
  obtain ⟨h1, h2⟩ := S.run lineB (by decide) _ p q h rfl
  have he : quo (M.drop q) 0 = quo (L.drop p) 0 := by rw [quo_line, h1, ← quo_line]
  have hle : (quo (L.drop p) 0).2.1 ≤ ((L.drop p).takeWhile lineB).length := by rw [quo_line]; exact quo_far _ _
  have h3 := h2 _ hle
  unfold rQuo
  rw [he]
  split
  · exact SR.ok rfl h3
  · exact SR.err h3
theorem Sim.sSign (S : Sim L M R) {α : Type} {V : α → α → Prop} {p q : Nat} (h : R p q) (c : Int) (hc : 0 ≤ c) (hn : c ≠ 10) {F G : Nat → Except Int (α × Nat)} (hF : ∀ p q, R p q → SR R V (F p) (G q)) : SR R V ((rSign c L p).bind F) ((rSign c M q).bind G) := by
  unfold rSign
  rw [← S.pkq p q h]
  by_cases he : pk L p = c
  · rw [if_pos he, if_pos he]
    exact hF _ _ (S.step p q h (by rw [he]; exact hc) (by rw [he]; exact hn))
  · rw [if_neg he, if_neg he]; exact SR.err h
theorem Sim.sText (S : Sim L M R) {p q : Nat} (h : R p q) : SR R Eq (rText L p) (rText M q) := S.sSign h 34 (by decide) (by decide) fun _ _ h => S.sQuo h
theorem Sim.sName (S : Sim L M R) {p q : Nat} (h : R p q) : SR R Eq (rName L p) (rName M q) := by
  unfold rName
  rw [← S.pkq p q h]
  split
  · refine SR.bind (S.sRun h) fun x y hv hr => ?_
    obtain ⟨x1, x2⟩ := x
    obtain ⟨y1, y2⟩ := y
    dsimp only at hv hr ⊢
    subst hv
    split
    · exact SR.err hr
    · exact SR.ok rfl hr
  · exact SR.err h
theorem Sim.sTerm (S : Sim L M R) {p q : Nat} (h : R p q) : SR R Eq (rTerm L p) (rTerm M q) := by
  unfold rTerm
  rw [← S.pkq p q h]
  split
  · exact SR.bind (S.sRun h) fun x y hv hr => SR.ok (by rw [hv]) hr
  split
  · exact SR.bind (S.sDigits h) fun x y hv hr => SR.ok (by rw [hv]) hr
  split
  · exact SR.bind (S.sText h) fun x y hv hr => SR.ok (by rw [hv]) hr
  · exact SR.bind (S.sName h) fun x y hv hr => SR.ok (by rw [hv]) hr
theorem Sim.byte (S : Sim L M R) {p q : Nat} (h : R p q) (c : Int) (hc : 0 ≤ c) (hn : c ≠ 10) (he : pk L p = c) : R (p + 1) (q + 1) :=
  S.step p q h (by rw [he]; exact hc) (by rw [he]; exact hn)
theorem Sim.sArgsN (S : Sim L M R) : ∀ (n p q : Nat) (l : List (Bool × ByteArray)), R p q → SR R Eq (rArgsN L n p l) (rArgsN M n q l)
  | 0, p, q, l, h => SR.err h
  | n + 1, p, q, l, h => by
    unfold rArgsN
    refine SR.bind (S.sTerm (S.skip _ _ h)) fun x y hv hr => ?_
    obtain ⟨x1, x2⟩ := x
    obtain ⟨y1, y2⟩ := y
    dsimp only at hv hr ⊢
    subst hv
    have hs := S.skip _ _ hr
    rw [← S.pkq _ _ hs]
    by_cases h44 : pk L (rSkip L x2) = 44
    · rw [if_pos h44, if_pos h44]
      by_cases hn : n = 0
      · rw [if_pos hn, if_pos hn]; exact SR.err hs
      · rw [if_neg hn, if_neg hn]; exact S.sArgsN n _ _ _ (S.byte hs 44 (by decide) (by decide) h44)
    · rw [if_neg h44, if_neg h44]
      exact S.sSign hs 41 (by decide) (by decide) fun _ _ h => SR.ok rfl h
theorem Sim.sArgs (S : Sim L M R) {p q : Nat} (h : R p q) : SR R Eq (rArgs L p) (rArgs M q) := by
  unfold rArgs
  have hs := S.skip _ _ h
  rw [← S.pkq _ _ hs]
  by_cases h40 : pk L (rSkip L p) = 40
  · rw [if_pos h40, if_pos h40]; exact S.sArgsN 16 _ _ _ (S.byte hs 40 (by decide) (by decide) h40)
  · rw [if_neg h40, if_neg h40]; exact SR.ok rfl hs
theorem Sim.sAtom (S : Sim L M R) {p q : Nat} (h : R p q) : SR R Eq (rAtom L p) (rAtom M q) :=
  SR.bind (S.sName h) fun x y hv hr => SR.bind (S.sArgs hr) fun a b hv2 hr2 => SR.ok (by rw [hv, hv2]) hr2
theorem Sim.sUnlike (S : Sim L M R) {p q : Nat} (h : R p q) (t : Bool × ByteArray) : SR R Eq (rUnlike L t p) (rUnlike M t q) :=
  S.sSign (S.skip _ _ h) 33 (by decide) (by decide) fun _ _ h => S.sSign h 61 (by decide) (by decide) fun _ _ h => SR.bind (S.sTerm (S.skip _ _ h)) fun x y hv hr => SR.ok (by rw [hv]) hr
theorem Sim.sNot (S : Sim L M R) {p q : Nat} (h : R p q) : SR R Eq (rNot L p) (rNot M q) := by
  unfold rNot
  rw [← S.pkq p q h]
  split
  · exact SR.err h
  · exact SR.bind (S.sAtom (S.skip _ _ h)) fun x y hv hr => SR.ok (by rw [hv]) hr
theorem Sim.sLit (S : Sim L M R) {p q : Nat} (h : R p q) : SR R Eq (rLit L p) (rLit M q) := by
  unfold rLit
  rw [← S.pkq p q h]
  split
  · refine SR.bind (S.sRun h) fun x y hv hr => ?_
    obtain ⟨x1, x2⟩ := x
    obtain ⟨y1, y2⟩ := y
    dsimp only at hv hr ⊢
    subst hv
    split
    · exact S.sNot hr
    split
    · exact SR.err hr
    have hs := S.skip _ _ hr
    rw [← S.pkq _ _ hs]
    split
    · exact S.sUnlike hs _
    · exact SR.bind (S.sArgs hs) fun x y hv hr => SR.ok (by rw [hv]) hr
  · exact SR.bind (S.sTerm h) fun x y hv hr => by rw [← hv]; exact S.sUnlike hr _
theorem Sim.sBodyN (S : Sim L M R) : ∀ (n p q : Nat) (l : List PLit), R p q → SR R Eq (rBodyN L n p l) (rBodyN M n q l)
  | 0, p, q, l, h => SR.err h
  | n + 1, p, q, l, h => by
    unfold rBodyN
    refine SR.bind (S.sLit (S.skip _ _ h)) fun x y hv hr => ?_
    obtain ⟨x1, x2⟩ := x
    obtain ⟨y1, y2⟩ := y
    dsimp only at hv hr ⊢
    subst hv
    have hs := S.skip _ _ hr
    rw [← S.pkq _ _ hs]
    by_cases h44 : pk L (rSkip L x2) = 44
    · rw [if_pos h44, if_pos h44]
      by_cases hn : n = 0
      · rw [if_pos hn, if_pos hn]; exact SR.err hs
      · rw [if_neg hn, if_neg hn]; exact S.sBodyN n _ _ _ (S.byte hs 44 (by decide) (by decide) h44)
    · rw [if_neg h44, if_neg h44]
      exact S.sSign hs 46 (by decide) (by decide) fun _ _ h => SR.ok rfl h
theorem Sim.sBody (S : Sim L M R) {p q : Nat} (h : R p q) : SR R Eq (rBody L p) (rBody M q) := by
  unfold rBody
  have hs := S.skip _ _ h
  rw [← S.pkq _ _ hs]
  by_cases h58 : pk L (rSkip L p) = 58
  · rw [if_pos h58, if_pos h58]
    exact S.sSign (S.byte hs 58 (by decide) (by decide) h58) 45 (by decide) (by decide) fun _ _ h => S.sBodyN 256 _ _ _ h
  · rw [if_neg h58, if_neg h58]
    exact S.sSign hs 46 (by decide) (by decide) fun _ _ h => SR.ok rfl h
theorem Sim.sArN (S : Sim L M R) : ∀ (f k : Nat) (n : Int) (p q : Nat), R p q → SR R Eq (rArN L f k n p) (rArN M f k n q)
  | 0, _, _, _, _, h => SR.err h
  | f + 1, k, n, p, q, h => by
    unfold rArN
    rw [← S.pkq p q h]
    split
    · rename_i hd
      split
      · exact SR.err h
      · refine S.sArN f _ _ _ _ (S.step p q h ?_ ?_)
        · unfold digitB at hd; simp at hd; omega
        · unfold digitB at hd; simp at hd; omega
    · exact SR.ok rfl h
theorem Sim.sArity (S : Sim L M R) {p q : Nat} (h : R p q) : SR R Eq (rArity L p) (rArity M q) := by
  unfold rArity
  rw [← S.pkq p q h]
  split
  · refine SR.bind (S.sArN 4 0 0 p q h) fun x y hv hr => ?_
    obtain ⟨x1, x2⟩ := x
    obtain ⟨y1, y2⟩ := y
    dsimp only at hv hr ⊢
    subst hv
    rw [← S.pkq _ _ hr]
    split
    · exact SR.err hr
    · exact SR.ok rfl hr
  · exact SR.err h
theorem Sim.sSlash (S : Sim L M R) {p q : Nat} (h : R p q) : SR R Eq (rSlash L p) (rSlash M q) := by
  unfold rSlash
  rw [← S.pkq p q h]
  split
  · exact SR.err h
  · exact SR.bind (S.sName (S.skip _ _ h)) fun x y hv hr => S.sSign (S.skip _ _ hr) 47 (by decide) (by decide) fun _ _ h => SR.bind (S.sArity (S.skip _ _ h)) fun a b hv2 hr2 => SR.ok (by rw [hv, hv2]) (S.skip _ _ hr2)
theorem Sim.sRuleOf (S : Sim L M R) {p q : Nat} (h : R p q) (pr : ByteArray) : SR R Eq (rRuleOf L pr p) (rRuleOf M pr q) :=
  SR.bind (S.sArgs h) fun x y hv hr => SR.bind (S.sBody hr) fun a b hv2 hr2 => SR.ok (by rw [hv, hv2]) hr2
/-- the same statement, at places that answer one another -/
inductive StR (R : Nat → Nat → Prop) : Stmt → Stmt → Prop
  | inp (p : ByteArray) (n : Int) (f : ByteArray) (a b : Nat) (h : R a b) : StR R (.inp p n f a) (.inp p n f b)
  | outp (p : ByteArray) (n : Int) (a b : Nat) (h : R a b) : StR R (.outp p n a) (.outp p n b)
  | rule (r : PRule) (a b : Nat) (h : R a b) : StR R (.rule r a) (.rule r b)
theorem Sim.sStmt (S : Sim L M R) {p q : Nat} (h : R p q) : SR R (StR R) (rStmt L p) (rStmt M q) := by
  unfold rStmt
  rw [← S.pkq p q h]
  split
  · refine SR.bind (S.sRun h) fun x y hv hr => ?_
    obtain ⟨x1, x2⟩ := x
    obtain ⟨y1, y2⟩ := y
    dsimp only at hv hr ⊢
    subst hv
    rw [← S.pkq _ _ hr]
    split
    · refine SR.bind (S.sSlash hr) fun a b hv2 hr2 => ?_
      rw [← hv2]
      split
      · refine SR.bind (S.sText hr2) fun f g hv3 hr3 => ?_
        rw [← hv3]
        exact S.sSign (S.skip _ _ hr3) 46 (by decide) (by decide) fun _ _ h4 => SR.ok (.inp _ _ _ _ _ h) h4
      · exact S.sSign hr2 46 (by decide) (by decide) fun _ _ h4 => SR.ok (.outp _ _ _ _ h) h4
    split
    · exact SR.err hr
    · refine SR.bind (S.sRuleOf hr _) fun a b hv2 hr2 => ?_
      rw [← hv2]
      exact SR.ok (.rule _ _ _ h) hr2
  · exact SR.err h
/-- statements, one by one -/
inductive StsR (R : Nat → Nat → Prop) : List Stmt → List Stmt → Prop
  | nil : StsR R [] []
  | cons (x y : Stmt) (l m : List Stmt) : StR R x y → StsR R l m → StsR R (x :: l) (y :: m)
theorem StsR.snoc {R : Nat → Nat → Prop} {l m : List Stmt} {x y : Stmt} (h : StsR R l m) (hx : StR R x y) : StsR R (l ++ [x]) (m ++ [y]) := by
  induction h with
  | nil => exact .cons _ _ _ _ hx .nil
  | cons a b l m h1 _ ih => exact .cons _ _ _ _ h1 ih
theorem Sim.sProgN (S : Sim L M R) : ∀ (f p q : Nat) (l m : List Stmt), R p q → StsR R l m → SR R (StsR R) (rProgN L f p l) (rProgN M f q m)
  | 0, _, _, _, _, h, _ => SR.err h
  | f + 1, p, q, l, m, h, hl => by
    unfold rProgN
    rw [← S.pkq p q h]
    split
    · exact SR.ok hl h
    · exact SR.bind (S.sStmt h) fun x y hv hr => S.sProgN f _ _ _ _ (S.skip _ _ hr) (hl.snoc hv)
end
/-! ### a text that is shut: more behind it changes nothing -/
/-- what is told stays with more behind it -/
def Stable {α : Type} (F : Bs → Nat → Except Int (α × Nat)) : Prop := ∀ (L t : Bs) (p q : Nat) (v : α), p ≤ L.length → F L p = .ok (v, q) → F (L ++ t) p = .ok (v, q)
structure Shuts {α : Type} (F : Bs → Nat → Except Int (α × Nat)) : Prop where
  st : Stable F
  last : ∀ (L : Bs) (q : Nat) (v : α), F L L.length ≠ .ok (v, q)
theorem Stable.pure {α : Type} (v : α) : Stable fun _ p => .ok (v, p) := fun _ _ _ _ _ _ h => h
theorem Stable.congr {α : Type} {F G : Bs → Nat → Except Int (α × Nat)} (hF : Stable F) (h : ∀ L p, G L p = F L p) : Stable G := by
  have : G = F := funext fun L => funext fun p => h L p
  rw [this]; exact hF
theorem Shuts.err {α : Type} : Shuts (α := α) fun _ p => .error (p : Int) := ⟨fun _ _ _ _ _ _ h => (nomatch h), fun _ _ _ h => (nomatch h)⟩
theorem Shuts.congr {α : Type} {F G : Bs → Nat → Except Int (α × Nat)} (hF : Shuts F) (h : ∀ L p, G L p = F L p) : Shuts G := by
  have : G = F := funext fun L => funext fun p => h L p
  rw [this]; exact hF
theorem Shuts.bind {α β : Type} {F : Bs → Nat → Except Int (α × Nat)} {G : α → Bs → Nat → Except Int (β × Nat)} (hF : Good F) (hG : ∀ v, Shuts (G v)) : Shuts fun L p => (F L p).bind fun x => G x.1 L x.2 := by
  refine ⟨fun L t p q v hp h => ?_, fun L q v h => ?_⟩
  · show (F (L ++ t) p).bind _ = _
    have h1 := hF.mono L p hp
    have h2 := hF.all L t p hp
    cases hx : F L p with
    | error e => rw [hx] at h; cases h
    | ok x =>
      rw [hx] at h h1 h2
      have h3 : (x.2 : Int) ≤ L.length := h1.2
      have h4 : G x.1 L x.2 = .ok (v, q) := h
      rcases h2 with ⟨h5, h6⟩ | ⟨h5, _⟩
      · rw [h6]; exact (hG x.1).st L t x.2 q v (by omega) h4
      · have h7 : (x.2 : Int) = L.length := h5
        have h8 : x.2 = L.length := by omega
        rw [h8] at h4
        exact absurd h4 ((hG x.1).last L q v)
  · have h1 := hF.mono L L.length (Nat.le_refl _)
    cases hx : F L L.length with
    | error e => rw [hx] at h; cases h
    | ok x =>
      rw [hx] at h h1
      have h4 : G x.1 L x.2 = .ok (v, q) := h
      have h3 : (L.length : Int) ≤ (x.2 : Int) ∧ (x.2 : Int) ≤ L.length := h1
      have h8 : x.2 = L.length := by omega
      rw [h8] at h4
      exact absurd h4 ((hG x.1).last L q v)
theorem Shuts.then_ {α β : Type} {F : Bs → Nat → Except Int (α × Nat)} {G : α → Bs → Nat → Except Int (β × Nat)} (hF : Shuts F) (hg : Good F) (hG : ∀ v, Stable (G v)) : Shuts fun L p => (F L p).bind fun x => G x.1 L x.2 := by
  refine ⟨fun L t p q v hp h => ?_, fun L q v h => ?_⟩
  · show (F (L ++ t) p).bind _ = _
    cases hx : F L p with
    | error e => rw [hx] at h; cases h
    | ok x =>
      obtain ⟨x1, x2⟩ := x
      have h1 := hg.mono L p hp
      rw [hx] at h h1
      have h3 : (x2 : Int) ≤ L.length := h1.2
      rw [hF.st L t p x2 x1 hp hx]
      exact hG x1 L t x2 q v (by omega) h
  · cases hx : F L L.length with
    | error e => rw [hx] at h; cases h
    | ok x => exact hF.last L x.2 x.1 hx
theorem Shuts.skip {α : Type} {F : Bs → Nat → Except Int (α × Nat)} (hF : Shuts F) : Shuts fun L p => F L (rSkip L p) := by
  refine ⟨fun L t p q v hp h => ?_, fun L q v h => ?_⟩
  · have h1 := rskip_le L p hp
    rcases Nat.lt_or_ge (rSkip L p) L.length with h2 | h2
    · have h3 : rSkip (L ++ t) p = rSkip L p := by
        unfold rSkip at h2 ⊢
        rw [show (L ++ t).drop p = L.drop p ++ t from drop_append_lt L t p hp, skip_cut false (L.drop p) t (by rw [List.length_drop]; omega)]
      show F (L ++ t) (rSkip (L ++ t) p) = _
      rw [h3]
      exact hF.st L t _ q v h1.2 h
    · have h3 : rSkip L p = L.length := by omega
      have h4 : F L (rSkip L p) = .ok (v, q) := h
      rw [h3] at h4
      exact absurd h4 (hF.last L q v)
  · have h1 := rskip_le L L.length (Nat.le_refl _)
    have h3 : rSkip L L.length = L.length := by omega
    have h4 : F L (rSkip L L.length) = .ok (v, q) := h
    rw [h3] at h4
    exact hF.last L q v h4
theorem Shuts.step {α : Type} {F G : Bs → Nat → Except Int (α × Nat)} (c : Int → Prop) [DecidablePred c] (hc : ¬ c (-1)) (hF : Stable F) (hG : Shuts G) : Shuts fun L p => if c (pk L p) then F L (p + 1) else G L p := by
  refine ⟨fun L t p q v hp h => ?_, fun L q v h => ?_⟩
  · rcases Nat.lt_or_ge p L.length with h1 | h1
    · have h2 := pk_append L t p h1
      show (if c (pk (L ++ t) p) then F (L ++ t) (p + 1) else G (L ++ t) p) = _
      rw [h2]
      have h3 : (if c (pk L p) then F L (p + 1) else G L p) = .ok (v, q) := h
      by_cases h4 : c (pk L p)
      · rw [if_pos h4] at h3 ⊢; exact hF L t (p + 1) q v h1 h3
      · rw [if_neg h4] at h3 ⊢; exact hG.st L t p q v hp h3
    · have h3 : (if c (pk L p) then F L (p + 1) else G L p) = .ok (v, q) := h
      rw [pk_end L p h1, if_neg hc, show p = L.length from by omega] at h3
      exact absurd h3 (hG.last L q v)
  · have h3 : (if c (pk L L.length) then F L (L.length + 1) else G L L.length) = .ok (v, q) := h
    rw [pk_end L _ (Nat.le_refl _), if_neg hc] at h3
    exact hG.last L q v h3
theorem Shuts.ite {α : Type} {F G : Bs → Nat → Except Int (α × Nat)} (c : Int → Prop) [DecidablePred c] (hF : Shuts F) (hG : Shuts G) : Shuts fun L p => if c (pk L p) then F L p else G L p := by
  refine ⟨fun L t p q v hp h => ?_, fun L q v h => ?_⟩
  · have h3 : (if c (pk L p) then F L p else G L p) = .ok (v, q) := h
    rcases Nat.lt_or_ge p L.length with h1 | h1
    · have h2 := pk_append L t p h1
      show (if c (pk (L ++ t) p) then F (L ++ t) p else G (L ++ t) p) = _
      rw [h2]
      by_cases h4 : c (pk L p)
      · rw [if_pos h4] at h3 ⊢; exact hF.st L t p q v hp h3
      · rw [if_neg h4] at h3 ⊢; exact hG.st L t p q v hp h3
    · have hp' : p = L.length := by omega
      subst hp'
      by_cases h4 : c (pk L L.length)
      · rw [if_pos h4] at h3; exact absurd h3 (hF.last L q v)
      · rw [if_neg h4] at h3; exact absurd h3 (hG.last L q v)
  · have h3 : (if c (pk L L.length) then F L L.length else G L L.length) = .ok (v, q) := h
    by_cases h4 : c (pk L L.length)
    · rw [if_pos h4] at h3; exact hF.last L q v h3
    · rw [if_neg h4] at h3; exact hG.last L q v h3
theorem Shuts.sign {α : Type} {F : Bs → Nat → Except Int (α × Nat)} (c : Int) (hc : 0 ≤ c) (hF : Stable F) : Shuts fun L p => (rSign c L p).bind fun q => F L q := by
  refine (Shuts.step (fun x => x = c) (by omega) hF Shuts.err).congr fun L p => ?_
  unfold rSign
  split <;> rfl
theorem shuts_bodyN : ∀ (n : Nat) (l : List PLit), Shuts fun L p => rBodyN L n p l
  | 0, _ => Shuts.err
  | n + 1, l => by
    refine (Shuts.skip (Shuts.bind good_lit (G := fun x L q => if pk L (rSkip L q) = 44 then (if n = 0 then .error (rSkip L q : Int) else rBodyN L n (rSkip L q + 1) (l ++ [x])) else (rSign 46 L (rSkip L q)).bind fun q => .ok (l ++ [x], q)) fun x => Shuts.skip (F := fun L q => if pk L q = 44 then (if n = 0 then .error (q : Int) else rBodyN L n (q + 1) (l ++ [x])) else (rSign 46 L q).bind fun q => .ok (l ++ [x], q)) ?_)).congr fun L p => rfl
    by_cases hn : n = 0
    · subst hn
      exact (Shuts.ite (fun c => c = 44) Shuts.err (Shuts.sign 46 (by decide) (Stable.pure (l ++ [x])))).congr fun L p => rfl
    · exact (Shuts.step (fun c => c = 44) (by decide) (shuts_bodyN n (l ++ [x])).st (Shuts.sign 46 (by decide) (Stable.pure (l ++ [x])))).congr fun L p => by rw [if_neg hn]
theorem shuts_body : Shuts rBody := Shuts.skip (Shuts.step (fun c => c = 58) (by decide) (Shuts.sign 45 (by decide) (shuts_bodyN 256 []).st).st (Shuts.sign 46 (by decide) (Stable.pure [])))
theorem shuts_ruleOf (pr : ByteArray) : Shuts fun L p => rRuleOf L pr p := Shuts.bind good_args fun a => Shuts.then_ shuts_body good_body fun b => Stable.pure (PRule.mk pr a b)
theorem shuts_stmt_at (x : Bs) (n : Nat) : Shuts fun L q =>
    if (x = sInput ∨ x = sOutput) ∧ (pk L q = -1 ∨ blankB (pk L q) = true ∨ pk L q = 37) then
      (rSlash L q).bind fun a =>
        if x = sInput then (rText L a.2).bind fun f => (rSign 46 L (rSkip L f.2)).bind fun q => .ok (Stmt.inp a.1.1 a.1.2 (mk f.1) n, q)
        else (rSign 46 L a.2).bind fun q => .ok (.outp a.1.1 a.1.2 n, q)
    else if reservedB x then .error (q : Int)
    else (rRuleOf L (mk x) q).bind fun r => .ok (.rule r.1 n, r.2) := by
  have h2 : Shuts fun L q => if reservedB x then .error (q : Int) else (rRuleOf L (mk x) q).bind fun r => .ok (Stmt.rule r.1 n, r.2) := by
    cases reservedB x
    · exact Shuts.then_ (shuts_ruleOf (mk x)) (good_ruleOf (mk x)) fun r => Stable.pure (Stmt.rule r n)
    · exact Shuts.err
  by_cases h1 : x = sInput ∨ x = sOutput
  · have h3 : Shuts fun L q => (rSlash L q).bind fun a =>
        if x = sInput then (rText L a.2).bind fun f => (rSign 46 L (rSkip L f.2)).bind fun q => .ok (Stmt.inp a.1.1 a.1.2 (mk f.1) n, q)
        else (rSign 46 L a.2).bind fun q => .ok (Stmt.outp a.1.1 a.1.2 n, q) := by
      refine Shuts.bind good_slash (G := fun a L q => if x = sInput then (rText L q).bind fun f => (rSign 46 L (rSkip L f.2)).bind fun q => .ok (Stmt.inp a.1 a.2 (mk f.1) n, q) else (rSign 46 L q).bind fun q => .ok (Stmt.outp a.1 a.2 n, q)) fun a => ?_
      by_cases h4 : x = sInput
      · exact (Shuts.bind good_text fun f => Shuts.skip (Shuts.sign 46 (by decide) (Stable.pure (Stmt.inp a.1 a.2 (mk f) n)))).congr fun L q => by rw [if_pos h4]
      · exact (Shuts.sign 46 (by decide) (Stable.pure (Stmt.outp a.1 a.2 n))).congr fun L q => by rw [if_neg h4]
    refine (Shuts.ite (fun c => c = -1 ∨ blankB c = true ∨ c = 37) h3 h2).congr fun L q => ?_
    by_cases h5 : pk L q = -1 ∨ blankB (pk L q) = true ∨ pk L q = 37
    · rw [if_pos ⟨h1, h5⟩, if_pos h5]
    · rw [if_neg (fun h => h5 h.2), if_neg h5]
  · exact h2.congr fun L q => by rw [if_neg (fun h => h1 h.1)]
theorem shuts_stmtAt (n : Nat) : Shuts (rStmtAt n) := Shuts.ite (fun c => smallB c = true) (Shuts.bind good_run fun x => shuts_stmt_at x n) Shuts.err
theorem stmt_more {L t : Bs} {p q : Nat} {s : Stmt} (hp : p ≤ L.length) (h : rStmt L p = .ok (s, q)) : rStmt (L ++ t) p = .ok (s, q) := (shuts_stmtAt p).st L t p q s hp h
/-! ### two texts, with a byte 10 between -/
/-- moved by k -/
def movedR (k : Nat) (p q : Nat) : Prop := q = k + p
theorem drop_add' (a L : Bs) (p : Nat) : (a ++ L).drop (a.length + p) = L.drop p := by
  rw [List.drop_append, List.drop_eq_nil_iff.2 (by omega), List.nil_append, show a.length + p - a.length = p from by omega]
theorem pk_drop (L : Bs) (p : Nat) : pk L p = pk (L.drop p) 0 := by
  unfold pk; rw [List.getElem?_drop, Nat.add_zero]
theorem sim_moved (a L : Bs) : Sim L (a ++ L) (movedR a.length) :=
  ⟨fun p q h => by rw [h, pk_drop (a ++ L), drop_add', ← pk_drop], fun p q h _ _ => by rw [h]; exact Nat.add_assoc _ _ _, fun p q h => by rw [h]; unfold rSkip movedR; rw [drop_add']; omega⟩
theorem skip_join (L t : Bs) (p : Nat) (hp : p ≤ L.length) (h : rSkip L p = L.length) : rSkip (L ++ 10 :: t) p = L.length + 1 + rSkip t 0 := by
  unfold rSkip at h ⊢
  rw [show (L ++ 10 :: t).drop p = L.drop p ++ 10 :: t from drop_append_lt L _ p hp, skip_ten false (L.drop p) t (by rw [List.length_drop]; omega), List.length_drop, List.drop_zero]
  omega
theorem skip_join' (L t : Bs) (p : Nat) (hp : p ≤ L.length) (h : rSkip L p < L.length) : rSkip (L ++ t) p = rSkip L p := by
  unfold rSkip at h ⊢
  rw [show (L ++ t).drop p = L.drop p ++ t from drop_append_lt L _ p hp, skip_cut false (L.drop p) t (by rw [List.length_drop]; omega)]
/-- behind a program's text and a byte 10 the statements are read on -/
theorem progN_join (L t : Bs) : ∀ (f F p q : Nat) (l m : List Stmt), p ≤ L.length → rProgN L f (rSkip L p) l = .ok (m, q) → (L ++ 10 :: t).length < F + rSkip (L ++ 10 :: t) p → rProgN (L ++ 10 :: t) F (rSkip (L ++ 10 :: t) p) l = rProgN (L ++ 10 :: t) ((L ++ 10 :: t).length + 1) (L.length + 1 + rSkip t 0) m
  | 0, F, p, q, l, m, hp, h, hF => by cases h
  | f + 1, F, p, q, l, m, hp, h, hF => by
    have h1 := rskip_le L p hp
    have hlen : (L ++ 10 :: t).length = L.length + 1 + t.length := by rw [List.length_append, List.length_cons]; omega
    unfold rProgN at h
    rcases Nat.lt_or_ge (rSkip L p) L.length with h2 | h2
    · have h0 := pk_get h2
      have hne : ¬ pk L (rSkip L p) = -1 := by rw [h0]; have := bi_nonneg L[rSkip L p]; omega
      rw [if_neg hne] at h
      have hs := skip_join' L (10 :: t) p hp h2
      rw [hs] at hF ⊢
      obtain ⟨F', rfl⟩ : ∃ F', F = F' + 1 := ⟨F - 1, by omega⟩
      conv => lhs; unfold rProgN
      rw [if_neg (by rw [pk_append L _ _ h2]; exact hne)]
      cases hx : rStmt L (rSkip L p) with
      | error e => rw [hx] at h; cases h
      | ok x =>
        obtain ⟨s, k⟩ := x
        rw [hx] at h
        have h3 := stmt_lt h1.2 hx
        rw [stmt_more (t := 10 :: t) h1.2 hx]
        have hk := rskip_le (L ++ 10 :: t) k (by omega)
        exact progN_join L t f F' k q _ m h3.2 h (by omega)
    · have h3 : rSkip L p = L.length := by omega
      rw [if_pos (pk_end L _ h2)] at h
      injection h with h
      injection h with h _
      subst h
      rw [skip_join L t p hp h3] at hF ⊢
      have h4 := rskip_le t 0 (Nat.zero_le _)
      exact progN_fuel _ _ _ _ (by omega) hF (by omega)
theorem rProgN_acc (L : Bs) : ∀ (f p : Nat) (l m : List Stmt), rProgN L f p (l ++ m) = (rProgN L f p m).map fun x => (l ++ x.1, x.2)
  | 0, _, _, _ => rfl
  | f + 1, p, l, m => by
    unfold rProgN
    split
    · rfl
    · cases rStmt L p with
      | error e => rfl
      | ok x =>
        show rProgN L f (rSkip L x.2) (l ++ m ++ [x.1]) = _
        rw [List.append_assoc]
        exact rProgN_acc L f _ l _
theorem prog_join {L t : Bs} {m : List Stmt} {q : Nat} (h : rProg L = .ok (m, q)) : SR (movedR (L.length + 1)) (fun x y => ∃ z, y = m ++ z ∧ StsR (movedR (L.length + 1)) x z) (rProg t) (rProg (L ++ 10 :: t)) := by
  have h1 : rProg (L ++ 10 :: t) = rProgN (L ++ 10 :: t) ((L ++ 10 :: t).length + 1) (L.length + 1 + rSkip t 0) m :=
    progN_join L t _ _ 0 q [] m (Nat.zero_le _) h (by omega)
  have hS := sim_moved (L ++ [10]) t
  have ha : (L ++ [10]).length = L.length + 1 := by simp
  have hL : L ++ [10] ++ t = L ++ 10 :: t := by simp
  rw [ha, hL] at hS
  have hlen : (L ++ 10 :: t).length = L.length + 1 + t.length := by rw [List.length_append, List.length_cons]; omega
  have h4 := rskip_le t 0 (Nat.zero_le _)
  have h2 := hS.sProgN ((L ++ 10 :: t).length + 1) (rSkip t 0) (L.length + 1 + rSkip t 0) [] [] rfl .nil
  have h3 : rProgN t ((L ++ 10 :: t).length + 1) (rSkip t 0) [] = rProg t := progN_fuel _ _ _ _ h4.2 (by omega) (by omega)
  rw [h3] at h2
  have h5 := rProgN_acc (L ++ 10 :: t) ((L ++ 10 :: t).length + 1) (L.length + 1 + rSkip t 0) m []
  rw [List.append_nil] at h5
  rw [h1, h5]
  cases hx : rProg t with
  | error e =>
    rw [hx] at h2
    cases hy : rProgN (L ++ 10 :: t) ((L ++ 10 :: t).length + 1) (L.length + 1 + rSkip t 0) [] with
    | error f => rw [hy] at h2; exact h2
    | ok y => rw [hy] at h2; exact h2.elim
  | ok x =>
    rw [hx] at h2
    cases hy : rProgN (L ++ 10 :: t) ((L ++ 10 :: t).length + 1) (L.length + 1 + rSkip t 0) [] with
    | error f => rw [hy] at h2; exact h2.elim
    | ok y => rw [hy] at h2; exact ⟨⟨y.1, rfl, h2.1⟩, h2.2⟩
/-! ### blanks behind lines -/
/-- the second text is the first one with blanks behind some of its lines -/
inductive Wid : Bs → Bs → Prop
  | nil : Wid [] []
  | byte (c : UInt8) (l m : Bs) : Wid l m → Wid (c :: l) (c :: m)
  | gap (g l m : Bs) : (∀ x, skipN false (g ++ x) = g.length + skipN false x) → Wid l m → Wid (10 :: l) (10 :: (g ++ m))
def widR (L M : Bs) (p q : Nat) : Prop := Wid (L.drop p) (M.drop q)
theorem wid_skip {l m : Bs} (h : Wid l m) : ∀ b, Wid (l.drop (skipN b l)) (m.drop (skipN b m)) := by
  induction h with
  | nil => intro b; cases b <;> exact .nil
  | byte c l m hw ih =>
    intro b
    cases b with
    | true =>
      simp only [skipN]
      rw [Nat.add_comm 1, Nat.add_comm 1, List.drop_succ_cons, List.drop_succ_cons]
      exact ih _
    | false =>
      simp only [skipN]
      split
      · rw [Nat.add_comm 1, Nat.add_comm 1, List.drop_succ_cons, List.drop_succ_cons]; exact ih _
      · split
        · rw [Nat.add_comm 1, Nat.add_comm 1, List.drop_succ_cons, List.drop_succ_cons]; exact ih _
        · exact .byte c l m hw
  | gap g l m hg hw ih =>
    have h10 : bi 10 = 10 := rfl
    have h2 : ∀ (b : Bool) (x : Bs), skipN b (10 :: x) = 1 + skipN false x := fun b x => by
      cases b with
      | true => simp only [skipN]; rfl
      | false => simp only [skipN]; rfl
    intro b
    have e1 : (10 :: l).drop (skipN b (10 :: l)) = l.drop (skipN false l) := by rw [h2, Nat.add_comm, List.drop_succ_cons]
    have e2 : (10 :: (g ++ m)).drop (skipN b (10 :: (g ++ m))) = m.drop (skipN false m) := by
      rw [h2, hg m, Nat.add_comm, List.drop_succ_cons, List.drop_append, drop_nil' (by omega), List.nil_append]
      congr 1; omega
    rw [e1, e2]
    exact ih _
theorem sim_wid (L M : Bs) : Sim L M (widR L M) := by
  refine ⟨fun p q h => ?_, fun p q h h0 h10 => ?_, fun p q h => ?_⟩
  · rw [pk_drop L, pk_drop M]
    unfold widR at h
    generalize L.drop p = x at h
    generalize M.drop q = y at h
    cases h with
    | nil => rfl
    | byte c l m _ => rfl
    | gap g l m _ _ => rfl
  · unfold widR at h ⊢
    rw [pk_drop L] at h0 h10
    rw [← List.drop_drop (i := 1) (j := p), ← List.drop_drop (i := 1) (j := q)]
    generalize L.drop p = x at h h0 h10
    generalize M.drop q = y at h
    cases h with
    | nil => exact absurd h0 (by decide)
    | byte c l m hw => exact hw
    | gap g l m _ _ => exact absurd rfl h10
  · unfold widR at h ⊢
    unfold rSkip
    rw [← List.drop_drop, ← List.drop_drop]
    exact wid_skip h false
theorem wid_prog {L M : Bs} (h : Wid L M) (hL : L.length ≤ M.length) : SR (widR L M) (StsR (widR L M)) (rProg L) (rProg M) := by
  have hS := sim_wid L M
  have h0 : widR L M 0 0 := by unfold widR; rw [List.drop_zero, List.drop_zero]; exact h
  have h2 := hS.sProgN (M.length + 1) (rSkip L 0) (rSkip M 0) [] [] (hS.skip 0 0 h0) .nil
  have h4 := rskip_le L 0 (Nat.zero_le _)
  have h3 : rProgN L (M.length + 1) (rSkip L 0) [] = rProg L := progN_fuel _ _ _ _ h4.2 (by omega) (by omega)
  rw [h3] at h2
  exact h2
end Lx
end Go.Proofs.Ytclioihichcpiaa
