/- tokens, plain: each one's bytes alone; their order; the text cut where it goes no further. -/
import Derived.Test.YtefgipoegnacjaaLexW
import Derived.Test.YtefgipoegnacjaaLexY
import Derived.Test.YtefgipoegnacjaaLawBehind
namespace Go.Proofs.Ytefgipoegnacjaa.Lx

theorem skip_drop : ∀ (b : Bool) (l : Bs), skipN b l < l.length → skipN false (l.drop (skipN b l)) = 0
  | _, [], h => by simp at h
  | true, c :: r, h => by
    rw [skipN, List.length_cons] at h
    rw [skipN, Nat.add_comm, List.drop_succ_cons]
    exact skip_drop _ r (by omega)
  | false, c :: r, h => by
    rw [skipN, List.length_cons] at h
    rw [skipN]
    by_cases h1 : bi c = 37
    · rw [if_pos h1] at h ⊢
      rw [Nat.add_comm, List.drop_succ_cons]; exact skip_drop _ r (by omega)
    · rw [if_neg h1] at h ⊢
      by_cases h2 : blankB (bi c) = true
      · rw [if_pos h2] at h ⊢
        rw [Nat.add_comm, List.drop_succ_cons]; exact skip_drop _ r (by omega)
      · rw [if_neg h2, List.drop_zero, skipN, if_neg h1, if_neg h2]

/-- a token's own bytes: a row of it alone -/
def Piece (X : Bs) (t : Tok) : Prop := X.length = t.end_ - t.at_ ∧ tokens X = ⟨[⟨t.kind, t.text, 0, t.end_ - t.at_⟩], zeroTok, t.end_ - t.at_, true⟩
theorem piece_of {l : Bs} {d : Nat} {t : Tok} (hl : l ≠ []) (h : nextT l d = (t, true)) (hs : skipN false l = 0) : Piece (l.take (t.end_ - d)) t := by
  have hf := next_facts hl h
  have hk := hf.whole rfl
  have hat := hf.at_ hk
  have hlo := hf.lo hk
  have hhi := hf.hi hk
  have hX : (l.take (t.end_ - d)).length = t.end_ - d := by rw [List.length_take]; omega
  have hne : l.take (t.end_ - d) ≠ [] := by intro h2; have := congrArg List.length h2; rw [hX] at this; simp at this; omega
  have h1 := next_cut hl h [] (fun _ => stops_nil l)
  rw [List.append_nil] at h1
  have hm := next_move (l.take (t.end_ - d)) 0 d
  rw [Nat.zero_add, h1] at hm
  generalize hu : nextT (l.take (t.end_ - d)) 0 = u at hm
  obtain ⟨u, wh⟩ := u
  injection hm with hm1 hm2
  simp only [] at hm1 hm2
  subst hm2
  have hfu := next_facts hne hu
  have huk := hfu.whole rfl
  have hua := hfu.at_ huk
  rw [moveT_ne d u huk, hua] at hm1
  have hue : u.end_ = t.end_ - d := by rw [hm1]; show _ = _ + d - d; omega
  have huE : u = ⟨t.kind, t.text, 0, t.end_ - d⟩ := by rw [← hue, hm1]; cases u; simp at hua ⊢; exact hua
  unfold Piece
  rw [hat]
  refine ⟨hX, ?_⟩
  have hsk : skipN false (l.take (t.end_ - d)) = 0 := by rw [skip_take false l _ (by omega)]; exact hs
  rw [tokens_tk, tk_more hsk (List.drop_zero) hne hu (by simp)]
  rw [hue, Nat.add_zero, Nat.sub_zero, List.drop_of_length_le (by rw [hX]; exact Nat.le_refl _), tk_end (n := 0) rfl (Nat.zero_le _), huE]
  rfl

theorem tk_pieces (l : Bs) (a : Nat) (j : Bool) : ∀ t ∈ (tk l a j).toks, a ≤ t.at_ ∧ Piece ((l.drop (t.at_ - a)).take (t.end_ - t.at_)) t := by
  refine tk_ind (P := fun l a _ r => ∀ t ∈ r.toks, a ≤ t.at_ ∧ Piece ((l.drop (t.at_ - a)).take (t.end_ - t.at_)) t) ?_ ?_ ?_ ?_ l a j
  · intro l a j _ t h; simp at h
  · intro l a t wh _ _ _ _ t h; simp at h
  · intro l a j n l1 t hn hl1 h1 hlt hx u h; simp at h
  · intro l a j n l1 t r hn hl1 h1 hlt hx hj hr hlo hhi ih u hu
    have hat := (next_facts h1 hx).at_ ((next_facts h1 hx).whole rfl)
    rcases List.mem_cons.1 hu with rfl | hu
    · refine ⟨by omega, ?_⟩
      rw [hat, show a + n - a = n from by omega, hl1]
      exact piece_of h1 hx (by rw [← hl1, ← hn]; exact skip_drop false l (by omega))
    · have := ih u hu
      refine ⟨by omega, ?_⟩
      have h2 := this.2
      rw [List.drop_drop, ← hl1, List.drop_drop, show n + (t.end_ - (a + n) + (u.at_ - t.end_)) = u.at_ - a from by omega] at h2
      exact h2

/-- where the k first tokens end -/
def ends : Nat → List Tok → Nat → Nat
  | a, _, 0 => a
  | a, [], _ + 1 => a
  | _, t :: r, k + 1 => ends t.end_ r k
theorem ends_succ : ∀ (a : Nat) (l : List Tok) (k : Nat) (h : k < l.length), ends a l (k + 1) = l[k].end_
  | _, [], _, h => by simp at h
  | a, t :: r, 0, _ => by cases r <;> rfl
  | a, t :: r, k + 1, h => by
    show ends t.end_ r (k + 1) = _
    rw [ends_succ t.end_ r k (by simpa using h)]; rfl
theorem tk_order (l : Bs) (a : Nat) (j : Bool) : (∀ k (h : k < (tk l a j).toks.length), ends a (tk l a j).toks k ≤ (tk l a j).toks[k].at_) ∧
    ((tk l a j).open_.kind ≠ 0 → ends a (tk l a j).toks (tk l a j).toks.length ≤ (tk l a j).open_.at_ ∧ (tk l a j).open_.end_ = (tk l a j).far ∧ (tk l a j).open_.text = []) := by
  refine tk_ind (P := fun l a _ r => (∀ k (h : k < r.toks.length), ends a r.toks k ≤ r.toks[k].at_) ∧ (r.open_.kind ≠ 0 → ends a r.toks r.toks.length ≤ r.open_.at_ ∧ r.open_.end_ = r.far ∧ r.open_.text = [])) ?_ ?_ ?_ ?_ l a j
  · intro l a j _; exact ⟨fun k h => by simp at h, fun h => absurd rfl h⟩
  · intro l a t wh _ _ _ _; exact ⟨fun k h => by simp at h, fun h => absurd rfl h⟩
  · intro l a j n l1 t hn hl1 h1 hlt hx
    have hf := next_facts h1 hx
    refine ⟨fun k h => by simp at h, fun hk => ?_⟩
    have hk : t.kind ≠ 0 := hk
    show ends a [] 0 ≤ t.at_ ∧ t.end_ = ite _ _ _ ∧ t.text = []
    rw [if_neg hk, hf.at_ hk]
    exact ⟨by show a ≤ _; omega, rfl, hf.text rfl⟩
  · intro l a j n l1 t r hn hl1 h1 hlt hx hj hr hlo hhi ih
    have hat := (next_facts h1 hx).at_ ((next_facts h1 hx).whole rfl)
    refine ⟨fun k h => ?_, fun hk => ih.2 hk⟩
    cases k with
    | zero => show a ≤ t.at_; omega
    | succ k => exact ih.1 k (by simpa using h)

theorem tokens_cut (l : Bs) : tokens (l.take (tokens l).far) = { tokens l with ok := (tokens l).open_.kind == 0 } := by
  have := tk_cut l 0 false
  rw [Nat.sub_zero, ← tokens_tk, ← tokens_tk] at this
  exact this

end Go.Proofs.Ytefgipoegnacjaa.Lx
