/- tokens: plain laws on the next token and on all of them. -/
import Derived.Test.YtmjincocmhadeaaDoorLexU
namespace Go.Proofs.YtmjincocmhadeaaDoor.Lx
/-! ### skipping -/
theorem skip_cut : ∀ (b : Bool) (l m : Bs),skipN b l < l.length → skipN b (l ++ m) = skipN b l
  | _,[],_,h => by simp at h
  | true,c :: r,m,h => by
    rw [skipN,List.length_cons] at h;rw [List.cons_append,skipN,skipN,skip_cut _ r m (by omega)]
  | false,c :: r,m,h => by
    rw [List.cons_append,skipN,skipN];rw [skipN,List.length_cons] at h
    by_cases h1 : bi c = 37
    · rw [if_pos h1] at h;rw [if_pos h1,if_pos h1,skip_cut _ r m (by omega)]
    · rw [if_neg h1] at h;rw [if_neg h1,if_neg h1]
      by_cases h2 : blankB (bi c) = true
      · rw [if_pos h2] at h;rw [if_pos h2,if_pos h2,skip_cut _ r m (by omega)]
      · rw [if_neg h2,if_neg h2]
/-- blanks to the end, a byte 10 behind them -/
theorem skip_ten (b : Bool) (l m : Bs) : skipN b l = l.length → skipN b (l ++ 10 :: m) = l.length + 1 + skipN false m := by
 induction l generalizing b with
 | nil =>
  intro _;cases b
  · show skipN false (10 :: m) = _;rw [skipN,if_neg (by decide),if_pos (by decide)];simp
  · show skipN true (10 :: m) = _;rw [skipN];simp [bi]
 | cons c r ih =>
  have hr := fun b => skip_le' b r;intro h;rw [List.cons_append];cases b
  · rw [skipN] at h ⊢
    by_cases h1 : bi c = 37
    · rw [if_pos h1] at h ⊢;rw [ih _ (by simp at h;omega)];simp;omega
    · rw [if_neg h1] at h ⊢
      by_cases h2 : blankB (bi c) = true
      · rw [if_pos h2] at h ⊢;rw [ih _ (by simp at h;omega)];simp;omega
      · rw [if_neg h2] at h;simp at h
  · rw [skipN] at h ⊢;rw [ih _ (by simp at h;omega)];simp;omega
where
  skip_le' : ∀ (r : Bool) (l : Bs),skipN r l ≤ l.length
  | r,[] => by cases r <;> simp [skipN]
  | true,c :: l => by rw [skipN,List.length_cons];have := skip_le' (!(bi c == 10)) l;omega
  | false,c :: l => by
    rw [skipN,List.length_cons];split
    · have := skip_le' true l;omega
    · split
      · have := skip_le' false l;omega
      · omega
/-! ### words -/
theorem takeWhile_stop {α} (p : α → Bool) : ∀ l : List α,∀ c ∈ (l.drop (l.takeWhile p).length).head?,p c = false
  | [],c,h => by simp at h
  | x :: r,c,h => by
    rw [List.takeWhile_cons] at h;cases hp : p x
    · rw [hp] at h;simp at h;rw [← h];exact hp
    · rw [hp] at h;simp at h;exact takeWhile_stop p r c (by simpa using h)
theorem kind_isWord (l : Bs) (h : kindI l ≠ 0) : isWordB (kindI l) = true := by
 unfold kindI at *
 by_cases e1 : l = sInput
 · rw [if_pos e1];decide
 by_cases e2 : l = sOutput
 · rw [if_neg e1,if_pos e2];decide
 by_cases e3 : l = sNot
 · rw [if_neg e1,if_neg e2,if_pos e3];decide
 rw [if_neg e1,if_neg e2,if_neg e3] at h ⊢;revert h;cases numberB l <;> cases variableB l <;> cases nameB l <;> simp <;> decide
/-! ### the next token -/
theorem signI_ge {c k d : Int} {n : Nat} (h : signI c = some (k,n,d)) : 8 ≤ k := by
 unfold signI at h
 repeat' split at h
 all_goals (first | (injection h with h;injection h with h _;omega) | cases h)
inductive Next (a : Nat) : Bs → Tok × Bool → Prop
  | str (c r) : bi c = 34 → Next a (c :: r) (⟨4,if (quo r 0).2.2 then (quo r 0).1 else [],a,a + 1 + (quo r 0).2.1⟩,(quo r 0).2.2)
  | sign1 (c r k) : ¬ bi c = 34 → signI (bi c) = some (k,1,0) → 8 ≤ k → Next a (c :: r) (⟨k,[],a,a + 1⟩,true)
  | sign2 (c x r k) : ¬ bi c = 34 → signI (bi c) = some (k,2,bi x) → 8 ≤ k → Next a (c :: x :: r) (⟨k,[],a,a + 2⟩,true)
  | half (c r k d) : ¬ bi c = 34 → signI (bi c) = some (k,2,d) → 8 ≤ k → firstB (fun y => decide (y = d)) r = false → Next a (c :: r) (⟨k,[],a,a + 1⟩,false)
  | no (c r) : ¬ bi c = 34 → signI (bi c) = none → kindI ((c :: r).take (wordN (c :: r))) = 0 → Next a (c :: r) (zeroTok,false)
  | word (c r) : ¬ bi c = 34 → signI (bi c) = none → kindI ((c :: r).take (wordN (c :: r))) ≠ 0 →
      Next a (c :: r) (⟨kindI ((c :: r).take (wordN (c :: r))),if reservedB ((c :: r).take (wordN (c :: r))) then [] else (c :: r).take (wordN (c :: r)),a,a + wordN (c :: r)⟩,true)
theorem Next.of (l : Bs) (a : Nat) (h : l ≠ []) : Next a l (nextT l a) := by
 cases l with
 | nil => exact absurd rfl h
 | cons c r =>
  by_cases h34 : bi c = 34
  · rw [next_str c r a h34];exact .str c r h34
  rcases signI_cases (bi c) with hs | ⟨k,hs,_⟩ | ⟨k,d,hs,_⟩
  · rw [next_word c r a h34 hs]
    by_cases hk : kindI ((c :: r).take (wordN (c :: r))) = 0
    · rw [if_pos hk];exact .no c r h34 hs hk
    · rw [if_neg hk];exact .word c r h34 hs hk
  · rw [next_sign1 c r a k 0 h34 hs];exact .sign1 c r k h34 hs (signI_ge hs)
  · by_cases hd : firstB (fun y => decide (y = d)) r = true
    · cases r with
      | nil => cases hd
      | cons x r =>
       have hx : bi x = d := by simpa [firstB] using hd
       rw [next_sign2 c x r a k d h34 hs hx];subst hx;exact .sign2 c x r k h34 hs (signI_ge hs)
    · have hd' : firstB (fun y => decide (y = d)) r = false := by simpa using hd
      rw [next_sign2n c r a k d h34 hs hd'];exact .half c r k d h34 hs (signI_ge hs) hd'
theorem isWordB_big {k : Int} (h : 8 ≤ k) : isWordB k = false := by unfold isWordB;simp;omega
theorem wordN_pos {l : Bs} (h : kindI (l.take (wordN l)) ≠ 0) : 1 ≤ wordN l := by
 rcases Nat.eq_zero_or_pos (wordN l) with h0 | h0
 · exact absurd (by rw [h0];rfl) h
 · exact h0
structure NextFacts (l : Bs) (a : Nat) (t : Tok) (wh : Bool) : Prop where
  at_ : t.kind ≠ 0 → t.at_ = a
  lo : t.kind ≠ 0 → a < t.end_
  hi : t.kind ≠ 0 → t.end_ ≤ a + l.length
  whole : wh = true → t.kind ≠ 0
  zero : t.kind = 0 → t = zeroTok
  text : wh = false → t.text = []
  notword : wh = false → isWordB t.kind = false
theorem Next.facts {l : Bs} {a : Nat} {x : Tok × Bool} (h : Next a l x) : NextFacts l a x.1 x.2 := by
 cases h with
 | str c r h34 =>
  have := quo_far r 0;exact ⟨fun _ => rfl,fun _ => (by show _ < _ + 1 + _;omega),fun _ => (by show _ + 1 + _ ≤ _;simp;omega),fun _ => (by show (4 : Int) ≠ 0;decide),fun h => absurd h (by show ¬ (4 : Int) = 0;decide),fun h => (by simp_all),fun _ => rfl⟩
 | sign1 c r k h34 hs hk => exact ⟨fun _ => rfl,fun _ => (by show _ < _ + 1;omega),fun _ => (by show _ + 1 ≤ _;simp),fun _ => (by show k ≠ 0;omega),fun h => absurd h (by show ¬ k = 0;omega),fun h => (by cases h),fun h => (by cases h)⟩
 | sign2 c x r k h34 hs hk => exact ⟨fun _ => rfl,fun _ => (by show _ < _ + 2;omega),fun _ => (by show _ + 2 ≤ _;simp),fun _ => (by show k ≠ 0;omega),fun h => absurd h (by show ¬ k = 0;omega),fun h => (by cases h),fun h => (by cases h)⟩
 | half c r k d h34 hs hk hd => exact ⟨fun _ => rfl,fun _ => (by show _ < _ + 1;omega),fun _ => (by show _ + 1 ≤ _;simp),fun h => (by cases h),fun h => absurd h (by show ¬ k = 0;omega),fun _ => rfl,fun _ => isWordB_big hk⟩
 | no c r h34 hs hk => exact ⟨fun h => absurd rfl h,fun h => absurd rfl h,fun h => absurd rfl h,fun h => (by cases h),fun _ => rfl,fun _ => rfl,fun _ => rfl⟩
 | word c r h34 hs hk =>
  have h1 := wordN_pos hk;have h2 := wordN_le (c :: r);exact ⟨fun _ => rfl,fun _ => (by show _ < _ + _;omega),fun _ => (by show _ + _ ≤ _;omega),fun _ => hk,fun h => absurd h hk,fun h => (by cases h),fun h => (by cases h)⟩
theorem next_facts {l : Bs} {a : Nat} {t : Tok} {wh : Bool} (hl : l ≠ []) (h : nextT l a = (t,wh)) : NextFacts l a t wh := by
 have := (Next.of l a hl).facts;rw [h] at this;exact this
end Go.Proofs.YtmjincocmhadeaaDoor.Lx
