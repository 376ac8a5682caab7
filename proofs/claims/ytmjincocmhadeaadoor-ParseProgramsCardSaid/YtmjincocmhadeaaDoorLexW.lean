/- tokens: all of them, without fuel, step by step. -/
import Derived.Test.YtmjincocmhadeaaDoorLexV
namespace Go.Proofs.YtmjincocmhadeaaDoor.Lx
theorem toks_step (f : Nat) (l : Bs) (a : Nat) (j : Bool) : toks (f + 1) l a j =
    if l.drop (skipN false l) = [] then ⟨[],zeroTok,a + skipN false l,true⟩
    else if (isWordB (nextT (l.drop (skipN false l)) (a + skipN false l)).1.kind && j && skipN false l == 0) = true then ⟨[],zeroTok,a + skipN false l,false⟩
    else if (!(nextT (l.drop (skipN false l)) (a + skipN false l)).2) = true then
      ⟨[],(nextT (l.drop (skipN false l)) (a + skipN false l)).1,if (nextT (l.drop (skipN false l)) (a + skipN false l)).1.kind = 0 then a + skipN false l else (nextT (l.drop (skipN false l)) (a + skipN false l)).1.end_,false⟩
    else { toks f ((l.drop (skipN false l)).drop ((nextT (l.drop (skipN false l)) (a + skipN false l)).1.end_ - (a + skipN false l))) (nextT (l.drop (skipN false l)) (a + skipN false l)).1.end_ (isWordB (nextT (l.drop (skipN false l)) (a + skipN false l)).1.kind) with
      toks := (nextT (l.drop (skipN false l)) (a + skipN false l)).1 :: (toks f ((l.drop (skipN false l)).drop ((nextT (l.drop (skipN false l)) (a + skipN false l)).1.end_ - (a + skipN false l))) (nextT (l.drop (skipN false l)) (a + skipN false l)).1.end_ (isWordB (nextT (l.drop (skipN false l)) (a + skipN false l)).1.kind)).toks } := rfl
theorem toks_fuel : ∀ (f f' : Nat) (l : Bs) (a : Nat) (j : Bool),l.length < f → l.length < f' → toks f l a j = toks f' l a j := by
 intro f
 induction f with
 | zero => intro f' l a j h;omega
 | succ f ih =>
  intro f' l a j h h';obtain ⟨f',rfl⟩ : ∃ g,f' = g + 1 := ⟨f' - 1,by omega⟩;rw [toks_step,toks_step]
  by_cases h1 : l.drop (skipN false l) = []
  · rw [if_pos h1,if_pos h1]
  rw [if_neg h1,if_neg h1]
  split
  · rfl
  split
  · rfl
  rename_i h2 h3;have hf := next_facts h1 (show nextT (l.drop (skipN false l)) (a + skipN false l) = ((nextT (l.drop (skipN false l)) (a + skipN false l)).1,(nextT (l.drop (skipN false l)) (a + skipN false l)).2) from rfl);have hk := hf.whole (by simpa using h3);have h4 := hf.lo hk;have hl : 0 < (l.drop (skipN false l)).length := List.length_pos_iff.2 h1
  have : ((l.drop (skipN false l)).drop ((nextT (l.drop (skipN false l)) (a + skipN false l)).1.end_ - (a + skipN false l))).length < l.length := by
   rw [List.length_drop] at hl;rw [List.length_drop,List.length_drop];omega
  rw [ih f' _ _ _ (by omega) (by omega)]
/-- the tokens from the place a on; j: a word ends there -/
def tk (l : Bs) (a : Nat) (j : Bool) : Res := toks (l.length + 1) l a j
theorem tokens_tk (l : Bs) : tokens l = tk l 0 false := rfl
theorem tk_end {l : Bs} {a : Nat} {j : Bool} {n : Nat} (hn : skipN false l = n) (h : l.length ≤ n) : tk l a j = ⟨[],zeroTok,a + n,true⟩ := by
 unfold tk;rw [toks_step,hn,if_pos (List.drop_of_length_le h)]
theorem tk_joint {l : Bs} {a : Nat} {t : Tok} {wh : Bool} (hn : skipN false l = 0) (h1 : l ≠ []) (hx : nextT l a = (t,wh)) (hw : isWordB t.kind = true) : tk l a true = ⟨[],zeroTok,a,false⟩ := by
 unfold tk;rw [toks_step,hn,List.drop_zero,if_neg h1,Nat.add_zero,hx,if_pos (by simp [hw])]
theorem tk_open {l l1 : Bs} {a n : Nat} {j : Bool} {t : Tok} (hn : skipN false l = n) (hl1 : l.drop n = l1) (h1 : l1 ≠ []) (hx : nextT l1 (a + n) = (t,false)) :
    tk l a j = ⟨[],t,if t.kind = 0 then a + n else t.end_,false⟩ := by
 have hw := (next_facts h1 hx).notword rfl;unfold tk;rw [toks_step,hn,hl1,if_neg h1,hx,if_neg (by simp [hw]),if_pos (by rfl)]
theorem tk_more {l l1 : Bs} {a n : Nat} {j : Bool} {t : Tok} (hn : skipN false l = n) (hl1 : l.drop n = l1) (h1 : l1 ≠ []) (hx : nextT l1 (a + n) = (t,true)) (hj : (isWordB t.kind && j && n == 0) = false) :
    tk l a j = { tk (l1.drop (t.end_ - (a + n))) t.end_ (isWordB t.kind) with toks := t :: (tk (l1.drop (t.end_ - (a + n))) t.end_ (isWordB t.kind)).toks } := by
 have hf := next_facts h1 hx;have h4 := hf.lo (hf.whole rfl);have hl : 0 < l1.length := List.length_pos_iff.2 h1
 have hlen : (l1.drop (t.end_ - (a + n))).length < l.length := by
  rw [← hl1,List.length_drop] at hl;rw [← hl1,List.length_drop,List.length_drop];omega
 have e : toks l.length (l1.drop (t.end_ - (a + n))) t.end_ (isWordB t.kind) = tk (l1.drop (t.end_ - (a + n))) t.end_ (isWordB t.kind) := toks_fuel _ _ _ _ _ hlen (by omega);rw [← e];unfold tk;rw [toks_step,hn,hl1,if_neg h1,hx,if_neg (by simp [hj]),if_neg (by simp)]
theorem tk_ind {P : Bs → Nat → Bool → Res → Prop}
    (hend : ∀ l a j,skipN false l = l.length → P l a j ⟨[],zeroTok,a + l.length,true⟩)
    (hjoint : ∀ l a t wh,skipN false l = 0 → l ≠ [] → nextT l a = (t,wh) → isWordB t.kind = true → P l a true ⟨[],zeroTok,a,false⟩)
    (hopen : ∀ l a j n l1 t,skipN false l = n → l.drop n = l1 → l1 ≠ [] → n < l.length → nextT l1 (a + n) = (t,false) → P l a j ⟨[],t,if t.kind = 0 then a + n else t.end_,false⟩)
    (hmore : ∀ l a j n l1 t r,skipN false l = n → l.drop n = l1 → l1 ≠ [] → n < l.length → nextT l1 (a + n) = (t,true) → (isWordB t.kind && j && n == 0) = false → r = tk (l1.drop (t.end_ - (a + n))) t.end_ (isWordB t.kind) →
      a + n < t.end_ → t.end_ ≤ a + l.length → P (l1.drop (t.end_ - (a + n))) t.end_ (isWordB t.kind) r → P l a j { r with toks := t :: r.toks }) :
    ∀ l a j,P l a j (tk l a j) := by
 intro l
 induction hlen : l.length using Nat.strongRecOn generalizing l with
 | ind N ih =>
  intro a j;have hle := skip_ten.skip_le' false l
  by_cases hn : skipN false l = l.length
  · rw [tk_end hn (Nat.le_refl _)];exact hend l a j hn
  have h1 : l.drop (skipN false l) ≠ [] := by
   intro h;have := congrArg List.length h;rw [List.length_drop] at this;simp at this;omega
  cases hx : nextT (l.drop (skipN false l)) (a + skipN false l) with
  | mk t wh =>
   have hf := next_facts h1 hx
   cases wh with
   | false => rw [tk_open rfl rfl h1 hx];exact hopen l a j _ _ t rfl rfl h1 (by omega) hx
   | true =>
    have hlo := hf.lo (hf.whole rfl);have hhi := hf.hi (hf.whole rfl);rw [List.length_drop] at hhi
    by_cases hj : (isWordB t.kind && j && skipN false l == 0) = true
    · have hj' := hj;simp only [Bool.and_eq_true,beq_iff_eq] at hj';obtain ⟨⟨hw,rfl⟩,hz⟩ := hj';rw [hz,List.drop_zero,Nat.add_zero] at hx;have hl0 : l ≠ [] := by rintro rfl;simp at h1
      rw [tk_joint hz hl0 hx hw];exact hjoint l a t true hz hl0 hx hw
    · have hj' : (isWordB t.kind && j && skipN false l == 0) = false := by simpa using hj
      rw [tk_more rfl rfl h1 hx hj'];refine hmore l a j _ _ t _ rfl rfl h1 (by omega) hx hj' rfl hlo (by omega) ?_;exact ih _ (by rw [List.length_drop,List.length_drop];omega) _ rfl _ _
/-! ### what holds of them -/
theorem tk_far (l : Bs) (a : Nat) (j : Bool) : a ≤ (tk l a j).far ∧ (tk l a j).far ≤ a + l.length ∧ ((tk l a j).ok = true → (tk l a j).far = a + l.length ∧ (tk l a j).open_ = zeroTok) ∧ (tk l a j).toks.length ≤ l.length := by
 refine tk_ind (P := fun l a _ r => a ≤ r.far ∧ r.far ≤ a + l.length ∧ (r.ok = true → r.far = a + l.length ∧ r.open_ = zeroTok) ∧ r.toks.length ≤ l.length) ?_ ?_ ?_ ?_ l a j
 · intro l a j _;exact ⟨by show a ≤ a + _;omega,Nat.le_refl _,fun _ => ⟨rfl,rfl⟩,Nat.zero_le _⟩
 · intro l a t wh _ _ _ _;exact ⟨Nat.le_refl _,by show a ≤ _;omega,fun h => (by cases h),Nat.zero_le _⟩
 · intro l a j n l1 t hn hl1 h1 hlt hx;have hf := next_facts h1 hx;refine ⟨?_,?_,fun h => (by cases h),Nat.zero_le _⟩
   · show a ≤ ite _ _ _
     split
     · omega
     · have := hf.lo ‹_›;omega
   · show ite _ _ _ ≤ _
     split
     · omega
     · have := hf.hi ‹_›;rw [← hl1,List.length_drop] at this;omega
 · intro l a j n l1 t r hn hl1 h1 hlt hx hj hr hlo hhi ⟨i1,i2,i3,i4⟩;have hlen : (l1.drop (t.end_ - (a + n))).length = a + l.length - t.end_ := by rw [← hl1,List.length_drop,List.length_drop];omega
   rw [hlen] at i2 i3 i4;refine ⟨by show a ≤ r.far;omega,by show r.far ≤ _;omega,fun h => ?_,by show r.toks.length + 1 ≤ _;omega⟩;have := i3 h;exact ⟨by show r.far = _;omega,this.2⟩
/-! ### the state of a turn: behind the tokens done -/
def glue (done : List Tok) (r : Res) : Res := { r with toks := done ++ r.toks }
theorem glue_more (done : List Tok) (t : Tok) (r : Res) : glue done { r with toks := t :: r.toks } = glue (done ++ [t]) r := by
 unfold glue;simp
end Go.Proofs.YtmjincocmhadeaaDoor.Lx
