/- The document's reader, plain: two texts gone through side by side; a text that is shut with more behind it. No program in sight. -/
import Derived.Test.YtclioihichcpiaaDoorPmH
import Derived.Test.YtclioihichcpiaaDoorKtA
import Derived.Test.YtclioihichcpiaaDoorJoT
import Derived.Maps.AppendAt
import Derived.Deep.Upon
set_option maxHeartbeats 8000000
set_option maxRecDepth 100000
namespace Go.Proofs.YtclioihichcpiaaDoor
open Go.RowKit Lx
namespace Lx
theorem bi_inj {a b : UInt8} (h : bi a = bi b) : a = b := by
 have h1 : ((a.toNat : Nat) : Int) = (b.toNat : Int) := h;exact UInt8.toNat_inj.1 (by omega)
theorem bi_nonneg (a : UInt8) : 0 ≤ bi a := Int.natCast_nonneg _
theorem quo_nl (m : Bs) : ∀ (l : Bs) (n : Nat),quo (l ++ 10 :: m) n = if (l.all fun c => decide (bi c ≠ 10)) = true then quo l n else quo (l ++ 10 :: m) n := by
 intro l
 induction hlen : l.length using Nat.strongRecOn generalizing l with
 | ind N ih =>
  intro n
  have rec1 : ∀ (r : Bs),r.length < N → (r.all fun c => decide (bi c ≠ 10)) = true → ∀ n,quo (r ++ 10 :: m) n = quo r n := fun r hr hall n => by
   have := ih _ hr r rfl n;rw [if_pos hall] at this;exact this
  split
  · rename_i hall;have h10 : bi 10 = 10 := rfl
    cases l with
    | nil => rw [List.nil_append,quo_nil,quo_bad _ _ _ (by rw [h10];decide) (by rw [h10];omega)]
    | cons c r =>
     have hc : ∀ x ∈ c :: r,bi x ≠ 10 := fun x hx => by have := List.all_eq_true.1 hall x hx;simpa using this
     have hsub : ∀ (x : Bs),(∀ y ∈ x,y ∈ c :: r) → (x.all fun c => decide (bi c ≠ 10)) = true := fun x hx => List.all_eq_true.2 fun y hy => by simpa using hc y (hx y hy)
     have hlt : r.length < N := by rw [← hlen];simp
     by_cases h34 : bi c = 34
     · rw [List.cons_append,quo_34 _ _ _ h34,quo_34 _ _ _ h34]
     by_cases hb : n = 1024 ∨ bi c < 32 ∨ 126 < bi c
     · rw [List.cons_append,quo_bad _ _ _ h34 hb,quo_bad _ _ _ h34 hb]
     by_cases h92 : bi c = 92
     · have hn : ¬ n = 1024 := by omega
       rw [List.cons_append,quo_92 _ _ _ h92 hn,quo_92 _ _ _ h92 hn]
       have : quoS (r ++ 10 :: m) n = quoS r n := by
        cases r with
        | nil => rw [List.nil_append,quoS_end,quoS_bad _ _ _ (by rw [h10];omega)]
        | cons d r2 =>
         by_cases hd : bi d = 34 ∨ bi d = 92 ∨ bi d = 110 ∨ bi d = 116
         · obtain ⟨b,hb2⟩ := quoS_esc d n hd;rw [List.cons_append,hb2,hb2,rec1 r2 (by simp at hlt;omega) (hsub _ fun y hy => by simp [hy])]
         by_cases h120 : bi d = 120
         · rw [List.cons_append,quoS_x _ _ _ h120,quoS_x _ _ _ h120]
           have : quoF (r2 ++ 10 :: m) n = quoF r2 n := by
            have hf : halfI 10 < 0 := by decide
            cases r2 with
            | nil => rw [List.nil_append,quoF_bad _ _ _ (by rw [h10];exact hf)];rfl
            | cons h1 r3 =>
             by_cases hh1 : halfI (bi h1) < 0
             · rw [List.cons_append,quoF_bad _ _ _ hh1,quoF_bad _ _ _ hh1]
             cases r3 with
             | nil => rw [List.cons_append,List.nil_append,quoF_bad2 _ _ _ _ hh1 (by rw [h10];exact hf),quoF_end _ _ hh1]
             | cons h2 r4 =>
              by_cases hh2 : halfI (bi h2) < 0
              · rw [List.cons_append,List.cons_append,quoF_bad2 _ _ _ _ hh1 hh2,quoF_bad2 _ _ _ _ hh1 hh2]
              · rw [List.cons_append,List.cons_append,quoF_ok _ _ _ _ _ _ rfl rfl hh1 hh2,quoF_ok _ _ _ _ _ _ rfl rfl hh1 hh2,rec1 r4 (by simp at hlt;omega) (hsub _ fun y hy => by simp [hy])]
           rw [this]
         · rw [List.cons_append,quoS_bad _ _ _ (by omega),quoS_bad _ _ _ (by omega)]
       rw [this]
     · rw [List.cons_append,quo_chr _ _ _ h34 hb h92,quo_chr _ _ _ h34 hb h92,rec1 r hlt (hsub _ fun y hy => by simp [hy])]
  · rfl
/-- the line that a text begins with -/
def lineB (c : UInt8) : Bool := decide (bi c ≠ 10)
theorem line_split (l : Bs) : l = l.takeWhile lineB ∨ ∃ r,l = l.takeWhile lineB ++ 10 :: r := by
 induction l with
 | nil => exact .inl rfl
 | cons c r ih =>
  by_cases hc : bi c = 10
  · have : c = 10 := bi_inj hc;subst this;exact .inr ⟨r,rfl⟩
  · have hl : lineB c = true := by simp [lineB,hc]
    rw [List.takeWhile_cons,if_pos hl];rcases ih with ih | ⟨x,ih⟩
    · exact .inl (by rw [← ih])
    · exact .inr ⟨x,by rw [List.cons_append,← ih]⟩
theorem quo_line (l : Bs) (n : Nat) : quo l n = quo (l.takeWhile lineB) n := by
 rcases line_split l with h | ⟨r,h⟩
 · rw [← h]
 · have := quo_nl r (l.takeWhile lineB) n
   rw [if_pos (List.all_eq_true.2 fun c hc => by
    have := List.all_takeWhile (p := lineB) (l := l);have h2 := List.all_eq_true.1 this c hc
    simpa [lineB] using h2)] at this
   rw [← h] at this;exact this
/-- two texts side by side: places that answer one another -/
structure Sim (L M : Bs) (R : Nat → Nat → Prop) : Prop where
  pkq : ∀ p q,R p q → pk L p = pk M q
  step : ∀ p q,R p q → 0 ≤ pk L p → pk L p ≠ 10 → R (p + 1) (q + 1)
  skip : ∀ p q,R p q → R (rSkip L p) (rSkip M q)
def SR (R : Nat → Nat → Prop) {α : Type} (V : α → α → Prop) : Except Int (α × Nat) → Except Int (α × Nat) → Prop
  | .ok x,.ok y => V x.1 y.1 ∧ R x.2 y.2
  | .error e,.error f => ∃ p q : Nat,e = p ∧ f = q ∧ R p q
  | _,_ => False
section
variable {L M : Bs} {R : Nat → Nat → Prop}
theorem SR.bind {α β : Type} {V : α → α → Prop} {W : β → β → Prop} {A B : Except Int (α × Nat)} {F G : α × Nat → Except Int (β × Nat)} (h : SR R V A B) (hF : ∀ x y : α × Nat,V x.1 y.1 → R x.2 y.2 → SR R W (F x) (G y)) : SR R W (A.bind F) (B.bind G) := by
 cases A with
 | error e =>
  cases B with
  | error f => exact h
  | ok y => exact h.elim
 | ok x =>
  cases B with
  | error f => exact h.elim
  | ok y => exact hF x y h.1 h.2
theorem SR.err {α : Type} {V : α → α → Prop} {p q : Nat} (h : R p q) : SR R V (.error (p : Int)) (.error (q : Int)) := ⟨p,q,rfl,rfl,h⟩
theorem SR.ok {α : Type} {V : α → α → Prop} {x y : α} {p q : Nat} (hv : V x y) (h : R p q) : SR R V (.ok (x,p)) (.ok (y,q)) := ⟨hv,h⟩
theorem drop_nil' {L : Bs} {p : Nat} (h : L.length ≤ p) : L.drop p = [] := List.drop_eq_nil_iff.2 h
theorem Sim.run (S : Sim L M R) (f : UInt8 → Bool) (hf : f 10 = false) : ∀ (n p q : Nat),R p q → n = ((L.drop p).takeWhile f).length → (M.drop q).takeWhile f = (L.drop p).takeWhile f ∧ ∀ m,m ≤ n → R (p + m) (q + m)
  | 0, p, q, h, hn => by
    refine ⟨?_, fun m hm => by have : m = 0 := by omega
                               subst this;exact h⟩
    have h0 : (L.drop p).takeWhile f = [] := List.length_eq_zero_iff.1 hn.symm;rw [h0];have hpk := S.pkq p q h;rcases Nat.lt_or_ge q M.length with hq | hq
    · have hp : p < L.length := pk_lt (by rw [hpk,pk_get hq];exact bi_nonneg _);rw [pk_get hp,pk_get hq] at hpk;have := bi_inj hpk;rw [drop_cons' hp,List.takeWhile_cons] at h0;rw [drop_cons' hq,List.takeWhile_cons,← this]
      by_cases hc : f L[p] = true
      · rw [if_pos hc] at h0;cases h0
      · rw [if_neg hc]
    · rw [drop_nil' hq];rfl
  | n + 1,p,q,h,hn => by
    have hpk := S.pkq p q h
    have hp : p < L.length := by
      rcases Nat.lt_or_ge p L.length with h1 | h1
      · exact h1
      · rw [drop_nil' h1] at hn;cases hn
    have hq : q < M.length := pk_lt (by rw [← hpk,pk_get hp];exact bi_nonneg _);rw [drop_cons' hp,List.takeWhile_cons] at hn
    by_cases hc : f L[p] = true
    · rw [if_pos hc] at hn
      have hne : pk L p ≠ 10 := by
        rw [pk_get hp];intro e;have : L[p] = 10 := bi_inj e;rw [this,hf] at hc;cases hc
      have hst := S.step p q h (by rw [pk_get hp];exact bi_nonneg _) hne;obtain ⟨i1,i2⟩ := S.run f hf n (p + 1) (q + 1) hst (by simpa using hn);have he : L[p] = M[q] := bi_inj (by rw [← pk_get hp,← pk_get hq];exact hpk);refine ⟨?_,fun m hm => ?_⟩
      · rw [drop_cons' hp,drop_cons' hq,List.takeWhile_cons,List.takeWhile_cons,if_pos hc,if_pos (by rw [← he];exact hc),i1,he]
      · cases m with
        | zero => exact h
        | succ m => have := i2 m (by omega);rw [show p + 1 + m = p + (m + 1) from by omega,show q + 1 + m = q + (m + 1) from by omega] at this;exact this
    · rw [if_neg hc] at hn;cases hn
theorem take_run (f : UInt8 → Bool) (l : Bs) : l.take (l.takeWhile f).length = l.takeWhile f := by
 have h := List.takeWhile_prefix (p := f) (l := l);exact (List.prefix_iff_eq_take.1 h).symm
theorem Sim.sRun (S : Sim L M R) {p q : Nat} (h : R p q) : SR R Eq (rRun L p) (rRun M q) := by
 obtain ⟨h1,h2⟩ := S.run (fun c => letterB (bi c)) (by decide) _ p q h rfl;have hn : letN (M.drop q) = letN (L.drop p) := by unfold letN;rw [h1]
 have ht : (M.drop q).take (letN (M.drop q)) = (L.drop p).take (letN (L.drop p)) := by unfold letN;rw [take_run,take_run,h1]
 unfold rRun;rw [ht,hn]
 by_cases h64 : letN (L.drop p) ≤ 64
 · rw [if_pos h64,if_pos h64];exact SR.ok rfl (h2 _ (Nat.le_refl _))
 · rw [if_neg h64,if_neg h64];exact SR.err (h2 64 (by unfold letN at h64;omega))
theorem Sim.sDigits (S : Sim L M R) {p q : Nat} (h : R p q) : SR R Eq (rDigits L p) (rDigits M q) := by
 obtain ⟨h1,h2⟩ := S.run (fun c => digitB (bi c)) (by decide) _ p q h rfl;have hn : digN (M.drop q) = digN (L.drop p) := by unfold digN;rw [h1]
 have ht : (M.drop q).take (digN (M.drop q)) = (L.drop p).take (digN (L.drop p)) := by unfold digN;rw [take_run,take_run,h1]
 have h3 : R (p + digN (L.drop p)) (q + digN (L.drop p)) := h2 _ (Nat.le_refl _);unfold rDigits;rw [ht,hn,S.pkq _ _ h3]
 by_cases h64 : digN (L.drop p) ≤ 64
 · rw [if_pos h64,if_pos h64]
   split
   · exact SR.err h3
   · exact SR.ok rfl h3
 · rw [if_neg h64,if_neg h64];exact SR.err (h2 64 (by unfold digN at h64;omega))
theorem Sim.sQuo (S : Sim L M R) {p q : Nat} (h : R p q) : SR R Eq (rQuo L p) (rQuo M q) := by
 obtain ⟨h1,h2⟩ := S.run lineB (by decide) _ p q h rfl;have he : quo (M.drop q) 0 = quo (L.drop p) 0 := by rw [quo_line,h1,← quo_line]
 have hle : (quo (L.drop p) 0).2.1 ≤ ((L.drop p).takeWhile lineB).length := by rw [quo_line];exact quo_far _ _
 have h3 := h2 _ hle;unfold rQuo;rw [he]
 split
 · exact SR.ok rfl h3
 · exact SR.err h3
theorem Sim.sSign (S : Sim L M R) {α : Type} {V : α → α → Prop} {p q : Nat} (h : R p q) (c : Int) (hc : 0 ≤ c) (hn : c ≠ 10) {F G : Nat → Except Int (α × Nat)} (hF : ∀ p q,R p q → SR R V (F p) (G q)) : SR R V ((rSign c L p).bind F) ((rSign c M q).bind G) := by
 unfold rSign;rw [← S.pkq p q h]
 by_cases he : pk L p = c
 · rw [if_pos he,if_pos he];exact hF _ _ (S.step p q h (by rw [he];exact hc) (by rw [he];exact hn))
 · rw [if_neg he,if_neg he];exact SR.err h
theorem Sim.sText (S : Sim L M R) {p q : Nat} (h : R p q) : SR R Eq (rText L p) (rText M q) := S.sSign h 34 (by decide) (by decide) fun _ _ h => S.sQuo h
theorem Sim.sName (S : Sim L M R) {p q : Nat} (h : R p q) : SR R Eq (rName L p) (rName M q) := by
 unfold rName;rw [← S.pkq p q h]
 split
 · refine SR.bind (S.sRun h) fun x y hv hr => ?_;obtain ⟨x1,x2⟩ := x;obtain ⟨y1,y2⟩ := y;dsimp only at hv hr ⊢;subst hv
   split
   · exact SR.err hr
   · exact SR.ok rfl hr
 · exact SR.err h
theorem Sim.sTerm (S : Sim L M R) {p q : Nat} (h : R p q) : SR R Eq (rTerm L p) (rTerm M q) := by
 unfold rTerm;rw [← S.pkq p q h]
 split
 · exact SR.bind (S.sRun h) fun x y hv hr => SR.ok (by rw [hv]) hr
 split
 · exact SR.bind (S.sDigits h) fun x y hv hr => SR.ok (by rw [hv]) hr
 split
 · exact SR.bind (S.sText h) fun x y hv hr => SR.ok (by rw [hv]) hr
 · exact SR.bind (S.sName h) fun x y hv hr => SR.ok (by rw [hv]) hr
theorem Sim.byte (S : Sim L M R) {p q : Nat} (h : R p q) (c : Int) (hc : 0 ≤ c) (hn : c ≠ 10) (he : pk L p = c) : R (p + 1) (q + 1) :=
  S.step p q h (by rw [he];exact hc) (by rw [he];exact hn)
theorem Sim.sArgsN (S : Sim L M R) : ∀ (n p q : Nat) (l : List (Bool × ByteArray)),R p q → SR R Eq (rArgsN L n p l) (rArgsN M n q l)
  | 0,p,q,l,h => SR.err h
  | n + 1,p,q,l,h => by
    unfold rArgsN;refine SR.bind (S.sTerm (S.skip _ _ h)) fun x y hv hr => ?_;obtain ⟨x1,x2⟩ := x;obtain ⟨y1,y2⟩ := y;dsimp only at hv hr ⊢;subst hv;have hs := S.skip _ _ hr;rw [← S.pkq _ _ hs]
    by_cases h44 : pk L (rSkip L x2) = 44
    · rw [if_pos h44,if_pos h44]
      by_cases hn : n = 0
      · rw [if_pos hn,if_pos hn];exact SR.err hs
      · rw [if_neg hn,if_neg hn];exact S.sArgsN n _ _ _ (S.byte hs 44 (by decide) (by decide) h44)
    · rw [if_neg h44,if_neg h44];exact S.sSign hs 41 (by decide) (by decide) fun _ _ h => SR.ok rfl h
theorem Sim.sArgs (S : Sim L M R) {p q : Nat} (h : R p q) : SR R Eq (rArgs L p) (rArgs M q) := by
 unfold rArgs;have hs := S.skip _ _ h;rw [← S.pkq _ _ hs]
 by_cases h40 : pk L (rSkip L p) = 40
 · rw [if_pos h40,if_pos h40];exact S.sArgsN 16 _ _ _ (S.byte hs 40 (by decide) (by decide) h40)
 · rw [if_neg h40,if_neg h40];exact SR.ok rfl hs
theorem Sim.sAtom (S : Sim L M R) {p q : Nat} (h : R p q) : SR R Eq (rAtom L p) (rAtom M q) :=
  SR.bind (S.sName h) fun x y hv hr => SR.bind (S.sArgs hr) fun a b hv2 hr2 => SR.ok (by rw [hv,hv2]) hr2
theorem Sim.sNot (S : Sim L M R) {p q : Nat} (h : R p q) : SR R Eq (rNot L p) (rNot M q) := by
 unfold rNot;rw [← S.pkq p q h]
 split
 · exact SR.err h
 · exact SR.bind (S.sAtom (S.skip _ _ h)) fun x y hv hr => SR.ok (by rw [hv]) hr
end
/-! ### a text that is shut: more behind it changes nothing -/
/-- what is told stays with more behind it -/
def Stable {α : Type} (F : Bs → Nat → Except Int (α × Nat)) : Prop := ∀ (L t : Bs) (p q : Nat) (v : α),p ≤ L.length → F L p = .ok (v,q) → F (L ++ t) p = .ok (v,q)
structure Shuts {α : Type} (F : Bs → Nat → Except Int (α × Nat)) : Prop where
  st : Stable F
  last : ∀ (L : Bs) (q : Nat) (v : α),F L L.length ≠ .ok (v,q)
theorem Stable.pure {α : Type} (v : α) : Stable fun _ p => .ok (v,p) := fun _ _ _ _ _ _ h => h
theorem Stable.congr {α : Type} {F G : Bs → Nat → Except Int (α × Nat)} (hF : Stable F) (h : ∀ L p,G L p = F L p) : Stable G := by
 have : G = F := funext fun L => funext fun p => h L p;rw [this];exact hF
theorem Shuts.err {α : Type} : Shuts (α := α) fun _ p => .error (p : Int) := ⟨fun _ _ _ _ _ _ h => (nomatch h),fun _ _ _ h => (nomatch h)⟩
theorem Shuts.congr {α : Type} {F G : Bs → Nat → Except Int (α × Nat)} (hF : Shuts F) (h : ∀ L p,G L p = F L p) : Shuts G := by
 have : G = F := funext fun L => funext fun p => h L p;rw [this];exact hF
theorem Shuts.bind {α β : Type} {F : Bs → Nat → Except Int (α × Nat)} {G : α → Bs → Nat → Except Int (β × Nat)} (hF : Good F) (hG : ∀ v,Shuts (G v)) : Shuts fun L p => (F L p).bind fun x => G x.1 L x.2 := by
 refine ⟨fun L t p q v hp h => ?_,fun L q v h => ?_⟩
 · show (F (L ++ t) p).bind _ = _;have h1 := hF.mono L p hp;have h2 := hF.all L t p hp
   cases hx : F L p with
   | error e => rw [hx] at h;cases h
   | ok x =>
    rw [hx] at h h1 h2;have h3 : (x.2 : Int) ≤ L.length := h1.2;have h4 : G x.1 L x.2 = .ok (v,q) := h;rcases h2 with ⟨h5,h6⟩ | ⟨h5,_⟩
    · rw [h6];exact (hG x.1).st L t x.2 q v (by omega) h4
    · have h7 : (x.2 : Int) = L.length := h5;have h8 : x.2 = L.length := by omega
      rw [h8] at h4;exact absurd h4 ((hG x.1).last L q v)
 · have h1 := hF.mono L L.length (Nat.le_refl _)
   cases hx : F L L.length with
   | error e => rw [hx] at h;cases h
   | ok x =>
    rw [hx] at h h1;have h4 : G x.1 L x.2 = .ok (v,q) := h;have h3 : (L.length : Int) ≤ (x.2 : Int) ∧ (x.2 : Int) ≤ L.length := h1;have h8 : x.2 = L.length := by omega
    rw [h8] at h4;exact absurd h4 ((hG x.1).last L q v)
theorem Shuts.skip {α : Type} {F : Bs → Nat → Except Int (α × Nat)} (hF : Shuts F) : Shuts fun L p => F L (rSkip L p) := by
 refine ⟨fun L t p q v hp h => ?_,fun L q v h => ?_⟩
 · have h1 := rskip_le L p hp;rcases Nat.lt_or_ge (rSkip L p) L.length with h2 | h2
   · have h3 : rSkip (L ++ t) p = rSkip L p := by
       unfold rSkip at h2 ⊢;rw [show (L ++ t).drop p = L.drop p ++ t from drop_append_lt L t p hp,skip_cut false (L.drop p) t (by rw [List.length_drop];omega)]
     show F (L ++ t) (rSkip (L ++ t) p) = _;rw [h3];exact hF.st L t _ q v h1.2 h
   · have h3 : rSkip L p = L.length := by omega
     have h4 : F L (rSkip L p) = .ok (v,q) := h;rw [h3] at h4;exact absurd h4 (hF.last L q v)
 · have h1 := rskip_le L L.length (Nat.le_refl _);have h3 : rSkip L L.length = L.length := by omega
   have h4 : F L (rSkip L L.length) = .ok (v,q) := h;rw [h3] at h4;exact hF.last L q v h4
theorem Shuts.step {α : Type} {F G : Bs → Nat → Except Int (α × Nat)} (c : Int → Prop) [DecidablePred c] (hc : ¬ c (-1)) (hF : Stable F) (hG : Shuts G) : Shuts fun L p => if c (pk L p) then F L (p + 1) else G L p := by
 refine ⟨fun L t p q v hp h => ?_,fun L q v h => ?_⟩
 · rcases Nat.lt_or_ge p L.length with h1 | h1
   · have h2 := pk_append L t p h1;show (if c (pk (L ++ t) p) then F (L ++ t) (p + 1) else G (L ++ t) p) = _;rw [h2];have h3 : (if c (pk L p) then F L (p + 1) else G L p) = .ok (v,q) := h
     by_cases h4 : c (pk L p)
     · rw [if_pos h4] at h3 ⊢;exact hF L t (p + 1) q v h1 h3
     · rw [if_neg h4] at h3 ⊢;exact hG.st L t p q v hp h3
   · have h3 : (if c (pk L p) then F L (p + 1) else G L p) = .ok (v,q) := h;rw [pk_end L p h1,if_neg hc,show p = L.length from by omega] at h3;exact absurd h3 (hG.last L q v)
 · have h3 : (if c (pk L L.length) then F L (L.length + 1) else G L L.length) = .ok (v,q) := h;rw [pk_end L _ (Nat.le_refl _),if_neg hc] at h3;exact hG.last L q v h3
theorem Shuts.ite {α : Type} {F G : Bs → Nat → Except Int (α × Nat)} (c : Int → Prop) [DecidablePred c] (hF : Shuts F) (hG : Shuts G) : Shuts fun L p => if c (pk L p) then F L p else G L p := by
 refine ⟨fun L t p q v hp h => ?_,fun L q v h => ?_⟩
 · have h3 : (if c (pk L p) then F L p else G L p) = .ok (v,q) := h;rcases Nat.lt_or_ge p L.length with h1 | h1
   · have h2 := pk_append L t p h1;show (if c (pk (L ++ t) p) then F (L ++ t) p else G (L ++ t) p) = _;rw [h2]
     by_cases h4 : c (pk L p)
     · rw [if_pos h4] at h3 ⊢;exact hF.st L t p q v hp h3
     · rw [if_neg h4] at h3 ⊢;exact hG.st L t p q v hp h3
   · have hp' : p = L.length := by omega
     subst hp'
     by_cases h4 : c (pk L L.length)
     · rw [if_pos h4] at h3;exact absurd h3 (hF.last L q v)
     · rw [if_neg h4] at h3;exact absurd h3 (hG.last L q v)
 · have h3 : (if c (pk L L.length) then F L L.length else G L L.length) = .ok (v,q) := h
   by_cases h4 : c (pk L L.length)
   · rw [if_pos h4] at h3;exact hF.last L q v h3
   · rw [if_neg h4] at h3;exact hG.last L q v h3
theorem Shuts.sign {α : Type} {F : Bs → Nat → Except Int (α × Nat)} (c : Int) (hc : 0 ≤ c) (hF : Stable F) : Shuts fun L p => (rSign c L p).bind fun q => F L q := by
 refine (Shuts.step (fun x => x = c) (by omega) hF Shuts.err).congr fun L p => ?_;unfold rSign
 split <;> rfl
/-! ### two texts, with a byte 10 between -/
/-! ### blanks behind lines -/
end Lx
end Go.Proofs.YtclioihichcpiaaDoor
/- Parse: rows of numbers moved, places found alike. -/
namespace Go.Proofs.YtclioihichcpiaaDoor
open Go.RowKit Lx
/-! ### rows of places -/
def ia (l : List Nat) : List Int := l.map fun n : Nat => (n : Int)
end Go.Proofs.YtclioihichcpiaaDoor
/- Parse: what was read, as rows that are read alone; two texts joined. -/
namespace Go.Proofs.YtclioihichcpiaaDoor
open Go.RowKit Lx
theorem own_len9 {w : World} {base : Nat} {e : TypeId} {size : Nat} {v : Value} {n : Nat} {xs : List Value} (h : w.ownsRow base e size v n xs) : n ≤ 9223372036854775807 := by
 rcases h.2 with ⟨_,rfl⟩ | ⟨g,cp,cur,_,_,_,hc,hm,_⟩
 · omega
 · unfold maxLen at hm;omega
section
variable {w : World} {lo : Nat} {va : Option Addr} {vc : Nat}
theorem own_RT {l : List (Bool × ByteArray)} (h : w.ownsRow lo 76 2 (.slice va l.length vc) l.length (flatTT l)) : RT w va l := by
 refine ⟨own_len9 h,fun j x hx => ?_⟩;obtain ⟨hj,rfl⟩ := List.getElem?_eq_some_iff.1 hx;obtain ⟨g,e1,hc⟩ := row_at (fun x : Bool × ByteArray => [Value.bool x.1,.string x.2]) 2 (fun _ => rfl) h j hj;refine ⟨_,e1,?_,?_⟩
 · rw [addr_add,Nat.zero_add];exact hc 0 _ (by decide) rfl
 · rw [addr_add,Nat.zero_add];exact hc 1 _ (by decide) rfl
theorem bod_RL {L : List (PLit × Value)} {n : Nat} (h : Bod w lo (.slice va n vc) L) : RL w va (L.map (·.1)) ∧ n = L.length := by
 obtain ⟨a0,c0,e0,-⟩ := own_slice h.own;injection e0 with e1 e2 e3;subst e1 e2 e3;refine ⟨⟨by rw [List.length_map];exact own_len9 h.own,fun j x hx => ?_⟩,rfl⟩;rw [List.getElem?_map] at hx
 cases hy : L[j]? with
 | none => rw [hy] at hx;cases hx
 | some y =>
  rw [hy] at hx;injection hx with hx;subst hx;obtain ⟨hj,rfl⟩ := List.getElem?_eq_some_iff.1 hy;obtain ⟨g,e1,hc⟩ := row_at litC 7 (fun _ => rfl) h.own j hj;have hin := h.inner L[j] (List.getElem_mem hj);obtain ⟨xa,xc,e2,-⟩ := own_slice hin;rw [e2] at hin;refine ⟨_,xa,xc,e1,?_,?_,?_,?_,?_,?_,?_,own_RT hin⟩
  all_goals rw [addr_add,Nat.zero_add]
  · exact hc 0 _ (by decide) rfl
  · exact hc 1 _ (by decide) rfl
  · exact hc 2 _ (by decide) (by rw [← e2];rfl)
  · exact hc 3 _ (by decide) rfl
  · exact hc 4 _ (by decide) rfl
  · exact hc 5 _ (by decide) rfl
  · exact hc 6 _ (by decide) rfl
theorem rules_RR {L : List (PRule × Value × Value)} {lo2 : Nat} (h : w.ownsRow lo 54 3 (.slice va L.length vc) L.length (ruL L)) (hin : ∀ y ∈ L,RuleIn w lo2 y.2.1 y.2.2 y.1) : RR w va (L.map fun y => y.1) := by
 refine ⟨by rw [List.length_map];exact own_len9 h,fun j x hx => ?_⟩;rw [List.getElem?_map] at hx
 cases hy : L[j]? with
 | none => rw [hy] at hx;cases hx
 | some y =>
  rw [hy] at hx;injection hx with hx;subst hx;obtain ⟨hj,rfl⟩ := List.getElem?_eq_some_iff.1 hy;obtain ⟨g,e1,hc⟩ := row_at ruC 3 (fun _ => rfl) h j hj;obtain ⟨ha,L2,hL2,hb,-⟩ := hin L[j] (List.getElem_mem hj);obtain ⟨xa,xc,e2,-⟩ := own_slice ha;obtain ⟨ya,yc,e3,-⟩ := own_slice hb.own;rw [e2] at ha;rw [e3] at hb;have hrl := (bod_RL hb).1;rw [hL2] at hrl
  have hn : L2.length = (L[j]).1.b.length := by rw [← hL2,List.length_map]
  refine ⟨_,xa,xc,ya,yc,e1,?_,?_,?_,own_RT ha,hrl⟩
  all_goals rw [addr_add,Nat.zero_add]
  · exact hc 0 _ (by decide) rfl
  · exact hc 1 _ (by decide) (by rw [← e2];rfl)
  · exact hc 2 _ (by decide) (by rw [← hn,← e3];rfl)
theorem own_RI {l : List (ByteArray × Int × ByteArray)} (h : w.ownsRow lo 43 3 (.slice va l.length vc) l.length (inL l)) : RI w va l := by
 refine ⟨own_len9 h,fun j x hx => ?_⟩;obtain ⟨hj,rfl⟩ := List.getElem?_eq_some_iff.1 hx;obtain ⟨g,e1,hc⟩ := row_at inC 3 (fun _ => rfl) h j hj;refine ⟨_,e1,?_,?_,?_⟩
 all_goals rw [addr_add,Nat.zero_add]
 · exact hc 0 _ (by decide) rfl
 · exact hc 1 _ (by decide) rfl
 · exact hc 2 _ (by decide) rfl
theorem own_RO {l : List (ByteArray × Int)} (h : w.ownsRow lo 47 2 (.slice va l.length vc) l.length (outL l)) : RO w va l := by
 refine ⟨own_len9 h,fun j x hx => ?_⟩;obtain ⟨hj,rfl⟩ := List.getElem?_eq_some_iff.1 hx;obtain ⟨g,e1,hc⟩ := row_at outC 2 (fun _ => rfl) h j hj;refine ⟨_,e1,?_,?_⟩
 all_goals rw [addr_add,Nat.zero_add]
 · exact hc 0 _ (by decide) rfl
 · exact hc 1 _ (by decide) rfl
end
/-- the rows of a program that was read -/
structure Rws (w : World) (v0 v1 v2 v3 v4 v5 : Option Addr) (l : List Stmt) : Prop where
  i : RI w v0 (inpsOf l)
  o : RO w v1 (outsOf l)
  r : RR w v2 (rulesOf l)
  a0 : Ints .i64 w v3 (ia (inAts l))
  a1 : Ints .i64 w v4 (ia (outAts l))
  a2 : Ints .i64 w v5 (ia (ruAts l))
theorem Rws.below {w w' : World} {v0 v1 v2 v3 v4 v5 : Option Addr} {l : List Stmt} (h : Rws w v0 v1 v2 v3 v4 v5 l) (hb : Below w.heap.size w w') : Rws w' v0 v1 v2 v3 v4 v5 l :=
  ⟨h.i.below hb,h.o.below hb,h.r.below hb,h.a0.below hb,h.a1.below hb,h.a2.below hb⟩
theorem parts_le (l : List Stmt) : (inpsOf l).length ≤ l.length ∧ (outsOf l).length ≤ l.length ∧ (rulesOf l).length ≤ l.length :=
  ⟨List.length_filterMap_le _ _,List.length_filterMap_le _ _,List.length_filterMap_le _ _⟩
/-! ### two texts joined -/
end Go.Proofs.YtclioihichcpiaaDoor
