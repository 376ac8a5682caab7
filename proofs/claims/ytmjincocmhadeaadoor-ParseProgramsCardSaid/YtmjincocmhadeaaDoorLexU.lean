/- strings, plain: by their pieces; cut, and with more behind them. -/
import Derived.Test.YtmjincocmhadeaaDoorLexSpec
import Derived.Test.YtmjincocmhadeaaDoorLexC
import Derived.Test.YtmjincocmhadeaaDoorLexE
import Derived.Test.YtmjincocmhadeaaDoorLexF
import Derived.Test.YtmjincocmhadeaaDoorLexH
import Derived.Test.YtmjincocmhadeaaDoorLexK
import Derived.Test.YtmjincocmhadeaaDoorLexP
import Derived.Test.YtmjincocmhadeaaDoorLexS
namespace Go.Proofs.YtmjincocmhadeaaDoor.Lx
theorem quoS_end (n : Nat) : quoS [] n = ([],0,false) := rfl
theorem quoS_esc (d : UInt8) (n : Nat) (h : bi d = 34 ∨ bi d = 92 ∨ bi d = 110 ∨ bi d = 116) :
    ∃ b,∀ r,quoS (d :: r) n = (b :: (quo r (n + 1)).1,(quo r (n + 1)).2.1 + 1,(quo r (n + 1)).2.2) := by
 by_cases h1 : bi d = 34 ∨ bi d = 92
 · exact ⟨d,fun r => by simp only [quoS];rw [if_pos h1]⟩
 by_cases h2 : bi d = 110
 · exact ⟨10,fun r => by simp only [quoS];rw [if_neg h1,if_pos h2]⟩
 by_cases h3 : bi d = 116
 · exact ⟨9,fun r => by simp only [quoS];rw [if_neg h1,if_neg h2,if_pos h3]⟩
 · omega
theorem quoS_x (d : UInt8) (r : Bs) (n : Nat) (h : bi d = 120) : quoS (d :: r) n = ((quoF r n).1,(quoF r n).2.1 + 1,(quoF r n).2.2) := by
 simp only [quoS];rw [if_neg (by omega),if_neg (by omega),if_neg (by omega),if_pos h]
theorem quoS_bad (d : UInt8) (r : Bs) (n : Nat) (h : ¬ (bi d = 34 ∨ bi d = 92 ∨ bi d = 110 ∨ bi d = 116 ∨ bi d = 120)) : quoS (d :: r) n = ([],0,false) := by
 simp only [quoS];rw [if_neg (by omega),if_neg (by omega),if_neg (by omega),if_neg (by omega)]
theorem quoF_end' (c : UInt8) (m : Bs) (n : Nat) (h : ¬ halfI (bi c) < 0) : 1 ≤ (quoF (c :: m) n).2.1 := by
 cases m with
 | nil => rw [quoF_end c n h];exact Nat.le_refl _
 | cons d r =>
  by_cases h2 : halfI (bi d) < 0
  · rw [quoF_bad2 c d r n h h2];exact Nat.le_refl _
  · rw [quoF_ok c d r n _ _ rfl rfl h h2];show 1 ≤ _ + 2;omega
/-- strings by their pieces -/
theorem quo_ind {P : Bs → Nat → Bs × Nat × Bool → Prop}
    (q34 : ∀ c r n,(∀ r,quo (c :: r) n = ([],1,true)) → P (c :: r) n ([],1,true))
    (step : ∀ (p r : Bs) n b,(∀ r,quo (p ++ r) n = (b :: (quo r (n + 1)).1,(quo r (n + 1)).2.1 + p.length,(quo r (n + 1)).2.2)) → P r (n + 1) (quo r (n + 1)) →
      P (p ++ r) n (b :: (quo r (n + 1)).1,(quo r (n + 1)).2.1 + p.length,(quo r (n + 1)).2.2))
    (stop : ∀ (p r : Bs) n,quo p n = ([],p.length,false) → (∀ m,p.length ≤ (quo (p ++ m) n).2.1) → (∀ m,r ≠ [] → quo (p ++ r ++ m) n = ([],p.length,false)) → P (p ++ r) n ([],p.length,false)) :
    ∀ l n,P l n (quo l n) := by
 intro l
 induction hlen : l.length using Nat.strongRecOn generalizing l with
 | ind N ih =>
  intro n
  have stepq : ∀ (p r : Bs) b,l = p ++ r → p ≠ [] → (∀ r,quo (p ++ r) n = (b :: (quo r (n + 1)).1,(quo r (n + 1)).2.1 + p.length,(quo r (n + 1)).2.2)) → P l n (quo l n) := by
   intro p r b hl hp hq;subst hl;rw [hq r];refine step p r n b hq (ih _ ?_ r rfl (n + 1));have := List.length_pos_iff.2 hp;rw [← hlen,List.length_append];omega
  have stopq : ∀ (p r : Bs),l = p ++ r → quo p n = ([],p.length,false) → (∀ m,p.length ≤ (quo (p ++ m) n).2.1) → (∀ m,r ≠ [] → quo (p ++ r ++ m) n = ([],p.length,false)) → P l n (quo l n) := by
   intro p r hl h1 h2 h3;subst hl
   have h4 : quo (p ++ r) n = ([],p.length,false) := by
    cases r with
    | nil => rw [List.append_nil];exact h1
    | cons x r => have := h3 [] (by simp);rwa [List.append_nil] at this
   rw [h4];exact stop p r n h1 h2 h3
  cases l with
  | nil => exact stopq [] [] rfl (quo_nil n) (fun m => Nat.zero_le _) (fun m h => absurd rfl h)
  | cons c r =>
   by_cases h34 : bi c = 34
   · have hq : ∀ r,quo (c :: r) n = ([],1,true) := fun r => quo_34 c r n h34;rw [hq r];exact q34 c r n hq
   by_cases hb : n = 1024 ∨ bi c < 32 ∨ 126 < bi c
   · refine stopq [] (c :: r) rfl (quo_nil n) (fun m => Nat.zero_le _) (fun m _ => ?_);exact quo_bad c (r ++ m) n h34 hb
   by_cases h92 : bi c = 92
   · have hn : ¬ n = 1024 := by omega
     have e92 := fun r => quo_92 c r n h92 hn;have one : ∀ m,1 ≤ (quo (c :: m) n).2.1 := fun m => by rw [e92];show 1 ≤ _ + 1;omega
     cases r with
     | nil => exact stopq [c] [] rfl (by rw [e92];rfl) one (fun m h => absurd rfl h)
     | cons d r =>
      by_cases hd : bi d = 34 ∨ bi d = 92 ∨ bi d = 110 ∨ bi d = 116
      · obtain ⟨b,hb⟩ := quoS_esc d n hd;exact stepq [c,d] r b rfl (by simp) (fun r => by show quo (c :: d :: r) n = _;rw [e92,hb];rfl)
      by_cases h120 : bi d = 120
      · have ex := fun r => quoS_x d r n h120;have two : ∀ m,2 ≤ (quo (c :: d :: m) n).2.1 := fun m => by rw [e92,ex];show 2 ≤ _ + 1 + 1;omega
        cases r with
        | nil => exact stopq [c,d] [] rfl (by rw [e92,ex];rfl) two (fun m h => absurd rfl h)
        | cons h1 r =>
         by_cases hh1 : halfI (bi h1) < 0
         · refine stopq [c,d] (h1 :: r) rfl (by rw [e92,ex];rfl) two (fun m _ => ?_);show quo (c :: d :: h1 :: (r ++ m)) n = _;rw [e92,ex,quoF_bad _ _ _ hh1];rfl
         · have three : ∀ m,3 ≤ (quo (c :: d :: h1 :: m) n).2.1 := fun m => by
             rw [e92,ex];have := quoF_end' h1 m n hh1;show 3 ≤ _ + 1 + 1;omega
           have three' : quo [c,d,h1] n = ([],3,false) := by rw [e92,ex,quoF_end _ _ hh1]
           cases r with
           | nil => exact stopq [c,d,h1] [] rfl three' three (fun m h => absurd rfl h)
           | cons h2 r =>
            by_cases hh2 : halfI (bi h2) < 0
            · refine stopq [c,d,h1] (h2 :: r) rfl three' three (fun m _ => ?_);show quo (c :: d :: h1 :: h2 :: (r ++ m)) n = _;rw [e92,ex,quoF_bad2 _ _ _ _ hh1 hh2];rfl
            · exact stepq [c,d,h1,h2] r _ rfl (by simp) (fun r => by show quo (c :: d :: h1 :: h2 :: r) n = _;rw [e92,ex,quoF_ok _ _ _ _ _ _ rfl rfl hh1 hh2];rfl)
      · refine stopq [c] (d :: r) rfl (by rw [e92];rfl) one (fun m _ => ?_);show quo (c :: d :: (r ++ m)) n = _;rw [e92,quoS_bad _ _ _ (by omega)];rfl
   · exact stepq [c] r c rfl (by simp) (fun r => by show quo (c :: r) n = _;rw [quo_chr _ _ _ h34 hb h92];rfl)
theorem quo_far (l : Bs) (n : Nat) : (quo l n).2.1 ≤ l.length := by
 refine quo_ind (P := fun l _ q => q.2.1 ≤ l.length) ?_ ?_ ?_ l n
 · intro c r n _;show 1 ≤ _;simp
 · intro p r n b _ ih;show _ + p.length ≤ _;rw [List.length_append];omega
 · intro p r n _ _ _;show p.length ≤ _;rw [List.length_append];omega
theorem quo_more (m : Bs) (l : Bs) (n : Nat) : (quo l n).2.1 ≤ (quo (l ++ m) n).2.1 := by
 refine quo_ind (P := fun l n q => q.2.1 ≤ (quo (l ++ m) n).2.1) ?_ ?_ ?_ l n
 · intro c r n h;rw [List.cons_append,h];exact Nat.le_refl _
 · intro p r n b h ih;rw [List.append_assoc,h];show _ + p.length ≤ _ + p.length;omega
 · intro p r n _ h _;rw [List.append_assoc];exact h _
end Go.Proofs.YtmjincocmhadeaaDoor.Lx
