/- Print, plain: what was read is written with at most four times as many bytes. -/
import Derived.Test.YtclioihichcpiaaDoorJoP
import Derived.Test.YtclioihichcpiaaDoorJoV
set_option maxHeartbeats 8000000
set_option maxRecDepth 100000
namespace Go.Proofs.YtclioihichcpiaaDoor
open Go.RowKit Lx
namespace Lx
theorem bnd {α β : Type} {A : Except Int α} {f : α → Except Int β} {y : β} (h : A.bind f = .ok y) : ∃ x,A = .ok x ∧ f x = .ok y := by
 cases A with
 | error e => cases h
 | ok x => exact ⟨x,rfl,h⟩
theorem sk_le (L : Bs) (p : Nat) : p ≤ rSkip L p := Nat.le_add_right _ _
theorem s_sg_ok {c : Int} {L : Bs} {p q : Nat} (h : rSign c L p = .ok q) : q = p + 1 := by
 unfold rSign at h
 split at h
 · injection h with h;exact h.symm
 · cases h
theorem tw_take (f : UInt8 → Bool) (l : Bs) : l.take (l.takeWhile f).length = l.takeWhile f := (List.prefix_iff_eq_take.1 (List.takeWhile_prefix f)).symm
theorem tw_all (f : UInt8 → Bool) (l : Bs) : (l.takeWhile f).all f = true := by
 induction l with
 | nil => rfl
 | cons c r ih =>
  rw [List.takeWhile_cons]
  by_cases h : f c = true
  · rw [if_pos h,List.all_cons,h,ih];rfl
  · rw [if_neg h];rfl
theorem tw_first (f : UInt8 → Bool) (g : Int → Bool) (L : Bs) (p : Nat) (h : ∃ c r,L.drop p = c :: r ∧ f c = true) : firstB g ((L.drop p).takeWhile f) = g (pk L p) ∧ 1 ≤ ((L.drop p).takeWhile f).length := by
 obtain ⟨c,r,h1,h2⟩ := h;rw [pk_of h1,h1,List.takeWhile_cons,if_pos h2];exact ⟨rfl,Nat.succ_pos _⟩
theorem at_byte {L : Bs} {p : Nat} (h : 0 ≤ pk L p) : ∃ c r,L.drop p = c :: r ∧ pk L p = bi c := by
 have hlt := pk_lt h;exact ⟨L[p],_,drop_cons' hlt,pk_get hlt⟩
theorem s_run_ok {L : Bs} {p : Nat} {x : Bs × Nat} (h : rRun L p = .ok x) : x.1 = (L.drop p).takeWhile (fun c => letterB (bi c)) ∧ x.2 = p + x.1.length ∧ x.1.length ≤ 64 := by
 unfold rRun at h
 split at h
 · rename_i h64;injection h with h;subst h;have e : (L.drop p).take (letN (L.drop p)) = (L.drop p).takeWhile (fun c => letterB (bi c)) := tw_take _ _;refine ⟨e,?_,?_⟩
   · show p + _ = p + ((L.drop p).take _).length;rw [e];rfl
   · show ((L.drop p).take _).length ≤ 64;rw [e];exact h64
 · cases h
theorem s_digs_ok {L : Bs} {p : Nat} {x : Bs × Nat} (h : rDigits L p = .ok x) : x.1 = (L.drop p).takeWhile (fun c => digitB (bi c)) ∧ x.2 = p + x.1.length ∧ x.1.length ≤ 64 := by
 unfold rDigits at h
 split at h
 · rename_i h64
   split at h
   · cases h
   · injection h with h;subst h;have e : (L.drop p).take (digN (L.drop p)) = (L.drop p).takeWhile (fun c => digitB (bi c)) := tw_take _ _;refine ⟨e,?_,?_⟩
     · show p + _ = p + ((L.drop p).take _).length;rw [e];rfl
     · show ((L.drop p).take _).length ≤ 64;rw [e];exact h64
 · cases h
theorem quo_wide (l : Bs) (n : Nat) : (quo l n).2.2 = true → (quo l n).1.length + 1 ≤ (quo l n).2.1 := by
 refine quo_ind (P := fun _ _ x => x.2.2 = true → x.1.length + 1 ≤ x.2.1) ?_ ?_ ?_ l n
 · intro c r n _ _;exact Nat.le_refl _
 · intro p r n b hq ih h
   have hp : 1 ≤ p.length := by
    cases p with
    | nil =>
     have h1 := hq [];rw [List.nil_append,quo_nil] at h1;injection h1 with h1 _;cases h1
    | cons c s => exact Nat.succ_pos _
   have h2 := ih h;show (b :: (quo r (n + 1)).1).length + 1 ≤ (quo r (n + 1)).2.1 + p.length;rw [List.length_cons];omega
 · intro p r n _ _ _ h;cases h
theorem s_text_ok {L : Bs} {p : Nat} {x : Bs × Nat} (h : rText L p = .ok x) : p + x.1.length + 2 ≤ x.2 := by
 unfold rText at h;obtain ⟨q,h1,h2⟩ := bnd h;have e := s_sg_ok h1;unfold rQuo at h2
 split at h2
 · rename_i hq;injection h2 with h2;subst h2;have := quo_wide _ _ hq;show p + (quo (L.drop q) 0).1.length + 2 ≤ q + (quo (L.drop q) 0).2.1;omega
 · cases h2
theorem s_name_ok {L : Bs} {p : Nat} {x : Bs × Nat} (h : rName L p = .ok x) : nameB x.1 = true ∧ x.2 = p + x.1.length ∧ 1 ≤ x.1.length := by
 unfold rName at h
 split at h
 · rename_i hs;obtain ⟨y,h1,h2⟩ := bnd h;obtain ⟨e1,e2,e3⟩ := s_run_ok h1
   split at h2
   · cases h2
   · rename_i hr;injection h2 with h2;subst h2;have hp : 0 ≤ pk L p := by unfold smallB at hs;have := of_decide_eq_true hs;omega
     obtain ⟨c,r,hd,hc⟩ := at_byte hp;obtain ⟨f1,f2⟩ := tw_first (fun c => letterB (bi c)) smallB L p ⟨c,r,hd,by rw [← hc];exact small_letter hs⟩;rw [← e1] at f1 f2;refine ⟨?_,e2,f2⟩;have ha : allB letterB y.1 = true := by rw [e1];exact tw_all _ _
     unfold nameB writtenB;rw [ha,decide_eq_true ⟨f2,e3⟩,f1,hs]
     cases hrr : reservedB y.1 with
     | true => exact absurd hrr hr
     | false => rfl
 · cases h
def mT (t : Bool × ByteArray) : Nat := (tL t).length
theorem mT_var (l : Bs) : mT (true,mk l) ≤ l.length := by
 unfold mT tL termL;have e : bl (mk l) = l := bl_mk l;rw [e]
 split
 · rw [if_pos (by rfl)];exact Nat.le_refl _
 · exact Nat.zero_le _
theorem mT_bare (l : Bs) (h : bareB l = true) : mT (false,mk l) ≤ l.length := by
 unfold mT tL termL;have e : bl (mk l) = l := bl_mk l;rw [e]
 split
 · rw [if_pos (by rw [h];rfl)];exact Nat.le_refl _
 · exact Nat.zero_le _
theorem mT_any (l : Bs) : mT (false,mk l) ≤ 4 * l.length + 2 := by
 have h := tL_len (false,mk l);have e : (mk l).size = l.length := by simp [mk,ByteArray.size]
 unfold mT;dsimp only at h;omega
theorem term_len {L : Bs} {p : Nat} {x : (Bool × ByteArray) × Nat} (h : rTerm L p = .ok x) : mT x.1 + 2 + 4 * p ≤ 4 * x.2 := by
 unfold rTerm at h
 split at h
 · rename_i hg;obtain ⟨y,h1,h2⟩ := bnd h;obtain ⟨e1,e2,e3⟩ := s_run_ok h1;injection h2 with h2;subst h2;have hp : 0 ≤ pk L p := by unfold greatB at hg;have := of_decide_eq_true hg;omega
   obtain ⟨c,r,hd,hc⟩ := at_byte hp
   have hl : letterB (bi c) = true := by
    rw [← hc];unfold greatB at hg;have := of_decide_eq_true hg;unfold letterB;exact decide_eq_true (by omega)
   have f2 := (tw_first (fun c => letterB (bi c)) greatB L p ⟨c,r,hd,hl⟩).2;rw [← e1] at f2;have := mT_var y.1;show mT (true,mk y.1) + 2 + 4 * p ≤ 4 * y.2;omega
 split at h
 · rename_i hg;obtain ⟨y,h1,h2⟩ := bnd h;obtain ⟨e1,e2,e3⟩ := s_digs_ok h1;injection h2 with h2;subst h2;have hp : 0 ≤ pk L p := by unfold digitB at hg;have := of_decide_eq_true hg;omega
   obtain ⟨c,r,hd,hc⟩ := at_byte hp;have f2 := (tw_first (fun c => digitB (bi c)) digitB L p ⟨c,r,hd,by rw [← hc];exact hg⟩).2;rw [← e1] at f2
   have hb : bareB y.1 = true := by
    have ha : allB digitB y.1 = true := by rw [e1];exact tw_all _ _
    unfold bareB numberB;rw [ha,decide_eq_true ⟨f2,e3⟩];simp
   have := mT_bare y.1 hb;show mT (false,mk y.1) + 2 + 4 * p ≤ 4 * y.2;omega
 split at h
 · obtain ⟨y,h1,h2⟩ := bnd h;have e := s_text_ok h1;injection h2 with h2;subst h2;have := mT_any y.1;show mT (false,mk y.1) + 2 + 4 * p ≤ 4 * y.2;omega
 · obtain ⟨y,h1,h2⟩ := bnd h;obtain ⟨e1,e2,e3⟩ := s_name_ok h1;injection h2 with h2;subst h2;have := mT_bare y.1 (by unfold bareB;rw [e1];rfl);show mT (false,mk y.1) + 2 + 4 * p ≤ 4 * y.2;omega
def mA (l : List (Bool × ByteArray)) : Nat := (l.map fun t => mT t + 2).sum
theorem mA_app (l m : List (Bool × ByteArray)) : mA (l ++ m) = mA l + mA m := by unfold mA;rw [List.map_append,List.sum_append]
theorem mA_one (t : Bool × ByteArray) : mA [t] = mT t + 2 := by simp [mA]
theorem argsN_len {L : Bs} : ∀ (n p : Nat) (l : List (Bool × ByteArray)) (x : List (Bool × ByteArray) × Nat),rArgsN L n p l = .ok x → mA x.1 + 4 * p ≤ mA l + 4 * x.2
  | 0,_,_,_,h => by cases h
  | n + 1,p,l,x,h => by
    unfold rArgsN at h;obtain ⟨y,h1,h2⟩ := bnd h;have a1 := term_len h1;have a2 := sk_le L p;have a3 := sk_le L y.2
    split at h2
    · split at h2
      · cases h2
      · have ih := argsN_len n _ _ x h2;rw [mA_app,mA_one] at ih;omega
    · obtain ⟨q,h3,h4⟩ := bnd h2;have e := s_sg_ok h3;injection h4 with h4;subst h4;show mA (l ++ [y.1]) + 4 * p ≤ mA l + 4 * q;rw [mA_app,mA_one];omega
theorem args_len {L : Bs} {p : Nat} {x : List (Bool × ByteArray) × Nat} (h : rArgs L p = .ok x) : mA x.1 + 4 * p ≤ 4 * x.2 := by
 have a2 := sk_le L p;unfold rArgs at h
 split at h
 · have h1 := argsN_len _ _ _ _ h;have e : mA [] = 0 := rfl;omega
 · injection h with h;subst h;show 0 + 4 * p ≤ 4 * rSkip L p;omega
theorem atom_len' {L : Bs} {p : Nat} {x : (ByteArray × List (Bool × ByteArray)) × Nat} (h : rAtom L p = .ok x) : (bl x.1.1).length + mA x.1.2 + 3 + 4 * p ≤ 4 * x.2 := by
 unfold rAtom at h;obtain ⟨y,h1,h2⟩ := bnd h;obtain ⟨-,e2,e3⟩ := s_name_ok h1;obtain ⟨z,h3,h4⟩ := bnd h2;have a := args_len h3;injection h4 with h4;subst h4;show (bl (mk y.1)).length + mA z.1 + 3 + 4 * p ≤ 4 * z.2;have e : bl (mk y.1) = y.1 := bl_mk _;rw [e];omega
def mL (x : PLit) : Nat := if x.k = 3 then mT x.l + mT x.r + 4 else (bl x.p).length + mA x.a + (if x.k = 2 then 4 else 0)
theorem unlike_len {L : Bs} {t : Bool × ByteArray} {p : Nat} {x : PLit × Nat} (h : rUnlike L t p = .ok x) : mL x.1 + 4 * p ≤ mT t + 4 * x.2 ∧ x.1.k = 3 := by
 unfold rUnlike at h;obtain ⟨q,h1,h2⟩ := bnd h;obtain ⟨r,h3,h4⟩ := bnd h2;obtain ⟨y,h5,h6⟩ := bnd h4;have e1 := s_sg_ok h1;have e2 := s_sg_ok h3;have a1 := term_len h5;have s1 := sk_le L p;have s2 := sk_le L r;injection h6 with h6;subst h6;refine ⟨?_,rfl⟩;show (if (3 : Int) = 3 then mT t + mT y.1 + 4 else _) + 4 * p ≤ mT t + 4 * y.2;rw [if_pos rfl];omega
theorem mL_atom (k : Int) (hk : k ≠ 3) (p : ByteArray) (a : List (Bool × ByteArray)) (l r : Bool × ByteArray) : mL ⟨k,p,a,l,r⟩ = (bl p).length + mA a + (if k = 2 then 4 else 0) := by unfold mL;rw [if_neg hk]
theorem lit_len {L : Bs} {p : Nat} {x : PLit × Nat} (h : rLit L p = .ok x) : mL x.1 + 2 + 4 * p ≤ 4 * x.2 := by
 unfold rLit at h
 split at h
 · rename_i hs;obtain ⟨y,h1,h2⟩ := bnd h;obtain ⟨e1,e2,e3⟩ := s_run_ok h1;have hp : 0 ≤ pk L p := by unfold smallB at hs;have := of_decide_eq_true hs;omega
   obtain ⟨c,r,hd,hc⟩ := at_byte hp;have f := tw_first (fun c => letterB (bi c)) smallB L p ⟨c,r,hd,by rw [← hc];exact small_letter hs⟩;rw [← e1] at f;have ha : allB letterB y.1 = true := by rw [e1];exact tw_all _ _
   split at h2
   · rename_i hn;unfold rNot at h2
     split at h2
     · cases h2
     · obtain ⟨a,h3,h4⟩ := bnd h2;have b1 := atom_len' h3;have b2 := sk_le L y.2;injection h4 with h4;subst h4;have e : y.1.length = 3 := by rw [hn];rfl
       show mL ⟨2,a.1.1,a.1.2,_,_⟩ + 2 + 4 * p ≤ 4 * a.2;rw [mL_atom 2 (by decide),if_pos rfl];omega
   · split at h2
     · cases h2
     · rename_i hr
       split at h2
       · have b1 := (unlike_len h2).1;have b2 := sk_le L y.2
         have hb : bareB y.1 = true := by
          unfold bareB nameB writtenB;rw [ha,decide_eq_true ⟨f.2,e3⟩,f.1,hs]
          cases hrr : reservedB y.1 with
          | true => exact absurd hrr hr
          | false => rfl
         have b3 := mT_bare y.1 hb;have := f.2;omega
       · obtain ⟨a,h3,h4⟩ := bnd h2;have b1 := args_len h3;have b2 := sk_le L y.2;injection h4 with h4;subst h4;show mL ⟨1,mk y.1,a.1,_,_⟩ + 2 + 4 * p ≤ 4 * a.2;rw [mL_atom 1 (by decide),if_neg (by decide)];have e : bl (mk y.1) = y.1 := bl_mk _;rw [e];have := f.2;omega
 · obtain ⟨y,h1,h2⟩ := bnd h;have a1 := term_len h1;have b1 := (unlike_len h2).1;omega
def mB (b : List PLit) : Nat := (b.map fun x => mL x + 2).sum
theorem mB_app (l m : List PLit) : mB (l ++ m) = mB l + mB m := by unfold mB;rw [List.map_append,List.sum_append]
theorem mB_one (t : PLit) : mB [t] = mL t + 2 := by simp [mB]
theorem bodyN_len {L : Bs} : ∀ (n p : Nat) (l : List PLit) (x : List PLit × Nat),rBodyN L n p l = .ok x → mB x.1 + 4 + 4 * p ≤ mB l + 4 * x.2
  | 0,_,_,_,h => by cases h
  | n + 1,p,l,x,h => by
    unfold rBodyN at h;obtain ⟨y,h1,h2⟩ := bnd h;have a1 := lit_len h1;have a2 := sk_le L p;have a3 := sk_le L y.2
    split at h2
    · split at h2
      · cases h2
      · have ih := bodyN_len n _ _ x h2;rw [mB_app,mB_one] at ih;omega
    · obtain ⟨q,h3,h4⟩ := bnd h2;have e := s_sg_ok h3;injection h4 with h4;subst h4;show mB (l ++ [y.1]) + 4 + 4 * p ≤ mB l + 4 * q;rw [mB_app,mB_one];omega
theorem body_len {L : Bs} {p : Nat} {x : List PLit × Nat} (h : rBody L p = .ok x) : mB x.1 + 4 + 4 * p ≤ 4 * x.2 := by
 have a2 := sk_le L p;unfold rBody at h
 split at h
 · obtain ⟨q,h1,h2⟩ := bnd h;have e := s_sg_ok h1;have h3 := bodyN_len _ _ _ _ h2;have e0 : mB [] = 0 := rfl;omega
 · obtain ⟨q,h1,h2⟩ := bnd h;have e := s_sg_ok h1;injection h2 with h2;subst h2;show 0 + 4 + 4 * p ≤ 4 * q;omega
def mR (r : PRule) : Nat := (bl r.p).length + mA r.a + mB r.b + 4
/-- how long a statement is, as it is written, at most -/
def mS : Stmt → Nat
  | .inp p _ f _ => (bl p).length + 4 * f.size + 14
  | .outp p _ _ => (bl p).length + 12
  | .rule r _ => mR r
theorem ar_len {L : Bs} : ∀ (f k : Nat) (n : Int) (p : Nat) (x : Int × Nat),rArN L f k n p = .ok x → p ≤ x.2
  | 0,_,_,_,_,h => by cases h
  | f + 1,k,n,p,x,h => by
    unfold rArN at h
    split at h
    · split at h
      · cases h
      · have := ar_len f _ _ _ _ h;omega
    · injection h with h;subst h;exact Nat.le_refl _
theorem slash_len {L : Bs} {p : Nat} {x : (ByteArray × Int) × Nat} (h : rSlash L p = .ok x) : p + (bl x.1.1).length + 1 ≤ x.2 ∧ 1 ≤ (bl x.1.1).length := by
 unfold rSlash at h
 split at h
 · cases h
 · obtain ⟨y,h1,h2⟩ := bnd h;obtain ⟨r,h3,h4⟩ := bnd h2;obtain ⟨n,h5,h6⟩ := bnd h4;obtain ⟨-,e2,e3⟩ := s_name_ok h1;have e4 := s_sg_ok h3;have s1 := sk_le L p;have s2 := sk_le L y.2;have s3 := sk_le L r;have s4 := sk_le L n.2
   have a : rSkip L r ≤ n.2 := by
    unfold rArity at h5
    split at h5
    · obtain ⟨z,h7,h8⟩ := bnd h5;have := ar_len _ _ _ _ _ h7
      split at h8
      · cases h8
      · injection h8 with h8;subst h8;exact this
    · cases h5
   injection h6 with h6;subst h6;have e : bl (mk y.1) = y.1 := bl_mk _;show p + (bl (mk y.1)).length + 1 ≤ rSkip L n.2 ∧ 1 ≤ (bl (mk y.1)).length;rw [e];omega
theorem stmt_len {L : Bs} {p : Nat} {x : Stmt × Nat} (h : rStmt L p = .ok x) : mS x.1 + 4 * p ≤ 4 * x.2 := by
 unfold rStmt at h
 split at h
 · rename_i hs;obtain ⟨y,h1,h2⟩ := bnd h;obtain ⟨e1,e2,e3⟩ := s_run_ok h1;have hp : 0 ≤ pk L p := by unfold smallB at hs;have := of_decide_eq_true hs;omega
   obtain ⟨c,r,hd,hc⟩ := at_byte hp;have f := tw_first (fun c => letterB (bi c)) smallB L p ⟨c,r,hd,by rw [← hc];exact small_letter hs⟩;rw [← e1] at f;have f2 := f.2
   split at h2
   · rename_i hio;obtain ⟨a,h3,h4⟩ := bnd h2;obtain ⟨b1,b2⟩ := slash_len h3
     split at h4
     · rename_i hi;have e : y.1.length = 5 := by rw [hi];rfl
       obtain ⟨t,h5,h6⟩ := bnd h4;obtain ⟨q,h7,h8⟩ := bnd h6;have e4 := s_text_ok h5;have e5 := s_sg_ok h7;have s1 := sk_le L t.2;injection h8 with h8;subst h8;have e6 : (mk t.1).size = t.1.length := by simp [mk,ByteArray.size]
       show (bl a.1.1).length + 4 * (mk t.1).size + 14 + 4 * p ≤ 4 * q;rw [e6];omega
     · rename_i hi
       have e : y.1.length = 6 := by
        rcases hio.1 with h9 | h9
        · exact absurd h9 hi
        · rw [h9];rfl
       obtain ⟨q,h7,h8⟩ := bnd h4;have e5 := s_sg_ok h7;injection h8 with h8;subst h8;show (bl a.1.1).length + 12 + 4 * p ≤ 4 * q;omega
   · split at h2
     · cases h2
     · obtain ⟨z,h3,h4⟩ := bnd h2;unfold rRuleOf at h3;obtain ⟨a,h5,h6⟩ := bnd h3;obtain ⟨b,h7,h8⟩ := bnd h6;have b1 := args_len h5;have b2 := body_len h7;injection h8 with h8;subst h8;injection h4 with h4;subst h4;have e : bl (mk y.1) = y.1 := bl_mk _;show (bl (mk y.1)).length + mA a.1 + mB b.1 + 4 + 4 * p ≤ 4 * b.2;rw [e];omega
 · cases h
theorem progN_len' {L : Bs} : ∀ (f p : Nat) (l : List Stmt) (x : List Stmt × Nat),rProgN L f p l = .ok x → (x.1.map mS).sum + 4 * p ≤ (l.map mS).sum + 4 * x.2
  | 0,_,_,_,h => by cases h
  | f + 1,p,l,x,h => by
    unfold rProgN at h
    split at h
    · injection h with h;subst h;exact Nat.le_refl _
    · obtain ⟨y,h1,h2⟩ := bnd h;have a1 := stmt_len h1;have ih := progN_len' f _ _ x h2;have a3 := sk_le L y.2;rw [List.map_append,List.sum_append] at ih;simp only [List.map_cons,List.map_nil,List.sum_cons,List.sum_nil] at ih;omega
end Lx
end Go.Proofs.YtclioihichcpiaaDoor
/- Print: a text read, written, read: what is read is small, and is in form. -/
namespace Go.Proofs.YtclioihichcpiaaDoor
open Go.RowKit Go.Shelf Lx
namespace Lx
def ofP (x : PLit) : Lit := ⟨x.k,x.p,x.a,x.l,x.r⟩
def ofR (r : PRule) : Rul := ⟨r.p,r.a,r.b.map ofP⟩
theorem toR_of (r : PRule) : toR (ofR r) = r := by
 obtain ⟨p,a,b⟩ := r;show (⟨p,a,(b.map ofP).map toP⟩ : PRule) = ⟨p,a,b⟩;rw [List.map_map];have : (toP ∘ ofP) = id := rfl;rw [this,List.map_id]
theorem tOk_of {t : Bool × ByteArray} (h : okTerm t) : tOk t = true := by
 unfold okTerm at h;unfold tOk termOk
 split at h
 · rename_i hv;rw [if_pos hv];exact h
 · rename_i hv;rw [if_neg hv];exact decide_eq_true (by rw [bl_length];exact h)
theorem atomOk_of {p : ByteArray} {a : List (Bool × ByteArray)} (h : okAtom p a) : atomOk p a = true := by
 obtain ⟨h1,h2,h3⟩ := h;unfold atomOk;rw [h1,decide_eq_true h2,Bool.and_true,Bool.and_true,okT_all,List.all_eq_true];exact fun t ht => tOk_of (h3 t ht)
theorem litOk_of {x : PLit} (h : okLit x) : litOk (ofP x) = true := by
 obtain ⟨k,p,a,l,r⟩ := x;unfold okLit at h;dsimp only at h;unfold litOk ofP;dsimp only;rcases h with ⟨hk,h1,h2,hp,ha⟩ | ⟨hk,h1,hl,hr⟩
 · subst hk hp ha;rw [if_pos rfl,okT_all,List.all_cons,List.all_cons,tOk_of h1,tOk_of h2]
   kernel_rfl
 · have h3 : k ≠ 3 := by rcases hk with rfl | rfl <;> decide
   subst hl hr;have hz : zeroT (false,(⟨#[]⟩ : ByteArray)) = true := by kernel_rfl
   rw [if_neg h3,atomOk_of h1,hz];rcases hk with rfl | rfl <;> rfl
theorem ruleOk_of {r : PRule} (h : okRule r) : ruleOk (ofR r) = true := by
 obtain ⟨h1,h2,h3⟩ := h;unfold ruleOk ofR;dsimp only;rw [atomOk_of h1,List.length_map,decide_eq_true h2,Bool.and_true,Bool.true_and];unfold okL;rw [List.all_map,List.all_eq_true];exact fun x hx => litOk_of (h3 x hx)
theorem aL_mA (l : List (Bool × ByteArray)) : (aL l).length ≤ mA l := by
 have ht : ∀ us : List (Bool × ByteArray),(tTail us).length = mA us := by
  intro us
  induction us with
  | nil => rfl
  | cons u us ih =>
   rw [tTail_cons];simp only [List.length_cons,List.length_append,ih];show _ = (mT u + 2) + mA us;unfold mT;omega
 cases l with
 | nil => exact Nat.zero_le _
 | cons t us =>
  have := ht us;show (40 :: (tL t ++ (tTail us ++ [41]))).length ≤ (mT t + 2) + mA us;simp only [List.length_cons,List.length_append,List.length_nil];unfold mT;omega
theorem lL_mL {x : PLit} (h : okLit x) : (lL (ofP x)).length ≤ mL x := by
 have ho := litOk_of h;rcases lit_cases ho with ⟨hk,-,-,-,e⟩ | ⟨hk,-,-,e⟩ | ⟨hk,-,-,e⟩
 · rw [e];have hk' : x.k = 3 := hk;unfold mL;rw [if_pos hk'];show (tL x.l ++ (32 :: 33 :: 61 :: 32 :: tL x.r)).length ≤ _;simp only [List.length_append,List.length_cons];unfold mT;omega
 · rw [e];have hk' : x.k = 1 := hk;unfold mL;rw [if_neg (by rw [hk'];decide)];show (bl (atomL x.p x.a)).length ≤ _;rw [atomL_list,List.length_append];have := aL_mA x.a;omega
 · rw [e];have hk' : x.k = 2 := hk;unfold mL;rw [if_neg (by rw [hk'];decide),if_pos hk'];show (110 :: 111 :: 116 :: 32 :: bl (atomL x.p x.a)).length ≤ _;simp only [List.length_cons];rw [atomL_list,List.length_append];have := aL_mA x.a;omega
theorem bodyL_mB (b : List PLit) (h : ∀ x ∈ b,okLit x) : (bodyL (b.map ofP)).length ≤ mB b + 3 := by
 have ht : ∀ us : List PLit,(∀ x ∈ us,okLit x) → (bTail (us.map ofP)).length ≤ mB us := by
  intro us
  induction us with
  | nil => intro _;exact Nat.zero_le _
  | cons u us ih =>
   intro hu;have h1 := ih fun x hx => hu x (List.mem_cons_of_mem _ hx);have h2 := lL_mL (hu u (List.mem_cons_self ..));rw [List.map_cons,bTail_cons];show _ ≤ (mL u + 2) + mB us;simp only [List.length_cons,List.length_append];omega
 cases b with
 | nil => show 1 ≤ _;omega
 | cons x ys =>
  have h1 := ht ys fun z hz => h z (List.mem_cons_of_mem _ hz);have h2 := lL_mL (h x (List.mem_cons_self ..));show (32 :: 58 :: 45 :: 32 :: (lL (ofP x) ++ (bTail (ys.map ofP) ++ [46]))).length ≤ ((mL x + 2) + mB ys) + 3;simp only [List.length_cons,List.length_append,List.length_nil];omega
theorem ruleL_mR {r : PRule} (h : okRule r) : (bl (ruleL (ofR r))).length + 1 ≤ mR r := by
 have ho := ruleOk_of h;rw [ruleL_list ho,atomL_list,List.length_append,List.length_append];have h1 := aL_mA r.a;have h2 := bodyL_mB r.b h.2.2;show (bl r.p).length + (aL r.a).length + (bodyL (r.b.map ofP)).length + 1 ≤ _;unfold mR;omega
/-- the parts of what was read -/
def rulsOf (l : List Stmt) : List Rul := (rulesOf l).map ofR
theorem ruls_back (l : List Stmt) : (rulsOf l).map toR = rulesOf l := by
 unfold rulsOf;rw [List.map_map];have : (toR ∘ ofR) = id := funext toR_of;rw [this,List.map_id]
theorem parts_ok {L : Bs} : ∀ l : List Stmt,(∀ x ∈ l,okStmt L x) → progOk (inpsOf l) (outsOf l) (rulsOf l) = true ∧ (progL (prsOf (inpsOf l) (outsOf l) (rulsOf l))).length ≤ (l.map mS).sum ∧ (∀ r ∈ rulesOf l,okRule r ∧ mR r ≤ (l.map mS).sum) ∧ (∀ x ∈ inpsOf l,x.1.size ≤ 64 ∧ x.2.2.size ≤ 1024) ∧ ∀ x ∈ outsOf l,x.1.size ≤ 64
  | [],_ => ⟨rfl,Nat.zero_le _,(fun r h => by cases h),(fun r h => by cases h),(fun r h => by cases h)⟩
  | x :: l,h => by
    obtain ⟨h1,h2,h3,h4,h5⟩ := parts_ok l fun y hy => h y (List.mem_cons_of_mem _ hy);have hx := h x (List.mem_cons_self ..);have hs : ((x :: l).map mS).sum = mS x + (l.map mS).sum := by rw [List.map_cons,List.sum_cons]
    rw [hs];unfold progOk at h1 ⊢;rw [Bool.and_eq_true,Bool.and_eq_true] at h1;unfold prsOf at h2 ⊢;rw [progL_app,progL_app,List.length_append,List.length_append] at h2
    cases x with
    | inp p n f a =>
      obtain ⟨q1,q2,q3,q4,-⟩ := hx;have e0 : inpsOf (Stmt.inp p n f a :: l) = (p,n,f) :: inpsOf l := rfl;have e1 : outsOf (Stmt.inp p n f a :: l) = outsOf l := rfl;have e2 : rulesOf (Stmt.inp p n f a :: l) = rulesOf l := rfl;have e3 : rulsOf (Stmt.inp p n f a :: l) = rulsOf l := rfl;have hp : p.size ≤ 64 := by have := name_len q1;rw [bl_length] at this;exact this
      rw [e0,e1,e2,e3];refine ⟨?_,?_,fun r hr => ⟨(h3 r hr).1,by have := (h3 r hr).2;omega⟩,fun y hy => ?_,h5⟩
      · unfold okI at h1 ⊢;rw [List.all_cons,h1.1,h1.2.1,h1.2.2];unfold inpOk decOk;dsimp only;rw [q1,decide_eq_true ⟨q2,q3⟩,decide_eq_true q4];rfl
      · rw [List.map_cons,progL_app,progL_app];have e : progL (prI (p,n,f) :: (inpsOf l).map prI) = prL (prI (p,n,f)) ++ [10] ++ progL ((inpsOf l).map prI) := rfl;have a2 := arL_le n;have a3 : (bl p).length = p.size := bl_length _;have a4 : sInput.length = 5 := rfl;have a5 := quote_len (bl f);have a6 := (escs_len (bl f)).2;have a7 : (bl f).length = f.size := bl_length _;rw [e]
        show _ ≤ ((bl p).length + 4 * f.size + 14) + _;simp only [prL,prI,List.length_append,List.length_cons,List.length_nil] at *;omega
      · rcases List.mem_cons.1 hy with rfl | hy
        · exact ⟨hp,q4⟩
        · exact h4 y hy
    | outp p n a =>
      obtain ⟨q1,q2,q3,-⟩ := hx;have e0 : inpsOf (Stmt.outp p n a :: l) = inpsOf l := rfl;have e1 : outsOf (Stmt.outp p n a :: l) = (p,n) :: outsOf l := rfl;have e2 : rulesOf (Stmt.outp p n a :: l) = rulesOf l := rfl;have e3 : rulsOf (Stmt.outp p n a :: l) = rulsOf l := rfl;have hp : p.size ≤ 64 := by have := name_len q1;rw [bl_length] at this;exact this
      rw [e0,e1,e2,e3];refine ⟨?_,?_,fun r hr => ⟨(h3 r hr).1,by have := (h3 r hr).2;omega⟩,h4,fun y hy => ?_⟩
      · unfold okO at h1 ⊢;rw [List.all_cons,h1.1,h1.2.1,h1.2.2];unfold decOk;dsimp only;rw [q1,decide_eq_true ⟨q2,q3⟩];rfl
      · rw [List.map_cons,progL_app,progL_app];have e : progL (prO (p,n) :: (outsOf l).map prO) = prL (prO (p,n)) ++ [10] ++ progL ((outsOf l).map prO) := rfl;have a2 := arL_le n;have a3 : (bl p).length = p.size := bl_length _;have a4 : sOutput.length = 6 := rfl;rw [e];show _ ≤ ((bl p).length + 12) + _;simp only [prL,prO,List.length_append,List.length_cons,List.length_nil] at *
        omega
      · rcases List.mem_cons.1 hy with rfl | hy
        · exact hp
        · exact h5 y hy
    | rule r a =>
      have hr := hx.1;have e0 : inpsOf (Stmt.rule r a :: l) = inpsOf l := rfl;have e1 : outsOf (Stmt.rule r a :: l) = outsOf l := rfl;have e2 : rulesOf (Stmt.rule r a :: l) = r :: rulesOf l := rfl;have e3 : rulsOf (Stmt.rule r a :: l) = ofR r :: rulsOf l := rfl;have hlen := ruleL_mR hr;rw [e0,e1,e2,e3];refine ⟨?_,?_,fun y hy => ?_,h4,h5⟩
      · unfold okR at h1 ⊢;rw [List.all_cons,h1.1,h1.2.1,h1.2.2,ruleOk_of hr];rfl
      · rw [List.map_cons,progL_app,progL_app];have e : progL (Pr.rule (ofR r) :: (rulsOf l).map Pr.rule) = bl (ruleL (ofR r)) ++ [10] ++ progL ((rulsOf l).map Pr.rule) := rfl;rw [e];show _ ≤ mR r + _;simp only [List.length_append,List.length_cons,List.length_nil] at *;omega
      · show okRule y ∧ mR y ≤ mR r + _;rcases List.mem_cons.1 hy with rfl | hy
        · exact ⟨hr,by omega⟩
        · exact ⟨(h3 y hy).1,by have := (h3 y hy).2;omega⟩
end Lx
theorem smallT_of {a : List (Bool × ByteArray)} (h1 : a.length ≤ 16) (h2 : ∀ t ∈ a,okTerm t) : smallT a := ⟨by omega,fun x hx => by
  have h := h2 x hx;unfold okTerm at h
  split at h
  · have := written_len (W := bl x.2) (by unfold variableB at h;rw [Bool.and_eq_true] at h;exact h.1);rw [bl_length] at this;omega
  · omega⟩
theorem term_small' {t : Bool × ByteArray} (h : okTerm t) : t.2.size ≤ 1048576 := (smallT_of (a := [t]) (by simp) (by intro x hx;simp at hx;subst hx;exact h)).2 t (by simp)
theorem SmallR.read {r : PRule} (h : okRule r) (hm : mR r ≤ 8388608) : SmallR (ofR r) := by
 obtain ⟨⟨n1,n2,n3⟩,h2,h3⟩ := h;have hn : ∀ p : ByteArray,nameB (bl p) = true → p.size ≤ 1048576 := fun p hp => by have := name_len hp;rw [bl_length] at this;omega
 refine ⟨hn _ n1,smallT_of n2 n3,by show (r.b.map ofP).length ≤ _;rw [List.length_map];omega,fun z hz => ?_,?_⟩
 · obtain ⟨x,hx,rfl⟩ := List.mem_map.1 hz;rcases h3 x hx with ⟨-,q1,q2,q3,q4⟩ | ⟨-,⟨m1,m2,m3⟩,q2,q3⟩
   · refine ⟨⟨?_,term_small' q1,term_small' q2⟩,?_⟩
     · show x.p.size ≤ _;rw [q3];exact Nat.zero_le _
     · show smallT x.a;rw [q4];exact ⟨Nat.zero_le _,fun y hy => by cases hy⟩
   · refine ⟨⟨hn _ m1,?_,?_⟩,smallT_of m2 m3⟩
     · show x.l.2.size ≤ _;rw [q2];exact Nat.zero_le _
     · show x.r.2.size ≤ _;rw [q3];exact Nat.zero_le _
 · have h1 := ruleL_mR (show okRule r from ⟨⟨n1,n2,n3⟩,h2,h3⟩);rw [(rule_yes (ruleOk_of ⟨⟨n1,n2,n3⟩,h2,h3⟩)).1];rw [bl_length] at h1;omega
/-- all that is to be known of a text that was read -/
theorem text_facts {s : ByteArray} {l : List Stmt} (h : psText s = .ok l) (hs : s.size ≤ 1048576) : progOk (inpsOf l) (outsOf l) (rulsOf l) = true ∧ (progS (inpsOf l) (outsOf l) (rulsOf l)).size ≤ 4194304 ∧ (∀ x ∈ rulsOf l,SmallR x) ∧ (∀ x ∈ inpsOf l,x.1.size ≤ 1048576 ∧ x.2.2.size ≤ 1048576) ∧ (∀ x ∈ outsOf l,x.1.size ≤ 1048576) ∧ l.length ≤ 1048576 := by
 have hf := text_form h;obtain ⟨h1,h2,h3,h4,h5⟩ := parts_ok l hf;have hl := text_len h
 have hsum : (l.map mS).sum ≤ 4194304 := by
  have he := eq_prog s;rw [h] at he
  cases hr : rProg (bl s) with
  | error e => rw [hr] at he;exact he.elim
  | ok y =>
   rw [hr] at he;have e : l = y.1 := he;subst e;unfold rProg at hr;have hn := progN_len' _ _ _ _ hr
   have hz : y.2 ≤ (bl s).length := by
    have hm := (good_progN ((bl s).length + 1) []).mono (bl s) (rSkip (bl s) 0) (rskip_le (bl s) 0 (Nat.zero_le _)).2;rw [hr] at hm;have hm' : ((rSkip (bl s) 0 : Nat) : Int) ≤ (y.2 : Int) ∧ (y.2 : Int) ≤ ((bl s).length : Int) := hm;omega
   rw [bl_length] at hz;have e0 : (([] : List Stmt).map mS).sum = 0 := rfl;omega
 refine ⟨h1,?_,fun x hx => ?_,fun x hx => ?_,fun x hx => ?_,by omega⟩
 · unfold progS;rw [if_pos h1,so_mk_size];omega
 · obtain ⟨r,hr,rfl⟩ := List.mem_map.1 hx;obtain ⟨q1,q2⟩ := h3 r hr;exact SmallR.read q1 (by omega)
 · have := h4 x hx;omega
 · have := h5 x hx;omega
end Go.Proofs.YtclioihichcpiaaDoor
