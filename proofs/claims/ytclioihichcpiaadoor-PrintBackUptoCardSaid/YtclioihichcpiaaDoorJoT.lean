/- Parse, plain: what is read is in form, at its place. No program in sight. -/
import Derived.Test.YtclioihichcpiaaDoorPmI
set_option maxHeartbeats 8000000
set_option maxRecDepth 100000
namespace Go.Proofs.YtclioihichcpiaaDoor
open Go.RowKit Lx
namespace Lx
def okTerm (t : Bool × ByteArray) : Prop := if t.1 = true then variableB (bl t.2) = true else t.2.size ≤ 1024
def okAtom (p : ByteArray) (a : List (Bool × ByteArray)) : Prop := nameB (bl p) = true ∧ a.length ≤ 16 ∧ ∀ t ∈ a,okTerm t
def okLit (x : PLit) : Prop := (x.k = 3 ∧ okTerm x.l ∧ okTerm x.r ∧ x.p = ⟨#[]⟩ ∧ x.a = []) ∨ ((x.k = 1 ∨ x.k = 2) ∧ okAtom x.p x.a ∧ x.l = (false,⟨#[]⟩) ∧ x.r = (false,⟨#[]⟩))
def okRule (r : PRule) : Prop := okAtom r.p r.a ∧ r.b.length ≤ 256 ∧ ∀ x ∈ r.b,okLit x
/-- does the text go on so from a place? -/
def goesOn (L : Bs) (at_ : Nat) (w : Bs) : Prop := (L.drop at_).take w.length = w ∧ at_ + w.length ≤ L.length
def okStmt (L : Bs) : Stmt → Prop
  | .inp p n f a => nameB (bl p) = true ∧ 0 ≤ n ∧ n ≤ 16 ∧ f.size ≤ 1024 ∧ goesOn L a sInput
  | .outp p n a => nameB (bl p) = true ∧ 0 ≤ n ∧ n ≤ 16 ∧ goesOn L a sOutput
  | .rule r a => okRule r ∧ goesOn L a (bl r.p)
/-- the tokens are what they are -/
def TokOk (P : Ps) (L : Bs) : Prop := ∀ i,i < P.ts.length → TokFacts (L.drop (P.tok i).at_) (P.tok i)
theorem tokOk (s : ByteArray) : TokOk (psOf s) (bl s) := fun i hi => by
  have hm : (psOf s).tok i ∈ (tokens (bl s)).toks := by
    unfold Ps.tok;rw [List.getD_eq_getElem?_getD,List.getElem?_eq_getElem hi];exact List.getElem_mem hi
  rw [tokens_tk] at hm;obtain ⟨h1,h2,h3,h4⟩ := toks_are _ _ _ _ hm;have hne := toks_ne hm;rw [Nat.sub_zero] at h4 hne;exact next_is hne h4
theorem written_len {W : Bs} (h : writtenB W = true) : W.length ≤ 64 := by unfold writtenB at h;simp at h;omega
theorem name_len {W : Bs} (h : nameB W = true) : W.length ≤ 64 := written_len (by unfold nameB at h;simp at h;exact h.1)
theorem num_len {W : Bs} (h : numberB W = true) : W.length ≤ 64 := by unfold numberB at h;simp at h;omega
theorem mk_size (W : Bs) : (mk W).size = W.length := by rw [← bl_length,bl_mk]
theorem term_form {P : Ps} {L : Bs} (hT : TokOk P L) {i j : Nat} {x : Bool × ByteArray} (h : psTerm P i = .ok (x,j)) : okTerm x := by
 obtain ⟨_,hlt,rfl,hk⟩ := psTerm_on h;have hf := hT i hlt;unfold okTerm;dsimp only
 by_cases h2 : (P.tok i).kind = 2
 · rw [if_pos (by rw [h2];rfl),bl_mk];exact hf.var h2
 · rw [if_neg (by rw [beq_iff_eq];exact h2),mk_size];rw [List.contains_iff_mem] at hk;simp at hk;rcases hk with hk | hk | hk | hk
   · exact absurd hk h2
   · have := name_len (hf.name hk).1;omega
   · have := num_len (hf.num hk);omega
   · exact hf.str hk
theorem argsN_form {P : Ps} {L : Bs} (hT : TokOk P L) : ∀ (n i : Nat) (l l' : List (Bool × ByteArray)) (k : Nat),psArgsN P n i l = .ok (l',k) → l.length + n ≤ 16 → (∀ t ∈ l,okTerm t) → l'.length ≤ 16 ∧ ∀ t ∈ l',okTerm t
  | 0,_,_,_,_,h,_,_ => by cases h
  | n + 1, i,l,l',k,h,hl,ho => by
    unfold psArgsN at h
    cases ht : psTerm P i with
    | error e => rw [ht] at h;cases h
    | ok r =>
      obtain ⟨t,j⟩ := r;rw [ht] at h;have h1 := term_form hT ht
      have ho' : ∀ u ∈ l ++ [t],okTerm u := fun u hu => by
        rcases List.mem_append.1 hu with hu | hu
        · exact ho u hu
        · simp at hu;subst hu;exact h1
      dsimp only at h
      by_cases hk : P.kind j = 10 ∧ n ≠ 0
      · rw [if_pos hk] at h;exact argsN_form hT n _ _ _ _ h (by rw [List.length_append];simp;omega) ho'
      · rw [if_neg hk] at h
        cases hc : P.take j (if n = 0 then [9] else [9,10]) with
        | error e => rw [hc] at h;cases h
        | ok r =>
          rw [hc] at h;injection h with h;injection h with h2 _;subst h2;exact ⟨by rw [List.length_append];simp;omega,ho'⟩
theorem args_form {P : Ps} {L : Bs} (hT : TokOk P L) {i k : Nat} {l : List (Bool × ByteArray)} (h : psArgs P i = .ok (l,k)) : l.length ≤ 16 ∧ ∀ t ∈ l,okTerm t := by
 unfold psArgs at h
 by_cases hk : P.kind i = 8
 · rw [if_pos hk] at h;exact argsN_form hT _ _ _ _ _ h (by simp) (by simp)
 · rw [if_neg hk] at h;injection h with h;injection h with h1 _;subst h1;simp
theorem atom_form {P : Ps} {L : Bs} (hT : TokOk P L) {i k : Nat} {p : ByteArray} {a : List (Bool × ByteArray)} (h : psAtom P i = .ok ((p,a),k)) : okAtom p a := by
 unfold psAtom at h
 cases ht : P.take i [1] with
 | error e => rw [ht] at h;cases h
 | ok r =>
  obtain ⟨t,j⟩ := r;rw [ht] at h;dsimp only at h;obtain ⟨_,hlt,rfl,hk⟩ := take_ok (by decide) ht
  cases ha : psArgs P j with
  | error e => rw [ha] at h;cases h
  | ok r =>
   rw [ha] at h;injection h with h;injection h with h1 _;injection h1 with h1 h2;subst h1 h2;have := args_form hT ha;exact ⟨by rw [bl_mk];exact ((hT i hlt).name (by simpa using hk)).1,this.1,this.2⟩
theorem unlike_form {P : Ps} {L : Bs} (hT : TokOk P L) {i k : Nat} {x : PLit} (h : psUnlike P i = .ok (x,k)) : okLit x := by
 unfold psUnlike at h
 cases ht : psTerm P i with
 | error e => rw [ht] at h;cases h
 | ok r =>
  obtain ⟨t,j⟩ := r;rw [ht] at h;dsimp only at h
  cases hc : P.take j [14] with
  | error e => rw [hc] at h;cases h
  | ok r =>
   obtain ⟨c,m⟩ := r;rw [hc] at h;dsimp only at h
   cases hu : psTerm P m with
   | error e => rw [hu] at h;cases h
   | ok r =>
    obtain ⟨u,o⟩ := r;rw [hu] at h;injection h with h;injection h with h1 _;subst h1;exact .inl ⟨rfl,term_form hT ht,term_form hT hu,rfl,rfl⟩
theorem lit_form {P : Ps} {L : Bs} (hT : TokOk P L) {i k : Nat} {x : PLit} (h : psLit P i = .ok (x,k)) : okLit x := by
 unfold psLit at h
 by_cases h7 : P.kind i = 7
 · rw [if_pos h7] at h
   cases ha : psAtom P (i + 1) with
   | error e => rw [ha] at h;cases h
   | ok r =>
    obtain ⟨⟨p,l⟩,m⟩ := r;rw [ha] at h;injection h with h;injection h with h1 _;subst h1;exact .inr ⟨.inr rfl,atom_form hT ha,rfl,rfl⟩
 rw [if_neg h7] at h
 by_cases h1 : P.kind i = 1
 · rw [if_pos h1] at h
   by_cases hu : unlikeNext P i = true
   · rw [if_pos hu] at h;exact unlike_form hT h
   · rw [if_neg hu] at h
     cases ha : psAtom P i with
     | error e => rw [ha] at h;cases h
     | ok r =>
      obtain ⟨⟨p,l⟩,m⟩ := r;rw [ha] at h;injection h with h;injection h with h1 _;subst h1;exact .inr ⟨.inl rfl,atom_form hT ha,rfl,rfl⟩
 rw [if_neg h1] at h
 by_cases h2 : P.kind i = 2 ∨ P.kind i = 3 ∨ P.kind i = 4
 · rw [if_pos h2] at h;exact unlike_form hT h
 · rw [if_neg h2] at h;cases h
theorem bodyN_form {P : Ps} {L : Bs} (hT : TokOk P L) : ∀ (n i : Nat) (l l' : List PLit) (k : Nat),psBodyN P n i l = .ok (l',k) → l.length + n ≤ 256 → (∀ t ∈ l,okLit t) → l'.length ≤ 256 ∧ ∀ t ∈ l',okLit t
  | 0,_,_,_,_,h,_,_ => by cases h
  | n + 1, i,l,l',k,h,hl,ho => by
    unfold psBodyN at h
    cases ht : psLit P i with
    | error e => rw [ht] at h;cases h
    | ok r =>
      obtain ⟨t,j⟩ := r;rw [ht] at h;have h1 := lit_form hT ht
      have ho' : ∀ u ∈ l ++ [t],okLit u := fun u hu => by
        rcases List.mem_append.1 hu with hu | hu
        · exact ho u hu
        · simp at hu;subst hu;exact h1
      dsimp only at h
      by_cases hk : P.kind j = 10 ∧ n ≠ 0
      · rw [if_pos hk] at h;exact bodyN_form hT n _ _ _ _ h (by rw [List.length_append];simp;omega) ho'
      · rw [if_neg hk] at h
        cases hc : P.take j [11] with
        | error e => rw [hc] at h;cases h
        | ok r =>
          rw [hc] at h;injection h with h;injection h with h2 _;subst h2;exact ⟨by rw [List.length_append];simp;omega,ho'⟩
theorem rule_form {P : Ps} {L : Bs} (hT : TokOk P L) {i k : Nat} {pr : ByteArray} {x : PRule} (h : psRule P i pr = .ok (x,k)) (hp : nameB (bl pr) = true) : okRule x ∧ x.p = pr := by
 unfold psRule at h
 cases ha : psArgs P i with
 | error e => rw [ha] at h;cases h
 | ok r =>
  obtain ⟨l,j⟩ := r;rw [ha] at h;have h1 := args_form hT ha;dsimp only at h
  by_cases hk : P.kind j = 13
  · rw [if_pos hk] at h
    cases hb : psBodyN P 256 (j + 1) [] with
    | error e => rw [hb] at h;cases h
    | ok r =>
     obtain ⟨m,o⟩ := r;rw [hb] at h;injection h with h;injection h with h2 _;subst h2;have := bodyN_form hT _ _ _ _ _ hb (by simp) (by simp);exact ⟨⟨⟨hp,h1.1,h1.2⟩,this.1,this.2⟩,rfl⟩
  · rw [if_neg hk] at h
    cases hc : P.take j [11,13] with
    | error e => rw [hc] at h;cases h
    | ok r =>
     rw [hc] at h;injection h with h;injection h with h2 _;subst h2;exact ⟨⟨⟨hp,h1.1,h1.2⟩,by simp,by simp⟩,rfl⟩
theorem digits_form : ∀ (f k : Nat) (at_ : Int) (s : ByteArray) (n m : Int),0 ≤ n → n ≤ 16 → psDigits at_ s f k n = .ok m → 0 ≤ m ∧ m ≤ 16
  | 0,_,_,_,_,_,h0,h1,h => by injection h with h;omega
  | f + 1,k,a,s,n,m,h0,h1,h => by
    unfold psDigits at h
    by_cases hc : 16 < 10 * n + (bat s k - 48) % 256 ∨ (0 < k ∧ n = 0)
    · rw [if_pos hc] at h;cases h
    · rw [if_neg hc] at h;exact digits_form f (k + 1) a s _ m (by omega) (by omega) h
theorem arity_form {P : Ps} {L : Bs} (hT : TokOk P L) {i k : Nat} {x : ByteArray × Int} (h : psArity P i = .ok (x,k)) : nameB (bl x.1) = true ∧ 0 ≤ x.2 ∧ x.2 ≤ 16 := by
 obtain ⟨h1,h2,h3,h4,h5,h6⟩ := psArity_on h;have hd := digits_form _ _ _ _ _ _ (by decide) (by decide) h6;exact ⟨by rw [h4,bl_mk];exact ((hT i (by omega)).name h3).1,hd.1,hd.2⟩
theorem goes_on {L w : Bs} {a : Nat} (h : (L.drop a).take w.length = w) (hw : w ≠ []) : goesOn L a w := by
 refine ⟨h,?_⟩;have := congrArg List.length h;rw [List.length_take,List.length_drop] at this;have h0 := List.length_pos_iff.2 hw;omega
theorem name_ne {W : Bs} (h : nameB W = true) : W ≠ [] := by rintro rfl;cases h
theorem stmt_form {P : Ps} {L : Bs} (hT : TokOk P L) {i k : Nat} {x : Stmt} (h : psStmt P i = .ok (x,k)) : okStmt L x := by
 unfold psStmt at h
 cases ha : P.take i [1,5,6] with
 | error e => rw [ha] at h;cases h
 | ok r =>
  obtain ⟨t,j⟩ := r;rw [ha] at h;dsimp only at h;obtain ⟨_,hlt,rfl,hk⟩ := take_ok (by decide) ha;have hf := hT i hlt
  by_cases h5 : (P.tok i).kind = 5
  · rw [if_pos h5] at h
    cases hb : psArity P j with
    | error e => rw [hb] at h;cases h
    | ok r =>
     obtain ⟨⟨p,n⟩,m⟩ := r;rw [hb] at h;dsimp only at h;have hm := arity_form hT hb
     cases hc : P.take m [4] with
     | error e => rw [hc] at h;cases h
     | ok r =>
      obtain ⟨f,o⟩ := r;rw [hc] at h;dsimp only at h;obtain ⟨_,hlt2,rfl,hk2⟩ := take_ok (by decide) hc
      cases hd : P.take o [11] with
      | error e => rw [hd] at h;cases h
      | ok r =>
       rw [hd] at h;injection h with h;injection h with h1 _;subst h1;exact ⟨hm.1,hm.2.1,hm.2.2,by rw [mk_size];exact (hT m hlt2).str (by simpa using hk2),goes_on (hf.inp h5) (by decide)⟩
  rw [if_neg h5] at h
  by_cases h6 : (P.tok i).kind = 6
  · rw [if_pos h6] at h
    cases hb : psArity P j with
    | error e => rw [hb] at h;cases h
    | ok r =>
     obtain ⟨⟨p,n⟩,m⟩ := r;rw [hb] at h;dsimp only at h;have hm := arity_form hT hb
     cases hd : P.take m [11] with
     | error e => rw [hd] at h;cases h
     | ok r =>
      rw [hd] at h;injection h with h;injection h with h1 _;subst h1;exact ⟨hm.1,hm.2.1,hm.2.2,goes_on (hf.outp h6) (by decide)⟩
  rw [if_neg h6] at h
  have h1 : (P.tok i).kind = 1 := by
   rw [List.contains_iff_mem] at hk;simp at hk;omega
  obtain ⟨n1,n2⟩ := hf.name h1
  cases hb : psRule P j (mk (P.tok i).text) with
  | error e => rw [hb] at h;cases h
  | ok r =>
   rw [hb] at h;injection h with h;injection h with h3 _;subst h3;obtain ⟨r1,r2⟩ := rule_form hT hb (by rw [bl_mk];exact n1);refine ⟨r1,?_⟩;rw [r2,bl_mk];exact goes_on n2 (name_ne n1)
theorem progN_form {P : Ps} {L : Bs} (hT : TokOk P L) {tl : Nat} : ∀ (f i : Nat) (l m : List Stmt),psProgN P tl f i l = .ok m → (∀ s ∈ l,okStmt L s) → ∀ s ∈ m,okStmt L s
  | 0,_,_,_,h,_ => by cases h
  | f + 1, i,l,m,h,ho => by
    unfold psProgN at h
    by_cases hlt : i < P.ts.length
    · rw [if_pos hlt] at h
      cases hs : psStmt P i with
      | error e => rw [hs] at h;cases h
      | ok r =>
        obtain ⟨s,j⟩ := r;rw [hs] at h
        exact progN_form hT f j _ _ h fun u hu => by
          rcases List.mem_append.1 hu with hu | hu
          · exact ho u hu
          · simp at hu;subst hu;exact stmt_form hT hs
    · rw [if_neg hlt] at h
      by_cases hc : P.far < tl ∨ P.op.kind ≠ 0
      · rw [if_pos hc] at h;cases h
      · rw [if_neg hc] at h;injection h with h;subst h;exact ho
/-- what is read is in form, at its place -/
theorem text_form {s : ByteArray} {l : List Stmt} (h : psText s = .ok l) : ∀ x ∈ l,okStmt (bl s) x :=
  progN_form (tokOk s) _ _ _ _ h (by simp)
end Lx
end Go.Proofs.YtclioihichcpiaaDoor
/- Parse: the document's names and variables. -/
namespace Go.Proofs.YtclioihichcpiaaDoor
open Go.RowKit Lx
end Go.Proofs.YtclioihichcpiaaDoor
/- Parse: the law's words: begins, term, atom, literal. -/
namespace Go.Proofs.YtclioihichcpiaaDoor
open Go.RowKit Lx
end Go.Proofs.YtclioihichcpiaaDoor
/- Parse: the law's literal. -/
namespace Go.Proofs.YtclioihichcpiaaDoor
open Go.RowKit Lx
end Go.Proofs.YtclioihichcpiaaDoor
/- Parse, plain: statements and their places stand side by side. No program in sight. -/
namespace Go.Proofs.YtclioihichcpiaaDoor
open Go.RowKit Lx
theorem progN_len {P : Ps} {tl : Nat} : ∀ (f i : Nat) (l m : List Stmt),psProgN P tl f i l = .ok m → i ≤ P.ts.length → m.length + i ≤ l.length + P.ts.length
  | 0,_,_,_,h,_ => by cases h
  | f + 1,i,l,m,h,hi => by
    unfold psProgN at h
    by_cases hlt : i < P.ts.length
    · rw [if_pos hlt] at h
      cases hs : psStmt P i with
      | error e => rw [hs] at h;cases h
      | ok r =>
        obtain ⟨s,j⟩ := r;rw [hs] at h;have hon := psStmt_on hs;have := progN_len f j _ _ h hon.2;rw [List.length_append] at this;simp at this;omega
    · rw [if_neg hlt] at h
      by_cases hc : P.far < tl ∨ P.op.kind ≠ 0
      · rw [if_pos hc] at h;cases h
      · rw [if_neg hc] at h;injection h with h;subst h;omega
theorem text_len {s : ByteArray} {l : List Stmt} (h : psText s = .ok l) : l.length ≤ s.size := by
 have h1 := progN_len _ _ _ _ h (Nat.zero_le _);have h2 := (tk_far (bl s) 0 false).2.2.2;rw [bl_length] at h2;have h3 : (psOf s).ts.length ≤ s.size := by show (tokens (bl s)).toks.length ≤ _;rw [tokens_tk];exact h2
 simp at h1;omega
theorem RuleIn.below {w w' : World} {lo : Nat} {av bv : Value} {r : PRule} (h : RuleIn w lo av bv r) (hb : Below w.heap.size w w') : RuleIn w' lo av bv r := by
 obtain ⟨h1,L,h2,h3,h4⟩ := h;exact ⟨own_below h1 hb,L,h2,⟨own_below h3.own hb,fun y hy => own_below (h3.inner y hy) hb⟩,h4⟩
/-! ### the cells of rows -/
theorem row_at {α : Type} (f : α → List Value) (k : Nat) (hk : ∀ x,(f x).length = k) {w : World} {lo : Nat} {e : TypeId} {va : Option Addr} {vc : Nat} {l : List α} (h : w.ownsRow lo e k (.slice va l.length vc) l.length (l.flatMap f)) (j : Nat) (hj : j < l.length) :
    ∃ g,va = some ⟨g,0,none⟩ ∧ ∀ o v,o < k → (f l[j])[o]? = some v → w.cell? ⟨g,j * k + o,none⟩ = some v := by
 obtain ⟨g,c,e1,-⟩ := own_shape h (by omega);injection e1 with e1 e2 e3;subst e1 e3;refine ⟨g,rfl,fun o v ho hv => own_at h (j * k + o) v ?_⟩;rw [flat_get f k hk l j o ho,List.getElem?_eq_getElem hj];exact hv
end Go.Proofs.YtclioihichcpiaaDoor
