/- The document's reader, plain: a text gone through byte by byte; an error is the place where it stops. No program in sight. -/
import Derived.Test.YtclioihichcpiaaDoorPmD
import Derived.Test.YtclioihichcpiaaDoorLexY
import Derived.Test.YtclioihichcpiaaDoorPmG
set_option maxHeartbeats 8000000
set_option maxRecDepth 100000
namespace Go.Proofs.YtclioihichcpiaaDoor
open Go.RowKit Lx
namespace Lx
/-- the byte at a place; -1: the end -/
def pk (L : Bs) (p : Nat) : Int := match L[p]? with
  | some c => bi c
  | none => -1
def rSkip (L : Bs) (p : Nat) : Nat := p + skipN false (L.drop p)
def letN (l : Bs) : Nat := (l.takeWhile fun c => letterB (bi c)).length
def digN (l : Bs) : Nat := (l.takeWhile fun c => digitB (bi c)).length
def wordlyI (c : Int) : Bool := smallB c || greatB c || digitB c
def rRun (L : Bs) (p : Nat) : Except Int (Bs × Nat) :=
  if letN (L.drop p) ≤ 64 then .ok ((L.drop p).take (letN (L.drop p)),p + letN (L.drop p)) else .error ((p + 64 : Nat) : Int)
def rDigits (L : Bs) (p : Nat) : Except Int (Bs × Nat) :=
  if digN (L.drop p) ≤ 64 then
    if wordlyI (pk L (p + digN (L.drop p))) then .error ((p + digN (L.drop p) : Nat) : Int)
    else .ok ((L.drop p).take (digN (L.drop p)),p + digN (L.drop p))
  else .error ((p + 64 : Nat) : Int)
def rSign (c : Int) (L : Bs) (p : Nat) : Except Int Nat := if pk L p = c then .ok (p + 1) else .error (p : Int)
def rQuo (L : Bs) (p : Nat) : Except Int (Bs × Nat) :=
  if (quo (L.drop p) 0).2.2 then .ok ((quo (L.drop p) 0).1,p + (quo (L.drop p) 0).2.1) else .error ((p + (quo (L.drop p) 0).2.1 : Nat) : Int)
def rText (L : Bs) (p : Nat) : Except Int (Bs × Nat) := (rSign 34 L p).bind fun q => rQuo L q
def rName (L : Bs) (p : Nat) : Except Int (Bs × Nat) :=
  if smallB (pk L p) then (rRun L p).bind fun x => if reservedB x.1 then .error (x.2 : Int) else .ok x else .error (p : Int)
def rTerm (L : Bs) (p : Nat) : Except Int ((Bool × ByteArray) × Nat) :=
  if greatB (pk L p) then (rRun L p).bind fun x => .ok ((true,mk x.1),x.2)
  else if digitB (pk L p) then (rDigits L p).bind fun x => .ok ((false,mk x.1),x.2)
  else if pk L p = 34 then (rText L p).bind fun x => .ok ((false,mk x.1),x.2)
  else (rName L p).bind fun x => .ok ((false,mk x.1),x.2)
def rArgsN (L : Bs) : Nat → Nat → List (Bool × ByteArray) → Except Int (List (Bool × ByteArray) × Nat)
  | 0,p,_ => .error (p : Int)
  | n + 1,p,l => (rTerm L (rSkip L p)).bind fun x =>
    if pk L (rSkip L x.2) = 44 then (if n = 0 then .error (rSkip L x.2 : Int) else rArgsN L n (rSkip L x.2 + 1) (l ++ [x.1]))
    else (rSign 41 L (rSkip L x.2)).bind fun q => .ok (l ++ [x.1],q)
def rArgs (L : Bs) (p : Nat) : Except Int (List (Bool × ByteArray) × Nat) :=
  if pk L (rSkip L p) = 40 then rArgsN L 16 (rSkip L p + 1) [] else .ok ([],rSkip L p)
def rAtom (L : Bs) (p : Nat) : Except Int ((ByteArray × List (Bool × ByteArray)) × Nat) :=
  (rName L p).bind fun x => (rArgs L x.2).bind fun a => .ok ((mk x.1,a.1),a.2)
def rUnlike (L : Bs) (t : Bool × ByteArray) (p : Nat) : Except Int (PLit × Nat) :=
  (rSign 33 L (rSkip L p)).bind fun q => (rSign 61 L q).bind fun q => (rTerm L (rSkip L q)).bind fun u => .ok (⟨3,⟨#[]⟩,[],t,u.1⟩,u.2)
def rNot (L : Bs) (q : Nat) : Except Int (PLit × Nat) :=
  if wordlyI (pk L q) then .error (q : Int)
  else (rAtom L (rSkip L q)).bind fun a => .ok (⟨2,a.1.1,a.1.2,(false,⟨#[]⟩),(false,⟨#[]⟩)⟩,a.2)
def rLit (L : Bs) (p : Nat) : Except Int (PLit × Nat) :=
  if smallB (pk L p) then (rRun L p).bind fun x =>
    if x.1 = sNot then rNot L x.2
    else if reservedB x.1 then .error (x.2 : Int)
    else if pk L (rSkip L x.2) = 33 then rUnlike L (false,mk x.1) (rSkip L x.2)
    else (rArgs L (rSkip L x.2)).bind fun a => .ok (⟨1,mk x.1,a.1,(false,⟨#[]⟩),(false,⟨#[]⟩)⟩,a.2)
  else (rTerm L p).bind fun t => rUnlike L t.1 t.2
def rBodyN (L : Bs) : Nat → Nat → List PLit → Except Int (List PLit × Nat)
  | 0,p,_ => .error (p : Int)
  | n + 1,p,l => (rLit L (rSkip L p)).bind fun x =>
    if pk L (rSkip L x.2) = 44 then (if n = 0 then .error (rSkip L x.2 : Int) else rBodyN L n (rSkip L x.2 + 1) (l ++ [x.1]))
    else (rSign 46 L (rSkip L x.2)).bind fun q => .ok (l ++ [x.1],q)
def rBody (L : Bs) (p : Nat) : Except Int (List PLit × Nat) :=
  if pk L (rSkip L p) = 58 then (rSign 45 L (rSkip L p + 1)).bind fun q => rBodyN L 256 q []
  else (rSign 46 L (rSkip L p)).bind fun q => .ok ([],q)
/-- the digits of an arity: of more than two one is too many -/
def rArN (L : Bs) : Nat → Nat → Int → Nat → Except Int (Int × Nat)
  | 0,_,_,p => .error (p : Int)
  | f + 1,k,n,p =>
    if digitB (pk L p) then (if 16 < 10 * n + (pk L p - 48) ∨ (0 < k ∧ n = 0) then .error (p : Int) else rArN L f (k + 1) (10 * n + (pk L p - 48)) (p + 1))
    else .ok (n,p)
def rArity (L : Bs) (p : Nat) : Except Int (Int × Nat) :=
  if digitB (pk L p) then (rArN L 4 0 0 p).bind fun x => if wordlyI (pk L x.2) then .error (x.2 : Int) else .ok x else .error (p : Int)
def rSlash (L : Bs) (q : Nat) : Except Int ((ByteArray × Int) × Nat) :=
  if wordlyI (pk L q) then .error (q : Int)
  else (rName L (rSkip L q)).bind fun x => (rSign 47 L (rSkip L x.2)).bind fun r => (rArity L (rSkip L r)).bind fun n => .ok ((mk x.1,n.1),rSkip L n.2)
def rRuleOf (L : Bs) (pr : ByteArray) (p : Nat) : Except Int (PRule × Nat) :=
  (rArgs L p).bind fun a => (rBody L a.2).bind fun b => .ok (⟨pr,a.1,b.1⟩,b.2)
def rStmt (L : Bs) (p : Nat) : Except Int (Stmt × Nat) :=
  if smallB (pk L p) then (rRun L p).bind fun x =>
    if (x.1 = sInput ∨ x.1 = sOutput) ∧ (pk L x.2 = -1 ∨ blankB (pk L x.2) = true ∨ pk L x.2 = 37) then
      (rSlash L x.2).bind fun a =>
        if x.1 = sInput then (rText L a.2).bind fun f => (rSign 46 L (rSkip L f.2)).bind fun q => .ok (.inp a.1.1 a.1.2 (mk f.1) p,q)
        else (rSign 46 L a.2).bind fun q => .ok (.outp a.1.1 a.1.2 p,q)
    else if reservedB x.1 then .error (x.2 : Int)
    else (rRuleOf L (mk x.1) x.2).bind fun r => .ok (.rule r.1 p,r.2)
  else .error (p : Int)
def rProgN (L : Bs) : Nat → Nat → List Stmt → Except Int (List Stmt × Nat)
  | 0,p,_ => .error (p : Int)
  | f + 1,p,l => if pk L p = -1 then .ok (l,p) else (rStmt L p).bind fun x => rProgN L f (rSkip L x.2) (l ++ [x.1])
def rProg (L : Bs) : Except Int (List Stmt × Nat) := rProgN L (L.length + 1) (rSkip L 0) []
end Lx
end Go.Proofs.YtclioihichcpiaaDoor
/- The document's reader, plain: what it tells hangs on the bytes that it has gone over alone. -/
namespace Go.Proofs.YtclioihichcpiaaDoor
open Go.RowKit Lx
namespace Lx
def pos {α : Type} : Except Int (α × Nat) → Int
  | .ok x => x.2
  | .error e => e
/-- A: what is told of L; B: of L with more behind it -/
def LocR {α : Type} (L : Bs) (A B : Except Int (α × Nat)) : Prop := (pos A < L.length ∧ B = A) ∨ (pos A = L.length ∧ (L.length : Int) ≤ pos B)
structure Good {α : Type} (F : Bs → Nat → Except Int (α × Nat)) : Prop where
  mono : ∀ (L : Bs) (p : Nat),p ≤ L.length → (p : Int) ≤ pos (F L p) ∧ pos (F L p) ≤ L.length
  loc : ∀ (L t : Bs) (p : Nat),p < L.length → LocR L (F L p) (F (L ++ t) p)
theorem Good.all {α : Type} {F : Bs → Nat → Except Int (α × Nat)} (h : Good F) (L t : Bs) (p : Nat) (hp : p ≤ L.length) : LocR L (F L p) (F (L ++ t) p) := by
 rcases Nat.lt_or_ge p L.length with h1 | h1
 · exact h.loc L t p h1
 · have h2 := h.mono L p hp;have h3 := h.mono (L ++ t) p (by rw [List.length_append];omega);exact .inr ⟨by omega,by omega⟩
theorem Good.pure {α : Type} (v : α) : Good fun _ p => .ok (v,p) :=
  ⟨fun _ p h => ⟨Int.le_refl _,by show (p : Int) ≤ _;omega⟩,fun L t p h => .inl ⟨by show (p : Int) < _;omega,rfl⟩⟩
theorem Good.err {α : Type} : Good (α := α) fun _ p => .error (p : Int) :=
  ⟨fun _ p h => ⟨Int.le_refl _,by show (p : Int) ≤ _;omega⟩,fun L t p h => .inl ⟨by show (p : Int) < _;omega,rfl⟩⟩
theorem Good.bind {α β : Type} {F : Bs → Nat → Except Int (α × Nat)} {G : α → Bs → Nat → Except Int (β × Nat)} (hF : Good F) (hG : ∀ v,Good (G v)) : Good fun L p => (F L p).bind fun x => G x.1 L x.2 := by
 refine ⟨fun L p hp => ?_,fun L t p hp => ?_⟩
 · have h1 := hF.mono L p hp
   cases hx : F L p with
   | error e => rw [hx] at h1;exact h1
   | ok x =>
    rw [hx] at h1;have h1' : (p : Int) ≤ (x.2 : Int) ∧ (x.2 : Int) ≤ L.length := h1;have h2 := (hG x.1).mono L x.2 (by omega);exact ⟨Int.le_trans h1'.1 h2.1,h2.2⟩
 · have h1 := hF.mono L p (Nat.le_of_lt hp);have h3 := hF.mono (L ++ t) p (by rw [List.length_append];omega);rcases hF.loc L t p hp with ⟨h2,he⟩ | ⟨h2,he⟩
   · show LocR L _ ((F (L ++ t) p).bind _);rw [he]
     cases hx : F L p with
     | error e => rw [hx] at h2;exact .inl ⟨h2,rfl⟩
     | ok x =>
      rw [hx] at h2;have h2' : (x.2 : Int) < L.length := h2;exact (hG x.1).loc L t x.2 (by omega)
   · refine .inr ⟨?_,?_⟩
     · cases hx : F L p with
       | error e => rw [hx] at h2;exact h2
       | ok x =>
        rw [hx] at h2;have h2' : (x.2 : Int) = L.length := h2;have h4 := (hG x.1).mono L x.2 (by omega);show pos (G x.1 L x.2) = _;omega
     · show _ ≤ pos ((F (L ++ t) p).bind _)
       cases hx : F (L ++ t) p with
       | error e => rw [hx] at he;exact he
       | ok x =>
        rw [hx] at he h3;have he' : (L.length : Int) ≤ (x.2 : Int) := he;have h3' : (p : Int) ≤ (x.2 : Int) ∧ (x.2 : Int) ≤ (L ++ t).length := h3;have h4 := (hG x.1).mono (L ++ t) x.2 (by omega);show _ ≤ pos (G x.1 (L ++ t) x.2);omega
theorem pk_append (L t : Bs) (p : Nat) (h : p < L.length) : pk (L ++ t) p = pk L p := by
 unfold pk;rw [List.getElem?_append_left h]
theorem pk_end (L : Bs) (p : Nat) (h : L.length ≤ p) : pk L p = -1 := by unfold pk;rw [List.getElem?_eq_none h]
theorem pk_lt {L : Bs} {p : Nat} (h : 0 ≤ pk L p) : p < L.length := by
 rcases Nat.lt_or_ge p L.length with h1 | h1
 · exact h1
 · rw [pk_end L p h1] at h;omega
theorem pk_get {L : Bs} {p : Nat} (h : p < L.length) : pk L p = bi L[p] := by unfold pk;rw [List.getElem?_eq_getElem h]
theorem Good.ite {α : Type} {F G : Bs → Nat → Except Int (α × Nat)} (c : Int → Prop) [DecidablePred c] (hF : Good F) (hG : Good G) : Good fun L p => if c (pk L p) then F L p else G L p := by
 refine ⟨fun L p hp => ?_,fun L t p hp => ?_⟩
 · split
   · exact hF.mono L p hp
   · exact hG.mono L p hp
 · rw [pk_append L t p hp]
   split
   · exact hF.loc L t p hp
   · exact hG.loc L t p hp
/-- a byte that is there is gone over -/
theorem Good.step {α : Type} {F G : Bs → Nat → Except Int (α × Nat)} (c : Int → Prop) [DecidablePred c] (hc : ¬ c (-1)) (hF : Good F) (hG : Good G) : Good fun L p => if c (pk L p) then F L (p + 1) else G L p := by
 have hlt : ∀ L p,c (pk L p) → p < L.length := fun L p h => by
  rcases Nat.lt_or_ge p L.length with h1 | h1
  · exact h1
  · rw [pk_end L p h1] at h;exact absurd h hc
 refine ⟨fun L p hp => ?_,fun L t p hp => ?_⟩
 · split
   · have h1 := hF.mono L (p + 1) (hlt L p ‹_›);exact ⟨by have := h1.1;omega,h1.2⟩
   · exact hG.mono L p hp
 · rw [pk_append L t p hp]
   split
   · exact hF.all L t (p + 1) (hlt L p ‹_›)
   · exact hG.loc L t p hp
theorem rskip_le (L : Bs) (p : Nat) (h : p ≤ L.length) : p ≤ rSkip L p ∧ rSkip L p ≤ L.length := by
 have := skip_ten.skip_le' false (L.drop p);rw [List.length_drop] at this;unfold rSkip;omega
theorem skip_long (m : Bs) : ∀ (l : Bs) (b : Bool),skipN b l = l.length → l.length ≤ skipN b (l ++ m)
  | [],_,_ => Nat.zero_le _
  | c :: r,true,h => by
    simp only [skipN,List.length_cons,List.cons_append] at h ⊢;have := skip_long m r (!(bi c == 10)) (by omega);omega
  | c :: r,false,h => by
    simp only [skipN,List.length_cons,List.cons_append] at h ⊢
    by_cases h37 : bi c = 37
    · rw [if_pos h37] at h ⊢;have := skip_long m r true (by omega);omega
    · rw [if_neg h37] at h ⊢
      by_cases hb : blankB (bi c) = true
      · rw [if_pos hb] at h ⊢;have := skip_long m r false (by omega);omega
      · rw [if_neg hb] at h;omega
theorem Good.skip {α : Type} {F : Bs → Nat → Except Int (α × Nat)} (hF : Good F) : Good fun L p => F L (rSkip L p) := by
 refine ⟨fun L p hp => ?_,fun L t p hp => ?_⟩
 · have h1 := rskip_le L p hp;have h2 := hF.mono L (rSkip L p) h1.2;exact ⟨by omega,h2.2⟩
 · have h1 := rskip_le L p (Nat.le_of_lt hp);have hd : (L ++ t).drop p = L.drop p ++ t := drop_append_lt L t p (Nat.le_of_lt hp);rcases Nat.lt_or_ge (rSkip L p) L.length with h2 | h2
   · have h3 : rSkip (L ++ t) p = rSkip L p := by
       unfold rSkip at h2 ⊢;rw [hd,skip_cut false (L.drop p) t (by rw [List.length_drop];omega)]
     rw [h3];exact hF.loc L t _ h2
   · have h4 := hF.mono L (rSkip L p) h1.2
     have h5 : L.length ≤ rSkip (L ++ t) p := by
      unfold rSkip at h2 ⊢;have := skip_long t (L.drop p) false (by have := skip_ten.skip_le' false (L.drop p);rw [List.length_drop] at this ⊢;omega);rw [List.length_drop] at this;rw [hd];omega
     have h6 := hF.mono (L ++ t) (rSkip (L ++ t) p) (rskip_le (L ++ t) p (by rw [List.length_append];omega)).2;exact .inr ⟨by omega,by omega⟩
theorem Good.congr {α : Type} {F G : Bs → Nat → Except Int (α × Nat)} (hF : Good F) (h : ∀ L p,G L p = F L p) : Good G := by
 have : G = F := funext fun L => funext fun p => h L p;rw [this];exact hF
theorem Good.sign {α : Type} {F : Bs → Nat → Except Int (α × Nat)} (c : Int) (hc : 0 ≤ c) (hF : Good F) : Good fun L p => (rSign c L p).bind fun q => F L q := by
 refine (Good.step (fun x => x = c) (by omega) hF Good.err).congr fun L p => ?_;unfold rSign
 split <;> rfl
/-- how many bytes of a kind: the same with more behind them, if they end ahead of the end -/
theorem run_cut (f : UInt8 → Bool) : ∀ (l m : Bs),(l.takeWhile f).length < l.length → ((l ++ m).takeWhile f) = l.takeWhile f
  | [],_,h => by simp at h
  | c :: r,m,h => by
    rw [List.cons_append,List.takeWhile_cons,List.takeWhile_cons];rw [List.takeWhile_cons] at h
    by_cases hc : f c = true
    · rw [if_pos hc] at h ⊢;rw [if_pos hc,run_cut f r m (by simp at h;omega)]
    · rw [if_neg hc,if_neg hc]
theorem run_le (f : UInt8 → Bool) (l : Bs) : (l.takeWhile f).length ≤ l.length := by
 have := List.takeWhile_prefix (p := f) (l := l);exact this.length_le
theorem run_long (f : UInt8 → Bool) : ∀ (l m : Bs),(l.takeWhile f).length = l.length → l.length ≤ ((l ++ m).takeWhile f).length
  | [],_,_ => Nat.zero_le _
  | c :: r,m,h => by
    rw [List.cons_append,List.takeWhile_cons];rw [List.takeWhile_cons] at h
    by_cases hc : f c = true
    · rw [if_pos hc] at h ⊢;have := run_long f r m (by simp at h;omega);simp;omega
    · rw [if_neg hc] at h;simp at h
theorem letN_le (l : Bs) : letN l ≤ l.length := run_le _ l
theorem digN_le (l : Bs) : digN l ≤ l.length := run_le _ l
theorem letN_cut (l m : Bs) (h : letN l < l.length) : letN (l ++ m) = letN l := by unfold letN at h ⊢;rw [run_cut _ l m h]
theorem digN_cut (l m : Bs) (h : digN l < l.length) : digN (l ++ m) = digN l := by unfold digN at h ⊢;rw [run_cut _ l m h]
theorem letN_long (l m : Bs) (h : letN l = l.length) : l.length ≤ letN (l ++ m) := run_long _ l m h
theorem digN_long (l m : Bs) (h : digN l = l.length) : l.length ≤ digN (l ++ m) := run_long _ l m h
theorem good_run : Good rRun := by
 refine ⟨fun L p hp => ?_,fun L t p hp => ?_⟩
 · have h1 := letN_le (L.drop p);rw [List.length_drop] at h1;unfold rRun
   split
   · exact ⟨by show (p : Int) ≤ ((_ : Nat) : Int);omega,by show ((_ : Nat) : Int) ≤ _;omega⟩
   · exact ⟨by show (p : Int) ≤ ((_ : Nat) : Int);omega,by show ((_ : Nat) : Int) ≤ _;omega⟩
 · have h1 := letN_le (L.drop p);have hl := List.length_drop (i := p) (l := L);have hd : (L ++ t).drop p = L.drop p ++ t := drop_append_lt L t p (Nat.le_of_lt hp);rcases Nat.lt_or_ge (letN (L.drop p)) (L.drop p).length with h2 | h2
   · left;have h3 := letN_cut (L.drop p) t h2;refine ⟨?_,?_⟩
     · unfold rRun
       split
       · show ((_ : Nat) : Int) < _;omega
       · show ((_ : Nat) : Int) < _;omega
     · unfold rRun;rw [hd,h3,List.take_append_of_le_length (by omega)]
   · have h3 := letN_long (L.drop p) t (by omega);rcases Nat.lt_or_ge 64 (letN (L.drop p)) with h4 | h4
     · have e1 : rRun L p = .error ((p + 64 : Nat) : Int) := by unfold rRun;rw [if_neg (by omega)]
       have e2 : rRun (L ++ t) p = .error ((p + 64 : Nat) : Int) := by unfold rRun;rw [hd,if_neg (by omega)]
       rw [e1,e2];rcases Nat.lt_or_ge (p + 64) L.length with h5 | h5
       · exact .inl ⟨by show ((_ : Nat) : Int) < _;omega,rfl⟩
       · exact .inr ⟨by show ((_ : Nat) : Int) = _;omega,by show _ ≤ ((_ : Nat) : Int);omega⟩
     · right;refine ⟨?_,?_⟩
       · unfold rRun;rw [if_pos h4];show ((_ : Nat) : Int) = _;omega
       · unfold rRun;rw [hd]
         split
         · show _ ≤ ((_ : Nat) : Int);omega
         · show _ ≤ ((_ : Nat) : Int);omega
theorem good_digits : Good rDigits := by
 refine ⟨fun L p hp => ?_,fun L t p hp => ?_⟩
 · have h1 := digN_le (L.drop p);rw [List.length_drop] at h1;unfold rDigits
   split
   · split
     · exact ⟨by show (p : Int) ≤ ((_ : Nat) : Int);omega,by show ((_ : Nat) : Int) ≤ _;omega⟩
     · exact ⟨by show (p : Int) ≤ ((_ : Nat) : Int);omega,by show ((_ : Nat) : Int) ≤ _;omega⟩
   · exact ⟨by show (p : Int) ≤ ((_ : Nat) : Int);omega,by show ((_ : Nat) : Int) ≤ _;omega⟩
 · have h1 := digN_le (L.drop p);have hl := List.length_drop (i := p) (l := L);have hd : (L ++ t).drop p = L.drop p ++ t := drop_append_lt L t p (Nat.le_of_lt hp);rcases Nat.lt_or_ge (digN (L.drop p)) (L.drop p).length with h2 | h2
   · left;have h3 := digN_cut (L.drop p) t h2;refine ⟨?_,?_⟩
     · unfold rDigits
       split
       · split
         · show ((_ : Nat) : Int) < _;omega
         · show ((_ : Nat) : Int) < _;omega
       · show ((_ : Nat) : Int) < _;omega
     · unfold rDigits;rw [hd,h3,List.take_append_of_le_length (by omega),pk_append L t _ (by omega)]
   · have h3 := digN_long (L.drop p) t (by omega);rcases Nat.lt_or_ge 64 (digN (L.drop p)) with h4 | h4
     · have e1 : rDigits L p = .error ((p + 64 : Nat) : Int) := by unfold rDigits;rw [if_neg (by omega)]
       have e2 : rDigits (L ++ t) p = .error ((p + 64 : Nat) : Int) := by unfold rDigits;rw [hd,if_neg (by omega)]
       rw [e1,e2];rcases Nat.lt_or_ge (p + 64) L.length with h5 | h5
       · exact .inl ⟨by show ((_ : Nat) : Int) < _;omega,rfl⟩
       · exact .inr ⟨by show ((_ : Nat) : Int) = _;omega,by show _ ≤ ((_ : Nat) : Int);omega⟩
     · right;refine ⟨?_,?_⟩
       · unfold rDigits;rw [if_pos h4]
         split
         · show ((_ : Nat) : Int) = _;omega
         · show ((_ : Nat) : Int) = _;omega
       · unfold rDigits;rw [hd]
         split
         · split
           · show _ ≤ ((_ : Nat) : Int);omega
           · show _ ≤ ((_ : Nat) : Int);omega
         · show _ ≤ ((_ : Nat) : Int);omega
theorem quo_loc (m : Bs) (l : Bs) (n : Nat) : (quo l n).2.1 < l.length → quo (l ++ m) n = quo l n := by
 refine quo_ind (P := fun l n x => x.2.1 < l.length → quo (l ++ m) n = x) ?_ ?_ ?_ l n
 · intro c r n h _;exact h (r ++ m)
 · intro p r n b hq ih h;have h' : (quo r (n + 1)).2.1 + p.length < (p ++ r).length := h;rw [List.length_append] at h';rw [List.append_assoc,hq,ih (by omega)]
 · intro p r n h1 h2 h3 h;have h' : p.length < (p ++ r).length := h;rw [List.length_append] at h';exact h3 m (by rintro rfl;simp at h')
theorem good_quo : Good rQuo := by
 refine ⟨fun L p hp => ?_,fun L t p hp => ?_⟩
 · have h1 := quo_far (L.drop p) 0;rw [List.length_drop] at h1;unfold rQuo
   split
   · exact ⟨by show (p : Int) ≤ ((_ : Nat) : Int);omega,by show ((_ : Nat) : Int) ≤ _;omega⟩
   · exact ⟨by show (p : Int) ≤ ((_ : Nat) : Int);omega,by show ((_ : Nat) : Int) ≤ _;omega⟩
 · have h1 := quo_far (L.drop p) 0;have hl := List.length_drop (i := p) (l := L);have hd : (L ++ t).drop p = L.drop p ++ t := drop_append_lt L t p (Nat.le_of_lt hp);rcases Nat.lt_or_ge (quo (L.drop p) 0).2.1 (L.drop p).length with h2 | h2
   · left;refine ⟨?_,?_⟩
     · unfold rQuo
       split
       · show ((_ : Nat) : Int) < _;omega
       · show ((_ : Nat) : Int) < _;omega
     · unfold rQuo;rw [hd,quo_loc t _ _ h2]
   · right;have h3 := quo_more t (L.drop p) 0;refine ⟨?_,?_⟩
     · unfold rQuo
       split
       · show ((_ : Nat) : Int) = _;omega
       · show ((_ : Nat) : Int) = _;omega
     · unfold rQuo;rw [hd]
       split
       · show _ ≤ ((_ : Nat) : Int);omega
       · show _ ≤ ((_ : Nat) : Int);omega
theorem good_text : Good rText := Good.sign 34 (by decide) good_quo
theorem good_name : Good rName := by
 refine (Good.ite (fun c => smallB c = true) (Good.bind good_run (G := fun x L q => if reservedB x then .error (q : Int) else .ok (x,q)) fun x => ?_) Good.err).congr fun L p => rfl;cases reservedB x
 · exact Good.pure x
 · exact Good.err
theorem good_term : Good rTerm :=
  Good.ite (fun c => greatB c = true) (Good.bind good_run fun x => Good.pure (true,mk x))
    (Good.ite (fun c => digitB c = true) (Good.bind good_digits fun x => Good.pure (false,mk x))
      (Good.ite (fun c => c = 34) (Good.bind good_text fun x => Good.pure (false,mk x)) (Good.bind good_name fun x => Good.pure (false,mk x))))
theorem good_argsN : ∀ (n : Nat) (l : List (Bool × ByteArray)),Good fun L p => rArgsN L n p l
  | 0,_ => Good.err
  | n + 1,l => by
    refine (Good.skip (Good.bind good_term (G := fun x L q => if pk L (rSkip L q) = 44 then (if n = 0 then .error (rSkip L q : Int) else rArgsN L n (rSkip L q + 1) (l ++ [x])) else (rSign 41 L (rSkip L q)).bind fun q => .ok (l ++ [x],q)) fun x => Good.skip (F := fun L q => if pk L q = 44 then (if n = 0 then .error (q : Int) else rArgsN L n (q + 1) (l ++ [x])) else (rSign 41 L q).bind fun q => .ok (l ++ [x],q)) ?_)).congr fun L p => rfl
    by_cases hn : n = 0
    · subst hn;exact (Good.ite (fun c => c = 44) Good.err (Good.sign 41 (by decide) (Good.pure (l ++ [x])))).congr fun L p => rfl
    · exact (Good.step (fun c => c = 44) (by decide) (good_argsN n (l ++ [x])) (Good.sign 41 (by decide) (Good.pure (l ++ [x])))).congr fun L p => by rw [if_neg hn]
theorem good_args : Good rArgs := Good.skip (Good.step (fun c => c = 40) (by decide) (good_argsN 16 []) (Good.pure []))
theorem good_atom : Good rAtom := Good.bind good_name fun x => Good.bind good_args fun a => Good.pure (mk x,a)
theorem good_unlike (t : Bool × ByteArray) : Good fun L p => rUnlike L t p :=
  Good.skip (Good.sign 33 (by decide) (Good.sign 61 (by decide) (Good.skip (Good.bind good_term fun u => Good.pure (PLit.mk 3 ⟨#[]⟩ [] t u)))))
theorem good_not : Good rNot := Good.ite (fun c => wordlyI c = true) Good.err (Good.skip (Good.bind good_atom fun a => Good.pure (PLit.mk 2 a.1 a.2 (false,⟨#[]⟩) (false,⟨#[]⟩))))
theorem good_lit : Good rLit := by
 refine Good.ite (fun c => smallB c = true) (Good.bind good_run (G := fun x L q => if x = sNot then rNot L q else if reservedB x then .error (q : Int) else if pk L (rSkip L q) = 33 then rUnlike L (false,mk x) (rSkip L q) else (rArgs L (rSkip L q)).bind fun a => .ok (⟨1,mk x,a.1,(false,⟨#[]⟩),(false,⟨#[]⟩)⟩,a.2)) fun x => ?_) (Good.bind good_term fun t => good_unlike t)
 by_cases h1 : x = sNot
 · subst h1;exact good_not.congr fun L p => rfl
 by_cases h2 : reservedB x = true
 · exact Good.err.congr fun L p => by rw [if_neg h1,if_pos h2]
 refine (Good.skip (Good.ite (fun c => c = 33) (good_unlike (false,mk x)) (Good.bind good_args fun a => Good.pure (PLit.mk 1 (mk x) a (false,⟨#[]⟩) (false,⟨#[]⟩))))).congr fun L p => ?_;rw [if_neg h1,if_neg h2]
theorem good_bodyN : ∀ (n : Nat) (l : List PLit),Good fun L p => rBodyN L n p l
  | 0,_ => Good.err
  | n + 1,l => by
    refine (Good.skip (Good.bind good_lit (G := fun x L q => if pk L (rSkip L q) = 44 then (if n = 0 then .error (rSkip L q : Int) else rBodyN L n (rSkip L q + 1) (l ++ [x])) else (rSign 46 L (rSkip L q)).bind fun q => .ok (l ++ [x],q)) fun x => Good.skip (F := fun L q => if pk L q = 44 then (if n = 0 then .error (q : Int) else rBodyN L n (q + 1) (l ++ [x])) else (rSign 46 L q).bind fun q => .ok (l ++ [x],q)) ?_)).congr fun L p => rfl
    by_cases hn : n = 0
    · subst hn;exact (Good.ite (fun c => c = 44) Good.err (Good.sign 46 (by decide) (Good.pure (l ++ [x])))).congr fun L p => rfl
    · exact (Good.step (fun c => c = 44) (by decide) (good_bodyN n (l ++ [x])) (Good.sign 46 (by decide) (Good.pure (l ++ [x])))).congr fun L p => by rw [if_neg hn]
theorem good_body : Good rBody := Good.skip (Good.step (fun c => c = 58) (by decide) (Good.sign 45 (by decide) (good_bodyN 256 [])) (Good.sign 46 (by decide) (Good.pure [])))
theorem Good.stepd {α : Type} {F : Int → Bs → Nat → Except Int (α × Nat)} {G : Bs → Nat → Except Int (α × Nat)} (c : Int → Prop) [DecidablePred c] (hc : ¬ c (-1)) (hF : ∀ x,Good (F x)) (hG : Good G) : Good fun L p => if c (pk L p) then F (pk L p) L (p + 1) else G L p := by
 have hlt : ∀ L p,c (pk L p) → p < L.length := fun L p h => by
  rcases Nat.lt_or_ge p L.length with h1 | h1
  · exact h1
  · rw [pk_end L p h1] at h;exact absurd h hc
 refine ⟨fun L p hp => ?_,fun L t p hp => ?_⟩
 · split
   · have h1 := (hF (pk L p)).mono L (p + 1) (hlt L p ‹_›);exact ⟨by have := h1.1;omega,h1.2⟩
   · exact hG.mono L p hp
 · rw [pk_append L t p hp]
   split
   · exact (hF (pk L p)).all L t (p + 1) (hlt L p ‹_›)
   · exact hG.loc L t p hp
theorem good_arN : ∀ (f k : Nat) (n : Int),Good fun L p => rArN L f k n p
  | 0,_,_ => Good.err
  | f + 1,k,n => by
    refine (Good.ite (fun c => digitB c = true ∧ (16 < 10 * n + (c - 48) ∨ (0 < k ∧ n = 0))) Good.err (Good.stepd (fun c => digitB c = true) (by decide) (F := fun c L q => rArN L f (k + 1) (10 * n + (c - 48)) q) (fun c => good_arN f (k + 1) (10 * n + (c - 48))) (Good.pure n))).congr fun L p => ?_;show (if digitB (pk L p) = true then _ else _) = _
    by_cases h1 : digitB (pk L p) = true
    · by_cases h2 : 16 < 10 * n + (pk L p - 48) ∨ (0 < k ∧ n = 0)
      · rw [if_pos h1,if_pos h2,if_pos ⟨h1,h2⟩]
      · rw [if_pos h1,if_neg h2,if_neg (fun h => h2 h.2),if_pos h1]
    · rw [if_neg h1,if_neg (fun h => h1 h.1),if_neg h1]
theorem good_arity : Good rArity :=
  Good.ite (fun c => digitB c = true) (Good.bind (good_arN 4 0 0) (G := fun n L q => if wordlyI (pk L q) = true then .error (q : Int) else .ok (n,q)) fun n => Good.ite (fun c => wordlyI c = true) Good.err (Good.pure n)) Good.err
theorem good_slash : Good rSlash :=
  Good.ite (fun c => wordlyI c = true) Good.err (Good.skip (Good.bind good_name fun x => Good.skip (Good.sign 47 (by decide) (Good.skip (Good.bind good_arity (G := fun n L q => .ok ((mk x,n),rSkip L q)) fun n => Good.skip (F := fun L q => .ok ((mk x,n),q)) (Good.pure (mk x,n)))))))
theorem good_ruleOf (pr : ByteArray) : Good fun L p => rRuleOf L pr p := Good.bind good_args fun a => Good.bind good_body fun b => Good.pure (PRule.mk pr a b)
theorem good_stmt_at (x : Bs) (n : Nat) : Good fun L q =>
    if (x = sInput ∨ x = sOutput) ∧ (pk L q = -1 ∨ blankB (pk L q) = true ∨ pk L q = 37) then
      (rSlash L q).bind fun a =>
        if x = sInput then (rText L a.2).bind fun f => (rSign 46 L (rSkip L f.2)).bind fun q => .ok (Stmt.inp a.1.1 a.1.2 (mk f.1) n,q)
        else (rSign 46 L a.2).bind fun q => .ok (.outp a.1.1 a.1.2 n,q)
    else if reservedB x then .error (q : Int)
    else (rRuleOf L (mk x) q).bind fun r => .ok (.rule r.1 n,r.2) := by
  have h2 : Good fun L q => if reservedB x then .error (q : Int) else (rRuleOf L (mk x) q).bind fun r => .ok (Stmt.rule r.1 n,r.2) := by
    cases reservedB x
    · exact Good.bind (good_ruleOf (mk x)) fun r => Good.pure (Stmt.rule r n)
    · exact Good.err
  by_cases h1 : x = sInput ∨ x = sOutput
  · have h3 : Good fun L q => (rSlash L q).bind fun a =>
        if x = sInput then (rText L a.2).bind fun f => (rSign 46 L (rSkip L f.2)).bind fun q => .ok (Stmt.inp a.1.1 a.1.2 (mk f.1) n,q)
        else (rSign 46 L a.2).bind fun q => .ok (Stmt.outp a.1.1 a.1.2 n,q) := by
      refine Good.bind good_slash (G := fun a L q => if x = sInput then (rText L q).bind fun f => (rSign 46 L (rSkip L f.2)).bind fun q => .ok (Stmt.inp a.1 a.2 (mk f.1) n,q) else (rSign 46 L q).bind fun q => .ok (Stmt.outp a.1 a.2 n,q)) fun a => ?_
      by_cases h4 : x = sInput
      · exact (Good.bind good_text fun f => Good.skip (Good.sign 46 (by decide) (Good.pure (Stmt.inp a.1 a.2 (mk f) n)))).congr fun L q => by rw [if_pos h4]
      · exact (Good.sign 46 (by decide) (Good.pure (Stmt.outp a.1 a.2 n))).congr fun L q => by rw [if_neg h4]
    refine (Good.ite (fun c => c = -1 ∨ blankB c = true ∨ c = 37) h3 h2).congr fun L q => ?_
    by_cases h5 : pk L q = -1 ∨ blankB (pk L q) = true ∨ pk L q = 37
    · rw [if_pos ⟨h1,h5⟩,if_pos h5]
    · rw [if_neg (fun h => h5 h.2),if_neg h5]
  · exact h2.congr fun L q => by rw [if_neg (fun h => h1 h.1)]
/-- a statement tells its place: the place is handed in here -/
def rStmtAt (n : Nat) (L : Bs) (p : Nat) : Except Int (Stmt × Nat) :=
  if smallB (pk L p) then (rRun L p).bind fun x =>
    if (x.1 = sInput ∨ x.1 = sOutput) ∧ (pk L x.2 = -1 ∨ blankB (pk L x.2) = true ∨ pk L x.2 = 37) then
      (rSlash L x.2).bind fun a =>
        if x.1 = sInput then (rText L a.2).bind fun f => (rSign 46 L (rSkip L f.2)).bind fun q => .ok (.inp a.1.1 a.1.2 (mk f.1) n,q)
        else (rSign 46 L a.2).bind fun q => .ok (.outp a.1.1 a.1.2 n,q)
    else if reservedB x.1 then .error (x.2 : Int)
    else (rRuleOf L (mk x.1) x.2).bind fun r => .ok (.rule r.1 n,r.2)
  else .error (p : Int)
theorem good_stmtAt (n : Nat) : Good (rStmtAt n) := Good.ite (fun c => smallB c = true) (Good.bind good_run fun x => good_stmt_at x n) Good.err
theorem good_stmt : Good rStmt := ⟨fun L p h => (good_stmtAt p).mono L p h,fun L t p h => (good_stmtAt p).loc L t p h⟩
theorem good_progN : ∀ (f : Nat) (l : List Stmt),Good fun L p => rProgN L f p l
  | 0,_ => Good.err
  | f + 1,l => Good.ite (fun c => c = -1) (Good.pure l) (Good.bind good_stmt fun x => Good.skip (good_progN f (l ++ [x])))
theorem smallB_lt {L : Bs} {p : Nat} (h : smallB (pk L p) = true) : p < L.length := by
 refine pk_lt ?_;unfold smallB at h;simp at h;omega
theorem run_on {L : Bs} {p : Nat} {x : Bs × Nat} (h : rRun L p = .ok x) : x = ((L.drop p).take (letN (L.drop p)),p + letN (L.drop p)) ∧ letN (L.drop p) ≤ 64 := by
 unfold rRun at h
 by_cases h1 : letN (L.drop p) ≤ 64
 · rw [if_pos h1] at h;injection h with h;exact ⟨h.symm,h1⟩
 · rw [if_neg h1] at h;cases h
theorem drop_cons' {L : Bs} {p : Nat} (h : p < L.length) : L.drop p = L[p] :: L.drop (p + 1) := by
 rw [List.drop_eq_getElem_cons h]
theorem letN_pos {L : Bs} {p : Nat} (h : letterB (pk L p) = true) : 1 ≤ letN (L.drop p) := by
 have hlt : p < L.length := pk_lt (by unfold letterB at h;simp at h;omega);rw [pk_get hlt] at h;rw [drop_cons' hlt];unfold letN;rw [List.takeWhile_cons,if_pos h];simp
theorem small_letter {c : Int} (h : smallB c = true) : letterB c = true := by
 unfold smallB at h;unfold letterB;simp at h ⊢;omega
/-- a statement goes on by a byte at least -/
theorem stmt_lt {L : Bs} {p : Nat} {s : Stmt} {q : Nat} (hp : p ≤ L.length) (h : rStmt L p = .ok (s,q)) : p < q ∧ q ≤ L.length := by
 have hm := good_stmt.mono L p hp;rw [h] at hm;have hm' : (p : Int) ≤ (q : Int) ∧ (q : Int) ≤ L.length := hm;refine ⟨?_,by omega⟩;unfold rStmt at h
 by_cases hs : smallB (pk L p) = true
 · rw [if_pos hs] at h
   cases hx : rRun L p with
   | error e => rw [hx] at h;cases h
   | ok x =>
    rw [hx] at h;obtain ⟨hx1,-⟩ := run_on hx;have h1 := letN_pos (small_letter hs);have hx2 : x.2 = p + letN (L.drop p) := by rw [hx1]
    have h2 := (good_stmt_at x.1 p).mono L x.2 (by have := letN_le (L.drop p);rw [List.length_drop] at this;have := smallB_lt hs;omega);have h3 : (x.2 : Int) ≤ pos (Except.ok (ε := Int) (s,q)) := by rw [← h];exact h2.1
    have h3' : (x.2 : Int) ≤ (q : Int) := h3;omega
 · rw [if_neg hs] at h;cases h
end Lx
end Go.Proofs.YtclioihichcpiaaDoor
/- Parse, plain: the tokens from a place on, and the reader there. -/
namespace Go.Proofs.YtclioihichcpiaaDoor
open Go.RowKit Lx
namespace Lx
theorem skip_again : ∀ (l : Bs) (b : Bool),skipN false (l.drop (skipN b l)) = 0
  | [],b => by cases b <;> rfl
  | c :: r,true => by
    simp only [skipN];rw [Nat.add_comm,List.drop_succ_cons];exact skip_again r _
  | c :: r,false => by
    simp only [skipN]
    by_cases h37 : bi c = 37
    · rw [if_pos h37,Nat.add_comm,List.drop_succ_cons];exact skip_again r _
    · rw [if_neg h37]
      by_cases hb : blankB (bi c) = true
      · rw [if_pos hb,Nat.add_comm,List.drop_succ_cons];exact skip_again r _
      · rw [if_neg hb,List.drop_zero];simp only [skipN];rw [if_neg h37,if_neg hb]
theorem rskip_again (L : Bs) (p : Nat) : rSkip L (rSkip L p) = rSkip L p := by
 unfold rSkip;rw [← List.drop_drop,skip_again];rfl
/-- the tokens from the place i on are those of the text from p on -/
structure Al (P : Ps) (L : Bs) (i p : Nat) (j : Bool) : Prop where
  hp : p ≤ L.length
  hi : i ≤ P.ts.length
  toks : (tk (L.drop p) p j).toks = P.ts.drop i
  op : (tk (L.drop p) p j).open_ = P.op
  far : (tk (L.drop p) p j).far = P.far
  free : j = true → skipN false (L.drop p) = 0 → isWordB (nextT (L.drop p) p).1.kind = false
/-- what stands at the place q, behind the blanks -/
inductive Look (P : Ps) (L : Bs) (i q : Nat) : Prop
  | fin (h1 : q = L.length) (h2 : i = P.ts.length) (h3 : P.op = zeroTok) (h4 : P.far = q)
  | half (t : Tok) (h1 : q < L.length) (h2 : nextT (L.drop q) q = (t,false)) (h3 : i = P.ts.length) (h4 : P.op = t) (h5 : P.far = if t.kind = 0 then q else t.end_)
  | whole (t : Tok) (h1 : q < L.length) (h2 : nextT (L.drop q) q = (t,true)) (h3 : i < P.ts.length) (h4 : P.tok i = t) (h5 : t.at_ = q) (h6 : q < t.end_) (h7 : t.end_ ≤ L.length) (h8 : t.kind ≠ 0)
      (h9 : (tk (L.drop t.end_) t.end_ (isWordB t.kind)).toks = P.ts.drop (i + 1)) (h10 : (tk (L.drop t.end_) t.end_ (isWordB t.kind)).open_ = P.op) (h11 : (tk (L.drop t.end_) t.end_ (isWordB t.kind)).far = P.far)
theorem drop_nil_len {P : Ps} {i : Nat} (hi : i ≤ P.ts.length) (h : P.ts.drop i = []) : i = P.ts.length := by
 have := congrArg List.length h;rw [List.length_drop] at this;simp at this;omega
theorem drop_cons_at {P : Ps} {i : Nat} {t : Tok} {r : List Tok} (h : P.ts.drop i = t :: r) : i < P.ts.length ∧ P.tok i = t ∧ P.ts.drop (i + 1) = r := by
 have hlt : i < P.ts.length := by
  rcases Nat.lt_or_ge i P.ts.length with h1 | h1
  · exact h1
  · rw [List.drop_eq_nil_of_le h1] at h;cases h
 rw [List.drop_eq_getElem_cons hlt] at h;injection h with h1 h2;refine ⟨hlt,?_,h2⟩;unfold Ps.tok;rw [List.getD_eq_getElem?_getD,List.getElem?_eq_getElem hlt];exact h1
theorem Al.look {P : Ps} {L : Bs} {i p : Nat} {j : Bool} (h : Al P L i p j) : Look P L i (rSkip L p) := by
 have hle := skip_ten.skip_le' false (L.drop p);have hlen := List.length_drop (i := p) (l := L);have hdd : (L.drop p).drop (skipN false (L.drop p)) = L.drop (rSkip L p) := by rw [List.drop_drop];rfl
 have hq : rSkip L p = p + skipN false (L.drop p) := rfl;have hp := h.hp;have ht := h.toks;have ho := h.op;have hf := h.far
 by_cases hn : skipN false (L.drop p) = (L.drop p).length
 · rw [tk_end rfl (by omega)] at ht ho hf;exact .fin (by omega) (drop_nil_len h.hi ht.symm) ho.symm hf.symm
 have h1 : L.drop (rSkip L p) ≠ [] := by
  intro he;have := congrArg List.length he;rw [List.length_drop] at this;simp at this;omega
 have hlt : rSkip L p < L.length := by omega
 cases hx : nextT (L.drop (rSkip L p)) (rSkip L p) with
 | mk t wh =>
  have hx' := hx;rw [hq] at hx';rw [← hq] at hx'
  cases wh with
  | false =>
   rw [tk_open rfl hdd h1 (by rw [← hq];exact hx)] at ht ho hf;exact .half t hlt hx (drop_nil_len h.hi ht.symm) ho.symm hf.symm
  | true =>
   have hF := next_facts h1 hx;have hk := hF.whole rfl;have hhi := hF.hi hk;rw [List.length_drop] at hhi
   have hj : (isWordB t.kind && j && skipN false (L.drop p) == 0) = false := by
    rw [Bool.eq_false_iff];intro hc;simp only [Bool.and_eq_true,beq_iff_eq] at hc;obtain ⟨⟨hw,hjt⟩,hz⟩ := hc;have hfr := h.free hjt hz;have he : rSkip L p = p := by omega
    rw [he] at hx;rw [hx,hw] at hfr;cases hfr
   rw [tk_more rfl hdd h1 (by rw [← hq];exact hx) hj,← hq] at ht ho hf
   have hd2 : (L.drop (rSkip L p)).drop (t.end_ - rSkip L p) = L.drop t.end_ := by
    have := hF.lo hk;rw [List.drop_drop,show rSkip L p + (t.end_ - rSkip L p) = t.end_ from by omega]
   rw [hd2] at ht ho hf;obtain ⟨g1,g2,g3⟩ := drop_cons_at ht.symm;exact .whole t hlt hx g1 g2 (hF.at_ hk) (hF.lo hk) (by omega) hk g3.symm ho hf
theorem Al.skip {P : Ps} {L : Bs} {i p : Nat} {j : Bool} (h : Al P L i p j) : ∃ j',Al P L i (rSkip L p) j' := by
 have hq : rSkip L p = p + skipN false (L.drop p) := rfl;rcases Nat.eq_zero_or_pos (skipN false (L.drop p)) with h0 | h0
 · exact ⟨j,by rw [hq,h0];exact h⟩
 · have hle := skip_ten.skip_le' false (L.drop p);have hlen := List.length_drop (i := p) (l := L);have hp := h.hp
   have hz : skipN false (L.drop (rSkip L p)) = 0 := by
    have := skip_again (L.drop p) false;rw [List.drop_drop] at this;exact this
   have hs : tk (L.drop p) p j = tk (L.drop (rSkip L p)) (rSkip L p) false := by
    have := tk_skip (L := L.drop p) (X := L.drop (rSkip L p)) (a := p) (d := skipN false (L.drop p)) (j := j) (by rw [hz];rfl) (by rw [List.drop_drop];rfl) h0 (by rw [List.length_drop,List.length_drop];omega);rw [this,hq]
   refine ⟨false,by omega,h.hi,?_,?_,?_,fun h => by cases h⟩
   · rw [← hs];exact h.toks
   · rw [← hs];exact h.op
   · rw [← hs];exact h.far
/-- nothing may come any more -/
structure Dead (P : Ps) (L : Bs) (i : Nat) : Prop where
  hi : i = P.ts.length
  op : P.op = zeroTok
  lt : P.far < L.length
theorem Dead.kind {P : Ps} {L : Bs} {i : Nat} (h : Dead P L i) : P.kind i = 0 := Ps.kind_end (by rw [h.hi];exact Nat.le_refl _)
theorem Dead.stop {P : Ps} {L : Bs} {i : Nat} (h : Dead P L i) (ks : List Int) : P.stop i ks = P.far := by
 unfold Ps.stop;rw [if_pos h.hi,if_pos (by rw [h.op];rfl)]
theorem Dead.take {P : Ps} {L : Bs} {i : Nat} (h : Dead P L i) {ks : List Int} (h0 : ks.contains 0 = false) : P.take i ks = .error (P.far : Int) := by
 unfold Ps.take;rw [h.kind,h0,h.stop];rfl
def Rel {α : Type} (P : Ps) (L : Bs) (A B : Except Int (α × Nat)) : Prop :=
  match A,B with
  | .ok x,.ok y => x.1 = y.1 ∧ ∃ j,Al P L x.2 y.2 j
  | .error a,.error b => a = b
  | .ok x,.error b => Dead P L x.2 ∧ b = (P.far : Int)
  | .error _,.ok _ => False
def DeadOk {α : Type} (P : Ps) (L : Bs) (A : Except Int (α × Nat)) : Prop :=
  match A with
  | .ok x => Dead P L x.2
  | .error a => a = (P.far : Int)
theorem Rel.bind {α β : Type} {P : Ps} {L : Bs} {A B : Except Int (α × Nat)} {f g : α → Nat → Except Int (β × Nat)} (h : Rel P L A B) (h1 : ∀ v i p j,Al P L i p j → Rel P L (f v i) (g v p)) (h2 : ∀ v i,Dead P L i → DeadOk P L (f v i)) :
    Rel P L (A.bind fun x => f x.1 x.2) (B.bind fun x => g x.1 x.2) := by
 cases A with
 | error a =>
  cases B with
  | error b => exact h
  | ok y => exact h.elim
 | ok x =>
  cases B with
  | error b =>
   obtain ⟨hd,hb⟩ := h;have := h2 x.1 x.2 hd;show Rel P L (f x.1 x.2) (.error b)
   cases hf : f x.1 x.2 with
   | error e => rw [hf] at this;rw [hb];exact this
   | ok z => rw [hf] at this;exact ⟨this,hb⟩
  | ok y =>
   obtain ⟨hv,j,ha⟩ := h;show Rel P L (f x.1 x.2) (g y.1 y.2);rw [hv];exact h1 y.1 x.2 y.2 j ha
theorem DeadOk.bind {α β : Type} {P : Ps} {L : Bs} {A : Except Int (α × Nat)} {f : α → Nat → Except Int (β × Nat)} (h : DeadOk P L A) (h2 : ∀ v i,Dead P L i → DeadOk P L (f v i)) : DeadOk P L (A.bind fun x => f x.1 x.2) := by
 cases A with
 | error a => exact h
 | ok x => exact h2 x.1 x.2 h
theorem DeadOk.take {P : Ps} {L : Bs} {i : Nat} (h : Dead P L i) {ks : List Int} (h0 : ks.contains 0 = false) : DeadOk P L (P.take i ks) := by rw [h.take h0];exact rfl
/-! ### what a byte begins -/
theorem takeWhile_take (f : UInt8 → Bool) : ∀ (n : Nat) (l : Bs),((l.take n).takeWhile f).length = min n (l.takeWhile f).length
  | 0,l => by simp
  | n + 1,[] => by simp
  | n + 1,c :: r => by
    rw [List.take_succ_cons,List.takeWhile_cons,List.takeWhile_cons]
    by_cases hc : f c = true
    · rw [if_pos hc,if_pos hc,List.length_cons,List.length_cons,takeWhile_take f n r];omega
    · rw [if_neg hc,if_neg hc];simp
theorem wordN_let {l : Bs} (h : firstB digitB l = false) : wordN l = min 64 (letN l) := by
 rw [wordN_pred,h,takeWhile_take];have : (wpred false) = fun c => letterB (bi c) := by funext c;unfold wpred;simp
 rw [this];rfl
theorem wordN_dig {l : Bs} (h : firstB digitB l = true) : wordN l = min 64 (digN l) := by
 rw [wordN_pred,h,takeWhile_take]
 have : (wpred true) = fun c => digitB (bi c) := by
  funext c;unfold wpred
  cases hd : digitB (bi c) with
  | false => simp
  | true => rw [digit_letter _ hd];rfl
 rw [this];rfl
theorem firstB_pk {L : Bs} {q : Nat} (p : Int → Bool) (hq : q < L.length) : firstB p (L.drop q) = p (pk L q) := by
 rw [drop_cons' hq,pk_get hq];rfl
theorem signI_word {c : Int} (h : letterB c = true) : signI c = none ∧ ¬ c = 34 := by
 unfold letterB at h;simp at h;unfold signI;refine ⟨?_,by omega⟩;rw [if_neg (by omega),if_neg (by omega),if_neg (by omega),if_neg (by omega),if_neg (by omega),if_neg (by omega),if_neg (by omega)]
theorem takeN_all (f : UInt8 → Bool) : ∀ (l : Bs) (n : Nat),n ≤ (l.takeWhile f).length → (l.take n).all f = true
  | [],n,_ => by simp
  | c :: r,0,_ => by simp
  | c :: r,n + 1,h => by
    rw [List.takeWhile_cons] at h
    by_cases hc : f c = true
    · rw [if_pos hc] at h;rw [List.take_succ_cons,List.all_cons,hc,takeN_all f r n (by simpa using h)];rfl
    · rw [if_neg hc] at h;simp at h
theorem firstB_take (p : Int → Bool) (l : Bs) (n : Nat) (hn : 1 ≤ n) : firstB p (l.take n) = firstB p l := by
 obtain ⟨m,rfl⟩ : ∃ m,n = m + 1 := ⟨n - 1,by omega⟩;cases l <;> rfl
theorem written_take {l : Bs} (h1 : 1 ≤ letN l) : writtenB (l.take (min 64 (letN l))) = true := by
 unfold writtenB;have h2 : allB letterB (l.take (min 64 (letN l))) = true := takeN_all _ l _ (by have : letN l = (l.takeWhile fun c => letterB (bi c)).length := rfl;omega);have h3 := letN_le l;rw [h2,List.length_take];simp;omega
theorem number_take {l : Bs} (h1 : 1 ≤ digN l) : numberB (l.take (min 64 (digN l))) = true := by
 unfold numberB;have h2 : allB digitB (l.take (min 64 (digN l))) = true := takeN_all _ l _ (by have : digN l = (l.takeWhile fun c => digitB (bi c)).length := rfl;omega);have h3 := digN_le l;rw [h2,List.length_take];simp;omega
theorem digN_pos {L : Bs} {p : Nat} (h : digitB (pk L p) = true) : 1 ≤ digN (L.drop p) := by
 have hlt : p < L.length := pk_lt (by unfold digitB at h;simp at h;omega);rw [pk_get hlt] at h;rw [drop_cons' hlt];unfold digN;rw [List.takeWhile_cons,if_pos h];simp
/-- a word at a place -/
theorem next_letter {L : Bs} {q : Nat} {W : Bs} {n : Nat} (hq : q < L.length) (hl : letterB (pk L q) = true) (hn : wordN (L.drop q) = n) (hW : (L.drop q).take n = W) (hk : kindI W ≠ 0) :
    nextT (L.drop q) q = (⟨kindI W,if reservedB W then [] else W,q,q + n⟩,true) := by
 obtain ⟨h1,h2⟩ := signI_word hl;rw [pk_get hq] at h1 h2;rw [drop_cons' hq] at hn hW ⊢;rw [next_word _ _ _ h2 h1,hn,hW,if_neg hk]
theorem next_small {L : Bs} {q : Nat} (hs : smallB (pk L q) = true) {W : Bs} (hW : (L.drop q).take (min 64 (letN (L.drop q))) = W) :
    nextT (L.drop q) q = (⟨kindI W,if reservedB W then [] else W,q,q + min 64 (letN (L.drop q))⟩,true) ∧ kindI W = (if W = sInput then 5 else if W = sOutput then 6 else if W = sNot then 7 else 1) := by
 have hq := smallB_lt hs;have hl := small_letter hs;have h1 := letN_pos hl;have hw := written_take h1;have hf : firstB smallB W = true := by rw [← hW,firstB_take _ _ _ (by omega),firstB_pk _ hq];exact hs
 rw [hW] at hw;have hk := kind_small hw hf
 have hd : firstB digitB (L.drop q) = false := by
  rw [firstB_pk _ hq];unfold smallB at hs;unfold digitB;simp at hs ⊢;omega
 refine ⟨next_letter hq hl (wordN_let hd) hW ?_,hk⟩;rw [hk]
 split
 · decide
 · split
   · decide
   · split <;> decide
theorem great_lt {L : Bs} {p : Nat} (h : greatB (pk L p) = true) : p < L.length := by
 refine pk_lt ?_;unfold greatB at h;simp at h;omega
theorem digit_lt {L : Bs} {p : Nat} (h : digitB (pk L p) = true) : p < L.length := by
 refine pk_lt ?_;unfold digitB at h;simp at h;omega
theorem next_great {L : Bs} {q : Nat} (hs : greatB (pk L q) = true) {W : Bs} (hW : (L.drop q).take (min 64 (letN (L.drop q))) = W) :
    nextT (L.drop q) q = (⟨2,W,q,q + min 64 (letN (L.drop q))⟩,true) := by
 have hq := great_lt hs;have hl : letterB (pk L q) = true := by unfold greatB at hs;unfold letterB;simp at hs ⊢;omega
 have h1 := letN_pos hl;have hw := written_take h1;have hf : firstB greatB W = true := by rw [← hW,firstB_take _ _ _ (by omega),firstB_pk _ hq];exact hs
 rw [hW] at hw;have hk := kind_great hw hf
 have hd : firstB digitB (L.drop q) = false := by
  rw [firstB_pk _ hq];unfold greatB at hs;unfold digitB;simp at hs ⊢;omega
 have := next_letter hq hl (wordN_let hd) hW (by rw [hk];decide);rw [this,hk];have hr : reservedB W = false := var_free W (by unfold variableB;rw [hw,hf];rfl);rw [hr];rfl
theorem next_digit {L : Bs} {q : Nat} (hs : digitB (pk L q) = true) {W : Bs} (hW : (L.drop q).take (min 64 (digN (L.drop q))) = W) :
    nextT (L.drop q) q = (⟨3,W,q,q + min 64 (digN (L.drop q))⟩,true) := by
 have hq := digit_lt hs;have hl := digit_letter _ hs;have h1 := digN_pos hs;have hw := number_take h1;rw [hW] at hw;have hk : kindI W = 3 := by have := kind_number W;rw [hw] at this;simpa using this
 have hd : firstB digitB (L.drop q) = true := by rw [firstB_pk _ hq];exact hs
 have := next_letter hq hl (wordN_dig hd) hW (by rw [hk];decide);rw [this,hk,num_free W hw];rfl
/-- a word begins with a letter or a digit, and with nothing else -/
theorem next_wordly {L : Bs} {q : Nat} (h : wordlyI (pk L q) = false) : isWordB (nextT (L.drop q) q).1.kind = false := by
 rcases Nat.lt_or_ge q L.length with hq | hq
 · have hne : L.drop q ≠ [] := by rw [drop_cons' hq];exact List.cons_ne_nil _ _
   cases hx : nextT (L.drop q) q with
   | mk t wh =>
    have hN := Next.of (L.drop q) q hne;rw [hx] at hN;have hpk := pk_get hq;have hdr := drop_cons' hq;generalize L.drop q = l at hN hdr;generalize hy : (t,wh) = y at hN
    cases hN with
    | str c r h34 => injection hy with h1 h2;subst h1;rfl
    | sign1 c r k h34 hs hk => injection hy with h1 h2;subst h1;exact isWordB_big hk
    | sign2 c x r k h34 hs hk => injection hy with h1 h2;subst h1;exact isWordB_big hk
    | half c r k d h34 hs hk hd => injection hy with h1 h2;subst h1;exact isWordB_big hk
    | no c r h34 hs hk => injection hy with h1 h2;subst h1;rfl
    | word c r h34 hs hk =>
     exfalso;injection hdr with hc hr;rw [← hc] at hpk;have h1 := (kind_take (c :: r) _ (wordN_pos hk) (wordN_le _).1 (wordN_le _).2).1 hk;have h2 : (digitB (bi c) || greatB (bi c) || smallB (bi c)) = true := h1.2;rw [hpk] at h;unfold wordlyI at h;cases hd : digitB (bi c) <;> cases hg : greatB (bi c) <;> cases hs' : smallB (bi c) <;> simp_all
 · rw [List.drop_eq_nil_of_le hq];rfl
end Lx
end Go.Proofs.YtclioihichcpiaaDoor
/- Parse, plain: what stands at a place, for the parser and for the reader. -/
namespace Go.Proofs.YtclioihichcpiaaDoor
open Go.RowKit Lx
namespace Lx
theorem let_stop {L : Bs} {q : Nat} : letterB (pk L (q + letN (L.drop q))) = false := by
 unfold pk
 cases hx : L[q + letN (L.drop q)]? with
 | none => decide
 | some c =>
  have h := takeWhile_stop (fun c => letterB (bi c)) (L.drop q) c (by
   rw [List.head?_drop,List.getElem?_drop];exact hx)
  exact h
theorem dig_stop {L : Bs} {q : Nat} : digitB (pk L (q + digN (L.drop q))) = false := by
 unfold pk
 cases hx : L[q + digN (L.drop q)]? with
 | none => decide
 | some c =>
  have h := takeWhile_stop (fun c => digitB (bi c)) (L.drop q) c (by
   rw [List.head?_drop,List.getElem?_drop];exact hx)
  exact h
theorem wordly_letter {c : Int} (h : wordlyI c = true) : letterB c = true := by
 unfold wordlyI smallB greatB digitB at h;unfold letterB;simp at h ⊢;omega
theorem run_at (f : UInt8 → Bool) : ∀ (l : Bs) (n : Nat),n < (l.takeWhile f).length → ∃ c,l[n]? = some c ∧ f c = true
  | [],n,h => by simp at h
  | c :: r,0,h => by
    rw [List.takeWhile_cons] at h
    by_cases hc : f c = true
    · exact ⟨c,rfl,hc⟩
    · rw [if_neg hc] at h;simp at h
  | c :: r,n + 1,h => by
    rw [List.takeWhile_cons] at h
    by_cases hc : f c = true
    · rw [if_pos hc] at h;exact run_at f r n (by simpa using h)
    · rw [if_neg hc] at h;simp at h
theorem let_at {L : Bs} {q n : Nat} (h : n < letN (L.drop q)) : letterB (pk L (q + n)) = true := by
 obtain ⟨c,h1,h2⟩ := run_at _ _ _ h;rw [List.getElem?_drop] at h1;unfold pk;rw [h1];exact h2
theorem dig_at {L : Bs} {q n : Nat} (h : n < digN (L.drop q)) : digitB (pk L (q + n)) = true := by
 obtain ⟨c,h1,h2⟩ := run_at _ _ _ h;rw [List.getElem?_drop] at h1;unfold pk;rw [h1];exact h2
/-- behind a word no letter may stand -/
theorem tk_stuck {L : Bs} {e : Nat} (hl : letterB (pk L e) = true) : tk (L.drop e) e true = ⟨[],zeroTok,e,false⟩ := by
 have hlt : e < L.length := pk_lt (by unfold letterB at hl;simp at hl;omega);have hne : L.drop e ≠ [] := by rw [drop_cons' hlt];exact List.cons_ne_nil _ _
 have hpk := pk_get hlt
 have hsk : skipN false (L.drop e) = 0 := by
  rw [drop_cons' hlt];rw [hpk] at hl;unfold letterB at hl;simp at hl;simp only [skipN];rw [if_neg (by omega),if_neg (by unfold blankB;simp;omega)]
 cases hw : wordlyI (pk L e) with
 | true =>
  have hk : isWordB (nextT (L.drop e) e).1.kind = true := by
   unfold wordlyI at hw
   by_cases h1 : smallB (pk L e) = true
   · obtain ⟨h2, h3⟩ := next_small h1 rfl;rw [h2]
     exact kind_isWord _ (by rw [h3];repeat' split
                             all_goals decide)
   · by_cases h2 : greatB (pk L e) = true
     · rw [next_great h2 rfl];rfl
     · have h3 : digitB (pk L e) = true := by simpa [h1,h2] using hw
       rw [next_digit h3 rfl];rfl
  cases hx : nextT (L.drop e) e with
  | mk t wh =>
   rw [hx] at hk;exact tk_joint hsk hne hx hk
 | false =>
  have h95 : pk L e = 95 := by
   unfold wordlyI smallB greatB digitB at hw;unfold letterB at hl;simp at hl hw;omega
  have hx : nextT (L.drop e) e = (zeroTok,false) := by
   obtain ⟨h1,h2⟩ := signI_word hl;rw [hpk] at h1 h2 h95;rw [drop_cons' hlt];rw [next_word _ _ _ h2 h1,if_pos];have hn := wordN_le (L[e] :: L.drop (e + 1));rcases Nat.eq_zero_or_pos (wordN (L[e] :: L.drop (e + 1))) with h0 | h0
   · rw [h0];rfl
   · refine kind_line ?_;rw [firstB_take _ _ _ h0];simp [firstB,h95]
  rw [tk_open hsk rfl (by rw [List.drop_zero];exact hne) (by rw [List.drop_zero,Nat.add_zero];exact hx)]
  rfl
/-- none of the bytes that begin something -/
def noB (c : Int) : Prop := smallB c = false ∧ greatB c = false ∧ digitB c = false ∧ c ≠ 34 ∧ c ≠ 40 ∧ c ≠ 41 ∧ c ≠ 44 ∧ c ≠ 46 ∧ c ≠ 47 ∧ c ≠ 58 ∧ c ≠ 33
def sgn1 (c k : Int) : Prop := (c = 40 ∧ k = 8) ∨ (c = 41 ∧ k = 9) ∨ (c = 44 ∧ k = 10) ∨ (c = 46 ∧ k = 11) ∨ (c = 47 ∧ k = 12)
def sgn2 (c d k : Int) : Prop := (c = 58 ∧ d = 45 ∧ k = 13) ∨ (c = 33 ∧ d = 61 ∧ k = 14)
/-- what stands at the place q: for the reader its byte, for the parser the token i -/
inductive At (P : Ps) (L : Bs) (i q : Nat) : Prop
  | fin (h1 : pk L q = -1) (h2 : i = P.ts.length) (h3 : P.op.kind = 0) (h4 : P.far = q)
  | none (h0 : q < L.length) (h1 : noB (pk L q)) (h2 : i = P.ts.length) (h3 : P.op.kind = 0) (h4 : P.far = q)
  | halfQ (h1 : pk L q = 34) (h2 : i = P.ts.length) (h3 : P.op.kind = 4) (h4 : P.op.at_ = q) (e : Int) (h5 : rQuo L (q + 1) = .error e) (h6 : e = (P.far : Int))
  | half2 (c d k : Int) (h0 : sgn2 c d k) (h1 : pk L q = c) (h2 : pk L (q + 1) ≠ d) (h3 : i = P.ts.length) (h4 : P.op.kind = k) (h5 : P.op.at_ = q) (h6 : P.far = q + 1)
  | str (h1 : pk L q = 34) (h2 : P.kind i = 4) (h3 : (P.tok i).at_ = q) (b : Bs) (e : Nat) (h4 : rQuo L (q + 1) = .ok (b,e)) (h5 : (P.tok i).text = b) (h6 : i < P.ts.length) (j : Bool) (h7 : Al P L (i + 1) e j)
  | sign1 (c k : Int) (h0 : sgn1 c k) (h1 : pk L q = c) (h2 : P.kind i = k) (h3 : (P.tok i).at_ = q) (h4 : i < P.ts.length) (j : Bool) (h5 : Al P L (i + 1) (q + 1) j)
  | sign2 (c d k : Int) (h0 : sgn2 c d k) (h1 : pk L q = c) (h2 : pk L (q + 1) = d) (h3 : P.kind i = k) (h4 : (P.tok i).at_ = q) (h5 : i < P.ts.length) (j : Bool) (h6 : Al P L (i + 1) (q + 2) j)
  | small (W : Bs) (h1 : smallB (pk L q) = true) (h2 : P.kind i = kindI W) (h3 : kindI W = (if W = sInput then 5 else if W = sOutput then 6 else if W = sNot then 7 else 1)) (h4 : (P.tok i).text = if reservedB W then [] else W) (h5 : (P.tok i).at_ = q) (h6 : i < P.ts.length) (e : Nat) (h7 : (P.tok i).end_ = e) (h8 : rRun L q = .ok (W,e)) (j : Bool) (h9 : Al P L (i + 1) e j) (h10 : wordlyI (pk L e) = false)
  | smallN (h1 : smallB (pk L q) = true) (h2 : P.kind i = 1) (h3 : (P.tok i).at_ = q) (h4 : i < P.ts.length) (h5 : rRun L q = .error (P.far : Int)) (h6 : Dead P L (i + 1))
  | great (W : Bs) (h1 : greatB (pk L q) = true) (h2 : P.kind i = 2) (h3 : (P.tok i).text = W) (h4 : (P.tok i).at_ = q) (h5 : i < P.ts.length) (e : Nat) (h6 : rRun L q = .ok (W,e)) (j : Bool) (h7 : Al P L (i + 1) e j)
  | greatN (h1 : greatB (pk L q) = true) (h2 : P.kind i = 2) (h3 : (P.tok i).at_ = q) (h4 : i < P.ts.length) (h5 : rRun L q = .error (P.far : Int)) (h6 : Dead P L (i + 1))
  | digit (W : Bs) (h1 : digitB (pk L q) = true) (h2 : P.kind i = 3) (h3 : (P.tok i).text = W) (h4 : (P.tok i).at_ = q) (h5 : i < P.ts.length) (h6 : W = (L.drop q).take (digN (L.drop q))) (h7 : digN (L.drop q) ≤ 64) (h8 : wordlyI (pk L (q + digN (L.drop q))) = false) (j : Bool) (h9 : Al P L (i + 1) (q + digN (L.drop q)) j)
  | digitN (W : Bs) (h1 : digitB (pk L q) = true) (h2 : P.kind i = 3) (h3 : (P.tok i).text = W) (h4 : (P.tok i).at_ = q) (h5 : i < P.ts.length) (h6 : W = (L.drop q).take (min 64 (digN (L.drop q)))) (h7 : rDigits L q = .error (P.far : Int)) (h8 : Dead P L (i + 1))
theorem signI_one {c k d : Int} (h : signI c = some (k,1,d)) : sgn1 c k := by
 unfold signI at h;unfold sgn1
 repeat' split at h
 all_goals (first | (injection h with h;injection h with h1 h2;injection h2 with h2 h3;omega) | cases h)
theorem signI_two {c k d : Int} (h : signI c = some (k,2,d)) : sgn2 c d k := by
 unfold signI at h;unfold sgn2
 repeat' split at h
 all_goals (first | (injection h with h;injection h with h1 h2;injection h2 with h2 h3;omega) | cases h)
theorem signI_no {c : Int} (h : signI c = none) : c ≠ 40 ∧ c ≠ 41 ∧ c ≠ 44 ∧ c ≠ 46 ∧ c ≠ 47 ∧ c ≠ 58 ∧ c ≠ 33 := by
 refine ⟨?_,?_,?_,?_,?_,?_,?_⟩ <;> (rintro rfl;revert h;decide)
theorem drop_succ_of {L r : Bs} {c : UInt8} {q : Nat} (h : L.drop q = c :: r) : L.drop (q + 1) = r := by
 have := congrArg List.tail h;rw [List.tail_drop] at this;exact this
theorem pk_of {L r : Bs} {c : UInt8} {q : Nat} (h : L.drop q = c :: r) : pk L q = bi c := by
 have h1 : (L.drop q)[0]? = some c := by rw [h];rfl
 rw [List.getElem?_drop] at h1;unfold pk;rw [show L[q]? = some c from h1]
theorem end_dead {P : Ps} {L : Bs} {i e : Nat} (hi : i < P.ts.length) (hl : letterB (pk L e) = true) (h9 : (tk (L.drop e) e true).toks = P.ts.drop (i + 1)) (h10 : (tk (L.drop e) e true).open_ = P.op) (h11 : (tk (L.drop e) e true).far = P.far) : Dead P L (i + 1) ∧ P.far = e := by
 rw [tk_stuck hl] at h9 h10 h11;have hlt : e < L.length := pk_lt (by unfold letterB at hl;simp at hl;omega);exact ⟨⟨drop_nil_len (by omega) h9.symm,h10.symm,by rw [← h11];exact hlt⟩,h11.symm⟩
theorem Look.what {P : Ps} {L : Bs} {i q : Nat} (h : Look P L i q) : At P L i q := by
 cases h with
 | fin h1 h2 h3 h4 => exact .fin (pk_end L q (by omega)) h2 (by rw [h3];rfl) h4
 | half t h1 h2 h3 h4 h5 =>
  have hne : L.drop q ≠ [] := by rw [drop_cons' h1];exact List.cons_ne_nil _ _
  have hN := Next.of (L.drop q) q hne;rw [h2] at hN
  have hs : smallB (pk L q) = false := by
   rw [Bool.eq_false_iff];intro hs;rw [(next_small hs rfl).1] at h2;injection h2 with _ h2;cases h2
  have hg : greatB (pk L q) = false := by
   rw [Bool.eq_false_iff];intro hs;rw [next_great hs rfl] at h2;injection h2 with _ h2;cases h2
  have hd : digitB (pk L q) = false := by
   rw [Bool.eq_false_iff];intro hs;rw [next_digit hs rfl] at h2;injection h2 with _ h2;cases h2
  generalize hl : L.drop q = l at hN;generalize hy : (t,false) = y at hN
  cases hN with
  | str c r h34 =>
   injection hy with e1 e2;subst e1
   have hk : rQuo L (q + 1) = .error ((q + 1 + (quo r 0).2.1 : Nat) : Int) := by
    unfold rQuo;rw [drop_succ_of hl,← e2];rfl
   refine .halfQ (by rw [pk_of hl];exact h34) h3 (by rw [h4]) (by rw [h4]) _ hk ?_;rw [h5];rfl
  | sign1 c r k h34 hsg hk => injection hy with e1 e2;cases e2
  | sign2 c x r k h34 hsg hk => injection hy with e1 e2;cases e2
  | half c r k d h34 hsg hk hdd =>
   injection hy with e1 e2;subst e1;refine .half2 (bi c) d k (signI_two hsg) (pk_of hl) (fun hp => ?_) h3 (by rw [h4]) (by rw [h4]) ?_
   · have hr := drop_succ_of hl
     cases r with
     | nil =>
      have hlen := congrArg List.length hr;rw [List.length_drop] at hlen;rw [pk_end L (q + 1) (by simp at hlen;omega)] at hp;rcases signI_two hsg with ⟨_,h,_⟩ | ⟨_,h,_⟩ <;> omega
     | cons x r =>
      rw [pk_of hr] at hp;simp [firstB,hp] at hdd
   · rw [h5,if_neg (by show ¬ k = 0;omega)]
  | no c r h34 hsg hk =>
   injection hy with e1 e2;subst e1;have hp := pk_of hl;obtain ⟨a1,a2,a3,a4,a5,a6,a7⟩ := signI_no hsg;refine .none h1 ⟨hs,hg,hd,?_,?_,?_,?_,?_,?_,?_,?_⟩ h3 (by rw [h4];rfl) (by rw [h5];rfl) <;> (rw [hp];assumption)
  | word c r h34 hsg hk => injection hy with e1 e2;cases e2
 | whole t h1 h2 h3 h4 h5 h6 h7 h8 h9 h10 h11 =>
  have hki : P.kind i = t.kind := by show (P.tok i).kind = _;rw [h4]
  have hti : (P.tok i).at_ = q := by rw [h4];exact h5
  by_cases hs : smallB (pk L q) = true
  · obtain ⟨g1,g2⟩ := next_small hs rfl;rw [g1] at h2;injection h2 with e1 _;subst e1;generalize hW : (L.drop q).take (min 64 (letN (L.drop q))) = W at *;have hkw : kindI W ≠ 0 := h8;have hwd := kind_isWord W hkw;change (tk (L.drop (q + min 64 (letN (L.drop q)))) (q + min 64 (letN (L.drop q))) (isWordB (kindI W))).toks = _ at h9
    change (tk (L.drop (q + min 64 (letN (L.drop q)))) (q + min 64 (letN (L.drop q))) (isWordB (kindI W))).open_ = _ at h10;change (tk (L.drop (q + min 64 (letN (L.drop q)))) (q + min 64 (letN (L.drop q))) (isWordB (kindI W))).far = _ at h11;change q + min 64 (letN (L.drop q)) ≤ _ at h7;rw [hwd] at h9 h10 h11;rcases Nat.lt_or_ge 64 (letN (L.drop q)) with hn | hn
    · rw [Nat.min_eq_left (by omega)] at h9 h10 h11 hW;obtain ⟨d1,d2⟩ := end_dead h3 (let_at hn) h9 h10 h11
      have hlen : W.length = 64 := by
       rw [← hW,List.length_take];have := letN_le (L.drop q);omega
      refine .smallN hs ?_ hti h3 ?_ d1
      · rw [hki];show kindI W = 1;rw [g2,if_neg (by rintro rfl;exact absurd hlen (by decide)),if_neg (by rintro rfl;exact absurd hlen (by decide)),if_neg (by rintro rfl;exact absurd hlen (by decide))]
      · unfold rRun;rw [if_neg (by omega),d2]
    · rw [Nat.min_eq_right hn] at h9 h10 h11 hW h7 h4
      have hst : wordlyI (pk L (q + letN (L.drop q))) = false := by
       rw [Bool.eq_false_iff];intro hw;have := wordly_letter hw;rw [let_stop] at this;cases this
      refine .small W hs hki g2 (by rw [h4]) hti h3 (q + letN (L.drop q)) (by rw [h4]) ?_ true ⟨h7,h3,h9,h10,h11,fun _ _ => next_wordly hst⟩ hst;unfold rRun;rw [if_pos hn,hW]
  by_cases hg : greatB (pk L q) = true
  · have g1 := next_great hg rfl;rw [g1] at h2;injection h2 with e1 _;subst e1;generalize hW : (L.drop q).take (min 64 (letN (L.drop q))) = W at *;change (tk (L.drop (q + min 64 (letN (L.drop q)))) (q + min 64 (letN (L.drop q))) true).toks = _ at h9;change (tk (L.drop (q + min 64 (letN (L.drop q)))) (q + min 64 (letN (L.drop q))) true).open_ = _ at h10
    change (tk (L.drop (q + min 64 (letN (L.drop q)))) (q + min 64 (letN (L.drop q))) true).far = _ at h11;change q + min 64 (letN (L.drop q)) ≤ _ at h7;rcases Nat.lt_or_ge 64 (letN (L.drop q)) with hn | hn
    · rw [Nat.min_eq_left (by omega)] at h9 h10 h11 hW;obtain ⟨d1,d2⟩ := end_dead h3 (let_at hn) h9 h10 h11;refine .greatN hg hki hti h3 ?_ d1;unfold rRun;rw [if_neg (by omega),d2]
    · rw [Nat.min_eq_right hn] at h9 h10 h11 hW h7 h4
      have hst : wordlyI (pk L (q + letN (L.drop q))) = false := by
       rw [Bool.eq_false_iff];intro hw;have := wordly_letter hw;rw [let_stop] at this;cases this
      refine .great W hg hki (by rw [h4]) hti h3 (q + letN (L.drop q)) ?_ true ⟨h7,h3,h9,h10,h11,fun _ _ => next_wordly hst⟩;unfold rRun;rw [if_pos hn,hW]
  by_cases hd : digitB (pk L q) = true
  · have g1 := next_digit hd rfl;rw [g1] at h2;injection h2 with e1 _;subst e1;generalize hW : (L.drop q).take (min 64 (digN (L.drop q))) = W at *;change (tk (L.drop (q + min 64 (digN (L.drop q)))) (q + min 64 (digN (L.drop q))) true).toks = _ at h9;change (tk (L.drop (q + min 64 (digN (L.drop q)))) (q + min 64 (digN (L.drop q))) true).open_ = _ at h10
    change (tk (L.drop (q + min 64 (digN (L.drop q)))) (q + min 64 (digN (L.drop q))) true).far = _ at h11;change q + min 64 (digN (L.drop q)) ≤ _ at h7;rcases Nat.lt_or_ge 64 (digN (L.drop q)) with hn | hn
    · have hm : min 64 (digN (L.drop q)) = 64 := Nat.min_eq_left (by omega);rw [hm] at h9 h10 h11;obtain ⟨d1,d2⟩ := end_dead h3 (digit_letter _ (dig_at hn)) h9 h10 h11;refine .digitN W hd hki (by rw [h4]) hti h3 hW.symm ?_ d1;unfold rDigits;rw [if_neg (by omega),d2]
    · have hm : min 64 (digN (L.drop q)) = digN (L.drop q) := Nat.min_eq_right hn;rw [hm] at h9 h10 h11 h7
      cases hw : wordlyI (pk L (q + digN (L.drop q))) with
      | true =>
       obtain ⟨d1,d2⟩ := end_dead h3 (wordly_letter hw) h9 h10 h11;refine .digitN W hd hki (by rw [h4]) hti h3 hW.symm ?_ d1;unfold rDigits;rw [if_pos hn,hw,if_pos rfl,d2]
      | false =>
       rw [hm] at hW;exact .digit W hd hki (by rw [h4]) hti h3 hW.symm hn hw true ⟨h7,h3,h9,h10,h11,fun _ _ => next_wordly hw⟩
  have hne : L.drop q ≠ [] := by rw [drop_cons' h1];exact List.cons_ne_nil _ _
  have hN := Next.of (L.drop q) q hne;rw [h2] at hN
  have hnw : isWordB t.kind = false := by
   have := next_wordly (L := L) (q := q) (by unfold wordlyI;simp [hs,hg,hd]);rw [h2] at this;exact this
  rw [hnw] at h9 h10 h11;have hal : Al P L (i + 1) t.end_ false := ⟨h7,h3,h9,h10,h11,fun h => by cases h⟩;generalize hl : L.drop q = l at hN;generalize hy : (t,true) = y at hN
  cases hN with
  | str c r h34 =>
   injection hy with e1 e2;subst e1;refine .str (by rw [pk_of hl];exact h34) hki hti (quo r 0).1 (q + 1 + (quo r 0).2.1) ?_ ?_ h3 false hal
   · unfold rQuo;rw [drop_succ_of hl,← e2];rfl
   · rw [h4,← e2];rfl
  | sign1 c r k h34 hsg hk =>
   injection hy with e1 e2;subst e1;exact .sign1 (bi c) k (signI_one hsg) (pk_of hl) hki hti h3 false hal
  | sign2 c x r k h34 hsg hk =>
   injection hy with e1 e2;subst e1;exact .sign2 (bi c) (bi x) k (signI_two hsg) (pk_of hl) (pk_of (drop_succ_of hl)) hki hti h3 false hal
  | half c r k d h34 hsg hk hdd => injection hy with e1 e2;cases e2
  | no c r h34 hsg hk => injection hy with e1 e2;cases e2
  | word c r h34 hsg hk =>
   injection hy with e1 e2;subst e1;rw [show isWordB (kindI _) = true from kind_isWord _ hk] at hnw;cases hnw
theorem Al.what {P : Ps} {L : Bs} {i p : Nat} {j : Bool} (h : Al P L i p j) : At P L i (rSkip L p) := h.look.what
end Lx
end Go.Proofs.YtclioihichcpiaaDoor
/- Parse, plain: terms, atoms, literals, rules: the parser tells what the reader tells. -/
namespace Go.Proofs.YtclioihichcpiaaDoor
open Go.RowKit Lx
namespace Lx
theorem take_yes {P : Ps} {i : Nat} {ks : List Int} (h : ks.contains (P.kind i) = true) : P.take i ks = .ok (P.tok i,i + 1) := by unfold Ps.take;rw [h];rfl
theorem take_no {P : Ps} {i : Nat} {ks : List Int} (h : ks.contains (P.kind i) = false) : P.take i ks = .error (P.stop i ks) := by unfold Ps.take;rw [h];rfl
theorem stop_end {P : Ps} {i : Nat} {ks : List Int} (h : i = P.ts.length) : P.stop i ks = if P.op.kind = 0 then (P.far : Int) else if ks.contains P.op.kind then (P.far : Int) else (P.op.at_ : Int) := by
 unfold Ps.stop;rw [if_pos h]
theorem stop_tok {P : Ps} {i : Nat} {ks : List Int} (h : i < P.ts.length) : P.stop i ks = if (P.kind i = 5 ∨ P.kind i = 6 ∨ P.kind i = 7) ∧ ks.contains 1 = true then ((P.tok i).end_ : Int) else ((P.tok i).at_ : Int) := by
 unfold Ps.stop;rw [if_neg (by omega)]
theorem kind_at_end {P : Ps} {i : Nat} (h : i = P.ts.length) : P.kind i = 0 := Ps.kind_end (by omega)
theorem has_no {ks : List Int} {a b : Int} (h : ks.contains a = false) (e : b = a) : ks.contains b = false := by rw [e];exact h
theorem small_not {c : Int} (h : smallB c = true) : greatB c = false ∧ digitB c = false ∧ c ≠ 34 ∧ c ≠ 40 ∧ c ≠ 41 ∧ c ≠ 44 ∧ c ≠ 46 ∧ c ≠ 47 ∧ c ≠ 58 ∧ c ≠ 33 ∧ c ≠ -1 := by
 unfold smallB at h;unfold greatB digitB;simp at h ⊢;omega
theorem great_not {c : Int} (h : greatB c = true) : smallB c = false ∧ digitB c = false ∧ c ≠ 34 ∧ c ≠ 40 ∧ c ≠ 41 ∧ c ≠ 44 ∧ c ≠ 46 ∧ c ≠ 47 ∧ c ≠ 58 ∧ c ≠ 33 ∧ c ≠ -1 := by
 unfold greatB at h;unfold smallB digitB;simp at h ⊢;omega
theorem digit_not {c : Int} (h : digitB c = true) : smallB c = false ∧ greatB c = false ∧ c ≠ 34 ∧ c ≠ 40 ∧ c ≠ 41 ∧ c ≠ 44 ∧ c ≠ 46 ∧ c ≠ 47 ∧ c ≠ 58 ∧ c ≠ 33 ∧ c ≠ -1 := by
 unfold digitB at h;unfold smallB greatB;simp at h ⊢;omega
theorem kindW_cases (W : Bs) : kindI W = (if W = sInput then 5 else if W = sOutput then 6 else if W = sNot then 7 else 1) → (kindI W = 5 ∧ W = sInput) ∨ (kindI W = 6 ∧ W = sOutput) ∨ (kindI W = 7 ∧ W = sNot) ∨ (kindI W = 1 ∧ reservedB W = false ∧ W ≠ sInput ∧ W ≠ sOutput ∧ W ≠ sNot) := by
 intro h
 by_cases h1 : W = sInput
 · rw [if_pos h1] at h;exact .inl ⟨h,h1⟩
 by_cases h2 : W = sOutput
 · rw [if_neg h1,if_pos h2] at h;exact .inr (.inl ⟨h,h2⟩)
 by_cases h3 : W = sNot
 · rw [if_neg h1,if_neg h2,if_pos h3] at h;exact .inr (.inr (.inl ⟨h,h3⟩))
 · rw [if_neg h1,if_neg h2,if_neg h3] at h;refine .inr (.inr (.inr ⟨h,?_,h1,h2,h3⟩));unfold reservedB;simp [h1,h2,h3]
/-- where nothing that could go on is wanted, the place itself is told -/
theorem At.stop_q {P : Ps} {L : Bs} {i q : Nat} (h : At P L i q) {ks : List Int} (k1 : ks.contains 1 = false) (k4 : ks.contains 4 = false) (k13 : ks.contains 13 = false) (k14 : ks.contains 14 = false) : P.stop i ks = (q : Int) := by
 have tok : ∀ (hi : i < P.ts.length) (ha : (P.tok i).at_ = q),P.stop i ks = (q : Int) := fun hi ha => by
  rw [stop_tok hi,if_neg (fun h => by rw [k1] at h;exact absurd h.2 (by decide)),ha]
 cases h with
 | fin h1 h2 h3 h4 => rw [stop_end h2,if_pos h3,h4]
 | none h0 h1 h2 h3 h4 => rw [stop_end h2,if_pos h3,h4]
 | halfQ h1 h2 h3 h4 e h5 h6 => rw [stop_end h2,if_neg (by omega),if_neg (by rw [h3,k4];decide),h4]
 | half2 c d k h0 h1 h2 h3 h4 h5 h6 =>
  rw [stop_end h3];rcases h0 with ⟨_,_,rfl⟩ | ⟨_,_,rfl⟩
  · rw [if_neg (by omega),if_neg (by rw [h4,k13];decide),h5]
  · rw [if_neg (by omega),if_neg (by rw [h4,k14];decide),h5]
 | str h1 h2 h3 b e h4 h5 h6 j h7 => exact tok h6 h3
 | sign1 c k h0 h1 h2 h3 h4 j h5 => exact tok h4 h3
 | sign2 c d k h0 h1 h2 h3 h4 h5 j h6 => exact tok h5 h4
 | small W h1 h2 h3 h4 h5 h6 e h7 h8 j h9 h10 => exact tok h6 h5
 | smallN h1 h2 h3 h4 h5 h6 => exact tok h4 h3
 | great W h1 h2 h3 h4 h5 e h6 j h7 => exact tok h5 h4
 | greatN h1 h2 h3 h4 h5 h6 => exact tok h4 h3
 | digit W h1 h2 h3 h4 h5 h6 h7 h8 j h9 => exact tok h5 h4
 | digitN W h1 h2 h3 h4 h5 h6 h7 h8 => exact tok h5 h4
/-- a sign of one byte: for both, or for none -/
theorem At.one {P : Ps} {L : Bs} {i q : Nat} (h : At P L i q) {c k : Int} (hs : sgn1 c k) : (P.kind i = k ∧ pk L q = c ∧ ∃ j,Al P L (i + 1) (q + 1) j) ∨ (P.kind i ≠ k ∧ pk L q ≠ c) := by
 have hk : 8 ≤ k ∧ k ≤ 12 ∧ 40 ≤ c ∧ c ≤ 47 := by unfold sgn1 at hs;omega
 cases h with
 | fin h1 h2 h3 h4 => exact .inr ⟨by rw [kind_at_end h2];omega,by rw [h1];omega⟩
 | none h0 h1 h2 h3 h4 =>
  obtain ⟨_,_,_,_,a1,a2,a3,a4,a5,_⟩ := h1;exact .inr ⟨by rw [kind_at_end h2];omega,by unfold sgn1 at hs;omega⟩
 | halfQ h1 h2 h3 h4 e h5 h6 => exact .inr ⟨by rw [kind_at_end h2];omega,by rw [h1];omega⟩
 | half2 c2 d k2 h0 h1 h2 h3 h4 h5 h6 => exact .inr ⟨by rw [kind_at_end h3];omega,by rw [h1];unfold sgn2 at h0;omega⟩
 | str h1 h2 h3 b e h4 h5 h6 j h7 => exact .inr ⟨by rw [h2];omega,by rw [h1];omega⟩
 | sign1 c2 k2 h0 h1 h2 h3 h4 j h5 =>
  by_cases hkk : k2 = k
  · subst hkk;exact .inl ⟨h2,by rw [h1];unfold sgn1 at h0 hs;omega,j,h5⟩
  · exact .inr ⟨by rw [h2];exact hkk,by rw [h1];unfold sgn1 at h0 hs;omega⟩
 | sign2 c2 d k2 h0 h1 h2 h3 h4 h5 j h6 => exact .inr ⟨by rw [h3];unfold sgn2 at h0;omega,by rw [h1];unfold sgn2 at h0;omega⟩
 | small W h1 h2 h3 h4 h5 h6 e h7 h8 j h9 h10 =>
  have := small_not h1;refine .inr ⟨?_,by unfold sgn1 at hs;omega⟩;rw [h2];rcases kindW_cases W h3 with h | h | h | h <;> omega
 | smallN h1 h2 h3 h4 h5 h6 => have := small_not h1;exact .inr ⟨by rw [h2];omega,by unfold sgn1 at hs;omega⟩
 | great W h1 h2 h3 h4 h5 e h6 j h7 => have := great_not h1;exact .inr ⟨by rw [h2];omega,by unfold sgn1 at hs;omega⟩
 | greatN h1 h2 h3 h4 h5 h6 => have := great_not h1;exact .inr ⟨by rw [h2];omega,by unfold sgn1 at hs;omega⟩
 | digit W h1 h2 h3 h4 h5 h6 h7 h8 j h9 => have := digit_not h1;exact .inr ⟨by rw [h2];omega,by unfold sgn1 at hs;omega⟩
 | digitN W h1 h2 h3 h4 h5 h6 h7 h8 => have := digit_not h1;exact .inr ⟨by rw [h2];omega,by unfold sgn1 at hs;omega⟩
/-- a sign of two bytes -/
theorem At.two {P : Ps} {L : Bs} {i q : Nat} (h : At P L i q) {c d k : Int} (hs : sgn2 c d k) :
    (P.kind i = k ∧ pk L q = c ∧ pk L (q + 1) = d ∧ ∃ j,Al P L (i + 1) (q + 2) j) ∨ (P.kind i = 0 ∧ pk L q = c ∧ pk L (q + 1) ≠ d ∧ i = P.ts.length ∧ P.op.kind = k ∧ P.far = q + 1) ∨ (P.kind i ≠ k ∧ pk L q ≠ c ∧ (i = P.ts.length → P.op.kind ≠ k)) := by
 have hk : (k = 13 ∧ c = 58) ∨ (k = 14 ∧ c = 33) := by unfold sgn2 at hs;omega
 cases h with
 | fin h1 h2 h3 h4 => exact .inr (.inr ⟨by rw [kind_at_end h2];omega,by rw [h1];omega,fun _ => by omega⟩)
 | none h0 h1 h2 h3 h4 =>
  obtain ⟨_,_,_,_,_,_,_,_,_,a6,a7⟩ := h1;exact .inr (.inr ⟨by rw [kind_at_end h2];omega,by omega,fun _ => by omega⟩)
 | halfQ h1 h2 h3 h4 e h5 h6 => exact .inr (.inr ⟨by rw [kind_at_end h2];omega,by rw [h1];omega,fun _ => by omega⟩)
 | half2 c2 d2 k2 h0 h1 h2 h3 h4 h5 h6 =>
  by_cases hkk : k2 = k
  · subst hkk;have hc : c2 = c := by unfold sgn2 at h0 hs;omega
    have hd : d2 = d := by unfold sgn2 at h0 hs;omega
    subst hc hd;exact .inr (.inl ⟨kind_at_end h3,h1,h2,h3,h4,h6⟩)
  · exact .inr (.inr ⟨by rw [kind_at_end h3];omega,by rw [h1];unfold sgn2 at h0 hs;omega,fun _ => by rw [h4];exact hkk⟩)
 | str h1 h2 h3 b e h4 h5 h6 j h7 => exact .inr (.inr ⟨by rw [h2];omega,by rw [h1];omega,fun _ => by omega⟩)
 | sign1 c2 k2 h0 h1 h2 h3 h4 j h5 => exact .inr (.inr ⟨by rw [h2];unfold sgn1 at h0;omega,by rw [h1];unfold sgn1 at h0;omega,fun _ => by omega⟩)
 | sign2 c2 d2 k2 h0 h1 h2 h3 h4 h5 j h6 =>
  by_cases hkk : k2 = k
  · subst hkk;exact .inl ⟨h3,by rw [h1];unfold sgn2 at h0 hs;omega,by rw [h2];unfold sgn2 at h0 hs;omega,j,h6⟩
  · exact .inr (.inr ⟨by rw [h3];exact hkk,by rw [h1];unfold sgn2 at h0 hs;omega,fun _ => by omega⟩)
 | small W h1 h2 h3 h4 h5 h6 e h7 h8 j h9 h10 =>
  have := small_not h1;refine .inr (.inr ⟨?_,by omega,fun _ => by omega⟩);rw [h2];rcases kindW_cases W h3 with h | h | h | h <;> omega
 | smallN h1 h2 h3 h4 h5 h6 => have := small_not h1;exact .inr (.inr ⟨by rw [h2];omega,by omega,fun _ => by omega⟩)
 | great W h1 h2 h3 h4 h5 e h6 j h7 => have := great_not h1;exact .inr (.inr ⟨by rw [h2];omega,by omega,fun _ => by omega⟩)
 | greatN h1 h2 h3 h4 h5 h6 => have := great_not h1;exact .inr (.inr ⟨by rw [h2];omega,by omega,fun _ => by omega⟩)
 | digit W h1 h2 h3 h4 h5 h6 h7 h8 j h9 => have := digit_not h1;exact .inr (.inr ⟨by rw [h2];omega,by omega,fun _ => by omega⟩)
 | digitN W h1 h2 h3 h4 h5 h6 h7 h8 => have := digit_not h1;exact .inr (.inr ⟨by rw [h2];omega,by omega,fun _ => by omega⟩)
/-! ### terms -/
theorem psTerm_no {P : Ps} {i : Nat} (h : [2,1,3,4].contains (P.kind i) = false) : psTerm P i = .error (P.stop i [2,1,3,4]) := by unfold psTerm;rw [take_no h]
theorem psTerm_yes {P : Ps} {i : Nat} (h : [2,1,3,4].contains (P.kind i) = true) : psTerm P i = .ok ((P.kind i == 2,mk (P.tok i).text),i + 1) := by unfold psTerm;rw [take_yes h];rfl
theorem rTerm_other {L : Bs} {q : Nat} (h1 : greatB (pk L q) = false) (h2 : digitB (pk L q) = false) (h3 : pk L q ≠ 34) : rTerm L q = (rName L q).bind fun x => .ok ((false,mk x.1),x.2) := by
 unfold rTerm;rw [h1,h2,if_neg (by decide),if_neg (by decide),if_neg h3]
theorem rName_no {L : Bs} {q : Nat} (h : smallB (pk L q) = false) : rName L q = .error (q : Int) := by unfold rName;rw [h,if_neg (by decide)]
theorem sgn_other {L : Bs} {q : Nat} {c : Int} (h : pk L q = c) (hc : (c = -1 ∨ (40 ≤ c ∧ c ≤ 47) ∨ c = 58 ∨ c = 33)) : smallB (pk L q) = false ∧ greatB (pk L q) = false ∧ digitB (pk L q) = false ∧ pk L q ≠ 34 := by
 rw [h];unfold smallB greatB digitB;simp;omega
theorem other_no {P : Ps} {L : Bs} {i q : Nat} (h : smallB (pk L q) = false ∧ greatB (pk L q) = false ∧ digitB (pk L q) = false ∧ pk L q ≠ 34) (hk : [2,1,3,4].contains (P.kind i) = false) (hs : P.stop i [2,1,3,4] = (q : Int)) : Rel P L (psTerm P i) (rTerm L q) := by
 rw [psTerm_no hk,rTerm_other h.2.1 h.2.2.1 h.2.2.2,rName_no h.1,hs];exact rfl
theorem name_ok {L : Bs} {q : Nat} (hs : smallB (pk L q) = true) {W : Bs} {e : Nat} (h : rRun L q = .ok (W,e)) : rName L q = if reservedB W then .error (e : Int) else .ok (W,e) := by
 unfold rName;rw [if_pos hs,h];rfl
theorem name_err {L : Bs} {q : Nat} (hs : smallB (pk L q) = true) {x : Int} (h : rRun L q = .error x) : rName L q = .error x := by
 unfold rName;rw [if_pos hs,h];rfl
theorem eq_term {P : Ps} {L : Bs} {i q : Nat} (h : At P L i q) : Rel P L (psTerm P i) (rTerm L q) := by
 have h' := h
 cases h with
 | fin h1 h2 h3 h4 => exact other_no (sgn_other h1 (.inl rfl)) (has_no (by decide) (kind_at_end h2)) (by rw [stop_end h2,if_pos h3,h4])
 | none h0 h1 h2 h3 h4 => exact other_no ⟨h1.1,h1.2.1,h1.2.2.1,h1.2.2.2.1⟩ (has_no (by decide) (kind_at_end h2)) (by rw [stop_end h2,if_pos h3,h4])
 | halfQ h1 h2 h3 h4 e h5 h6 =>
  rw [psTerm_no (has_no (by decide) (kind_at_end h2)),stop_end h2,if_neg (by omega),if_pos (by rw [h3];decide)]
  have : rTerm L q = .error e := by
   unfold rTerm rText rSign;rw [h1];show ((rQuo L (q + 1)).bind _) = _;rw [h5];rfl
  rw [this,h6];exact rfl
 | half2 c d k h0 h1 h2 h3 h4 h5 h6 =>
  refine other_no (sgn_other h1 (by unfold sgn2 at h0;omega)) (has_no (by decide) (kind_at_end h3)) ?_;rw [stop_end h3,if_neg (by rw [h4];unfold sgn2 at h0;omega),if_neg,h5];rw [h4];unfold sgn2 at h0;rcases h0 with ⟨_,_,rfl⟩ | ⟨_,_,rfl⟩ <;> decide
 | str h1 h2 h3 b e h4 h5 h6 j h7 =>
  rw [psTerm_yes (by rw [h2];decide)]
  have : rTerm L q = .ok ((false,mk b),e) := by
   unfold rTerm rText rSign;rw [h1];show (((rQuo L (q + 1))).bind _) = _;rw [h4];rfl
  rw [this];exact ⟨by rw [h2,h5];rfl,j,h7⟩
 | sign1 c k h0 h1 h2 h3 h4 j h5 =>
  refine other_no (sgn_other h1 (by unfold sgn1 at h0;omega)) ?_ ?_
  · rw [h2];unfold sgn1 at h0;rcases h0 with ⟨_,rfl⟩ | ⟨_,rfl⟩ | ⟨_,rfl⟩ | ⟨_,rfl⟩ | ⟨_,rfl⟩ <;> decide
  · rw [stop_tok h4,if_neg (by rw [h2];unfold sgn1 at h0;omega),h3]
 | sign2 c d k h0 h1 h2 h3 h4 h5 j h6 =>
  refine other_no (sgn_other h1 (by unfold sgn2 at h0;omega)) ?_ ?_
  · rw [h3];unfold sgn2 at h0;rcases h0 with ⟨_,_,rfl⟩ | ⟨_,_,rfl⟩ <;> decide
  · rw [stop_tok h5,if_neg (by rw [h3];unfold sgn2 at h0;omega),h4]
 | small W h1 h2 h3 h4 h5 h6 e h7 h8 j h9 h10 =>
  obtain ⟨n1,n2,n3,-⟩ := small_not h1;rw [rTerm_other n1 n2 n3,name_ok h1 h8];rcases kindW_cases W h3 with ⟨g,hW⟩ | ⟨g,hW⟩ | ⟨g,hW⟩ | ⟨g,hr,-⟩
  · rw [psTerm_no (by rw [h2,g];decide),stop_tok h6,if_pos ⟨by rw [h2,g];decide,by decide⟩,h7,hW];exact rfl
  · rw [psTerm_no (by rw [h2,g];decide),stop_tok h6,if_pos ⟨by rw [h2,g];decide,by decide⟩,h7,hW];exact rfl
  · rw [psTerm_no (by rw [h2,g];decide),stop_tok h6,if_pos ⟨by rw [h2,g];decide,by decide⟩,h7,hW];exact rfl
  · rw [psTerm_yes (by rw [h2,g];decide),hr,h4,hr,h2,g];exact ⟨rfl,j,h9⟩
 | smallN h1 h2 h3 h4 h5 h6 =>
  obtain ⟨n1,n2,n3,-⟩ := small_not h1;rw [rTerm_other n1 n2 n3,name_err h1 h5,psTerm_yes (by rw [h2];decide)];exact ⟨h6,rfl⟩
 | great W h1 h2 h3 h4 h5 e h6 j h7 =>
  have : rTerm L q = .ok ((true,mk W),e) := by unfold rTerm;rw [if_pos h1,h6];rfl
  rw [this,psTerm_yes (by rw [h2];decide),h3,h2];exact ⟨rfl,j,h7⟩
 | greatN h1 h2 h3 h4 h5 h6 =>
  have : rTerm L q = .error (P.far : Int) := by unfold rTerm;rw [if_pos h1,h5];rfl
  rw [this,psTerm_yes (by rw [h2];decide)];exact ⟨h6,rfl⟩
 | digit W h1 h2 h3 h4 h5 h6 h7 h8 j h9 =>
  obtain ⟨n1,n2,n3,-⟩ := digit_not h1
  have : rTerm L q = .ok ((false,mk W),q + digN (L.drop q)) := by
   unfold rTerm rDigits;rw [n2,if_neg (by decide),if_pos h1,if_pos h7,h8,if_neg (by decide),← h6];rfl
  rw [this,psTerm_yes (by rw [h2];decide),h3,h2];exact ⟨rfl,j,h9⟩
 | digitN W h1 h2 h3 h4 h5 h6 h7 h8 =>
  obtain ⟨n1,n2,n3,-⟩ := digit_not h1
  have : rTerm L q = .error (P.far : Int) := by
   unfold rTerm;rw [n2,if_neg (by decide),if_pos h1,h7];rfl
  rw [this,psTerm_yes (by rw [h2];decide)];exact ⟨h8,rfl⟩
end Lx
end Go.Proofs.YtclioihichcpiaaDoor
/- Parse, plain: lists of terms, atoms, literals, bodies, rules: the parser tells what the reader tells. -/
namespace Go.Proofs.YtclioihichcpiaaDoor
open Go.RowKit Lx
namespace Lx
theorem Al.at_ {P : Ps} {L : Bs} {i p : Nat} {j : Bool} (h : Al P L i p j) : At P L i (rSkip L p) := h.what
theorem psArgsN_b (P : Ps) (n i : Nat) (l : List (Bool × ByteArray)) : psArgsN P (n + 1) i l = (psTerm P i).bind fun x => if P.kind x.2 = 10 ∧ n ≠ 0 then psArgsN P n (x.2 + 1) (l ++ [x.1]) else (P.take x.2 (if n = 0 then [9] else [9,10])).bind fun y => .ok (l ++ [x.1],y.2) := by
 rw [psArgsN]
 cases psTerm P i with
 | error e => rfl
 | ok r =>
  obtain ⟨t,j⟩ := r;show (if _ then _ else _) = (if _ then _ else _)
  split
  · rfl
  · cases P.take j (if n = 0 then [9] else [9,10]) <;> rfl
theorem sign_yes {L : Bs} {q : Nat} {c : Int} (h : pk L q = c) : rSign c L q = .ok (q + 1) := by unfold rSign;rw [if_pos h]
theorem sign_no {L : Bs} {q : Nat} {c : Int} (h : pk L q ≠ c) : rSign c L q = .error (q : Int) := by unfold rSign;rw [if_neg h]
/-- a sign that closes: taken by both, or by none -/
theorem eq_close {α : Type} {P : Ps} {L : Bs} {i p : Nat} {j : Bool} (h : Al P L i p j) {c k : Int} (hs : sgn1 c k) {ks : List Int} (hk : ks.contains k = true) (hno : P.kind i ≠ k → ks.contains (P.kind i) = false) (k1 : ks.contains 1 = false) (k4 : ks.contains 4 = false) (k13 : ks.contains 13 = false) (k14 : ks.contains 14 = false) (v : α) :
    Rel P L ((P.take i ks).bind fun y => .ok (v,y.2)) ((rSign c L (rSkip L p)).bind fun q => .ok (v,q)) := by
 rcases h.at_.one hs with ⟨h1,h2,j2,h3⟩ | ⟨h1,h2⟩
 · rw [take_yes (by rw [h1];exact hk),sign_yes h2];exact ⟨rfl,j2,h3⟩
 · rw [take_no (hno h1),sign_no h2,h.at_.stop_q k1 k4 k13 k14];exact rfl
theorem eq_argsN {P : Ps} {L : Bs} : ∀ (n i p : Nat) (j : Bool) (l : List (Bool × ByteArray)),Al P L i p j → Rel P L (psArgsN P (n + 1) i l) (rArgsN L (n + 1) p l)
  | n, i, p,j,l,h => by
    rw [psArgsN_b];show Rel P L _ ((rTerm L (rSkip L p)).bind fun x => if pk L (rSkip L x.2) = 44 then (if n = 0 then .error (rSkip L x.2 : Int) else rArgsN L n (rSkip L x.2 + 1) (l ++ [x.1])) else (rSign 41 L (rSkip L x.2)).bind fun q => .ok (l ++ [x.1],q))
    refine Rel.bind (f := fun v i => if P.kind i = 10 ∧ n ≠ 0 then psArgsN P n (i + 1) (l ++ [v]) else (P.take i (if n = 0 then [9] else [9,10])).bind fun y => .ok (l ++ [v],y.2)) (g := fun v q => if pk L (rSkip L q) = 44 then (if n = 0 then .error (rSkip L q : Int) else rArgsN L n (rSkip L q + 1) (l ++ [v])) else (rSign 41 L (rSkip L q)).bind fun q => .ok (l ++ [v],q)) (eq_term h.at_) ?_ ?_
    · intro v i2 p2 j2 h2;rcases h2.at_.one (c := 44) (k := 10) (.inr (.inr (.inl ⟨rfl,rfl⟩))) with ⟨a1,a2,j3,a3⟩ | ⟨a1,a2⟩
      · try dsimp only
        rw [if_pos a2]
        by_cases hn : n = 0
        · subst hn;rw [if_neg (fun h => h.2 rfl),if_pos rfl,if_pos rfl,take_no (by rw [a1];decide),h2.at_.stop_q (by decide) (by decide) (by decide) (by decide)];exact rfl
        · rw [if_pos ⟨a1,hn⟩,if_neg hn];obtain ⟨m,rfl⟩ : ∃ m,n = m + 1 := ⟨n - 1,by omega⟩;exact eq_argsN m _ _ _ _ a3
      · try dsimp only
        rw [if_neg (fun h => a1 h.1),if_neg a2]
        by_cases hn : n = 0
        · rw [if_pos hn];refine eq_close h2 (.inr (.inl ⟨rfl,rfl⟩)) (by decide) (fun hk => ?_) (by decide) (by decide) (by decide) (by decide) _;rw [Bool.eq_false_iff];intro hc;rw [List.contains_iff_mem] at hc;simp at hc;exact hk hc
        · rw [if_neg hn];refine eq_close h2 (.inr (.inl ⟨rfl,rfl⟩)) (by decide) (fun hk => ?_) (by decide) (by decide) (by decide) (by decide) _;rw [Bool.eq_false_iff];intro hc;rw [List.contains_iff_mem] at hc;simp at hc;rcases hc with hc | hc
          · exact hk hc
          · exact a1 hc
    · intro v i2 hd
      try dsimp only
      rw [if_neg (fun h => by rw [hd.kind] at h;exact absurd h.1 (by decide))];exact DeadOk.bind (DeadOk.take hd (by split <;> decide)) (f := fun _ k => .ok (l ++ [v],k)) fun _ k hk => hk
theorem eq_args {P : Ps} {L : Bs} {i p : Nat} {j : Bool} (h : Al P L i p j) : Rel P L (psArgs P i) (rArgs L p) := by
 unfold psArgs rArgs;rcases h.at_.one (c := 40) (k := 8) (.inl ⟨rfl,rfl⟩) with ⟨a1,a2,j3,a3⟩ | ⟨a1,a2⟩
 · rw [if_pos a1,if_pos a2];exact eq_argsN 15 _ _ _ _ a3
 · rw [if_neg a1,if_neg a2];obtain ⟨j2,h2⟩ := h.skip;exact ⟨rfl,j2,h2⟩
theorem dead_args {P : Ps} {L : Bs} {i : Nat} (h : Dead P L i) : DeadOk P L (psArgs P i) := by
 unfold psArgs;rw [if_neg (by rw [h.kind];decide)];exact h
/-! ### names -/
theorem eq_name {P : Ps} {L : Bs} {i q : Nat} (h : At P L i q) : Rel P L ((P.take i [1]).bind fun x => .ok (mk x.1.text,x.2)) ((rName L q).bind fun x => .ok (mk x.1,x.2)) := by
 have other : smallB (pk L q) = false → [1].contains (P.kind i) = false → P.stop i [1] = (q : Int) → Rel P L ((P.take i [1]).bind fun x => .ok (mk x.1.text,x.2)) ((rName L q).bind fun x => .ok (mk x.1,x.2)) := fun h1 h2 h3 => by
  rw [take_no h2,rName_no h1,h3];exact rfl
 cases h with
 | fin h1 h2 h3 h4 => exact other (sgn_other h1 (.inl rfl)).1 (has_no (by decide) (kind_at_end h2)) (by rw [stop_end h2,if_pos h3,h4])
 | none h0 h1 h2 h3 h4 => exact other h1.1 (has_no (by decide) (kind_at_end h2)) (by rw [stop_end h2,if_pos h3,h4])
 | halfQ h1 h2 h3 h4 e h5 h6 => exact other (by rw [h1];rfl) (has_no (by decide) (kind_at_end h2)) (by rw [stop_end h2,if_neg (by omega),if_neg (by rw [h3];decide),h4])
 | half2 c d k h0 h1 h2 h3 h4 h5 h6 =>
  refine other (sgn_other h1 (by unfold sgn2 at h0;omega)).1 (has_no (by decide) (kind_at_end h3)) ?_;rw [stop_end h3,if_neg (by rw [h4];unfold sgn2 at h0;omega),if_neg,h5];rw [h4];unfold sgn2 at h0;rcases h0 with ⟨_,_,rfl⟩ | ⟨_,_,rfl⟩ <;> decide
 | str h1 h2 h3 b e h4 h5 h6 j h7 => exact other (by rw [h1];rfl) (by rw [h2];decide) (by rw [stop_tok h6,if_neg (by rw [h2];omega),h3])
 | sign1 c k h0 h1 h2 h3 h4 j h5 =>
  refine other (sgn_other h1 (by unfold sgn1 at h0;omega)).1 ?_ ?_
  · rw [h2];unfold sgn1 at h0;rcases h0 with ⟨_,rfl⟩ | ⟨_,rfl⟩ | ⟨_,rfl⟩ | ⟨_,rfl⟩ | ⟨_,rfl⟩ <;> decide
  · rw [stop_tok h4,if_neg (by rw [h2];unfold sgn1 at h0;omega),h3]
 | sign2 c d k h0 h1 h2 h3 h4 h5 j h6 =>
  refine other (sgn_other h1 (by unfold sgn2 at h0;omega)).1 ?_ ?_
  · rw [h3];unfold sgn2 at h0;rcases h0 with ⟨_,_,rfl⟩ | ⟨_,_,rfl⟩ <;> decide
  · rw [stop_tok h5,if_neg (by rw [h3];unfold sgn2 at h0;omega),h4]
 | small W h1 h2 h3 h4 h5 h6 e h7 h8 j h9 h10 =>
  rw [name_ok h1 h8];rcases kindW_cases W h3 with ⟨g,hW⟩ | ⟨g,hW⟩ | ⟨g,hW⟩ | ⟨g,hr,-⟩
  · rw [take_no (by rw [h2,g];decide),stop_tok h6,if_pos ⟨by rw [h2,g];decide,by decide⟩,h7,hW];exact rfl
  · rw [take_no (by rw [h2,g];decide),stop_tok h6,if_pos ⟨by rw [h2,g];decide,by decide⟩,h7,hW];exact rfl
  · rw [take_no (by rw [h2,g];decide),stop_tok h6,if_pos ⟨by rw [h2,g];decide,by decide⟩,h7,hW];exact rfl
  · rw [take_yes (by rw [h2,g];decide),hr];refine ⟨?_,j,h9⟩;show mk (P.tok i).text = mk W;rw [h4,hr];rfl
 | smallN h1 h2 h3 h4 h5 h6 =>
  rw [name_err h1 h5,take_yes (by rw [h2];decide)];exact ⟨h6,rfl⟩
 | great W h1 h2 h3 h4 h5 e h6 j h7 => exact other (great_not h1).1 (by rw [h2];decide) (by rw [stop_tok h5,if_neg (by rw [h2];omega),h4])
 | greatN h1 h2 h3 h4 h5 h6 => exact other (great_not h1).1 (by rw [h2];decide) (by rw [stop_tok h4,if_neg (by rw [h2];omega),h3])
 | digit W h1 h2 h3 h4 h5 h6 h7 h8 j h9 => exact other (digit_not h1).1 (by rw [h2];decide) (by rw [stop_tok h5,if_neg (by rw [h2];omega),h4])
 | digitN W h1 h2 h3 h4 h5 h6 h7 h8 => exact other (digit_not h1).1 (by rw [h2];decide) (by rw [stop_tok h5,if_neg (by rw [h2];omega),h4])
theorem bind_ok {α β γ : Type} (A : Except Int α) (f : α → β) (g : β → Except Int γ) : (A.bind fun x => .ok (f x)).bind g = A.bind fun x => g (f x) := by cases A <;> rfl
theorem psAtom_b (P : Ps) (i : Nat) : psAtom P i = ((P.take i [1]).bind fun x => .ok (mk x.1.text,x.2)).bind fun x => (psArgs P x.2).bind fun a => .ok ((x.1,a.1),a.2) := by
 unfold psAtom
 cases P.take i [1] with
 | error e => rfl
 | ok r =>
  obtain ⟨t,j⟩ := r;show (match psArgs P j with | .error e => _ | .ok (l,k) => _) = ((psArgs P j).bind _);cases psArgs P j <;> rfl
theorem eq_atom {P : Ps} {L : Bs} {i q : Nat} (h : At P L i q) : Rel P L (psAtom P i) (rAtom L q) := by
 have e : rAtom L q = ((rName L q).bind fun x => .ok (mk x.1,x.2)).bind fun x => (rArgs L x.2).bind fun a => .ok ((x.1,a.1),a.2) := by
  unfold rAtom;rw [bind_ok]
 rw [e,psAtom_b];refine Rel.bind (f := fun v i => (psArgs P i).bind fun a => .ok ((v,a.1),a.2)) (g := fun v q => (rArgs L q).bind fun a => .ok ((v,a.1),a.2)) (eq_name h) ?_ ?_
 · intro v i2 p2 j2 h2;exact Rel.bind (f := fun a k => .ok ((v,a),k)) (g := fun a k => .ok ((v,a),k)) (eq_args h2) (fun a i3 p3 j3 h3 => ⟨rfl,j3,h3⟩) (fun a i3 h3 => h3)
 · intro v i2 hd;exact DeadOk.bind (f := fun a k => .ok ((v,a),k)) (dead_args hd) fun a k hk => hk
/-! ### literals -/
def psUnl (P : Ps) (t : Bool × ByteArray) (i : Nat) : Except Int (PLit × Nat) := (P.take i [14]).bind fun x => (psTerm P x.2).bind fun u => .ok (⟨3,⟨#[]⟩,[],t,u.1⟩,u.2)
theorem psUnlike_b (P : Ps) (i : Nat) : psUnlike P i = (psTerm P i).bind fun t => psUnl P t.1 t.2 := by
 unfold psUnlike psUnl
 cases psTerm P i with
 | error e => rfl
 | ok r =>
  obtain ⟨t,j⟩ := r;show (match P.take j [14] with | .error e => _ | .ok (_,k) => _) = ((P.take j [14]).bind _)
  cases P.take j [14] with
  | error e => rfl
  | ok r =>
   obtain ⟨x,k⟩ := r;show (match psTerm P k with | .error e => _ | .ok (u,m) => _) = ((psTerm P k).bind _);cases psTerm P k <;> rfl
theorem eq_unl {P : Ps} {L : Bs} {i p : Nat} {j : Bool} (t : Bool × ByteArray) (h : Al P L i p j) : Rel P L (psUnl P t i) (rUnlike L t p) := by
 unfold psUnl rUnlike;rcases h.at_.two (c := 33) (d := 61) (k := 14) (.inr ⟨rfl,rfl,rfl⟩) with ⟨a1,a2,a3,j2,a4⟩ | ⟨a1,a2,a3,a4,a5,a6⟩ | ⟨a1,a2,a3⟩
 · rw [take_yes (by rw [a1];decide),sign_yes a2];show Rel P L ((psTerm P (i + 1)).bind fun u => .ok (PLit.mk 3 ⟨#[]⟩ [] t u.1,u.2)) (((rSign 61 L (rSkip L p + 1)).bind fun q => (rTerm L (rSkip L q)).bind fun u => .ok (PLit.mk 3 ⟨#[]⟩ [] t u.1,u.2)));rw [sign_yes a3]
   show Rel P L ((psTerm P (i + 1)).bind fun u => .ok (PLit.mk 3 ⟨#[]⟩ [] t u.1,u.2)) ((rTerm L (rSkip L (rSkip L p + 1 + 1))).bind fun u => .ok (PLit.mk 3 ⟨#[]⟩ [] t u.1,u.2));exact Rel.bind (f := fun u k => .ok (PLit.mk 3 ⟨#[]⟩ [] t u,k)) (g := fun u k => .ok (PLit.mk 3 ⟨#[]⟩ [] t u,k)) (eq_term a4.at_) (fun u i3 p3 j3 h3 => ⟨rfl,j3,h3⟩) (fun u i3 h3 => h3)
 · rw [take_no (by rw [a1];decide),sign_yes a2];show Rel P L (.error _) (((rSign 61 L (rSkip L p + 1)).bind fun q => (rTerm L (rSkip L q)).bind fun u => .ok (PLit.mk 3 ⟨#[]⟩ [] t u.1,u.2)));rw [sign_no a3,stop_end a4,if_neg (by omega),if_pos (by rw [a5];decide),a6];exact rfl
 · have hs : P.stop i [14] = (rSkip L p : Int) := by
     have hq := h.at_;generalize rSkip L p = q at hq a2
     have tok : ∀ (hi : i < P.ts.length) (ha : (P.tok i).at_ = q),P.stop i [14] = (q : Int) := fun hi ha => by
      rw [stop_tok hi,if_neg (fun h => absurd h.2 (by decide)),ha]
     cases hq with
     | fin h1 h2 h3 h4 => rw [stop_end h2,if_pos h3,h4]
     | none h0 h1 h2 h3 h4 => rw [stop_end h2,if_pos h3,h4]
     | halfQ h1 h2 h3 h4 e h5 h6 => rw [stop_end h2,if_neg (by omega),if_neg (by rw [h3];decide),h4]
     | half2 c d k h0 h1 h2 h3 h4 h5 h6 =>
      have hk : k = 13 := by
       have := a3 h3;unfold sgn2 at h0;omega
      rw [stop_end h3,if_neg (by omega),if_neg (by rw [h4,hk];decide),h5]
     | str h1 h2 h3 b e h4 h5 h6 j h7 => exact tok h6 h3
     | sign1 c k h0 h1 h2 h3 h4 j h5 => exact tok h4 h3
     | sign2 c d k h0 h1 h2 h3 h4 h5 j h6 => exact tok h5 h4
     | small W h1 h2 h3 h4 h5 h6 e h7 h8 j h9 h10 => exact tok h6 h5
     | smallN h1 h2 h3 h4 h5 h6 => exact tok h4 h3
     | great W h1 h2 h3 h4 h5 e h6 j h7 => exact tok h5 h4
     | greatN h1 h2 h3 h4 h5 h6 => exact tok h4 h3
     | digit W h1 h2 h3 h4 h5 h6 h7 h8 j h9 => exact tok h5 h4
     | digitN W h1 h2 h3 h4 h5 h6 h7 h8 => exact tok h5 h4
   rw [take_no (by rw [Bool.eq_false_iff];intro hc;rw [List.contains_iff_mem] at hc;simp at hc;exact a1 hc),sign_no a2,hs];exact rfl
theorem dead_unl {P : Ps} {L : Bs} {i : Nat} (t : Bool × ByteArray) (h : Dead P L i) : DeadOk P L (psUnl P t i) := by
 unfold psUnl;rw [h.take (by decide)];exact rfl
def litOf (k : Int) (a : ByteArray × List (Bool × ByteArray)) : PLit := ⟨k,a.1,a.2,(false,⟨#[]⟩),(false,⟨#[]⟩)⟩
/-- the token behind a name: is it !=, whole or begun? -/
theorem unlike_next {P : Ps} {L : Bs} {i p : Nat} {j : Bool} (h : Al P L (i + 1) p j) : unlikeNext P i = true ↔ pk L (rSkip L p) = 33 := by
 unfold unlikeNext;have hh := h.at_;generalize rSkip L p = q at hh
 have no : ¬ pk L q = 33 → P.kind (i + 1) ≠ 14 → (i + 1 = P.ts.length → P.op.kind ≠ 14) → (((decide (i + 1 < P.ts.length) && P.kind (i + 1) == 14) || (decide (i + 1 = P.ts.length) && P.op.kind == 14)) = true ↔ pk L q = 33) := fun h1 h2 h3 => by
  constructor
  · intro h;simp only [Bool.or_eq_true,Bool.and_eq_true,decide_eq_true_eq,beq_iff_eq] at h;rcases h with ⟨_,h⟩ | ⟨h,h'⟩
    · exact absurd h h2
    · exact absurd h' (h3 h)
  · intro h;exact absurd h h1
 rcases hh.two (c := 33) (d := 61) (k := 14) (.inr ⟨rfl,rfl,rfl⟩) with ⟨a1,a2,a3,j2,a4⟩ | ⟨a1,a2,a3,a4,a5,a6⟩ | ⟨a1,a2,a3⟩
 · have hlt : i + 1 < P.ts.length := kind_lt (by rw [a1];decide);exact ⟨fun _ => a2,fun _ => by rw [a1,decide_eq_true hlt];rfl⟩
 · exact ⟨fun _ => a2,fun _ => by rw [a5,decide_eq_true a4];simp⟩
 · exact no a2 a1 a3
theorem psLit_pos {P : Ps} {i : Nat} (h1 : P.kind i = 1) (hu : ¬ unlikeNext P i = true) : psLit P i = (psArgs P (i + 1)).bind fun a => .ok (litOf 1 (mk (P.tok i).text,a.1),a.2) := by
 unfold psLit psAtom;rw [if_neg (by omega),if_pos h1,if_neg hu,take_yes (by rw [h1];decide)];dsimp only;cases psArgs P (i + 1) <;> rfl
theorem eq_lit {P : Ps} {L : Bs} {i p : Nat} {j : Bool} (h : Al P L i p j) : Rel P L (psLit P i) (rLit L (rSkip L p)) := by
 have hh := h.at_;generalize rSkip L p = q at hh
 -- a term ahead
 have term : smallB (pk L q) = false → psLit P i = psUnlike P i → Rel P L (psLit P i) (rLit L q) := fun h1 h2 => by
  rw [h2,psUnlike_b];unfold rLit;rw [h1,if_neg (by decide)];exact Rel.bind (f := fun t k => psUnl P t k) (g := fun t k => rUnlike L t k) (eq_term hh) (fun t i2 p2 j2 h2 => eq_unl t h2) (fun t i2 hd => dead_unl t hd)
 -- nothing that begins a literal
 have bad : smallB (pk L q) = false ∧ greatB (pk L q) = false ∧ digitB (pk L q) = false ∧ pk L q ≠ 34 → ¬ P.kind i = 7 → ¬ P.kind i = 1 → ¬ (P.kind i = 2 ∨ P.kind i = 3 ∨ P.kind i = 4) → P.stop i [7,1,2,3,4] = (q : Int) → Rel P L (psLit P i) (rLit L q) := fun h1 h7 h11 h2 h3 => by
  have e1 : psLit P i = .error (q : Int) := by unfold psLit;rw [if_neg h7,if_neg h11,if_neg h2,h3]
  have e2 : rLit L q = .error (q : Int) := by
   unfold rLit;rw [h1.1,if_neg (by decide),rTerm_other h1.2.1 h1.2.2.1 h1.2.2.2,rName_no h1.1];rfl
  rw [e1,e2];exact rfl
 have h' := hh
 cases hh with
 | fin h1 h2 h3 h4 => exact bad (sgn_other h1 (.inl rfl)) (by rw [kind_at_end h2];decide) (by rw [kind_at_end h2];decide) (by rw [kind_at_end h2];decide) (by rw [stop_end h2,if_pos h3,h4])
 | none h0 h1 h2 h3 h4 => exact bad ⟨h1.1,h1.2.1,h1.2.2.1,h1.2.2.2.1⟩ (by rw [kind_at_end h2];decide) (by rw [kind_at_end h2];decide) (by rw [kind_at_end h2];decide) (by rw [stop_end h2,if_pos h3,h4])
 | halfQ h1 h2 h3 h4 e h5 h6 =>
  have e1 : psLit P i = .error (P.far : Int) := by
   unfold psLit;rw [if_neg (by rw [kind_at_end h2];decide),if_neg (by rw [kind_at_end h2];decide),if_neg (by rw [kind_at_end h2];decide),stop_end h2,if_neg (by omega),if_pos (by rw [h3];decide)]
  have e2 : rLit L q = .error e := by
   unfold rLit;rw [h1];show ((rTerm L q).bind _) = _;unfold rTerm rText rSign;rw [h1];show ((((rQuo L (q + 1)).bind _)).bind _) = _;rw [h5];rfl
  rw [e1,e2,h6];exact rfl
 | half2 c d k h0 h1 h2 h3 h4 h5 h6 =>
  refine bad (sgn_other h1 (by unfold sgn2 at h0;omega)) (by rw [kind_at_end h3];decide) (by rw [kind_at_end h3];decide) (by rw [kind_at_end h3];decide) ?_;rw [stop_end h3,if_neg (by rw [h4];unfold sgn2 at h0;omega),if_neg,h5];rw [h4];unfold sgn2 at h0;rcases h0 with ⟨_,_,rfl⟩ | ⟨_,_,rfl⟩ <;> decide
 | str h1 h2 h3 b e h4 h5 h6 j h7 => exact term (by rw [h1];rfl) (by unfold psLit;rw [if_neg (by rw [h2];decide),if_neg (by rw [h2];decide),if_pos (by rw [h2];decide)])
 | sign1 c k h0 h1 h2 h3 h4 j h5 =>
  refine bad (sgn_other h1 (by unfold sgn1 at h0;omega)) ?_ ?_ ?_ ?_
  · rw [h2];unfold sgn1 at h0;omega
  · rw [h2];unfold sgn1 at h0;omega
  · rw [h2];unfold sgn1 at h0;omega
  · rw [stop_tok h4,if_neg (by rw [h2];unfold sgn1 at h0;omega),h3]
 | sign2 c d k h0 h1 h2 h3 h4 h5 j h6 =>
  refine bad (sgn_other h1 (by unfold sgn2 at h0;omega)) ?_ ?_ ?_ ?_
  · rw [h3];unfold sgn2 at h0;omega
  · rw [h3];unfold sgn2 at h0;omega
  · rw [h3];unfold sgn2 at h0;omega
  · rw [stop_tok h5,if_neg (by rw [h3];unfold sgn2 at h0;omega),h4]
 | small W h1 h2 h3 h4 h5 h6 e h7 h8 j h9 h10 =>
  have hr : rLit L q = if W = sNot then rNot L e else if reservedB W then .error (e : Int) else if pk L (rSkip L e) = 33 then rUnlike L (false,mk W) (rSkip L e) else (rArgs L (rSkip L e)).bind fun a => .ok (⟨1,mk W,a.1,(false,⟨#[]⟩),(false,⟨#[]⟩)⟩,a.2) := by
   unfold rLit;rw [if_pos h1,h8];rfl
  rw [hr];rcases kindW_cases W h3 with ⟨g,hW⟩ | ⟨g,hW⟩ | ⟨g,hW⟩ | ⟨g,hres,n1,n2,n3⟩
  · have e1 : psLit P i = .error (e : Int) := by
      unfold psLit;rw [if_neg (by rw [h2,g];decide),if_neg (by rw [h2,g];decide),if_neg (by rw [h2,g];decide),stop_tok h6,if_pos ⟨by rw [h2,g];decide,by decide⟩,h7]
    rw [e1,hW];exact rfl
  · have e1 : psLit P i = .error (e : Int) := by
      unfold psLit;rw [if_neg (by rw [h2,g];decide),if_neg (by rw [h2,g];decide),if_neg (by rw [h2,g];decide),stop_tok h6,if_pos ⟨by rw [h2,g];decide,by decide⟩,h7]
    rw [e1,hW];exact rfl
  · have e1 : psLit P i = (psAtom P (i + 1)).bind fun a => .ok (litOf 2 a.1,a.2) := by
      unfold psLit;rw [if_pos (by rw [h2,g])];cases psAtom P (i + 1) <;> rfl
    have e2 : rNot L e = (rAtom L (rSkip L e)).bind fun a => .ok (litOf 2 a.1,a.2) := by
     unfold rNot;rw [h10,if_neg (by decide)];rfl
    rw [e1,if_pos hW,e2];exact Rel.bind (f := fun a k => .ok (litOf 2 a,k)) (g := fun a k => .ok (litOf 2 a,k)) (eq_atom h9.at_) (fun a i3 p3 j3 h3 => ⟨rfl,j3,h3⟩) (fun a i3 h3 => h3)
  · have hun := unlike_next h9;have htx : (P.tok i).text = W := by rw [h4,hres];rfl
    rw [if_neg n3,hres,if_neg (by decide)];obtain ⟨j2,hsk⟩ := h9.skip
    by_cases h33 : pk L (rSkip L e) = 33
    · have hu := hun.2 h33
      have e1 : psLit P i = psUnl P (false,mk W) (i + 1) := by
       unfold psLit;rw [if_neg (by rw [h2,g];decide),if_pos (by rw [h2,g]),if_pos hu,psUnlike_b,psTerm_yes (by rw [h2,g];decide),htx,h2,g]
       rfl
      rw [e1,if_pos h33];exact eq_unl _ hsk
    · have hu : ¬ unlikeNext P i = true := fun hu => h33 (hun.1 hu)
      have e1 : psLit P i = (psArgs P (i + 1)).bind fun a => .ok (litOf 1 (mk W,a.1),a.2) := by
       rw [psLit_pos (by rw [h2,g]) hu,htx]
      rw [e1,if_neg h33];exact Rel.bind (f := fun a k => .ok (litOf 1 (mk W,a),k)) (g := fun a k => .ok (litOf 1 (mk W,a),k)) (eq_args hsk) (fun a i3 p3 j3 h3 => ⟨rfl,j3,h3⟩) (fun a i3 h3 => h3)
 | smallN h1 h2 h3 h4 h5 h6 =>
  have e2 : rLit L q = .error (P.far : Int) := by unfold rLit;rw [if_pos h1,h5];rfl
  have hu : ¬ unlikeNext P i = true := fun hu => by
   unfold unlikeNext at hu;have := h6.hi;rw [h6.kind,h6.op] at hu;simp [zeroTok] at hu
  have e1 : psLit P i = (psArgs P (i + 1)).bind fun a => .ok (litOf 1 (mk (P.tok i).text,a.1),a.2) := psLit_pos h2 hu
  have h7 : DeadOk P L (psLit P i) := by
   rw [e1];exact DeadOk.bind (f := fun a k => .ok (litOf 1 (mk (P.tok i).text,a),k)) (dead_args h6) fun a k hk => hk
  rw [e2]
  cases hx : psLit P i with
  | error x => rw [hx] at h7;exact h7
  | ok x => rw [hx] at h7;exact ⟨h7,rfl⟩
 | great W h1 h2 h3 h4 h5 e h6 j h7 => exact term (great_not h1).1 (by unfold psLit;rw [if_neg (by rw [h2];decide),if_neg (by rw [h2];decide),if_pos (by rw [h2];decide)])
 | greatN h1 h2 h3 h4 h5 h6 => exact term (great_not h1).1 (by unfold psLit;rw [if_neg (by rw [h2];decide),if_neg (by rw [h2];decide),if_pos (by rw [h2];decide)])
 | digit W h1 h2 h3 h4 h5 h6 h7 h8 j h9 => exact term (digit_not h1).1 (by unfold psLit;rw [if_neg (by rw [h2];decide),if_neg (by rw [h2];decide),if_pos (by rw [h2];decide)])
 | digitN W h1 h2 h3 h4 h5 h6 h7 h8 => exact term (digit_not h1).1 (by unfold psLit;rw [if_neg (by rw [h2];decide),if_neg (by rw [h2];decide),if_pos (by rw [h2];decide)])
end Lx
end Go.Proofs.YtclioihichcpiaaDoor
/- Parse, plain: rules, statements, programs: the parser tells what the reader tells. -/
namespace Go.Proofs.YtclioihichcpiaaDoor
open Go.RowKit Lx
namespace Lx
theorem At.stop_q2 {P : Ps} {L : Bs} {i q : Nat} (h : At P L i q) {ks : List Int} (k1 : ks.contains 1 = false) (hop : i = P.ts.length → P.op.kind ≠ 0 → ks.contains P.op.kind = false) : P.stop i ks = (q : Int) := by
 have tok : ∀ (hi : i < P.ts.length) (ha : (P.tok i).at_ = q),P.stop i ks = (q : Int) := fun hi ha => by
  rw [stop_tok hi,if_neg (fun h => by rw [k1] at h;exact absurd h.2 (by decide)),ha]
 cases h with
 | fin h1 h2 h3 h4 => rw [stop_end h2,if_pos h3,h4]
 | none h0 h1 h2 h3 h4 => rw [stop_end h2,if_pos h3,h4]
 | halfQ h1 h2 h3 h4 e h5 h6 => rw [stop_end h2,if_neg (by omega),if_neg (by rw [hop h2 (by omega)];decide),h4]
 | half2 c d k h0 h1 h2 h3 h4 h5 h6 =>
  have hk : P.op.kind ≠ 0 := by rw [h4];unfold sgn2 at h0;omega
  rw [stop_end h3,if_neg hk,if_neg (by rw [hop h3 hk];decide),h5]
 | str h1 h2 h3 b e h4 h5 h6 j h7 => exact tok h6 h3
 | sign1 c k h0 h1 h2 h3 h4 j h5 => exact tok h4 h3
 | sign2 c d k h0 h1 h2 h3 h4 h5 j h6 => exact tok h5 h4
 | small W h1 h2 h3 h4 h5 h6 e h7 h8 j h9 h10 => exact tok h6 h5
 | smallN h1 h2 h3 h4 h5 h6 => exact tok h4 h3
 | great W h1 h2 h3 h4 h5 e h6 j h7 => exact tok h5 h4
 | greatN h1 h2 h3 h4 h5 h6 => exact tok h4 h3
 | digit W h1 h2 h3 h4 h5 h6 h7 h8 j h9 => exact tok h5 h4
 | digitN W h1 h2 h3 h4 h5 h6 h7 h8 => exact tok h5 h4
theorem At.op_kinds {P : Ps} {L : Bs} {i q : Nat} (h : At P L i q) (hi : i = P.ts.length) : P.op.kind = 0 ∨ P.op.kind = 4 ∨ P.op.kind = 13 ∨ P.op.kind = 14 := by
 cases h with
 | fin h1 h2 h3 h4 => exact .inl h3
 | none h0 h1 h2 h3 h4 => exact .inl h3
 | halfQ h1 h2 h3 h4 e h5 h6 => exact .inr (.inl h3)
 | half2 c d k h0 h1 h2 h3 h4 h5 h6 => unfold sgn2 at h0;omega
 | str h1 h2 h3 b e h4 h5 h6 j h7 => omega
 | sign1 c k h0 h1 h2 h3 h4 j h5 => omega
 | sign2 c d k h0 h1 h2 h3 h4 h5 j h6 => omega
 | small W h1 h2 h3 h4 h5 h6 e h7 h8 j h9 h10 => omega
 | smallN h1 h2 h3 h4 h5 h6 => omega
 | great W h1 h2 h3 h4 h5 e h6 j h7 => omega
 | greatN h1 h2 h3 h4 h5 h6 => omega
 | digit W h1 h2 h3 h4 h5 h6 h7 h8 j h9 => omega
 | digitN W h1 h2 h3 h4 h5 h6 h7 h8 => omega
theorem has_not {ks : List Int} {k : Int} (h : ∀ x ∈ ks,x ≠ k) : ks.contains k = false := by
 rw [Bool.eq_false_iff];intro hc;rw [List.contains_iff_mem] at hc;exact h k hc rfl
/-! ### bodies and rules -/
theorem psBodyN_b (P : Ps) (n i : Nat) (l : List PLit) : psBodyN P (n + 1) i l = (psLit P i).bind fun x => if P.kind x.2 = 10 ∧ n ≠ 0 then psBodyN P n (x.2 + 1) (l ++ [x.1]) else (P.take x.2 [11]).bind fun y => .ok (l ++ [x.1],y.2) := by
 rw [psBodyN]
 cases psLit P i with
 | error e => rfl
 | ok r =>
  obtain ⟨t,j⟩ := r;show (if _ then _ else _) = (if _ then _ else _)
  split
  · rfl
  · cases P.take j [11] <;> rfl
theorem eq_bodyN {P : Ps} {L : Bs} : ∀ (n i p : Nat) (j : Bool) (l : List PLit),Al P L i p j → Rel P L (psBodyN P (n + 1) i l) (rBodyN L (n + 1) p l)
  | n, i,p,j,l,h => by
    rw [psBodyN_b];show Rel P L _ ((rLit L (rSkip L p)).bind fun x => if pk L (rSkip L x.2) = 44 then (if n = 0 then .error (rSkip L x.2 : Int) else rBodyN L n (rSkip L x.2 + 1) (l ++ [x.1])) else (rSign 46 L (rSkip L x.2)).bind fun q => .ok (l ++ [x.1],q))
    refine Rel.bind (f := fun v i => if P.kind i = 10 ∧ n ≠ 0 then psBodyN P n (i + 1) (l ++ [v]) else (P.take i [11]).bind fun y => .ok (l ++ [v],y.2)) (g := fun v q => if pk L (rSkip L q) = 44 then (if n = 0 then .error (rSkip L q : Int) else rBodyN L n (rSkip L q + 1) (l ++ [v])) else (rSign 46 L (rSkip L q)).bind fun q => .ok (l ++ [v],q)) (eq_lit h) ?_ ?_
    · intro v i2 p2 j2 h2;rcases h2.at_.one (c := 44) (k := 10) (.inr (.inr (.inl ⟨rfl,rfl⟩))) with ⟨a1,a2,j3,a3⟩ | ⟨a1,a2⟩
      · try dsimp only
        rw [if_pos a2]
        by_cases hn : n = 0
        · subst hn;rw [if_neg (fun h => h.2 rfl),if_pos rfl,take_no (by rw [a1];decide),h2.at_.stop_q (by decide) (by decide) (by decide) (by decide)];exact rfl
        · rw [if_pos ⟨a1,hn⟩,if_neg hn];obtain ⟨m,rfl⟩ : ∃ m,n = m + 1 := ⟨n - 1,by omega⟩;exact eq_bodyN m _ _ _ _ a3
      · try dsimp only
        rw [if_neg (fun h => a1 h.1),if_neg a2];refine eq_close h2 (.inr (.inr (.inr (.inl ⟨rfl,rfl⟩)))) (by decide) (fun hk => has_not ?_) (by decide) (by decide) (by decide) (by decide) _;intro x hx;simp at hx;omega
    · intro v i2 hd
      try dsimp only
      rw [if_neg (fun h => by rw [hd.kind] at h;exact absurd h.1 (by decide))];exact DeadOk.bind (DeadOk.take hd (by decide)) (f := fun _ k => .ok (l ++ [v],k)) fun _ k hk => hk
theorem psRule_b (P : Ps) (i : Nat) (pr : ByteArray) : psRule P i pr = (psArgs P i).bind fun a => if P.kind a.2 = 13 then (psBodyN P 256 (a.2 + 1) []).bind fun b => .ok (⟨pr,a.1,b.1⟩,b.2) else (P.take a.2 [11,13]).bind fun y => .ok (⟨pr,a.1,[]⟩,y.2) := by
 unfold psRule
 cases psArgs P i with
 | error e => rfl
 | ok r =>
  obtain ⟨a,j⟩ := r;show (if _ then _ else _) = (if _ then _ else _)
  split
  · cases psBodyN P 256 (j + 1) [] <;> rfl
  · cases P.take j [11,13] <;> rfl
theorem eq_body {P : Ps} {L : Bs} {i p : Nat} {j : Bool} (h : Al P L i p j) (pr : ByteArray) (a : List (Bool × ByteArray)) :
    Rel P L (if P.kind i = 13 then (psBodyN P 256 (i + 1) []).bind fun b => .ok (PRule.mk pr a b.1,b.2) else (P.take i [11,13]).bind fun y => .ok (PRule.mk pr a [],y.2)) ((rBody L p).bind fun b => .ok (PRule.mk pr a b.1,b.2)) := by
 unfold rBody;rcases h.at_.two (c := 58) (d := 45) (k := 13) (.inl ⟨rfl,rfl,rfl⟩) with ⟨a1,a2,a3,j2,a4⟩ | ⟨a1,a2,a3,a4,a5,a6⟩ | ⟨a1,a2,a3⟩
 · rw [if_pos a1,if_pos a2,sign_yes a3];exact Rel.bind (f := fun b k => .ok (PRule.mk pr a b,k)) (g := fun b k => .ok (PRule.mk pr a b,k)) (eq_bodyN 255 _ _ _ _ a4) (fun b i3 p3 j3 h3 => ⟨rfl,j3,h3⟩) (fun b i3 h3 => h3)
 · rw [if_neg (by rw [a1];decide),if_pos a2,sign_no a3,take_no (by rw [a1];decide),stop_end a4,if_neg (by omega),if_pos (by rw [a5];decide),a6];exact rfl
 · rw [if_neg a1,if_neg a2];rcases h.at_.one (c := 46) (k := 11) (.inr (.inr (.inr (.inl ⟨rfl,rfl⟩)))) with ⟨b1,b2,j3,b3⟩ | ⟨b1,b2⟩
   · rw [take_yes (by rw [b1];decide),sign_yes b2];exact ⟨rfl,j3,b3⟩
   · rw [take_no (has_not (fun x hx => by simp at hx;omega)),sign_no b2,h.at_.stop_q2 (by decide) (fun hi h0 => has_not (fun x hx => by
       have h1 := h.at_.op_kinds hi;have h2 := a3 hi;simp at hx;omega))]
     exact rfl
theorem eq_ruleOf {P : Ps} {L : Bs} {i p : Nat} {j : Bool} (h : Al P L i p j) (pr : ByteArray) : Rel P L (psRule P i pr) (rRuleOf L pr p) := by
 rw [psRule_b]
 exact Rel.bind (f := fun a k => if P.kind k = 13 then (psBodyN P 256 (k + 1) []).bind fun b => .ok (PRule.mk pr a b.1,b.2) else (P.take k [11,13]).bind fun y => .ok (PRule.mk pr a [],y.2)) (g := fun a k => (rBody L k).bind fun b => .ok (PRule.mk pr a b.1,b.2)) (eq_args h) (fun a i2 p2 j2 h2 => eq_body h2 pr a) (fun a i2 hd => by
  try dsimp only
  rw [if_neg (by rw [hd.kind];decide)];exact DeadOk.bind (DeadOk.take hd (by decide)) (f := fun _ k => .ok (PRule.mk pr a [],k)) fun _ k hk => hk)
theorem dead_rule {P : Ps} {L : Bs} {i : Nat} (h : Dead P L i) (pr : ByteArray) : DeadOk P L (psRule P i pr) := by
 rw [psRule_b]
 exact DeadOk.bind (f := fun a k => if P.kind k = 13 then (psBodyN P 256 (k + 1) []).bind fun b => .ok (PRule.mk pr a b.1,b.2) else (P.take k [11,13]).bind fun y => .ok (PRule.mk pr a [],y.2)) (dead_args h) fun a k hd => by
  try dsimp only
  rw [if_neg (by rw [hd.kind];decide)];exact DeadOk.bind (DeadOk.take hd (by decide)) (f := fun _ k => .ok (PRule.mk pr a [],k)) fun _ k hk => hk
/-! ### strings -/
theorem eq_text {P : Ps} {L : Bs} {i q : Nat} (h : At P L i q) : Rel P L ((P.take i [4]).bind fun x => .ok (x.1.text,x.2)) (rText L q) := by
 have hh := h
 have other : pk L q ≠ 34 → P.kind i ≠ 4 → P.op.kind ≠ 4 ∨ i ≠ P.ts.length → Rel P L ((P.take i [4]).bind fun x => .ok (x.1.text,x.2)) (rText L q) := fun h1 h2 h3 => by
  unfold rText;rw [take_no (has_not (fun x hx => by simp at hx;omega)),sign_no h1,hh.stop_q2 (by decide) (fun hi h0 => has_not (fun x hx => by simp at hx;omega))];exact rfl
 cases h with
 | fin h1 h2 h3 h4 => exact other (by rw [h1];decide) (by rw [kind_at_end h2];decide) (.inl (by omega))
 | none h0 h1 h2 h3 h4 => exact other h1.2.2.2.1 (by rw [kind_at_end h2];decide) (.inl (by omega))
 | halfQ h1 h2 h3 h4 e h5 h6 =>
  unfold rText;rw [take_no (by rw [kind_at_end h2];decide),stop_end h2,if_neg (by omega),if_pos (by rw [h3];decide),sign_yes h1];show Rel P L (.error _) (rQuo L (q + 1));rw [h5,h6];exact rfl
 | half2 c d k h0 h1 h2 h3 h4 h5 h6 => exact other (by rw [h1];unfold sgn2 at h0;omega) (by rw [kind_at_end h3];decide) (.inl (by rw [h4];unfold sgn2 at h0;omega))
 | str h1 h2 h3 b e h4 h5 h6 j h7 =>
  unfold rText;rw [take_yes (by rw [h2];decide),sign_yes h1];show Rel P L (.ok _) (rQuo L (q + 1));rw [h4];exact ⟨h5,j,h7⟩
 | sign1 c k h0 h1 h2 h3 h4 j h5 => exact other (by rw [h1];unfold sgn1 at h0;omega) (by rw [h2];unfold sgn1 at h0;omega) (.inr (by omega))
 | sign2 c d k h0 h1 h2 h3 h4 h5 j h6 => exact other (by rw [h1];unfold sgn2 at h0;omega) (by rw [h3];unfold sgn2 at h0;omega) (.inr (by omega))
 | small W h1 h2 h3 h4 h5 h6 e h7 h8 j h9 h10 =>
  refine other (small_not h1).2.2.1 ?_ (.inr (by omega));rw [h2];rcases kindW_cases W h3 with h | h | h | h <;> omega
 | smallN h1 h2 h3 h4 h5 h6 => exact other (small_not h1).2.2.1 (by omega) (.inr (by omega))
 | great W h1 h2 h3 h4 h5 e h6 j h7 => exact other (great_not h1).2.2.1 (by omega) (.inr (by omega))
 | greatN h1 h2 h3 h4 h5 h6 => exact other (great_not h1).2.2.1 (by omega) (.inr (by omega))
 | digit W h1 h2 h3 h4 h5 h6 h7 h8 j h9 => exact other (digit_not h1).2.2.1 (by omega) (.inr (by omega))
 | digitN W h1 h2 h3 h4 h5 h6 h7 h8 => exact other (digit_not h1).2.2.1 (by omega) (.inr (by omega))
/-! ### arities -/
/-- what stands of an arity, k digits being read -/
def numI (k : Nat) (n : Int) : Prop := (k = 0 ∧ n = 0) ∨ (k = 1 ∧ 0 ≤ n ∧ n ≤ 9) ∨ (k = 2 ∧ 10 ≤ n ∧ n ≤ 16)
theorem digits_eq {L : Bs} {q : Nat} {s : ByteArray} (hb : ∀ j,j < s.size → bat s j = pk L (q + j) ∧ digitB (pk L (q + j)) = true) (hend : digitB (pk L (q + s.size)) = false ∨ 3 ≤ s.size) :
    ∀ (f k : Nat) (n : Int) (f' : Nat),numI k n → f' + k = 4 → k + f = s.size → (∃ x,psDigits (q : Int) s f k n = .error x ∧ rArN L f' k n (q + k) = .error x) ∨ (∃ m,psDigits (q : Int) s f k n = .ok m ∧ rArN L f' k n (q + k) = .ok (m,q + s.size))
  | 0, k,n,f',hi,hf,hk => by
    have hk3 : k ≤ 2 := by unfold numI at hi;omega
    have hd : digitB (pk L (q + k)) = false := by
      rcases hend with h | h
      · rw [show k = s.size from by omega];exact h
      · omega
    obtain ⟨g,rfl⟩ : ∃ g,f' = g + 1 := ⟨f' - 1,by omega⟩;refine .inr ⟨n,rfl,?_⟩;unfold rArN;rw [hd,if_neg (by decide),show q + s.size = q + k from by omega]
  | f + 1,k,n,f',hi,hf,hk => by
    have hk3 : k ≤ 2 := by unfold numI at hi;omega
    obtain ⟨g,rfl⟩ : ∃ g,f' = g + 1 := ⟨f' - 1,by omega⟩;obtain ⟨h1,h2⟩ := hb k (by omega);have h2' := h2;unfold digitB at h2';simp at h2';unfold psDigits rArN;rw [h1,if_pos h2,show (pk L (q + k) - 48) % 256 = pk L (q + k) - 48 from by omega]
    by_cases hc : 16 < 10 * n + (pk L (q + k) - 48) ∨ (0 < k ∧ n = 0)
    · rw [if_pos hc,if_pos hc];exact .inl ⟨_,rfl,by simp⟩
    · rw [if_neg hc,if_neg hc];have := digits_eq hb hend f (k + 1) (10 * n + (pk L (q + k) - 48)) g (by unfold numI at hi ⊢;omega) (by omega) (by omega);rw [← Nat.add_assoc] at this;exact this
def numK (k : Nat) (r : Except Int Int) : Except Int (Int × Nat) := match r with
  | .error e => .error e
  | .ok n => .ok (n,k)
def psNum (P : Ps) (i : Nat) : Except Int (Int × Nat) := (P.take i [3]).bind fun z => numK z.2 (psDigits z.1.at_ (mk z.1.text) (mk z.1.text).size 0 0)
theorem bat_take {L : Bs} {q n j : Nat} (hj : j < (mk ((L.drop q).take n)).size) : bat (mk ((L.drop q).take n)) j = pk L (q + j) := by
 have hl : (mk ((L.drop q).take n)).size = ((L.drop q).take n).length := by rw [← bl_length,bl_mk]
 rw [hl] at hj;unfold bat pk;rw [bl_mk,List.getD_eq_getElem?_getD,List.getElem?_eq_getElem hj]
 have h2 : L[q + j]? = some ((L.drop q).take n)[j] := by
  rw [List.getElem_take,List.getElem_drop];have : q + j < L.length := by rw [List.length_take,List.length_drop] at hj;omega
  rw [List.getElem?_eq_getElem this]
 rw [h2];rfl
theorem eq_num {P : Ps} {L : Bs} {i q : Nat} (h : At P L i q) : Rel P L (psNum P i) (rArity L q) := by
 have hh := h
 have other : digitB (pk L q) = false → P.kind i ≠ 3 → Rel P L (psNum P i) (rArity L q) := fun h1 h2 => by
  unfold psNum rArity;rw [take_no (has_not (fun x hx => by simp at hx;omega)),h1,if_neg (by decide),hh.stop_q (by decide) (by decide) (by decide) (by decide)];exact rfl
 have dig : ∀ (W : Bs) (n : Nat),digitB (pk L q) = true → P.kind i = 3 → (P.tok i).text = W → (P.tok i).at_ = q → W = (L.drop q).take n → n ≤ digN (L.drop q) → (n = digN (L.drop q) ∨ 3 ≤ n) →
     (∃ x,psNum P i = .error x ∧ rArN L 4 0 0 q = .error x) ∨ (∃ m,psNum P i = .ok (m,i + 1) ∧ rArN L 4 0 0 q = .ok (m,q + n)) := fun W n h1 h2 h3 h4 h5 h6 h7 => by
   have hsz : (mk W).size = n := by
    rw [← bl_length,bl_mk,h5,List.length_take];have := digN_le (L.drop q);omega
   have hd := digits_eq (L := L) (q := q) (s := mk W) (fun j hj => by
    refine ⟨by rw [h5] at hj ⊢;exact bat_take hj,dig_at (by omega)⟩) (by
    rw [hsz];rcases h7 with h | h
    · left;rw [h];exact dig_stop
    · exact .inr h) (mk W).size 0 0 4 (.inl ⟨rfl,rfl⟩) rfl (by omega)
   have e1 : psNum P i = numK (i + 1) (psDigits ((P.tok i).at_ : Int) (mk (P.tok i).text) (mk (P.tok i).text).size 0 0) := by
    unfold psNum;rw [take_yes (by rw [h2];decide)];rfl
   rw [e1,h3,h4];rcases hd with ⟨x,d1,d2⟩ | ⟨m,d1,d2⟩
   · left;exact ⟨x,by rw [d1];rfl,d2⟩
   · right;exact ⟨m,by rw [d1];rfl,by rw [hsz] at d2;exact d2⟩
 cases h with
 | fin h1 h2 h3 h4 => exact other (by rw [h1];rfl) (by rw [kind_at_end h2];decide)
 | none h0 h1 h2 h3 h4 => exact other h1.2.2.1 (by rw [kind_at_end h2];decide)
 | halfQ h1 h2 h3 h4 e h5 h6 => exact other (by rw [h1];rfl) (by rw [kind_at_end h2];decide)
 | half2 c d k h0 h1 h2 h3 h4 h5 h6 => exact other (sgn_other h1 (by unfold sgn2 at h0;omega)).2.2.1 (by rw [kind_at_end h3];decide)
 | str h1 h2 h3 b e h4 h5 h6 j h7 => exact other (by rw [h1];rfl) (by omega)
 | sign1 c k h0 h1 h2 h3 h4 j h5 => exact other (sgn_other h1 (by unfold sgn1 at h0;omega)).2.2.1 (by rw [h2];unfold sgn1 at h0;omega)
 | sign2 c d k h0 h1 h2 h3 h4 h5 j h6 => exact other (sgn_other h1 (by unfold sgn2 at h0;omega)).2.2.1 (by rw [h3];unfold sgn2 at h0;omega)
 | small W h1 h2 h3 h4 h5 h6 e h7 h8 j h9 h10 =>
  refine other (small_not h1).2.1 ?_;rw [h2];rcases kindW_cases W h3 with h | h | h | h <;> omega
 | smallN h1 h2 h3 h4 h5 h6 => exact other (small_not h1).2.1 (by omega)
 | great W h1 h2 h3 h4 h5 e h6 j h7 => exact other (great_not h1).2.1 (by omega)
 | greatN h1 h2 h3 h4 h5 h6 => exact other (great_not h1).2.1 (by omega)
 | digit W h1 h2 h3 h4 h5 h6 h7 h8 j h9 =>
  have hr : rArity L q = (rArN L 4 0 0 q).bind fun x => if wordlyI (pk L x.2) then .error (x.2 : Int) else .ok x := by unfold rArity;rw [if_pos h1]
  rw [hr];rcases dig W _ h1 h2 h3 h4 h6 (Nat.le_refl _) (.inl rfl) with ⟨x,d1,d2⟩ | ⟨m,d1,d2⟩
  · rw [d1,d2];exact rfl
  · rw [d1,d2];show Rel P L (.ok (m,i + 1)) (if wordlyI (pk L (q + digN (L.drop q))) then .error _ else .ok (m,q + digN (L.drop q)));rw [h8,if_neg (by decide)];exact ⟨rfl,j,h9⟩
 | digitN W h1 h2 h3 h4 h5 h6 h7 h8 =>
  have hr : rArity L q = (rArN L 4 0 0 q).bind fun x => if wordlyI (pk L x.2) then .error (x.2 : Int) else .ok x := by unfold rArity;rw [if_pos h1]
  rw [hr];have hp := digN_pos h1;rcases Nat.lt_or_ge 64 (digN (L.drop q)) with hn | hn
  · rw [Nat.min_eq_left (by omega)] at h6;rcases dig W 64 h1 h2 h3 h4 h6 (by omega) (.inr (by omega)) with ⟨x,d1,d2⟩ | ⟨m,d1,d2⟩
    · rw [d1,d2];exact rfl
    · -- the next digit would be read too
      rw [d1,d2];have hfar : rDigits L q = .error ((q + 64 : Nat) : Int) := by unfold rDigits;rw [if_neg (by omega)]
      rw [hfar] at h7;injection h7 with h7
      have hw : wordlyI (pk L (q + 64)) = true := by
       have := dig_at hn;unfold wordlyI;rw [this];simp
      show Rel P L (.ok (m,i + 1)) (if wordlyI (pk L (q + 64)) then .error ((q + 64 : Nat) : Int) else _);rw [hw,if_pos rfl];exact ⟨h8,h7⟩
  · rw [Nat.min_eq_right hn] at h6
    have hfar : ∃ x,rDigits L q = .error x ∧ (wordlyI (pk L (q + digN (L.drop q))) = true ∧ x = ((q + digN (L.drop q) : Nat) : Int)) := by
     unfold rDigits at h7 ⊢;rw [if_pos hn] at h7 ⊢
     cases hw : wordlyI (pk L (q + digN (L.drop q))) with
     | false => rw [hw,if_neg (by decide)] at h7;cases h7
     | true => exact ⟨_,by rw [if_pos rfl],rfl,rfl⟩
    obtain ⟨x,hx,hw,rfl⟩ := hfar;rw [hx] at h7;injection h7 with h7;rcases dig W _ h1 h2 h3 h4 h6 (Nat.le_refl _) (.inl rfl) with ⟨x,d1,d2⟩ | ⟨m,d1,d2⟩
    · rw [d1,d2];exact rfl
    · rw [d1,d2];show Rel P L (.ok (m,i + 1)) (if wordlyI (pk L (q + digN (L.drop q))) then .error ((q + digN (L.drop q) : Nat) : Int) else _);rw [hw,if_pos rfl];exact ⟨h8,h7⟩
end Lx
end Go.Proofs.YtclioihichcpiaaDoor
/- Parse, plain: statements, programs, a rule alone: the parser tells what the reader tells. -/
namespace Go.Proofs.YtclioihichcpiaaDoor
open Go.RowKit Lx
namespace Lx
theorem psArity_b (P : Ps) (i : Nat) : psArity P i = ((P.take i [1]).bind fun x => .ok (mk x.1.text,x.2)).bind fun x => (P.take x.2 [12]).bind fun y => (psNum P y.2).bind fun n => .ok ((x.1,n.1),n.2) := by
 unfold psArity
 cases P.take i [1] with
 | error e => rfl
 | ok r =>
  obtain ⟨t,j⟩ := r;show (match P.take j [12] with | .error e => Except.error e | .ok (_,k) => match P.take k [3] with | .error e => Except.error e | .ok (u,m) => match psDigits u.at_ (mk u.text) (mk u.text).size 0 0 with | .error e => Except.error e | .ok n => Except.ok ((mk t.text,n),m)) = ((P.take j [12]).bind fun y => (psNum P y.2).bind fun n => .ok ((mk t.text,n.1),n.2))
  cases P.take j [12] with
  | error e => rfl
  | ok r =>
   obtain ⟨y,k⟩ := r;show (match P.take k [3] with | .error e => Except.error e | .ok (u,m) => match psDigits u.at_ (mk u.text) (mk u.text).size 0 0 with | .error e => Except.error e | .ok n => Except.ok ((mk t.text,n),m)) = ((psNum P k).bind fun n => .ok ((mk t.text,n.1),n.2));unfold psNum
   cases P.take k [3] with
   | error e => rfl
   | ok r =>
    obtain ⟨u,m⟩ := r;show (match psDigits u.at_ (mk u.text) (mk u.text).size 0 0 with | .error e => Except.error e | .ok n => Except.ok ((mk t.text,n),m)) = ((numK m (psDigits u.at_ (mk u.text) (mk u.text).size 0 0)).bind fun n => .ok ((mk t.text,n.1),n.2));cases psDigits u.at_ (mk u.text) (mk u.text).size 0 0 <;> rfl
def rSlash0 (L : Bs) (q : Nat) : Except Int ((ByteArray × Int) × Nat) :=
  ((rName L (rSkip L q)).bind fun x => .ok (mk x.1,x.2)).bind fun x => (rSign 47 L (rSkip L x.2)).bind fun r => (rArity L (rSkip L r)).bind fun n => .ok ((x.1,n.1),n.2)
theorem slash_0 {L : Bs} {q : Nat} (hw : wordlyI (pk L q) = false) : rSlash L q = (rSlash0 L q).bind fun a => .ok (a.1,rSkip L a.2) := by
 unfold rSlash rSlash0;rw [hw,if_neg (by decide),bind_ok]
 cases rName L (rSkip L q) with
 | error e => rfl
 | ok x =>
  show ((rSign 47 L (rSkip L x.2)).bind _) = (((rSign 47 L (rSkip L x.2)).bind _).bind _)
  cases rSign 47 L (rSkip L x.2) with
  | error e => rfl
  | ok r =>
   show ((rArity L (rSkip L r)).bind _) = (((rArity L (rSkip L r)).bind _).bind _);cases rArity L (rSkip L r) <;> rfl
theorem eq_slash {P : Ps} {L : Bs} {i e : Nat} {j : Bool} (h : Al P L i e j) : Rel P L (psArity P i) (rSlash0 L e) := by
 rw [psArity_b];unfold rSlash0;refine Rel.bind (f := fun v i => (P.take i [12]).bind fun y => (psNum P y.2).bind fun n => .ok ((v,n.1),n.2)) (g := fun v q => (rSign 47 L (rSkip L q)).bind fun r => (rArity L (rSkip L r)).bind fun n => .ok ((v,n.1),n.2)) (eq_name h.at_) ?_ ?_
 · intro v i2 p2 j2 h2;rcases h2.at_.one (c := 47) (k := 12) (.inr (.inr (.inr (.inr ⟨rfl,rfl⟩)))) with ⟨a1,a2,j3,a3⟩ | ⟨a1,a2⟩
   · rw [take_yes (by rw [a1];decide),sign_yes a2];exact Rel.bind (f := fun n k => .ok ((v,n),k)) (g := fun n k => .ok ((v,n),k)) (eq_num a3.at_) (fun n i3 p3 j3 h3 => ⟨rfl,j3,h3⟩) (fun n i3 h3 => h3)
   · rw [take_no (has_not (fun x hx => by simp at hx;omega)),sign_no a2,h2.at_.stop_q (by decide) (by decide) (by decide) (by decide)];exact rfl
 · intro v i2 hd
   exact DeadOk.bind (f := fun _ k => (psNum P k).bind fun n => .ok ((v,n.1),n.2)) (DeadOk.take hd (by decide)) fun _ k hk =>
    DeadOk.bind (f := fun n k => .ok ((v,n),k)) (by unfold psNum;rw [hk.take (by decide)];exact rfl) fun n k hk => hk
/-! ### statements -/
def stInp (P : Ps) (a : Nat) (i : Nat) : Except Int (Stmt × Nat) := (psArity P i).bind fun x => ((P.take x.2 [4]).bind fun y => .ok (y.1.text,y.2)).bind fun f => (P.take f.2 [11]).bind fun y => .ok (.inp x.1.1 x.1.2 (mk f.1) a,y.2)
def stOutp (P : Ps) (a : Nat) (i : Nat) : Except Int (Stmt × Nat) := (psArity P i).bind fun x => (P.take x.2 [11]).bind fun y => .ok (.outp x.1.1 x.1.2 a,y.2)
theorem psStmt_inp {P : Ps} {i : Nat} (h : P.kind i = 5) : psStmt P i = stInp P (P.tok i).at_ (i + 1) := by
 unfold psStmt stInp;rw [take_yes (by rw [h];decide)];show (if (P.tok i).kind = 5 then _ else _) = _;rw [if_pos (show (P.tok i).kind = 5 from h)]
 cases psArity P (i + 1) with
 | error e => rfl
 | ok r =>
  obtain ⟨⟨p,n⟩,k⟩ := r;show (match P.take k [4] with | .error e => Except.error e | .ok (f,m) => match P.take m [11] with | .error e => Except.error e | .ok (_,o) => Except.ok (Stmt.inp p n (mk f.text) (P.tok i).at_,o)) = (((P.take k [4]).bind fun y => .ok (y.1.text,y.2)).bind fun f => (P.take f.2 [11]).bind fun y => .ok (.inp p n (mk f.1) (P.tok i).at_,y.2))
  cases P.take k [4] with
  | error e => rfl
  | ok r =>
   obtain ⟨f,m⟩ := r;show (match P.take m [11] with | .error e => Except.error e | .ok (_,o) => Except.ok (Stmt.inp p n (mk f.text) (P.tok i).at_,o)) = ((P.take m [11]).bind fun y => .ok (.inp p n (mk f.text) (P.tok i).at_,y.2));cases P.take m [11] <;> rfl
theorem psStmt_outp {P : Ps} {i : Nat} (h : P.kind i = 6) : psStmt P i = stOutp P (P.tok i).at_ (i + 1) := by
 unfold psStmt stOutp;rw [take_yes (by rw [h];decide)];show (if (P.tok i).kind = 5 then _ else _) = _;rw [if_neg (show ¬ (P.tok i).kind = 5 from fun e => by have : P.kind i = 5 := e;omega),if_pos (show (P.tok i).kind = 6 from h)]
 cases psArity P (i + 1) with
 | error e => rfl
 | ok r =>
  obtain ⟨⟨p,n⟩,k⟩ := r;show (match P.take k [11] with | .error e => Except.error e | .ok (_,o) => Except.ok (Stmt.outp p n (P.tok i).at_,o)) = ((P.take k [11]).bind fun y => .ok (.outp p n (P.tok i).at_,y.2));cases P.take k [11] <;> rfl
theorem psStmt_rule {P : Ps} {i : Nat} (h : P.kind i = 1) : psStmt P i = (psRule P (i + 1) (mk (P.tok i).text)).bind fun r => .ok (.rule r.1 (P.tok i).at_,r.2) := by
 unfold psStmt;rw [take_yes (by rw [h];decide)];show (if (P.tok i).kind = 5 then _ else _) = _;rw [if_neg (show ¬ (P.tok i).kind = 5 from fun e => by have : P.kind i = 5 := e;omega),if_neg (show ¬ (P.tok i).kind = 6 from fun e => by have : P.kind i = 6 := e;omega)];cases psRule P (i + 1) (mk (P.tok i).text) <;> rfl
theorem psStmt_no {P : Ps} {i : Nat} (h : [1,5,6].contains (P.kind i) = false) : psStmt P i = .error (P.stop i [1,5,6]) := by unfold psStmt;rw [take_no h]
theorem eq_dot {P : Ps} {L : Bs} {i p : Nat} {j : Bool} (h : Al P L i p j) (v : Stmt) : Rel P L ((P.take i [11]).bind fun y => .ok (v,y.2)) ((rSign 46 L (rSkip L p)).bind fun q => .ok (v,q)) :=
  eq_close h (.inr (.inr (.inr (.inl ⟨rfl,rfl⟩)))) (by decide) (fun hk => has_not (fun x hx => by simp at hx;omega)) (by decide) (by decide) (by decide) (by decide) v
theorem dead_dot {P : Ps} {L : Bs} {i : Nat} (h : Dead P L i) (v : Stmt) : DeadOk P L ((P.take i [11]).bind fun y => .ok (v,y.2)) :=
  DeadOk.bind (f := fun _ k => .ok (v,k)) (DeadOk.take h (by decide)) fun _ k hk => hk
theorem eq_inp {P : Ps} {L : Bs} {i e : Nat} {j : Bool} (h : Al P L i e j) (hw : wordlyI (pk L e) = false) (a : Nat) :
    Rel P L (stInp P a i) ((rSlash L e).bind fun x => (rText L x.2).bind fun f => (rSign 46 L (rSkip L f.2)).bind fun q => .ok (.inp x.1.1 x.1.2 (mk f.1) a,q)) := by
 rw [slash_0 hw];unfold stInp
 have e1 : ((rSlash0 L e).bind fun a => .ok (a.1,rSkip L a.2)).bind (fun x => (rText L x.2).bind fun f => (rSign 46 L (rSkip L f.2)).bind fun q => .ok (Stmt.inp x.1.1 x.1.2 (mk f.1) a,q)) = (rSlash0 L e).bind fun x => (rText L (rSkip L x.2)).bind fun f => (rSign 46 L (rSkip L f.2)).bind fun q => .ok (Stmt.inp x.1.1 x.1.2 (mk f.1) a,q) := by
  cases rSlash0 L e <;> rfl
 rw [e1];refine Rel.bind (f := fun v i => ((P.take i [4]).bind fun y => .ok (y.1.text,y.2)).bind fun f => (P.take f.2 [11]).bind fun y => .ok (Stmt.inp v.1 v.2 (mk f.1) a,y.2)) (g := fun v q => (rText L (rSkip L q)).bind fun f => (rSign 46 L (rSkip L f.2)).bind fun q => .ok (Stmt.inp v.1 v.2 (mk f.1) a,q)) (eq_slash h) ?_ ?_
 · intro v i2 p2 j2 h2;exact Rel.bind (f := fun f k => (P.take k [11]).bind fun y => .ok (Stmt.inp v.1 v.2 (mk f) a,y.2)) (g := fun f k => (rSign 46 L (rSkip L k)).bind fun q => .ok (Stmt.inp v.1 v.2 (mk f) a,q)) (eq_text h2.at_) (fun f i3 p3 j3 h3 => eq_dot h3 _) (fun f i3 h3 => dead_dot h3 _)
 · intro v i2 hd;exact DeadOk.bind (f := fun f k => (P.take k [11]).bind fun y => .ok (Stmt.inp v.1 v.2 (mk f) a,y.2)) (by rw [hd.take (by decide)];exact rfl) fun f k hk => dead_dot hk _
theorem eq_outp {P : Ps} {L : Bs} {i e : Nat} {j : Bool} (h : Al P L i e j) (hw : wordlyI (pk L e) = false) (a : Nat) :
    Rel P L (stOutp P a i) ((rSlash L e).bind fun x => (rSign 46 L x.2).bind fun q => .ok (.outp x.1.1 x.1.2 a,q)) := by
 rw [slash_0 hw];unfold stOutp
 have e1 : ((rSlash0 L e).bind fun a => .ok (a.1,rSkip L a.2)).bind (fun x => (rSign 46 L x.2).bind fun q => .ok (Stmt.outp x.1.1 x.1.2 a,q)) = (rSlash0 L e).bind fun x => (rSign 46 L (rSkip L x.2)).bind fun q => .ok (Stmt.outp x.1.1 x.1.2 a,q) := by
  cases rSlash0 L e <;> rfl
 rw [e1];exact Rel.bind (f := fun v i => (P.take i [11]).bind fun y => .ok (Stmt.outp v.1 v.2 a,y.2)) (g := fun v q => (rSign 46 L (rSkip L q)).bind fun q => .ok (Stmt.outp v.1 v.2 a,q)) (eq_slash h) (fun v i2 p2 j2 h2 => eq_dot h2 _) (fun v i2 h2 => dead_dot h2 _)
/-- no name stands where none begins -/
theorem no_name {P : Ps} {L : Bs} {i q : Nat} (h : At P L i q) (hs : smallB (pk L q) = false) : P.take i [1] = .error (q : Int) := by
 have hn := eq_name h;rw [rName_no hs] at hn
 cases ht : P.take i [1] with
 | error x => rw [ht] at hn;exact congrArg _ hn
 | ok r =>
  exfalso;obtain ⟨t,k⟩ := r;obtain ⟨_,hlt,_,hk⟩ := take_ok (by decide) ht
  have hk1 : P.kind i = 1 := by
   obtain ⟨_,_,rfl,hk⟩ := take_ok (by decide) ht;have h1 : (P.tok i).kind = 1 := by simpa using hk
   exact h1
  cases h with
  | fin h1 h2 h3 h4 => omega
  | none h0 h1 h2 h3 h4 => omega
  | halfQ h1 h2 h3 h4 e h5 h6 => omega
  | half2 c d k h0 h1 h2 h3 h4 h5 h6 => omega
  | str h1 h2 h3 b e h4 h5 h6 j h7 => omega
  | sign1 c k h0 h1 h2 h3 h4 j h5 => unfold sgn1 at h0;omega
  | sign2 c d k h0 h1 h2 h3 h4 h5 j h6 => unfold sgn2 at h0;omega
  | small W h1 h2 h3 h4 h5 h6 e h7 h8 j h9 h10 => rw [h1] at hs;cases hs
  | smallN h1 h2 h3 h4 h5 h6 => rw [h1] at hs;cases hs
  | great W h1 h2 h3 h4 h5 e h6 j h7 => omega
  | greatN h1 h2 h3 h4 h5 h6 => omega
  | digit W h1 h2 h3 h4 h5 h6 h7 h8 j h9 => omega
  | digitN W h1 h2 h3 h4 h5 h6 h7 h8 => omega
theorem skip_none {L : Bs} {q : Nat} (h1 : blankB (pk L q) = false) (h2 : pk L q ≠ 37) : rSkip L q = q := by
 unfold rSkip;rcases Nat.lt_or_ge q L.length with h | h
 · rw [pk_get h] at h1 h2;rw [drop_cons' h];simp only [skipN];rw [if_neg h2,if_neg (by rw [h1];decide)];rfl
 · rw [List.drop_eq_nil_of_le h];rfl
theorem arity_no {P : Ps} {i : Nat} {x : Int} (h : P.take i [1] = .error x) : psArity P i = .error x := by unfold psArity;rw [h]
theorem wordly_small {c : Int} (h : wordlyI c = false) : smallB c = false := by
 unfold wordlyI at h;simp at h;exact h.1.1
theorem eq_stmt {P : Ps} {L : Bs} {i q : Nat} (h : At P L i q) : Rel P L (psStmt P i) (rStmt L q) := by
 have hh := h
 have other : smallB (pk L q) = false → (i < P.ts.length → P.kind i ≠ 1 ∧ P.kind i ≠ 5 ∧ P.kind i ≠ 6 ∧ P.kind i ≠ 7 ∧ (P.tok i).at_ = q) → (i = P.ts.length → P.op.kind ≠ 0 → P.op.at_ = q) → (i = P.ts.length → P.op.kind = 0 → P.far = q) → i ≤ P.ts.length → Rel P L (psStmt P i) (rStmt L q) := fun h1 h2 h3 h4 h5 => by
  have e2 : rStmt L q = .error (q : Int) := by unfold rStmt;rw [h1,if_neg (by decide)]
  rcases Nat.lt_or_ge i P.ts.length with hlt | hge
  · obtain ⟨a1,a2,a3,a4,a5⟩ := h2 hlt;rw [e2,psStmt_no (has_not (fun x hx => by simp at hx;omega)),stop_tok hlt,if_neg (by omega),a5];exact rfl
  · have hi : i = P.ts.length := by omega
    rw [e2,psStmt_no (has_no (by decide) (kind_at_end hi)),stop_end hi]
    by_cases h0 : P.op.kind = 0
    · rw [if_pos h0,h4 hi h0];exact rfl
    · have hk := hh.op_kinds hi;rw [if_neg h0,if_neg (by rw [has_not (fun x hx => by simp at hx;omega)];decide),h3 hi h0];exact rfl
 cases h with
 | fin h1 h2 h3 h4 => exact other (sgn_other h1 (.inl rfl)).1 (fun h => by omega) (fun _ h => absurd h3 h) (fun _ _ => h4) (by omega)
 | none h0 h1 h2 h3 h4 => exact other h1.1 (fun h => by omega) (fun _ h => absurd h3 h) (fun _ _ => h4) (by omega)
 | halfQ h1 h2 h3 h4 e h5 h6 => exact other (by rw [h1];rfl) (fun h => by omega) (fun _ _ => h4) (fun _ h => by omega) (by omega)
 | half2 c d k h0 h1 h2 h3 h4 h5 h6 => exact other (sgn_other h1 (by unfold sgn2 at h0;omega)).1 (fun h => by omega) (fun _ _ => h5) (fun _ h => by unfold sgn2 at h0;omega) (by omega)
 | str h1 h2 h3 b e h4 h5 h6 j h7 => exact other (by rw [h1];rfl) (fun _ => ⟨by omega,by omega,by omega,by omega,h3⟩) (fun h => by omega) (fun h => by omega) (by omega)
 | sign1 c k h0 h1 h2 h3 h4 j h5 => exact other (sgn_other h1 (by unfold sgn1 at h0;omega)).1 (fun _ => by unfold sgn1 at h0;exact ⟨by omega,by omega,by omega,by omega,h3⟩) (fun h => by omega) (fun h => by omega) (by omega)
 | sign2 c d k h0 h1 h2 h3 h4 h5 j h6 => exact other (sgn_other h1 (by unfold sgn2 at h0;omega)).1 (fun _ => by unfold sgn2 at h0;exact ⟨by omega,by omega,by omega,by omega,h4⟩) (fun h => by omega) (fun h => by omega) (by omega)
 | small W h1 h2 h3 h4 h5 h6 e h7 h8 j h9 h10 =>
  have hr : rStmt L q = if (W = sInput ∨ W = sOutput) ∧ (pk L e = -1 ∨ blankB (pk L e) = true ∨ pk L e = 37) then
      (rSlash L e).bind fun a =>
       if W = sInput then (rText L a.2).bind fun f => (rSign 46 L (rSkip L f.2)).bind fun q2 => .ok (.inp a.1.1 a.1.2 (mk f.1) q,q2)
       else (rSign 46 L a.2).bind fun q2 => .ok (.outp a.1.1 a.1.2 q,q2)
    else if reservedB W then .error (e : Int)
    else (rRuleOf L (mk W) e).bind fun r => .ok (.rule r.1 q,r.2) := by
    unfold rStmt;rw [if_pos h1,h8];rfl
  rw [hr]
  have nob : ¬ (pk L e = -1 ∨ blankB (pk L e) = true ∨ pk L e = 37) → psArity P (i + 1) = .error (e : Int) := fun hb => by
   have hsk : rSkip L e = e := skip_none (by rw [Bool.eq_false_iff];exact fun h => hb (.inr (.inl h))) (fun h => hb (.inr (.inr h)));have ha := h9.at_;rw [hsk] at ha;exact arity_no (no_name ha (wordly_small h10))
  rcases kindW_cases W h3 with ⟨g,hW⟩ | ⟨g,hW⟩ | ⟨g,hW⟩ | ⟨g,hres,n1,n2,n3⟩
  · rw [psStmt_inp (by rw [h2,g]),h5]
    by_cases hb : pk L e = -1 ∨ blankB (pk L e) = true ∨ pk L e = 37
    · rw [if_pos ⟨.inl hW,hb⟩];simp only [if_pos hW];exact eq_inp h9 h10 q
    · rw [if_neg (fun h => hb h.2),hW,if_pos (by decide)];unfold stInp;rw [nob hb];exact rfl
  · rw [psStmt_outp (by rw [h2,g]),h5];have hni : ¬ W = sInput := by rw [hW];decide
    by_cases hb : pk L e = -1 ∨ blankB (pk L e) = true ∨ pk L e = 37
    · rw [if_pos ⟨.inr hW,hb⟩];simp only [if_neg hni];exact eq_outp h9 h10 q
    · rw [if_neg (fun h => hb h.2),hW,if_pos (by decide)];unfold stOutp;rw [nob hb];exact rfl
  · rw [psStmt_no (by rw [h2,g];decide),stop_tok h6,if_pos ⟨by rw [h2,g];decide,by decide⟩,h7,if_neg (by rw [hW];intro h;exact absurd h.1 (by decide)),hW,if_pos (by decide)];exact rfl
  · rw [psStmt_rule (by rw [h2,g]),if_neg (fun h => by rcases h.1 with h | h;exact n1 h;exact n2 h),hres,if_neg (by decide),h5,h4,hres];exact Rel.bind (f := fun r k => .ok (Stmt.rule r q,k)) (g := fun r k => .ok (Stmt.rule r q,k)) (eq_ruleOf h9 (mk W)) (fun r i3 p3 j3 h3 => ⟨rfl,j3,h3⟩) (fun r i3 h3 => h3)
 | smallN h1 h2 h3 h4 h5 h6 =>
  have e2 : rStmt L q = .error (P.far : Int) := by unfold rStmt;rw [if_pos h1,h5];rfl
  have h7 : DeadOk P L (psStmt P i) := by
   rw [psStmt_rule h2];exact DeadOk.bind (f := fun r k => .ok (Stmt.rule r (P.tok i).at_,k)) (dead_rule h6 _) fun r k hk => hk
  rw [e2]
  cases hx : psStmt P i with
  | error x => rw [hx] at h7;exact h7
  | ok x => rw [hx] at h7;exact ⟨h7,rfl⟩
 | great W h1 h2 h3 h4 h5 e h6 j h7 => exact other (great_not h1).1 (fun _ => ⟨by omega,by omega,by omega,by omega,h4⟩) (fun h => by omega) (fun h => by omega) (by omega)
 | greatN h1 h2 h3 h4 h5 h6 => exact other (great_not h1).1 (fun _ => ⟨by omega,by omega,by omega,by omega,h3⟩) (fun h => by omega) (fun h => by omega) (by omega)
 | digit W h1 h2 h3 h4 h5 h6 h7 h8 j h9 => exact other (digit_not h1).1 (fun _ => ⟨by omega,by omega,by omega,by omega,h4⟩) (fun h => by omega) (fun h => by omega) (by omega)
 | digitN W h1 h2 h3 h4 h5 h6 h7 h8 => exact other (digit_not h1).1 (fun _ => ⟨by omega,by omega,by omega,by omega,h4⟩) (fun h => by omega) (fun h => by omega) (by omega)
/-! ### programs -/
def Same (A : Except Int (List Stmt)) (B : Except Int (List Stmt × Nat)) : Prop :=
  match A,B with
  | .ok a,.ok b => a = b.1
  | .error x,.error y => x = y
  | _,_ => False
theorem At.inside {P : Ps} {L : Bs} {i q : Nat} (h : At P L i q) (hlt : i < P.ts.length) : pk L q ≠ -1 := by
 cases h with
 | fin h1 h2 h3 h4 => omega
 | none h0 h1 h2 h3 h4 => omega
 | halfQ h1 h2 h3 h4 e h5 h6 => omega
 | half2 c d k h0 h1 h2 h3 h4 h5 h6 => omega
 | str h1 h2 h3 b e h4 h5 h6 j h7 => omega
 | sign1 c k h0 h1 h2 h3 h4 j h5 => unfold sgn1 at h0;omega
 | sign2 c d k h0 h1 h2 h3 h4 h5 j h6 => unfold sgn2 at h0;omega
 | small W h1 h2 h3 h4 h5 h6 e h7 h8 j h9 h10 => have := small_not h1;omega
 | smallN h1 h2 h3 h4 h5 h6 => have := small_not h1;omega
 | great W h1 h2 h3 h4 h5 e h6 j h7 => have := great_not h1;omega
 | greatN h1 h2 h3 h4 h5 h6 => have := great_not h1;omega
 | digit W h1 h2 h3 h4 h5 h6 h7 h8 j h9 => have := digit_not h1;omega
 | digitN W h1 h2 h3 h4 h5 h6 h7 h8 => have := digit_not h1;omega
/-- at the end of the tokens: the text's end, or an error on both sides -/
theorem At.last {P : Ps} {L : Bs} {i q : Nat} (h : At P L i q) (hq : q ≤ L.length) (hi : i = P.ts.length) : (pk L q = -1 ∧ P.op.kind = 0 ∧ P.far = q ∧ q = L.length) ∨ (pk L q ≠ -1 ∧ (P.far < L.length ∨ P.op.kind ≠ 0)) := by
 have hend : pk L q = -1 → q = L.length := fun h1 => by
  rcases Nat.lt_or_ge q L.length with h | h
  · rw [pk_get h] at h1;have : (0 : Int) ≤ bi L[q] := Int.natCast_nonneg _;omega
  · omega
 cases h with
 | fin h1 h2 h3 h4 => exact .inl ⟨h1,h3,h4,hend h1⟩
 | none h0 h1 h2 h3 h4 =>
  refine .inr ⟨fun h => ?_,.inl (by omega)⟩;have := hend h;omega
 | halfQ h1 h2 h3 h4 e h5 h6 => exact .inr ⟨by omega,.inr (by omega)⟩
 | half2 c d k h0 h1 h2 h3 h4 h5 h6 => unfold sgn2 at h0;exact .inr ⟨by omega,.inr (by omega)⟩
 | str h1 h2 h3 b e h4 h5 h6 j h7 => omega
 | sign1 c k h0 h1 h2 h3 h4 j h5 => omega
 | sign2 c d k h0 h1 h2 h3 h4 h5 j h6 => omega
 | small W h1 h2 h3 h4 h5 h6 e h7 h8 j h9 h10 => omega
 | smallN h1 h2 h3 h4 h5 h6 => omega
 | great W h1 h2 h3 h4 h5 e h6 j h7 => omega
 | greatN h1 h2 h3 h4 h5 h6 => omega
 | digit W h1 h2 h3 h4 h5 h6 h7 h8 j h9 => omega
 | digitN W h1 h2 h3 h4 h5 h6 h7 h8 => omega
theorem eq_progN {P : Ps} {L : Bs} : ∀ (f f' i p : Nat) (j : Bool) (l : List Stmt),Al P L i p j → P.ts.length < f + i → L.length < f' + rSkip L p → Same (psProgN P L.length f i l) (rProgN L f' (rSkip L p) l)
  | 0,_,i,p,j,l,h,hf,_ => by have := h.hi;omega
  | _,0,i,p,j,l,h,_,hf => by have := (rskip_le L p h.hp).2;omega
  | f + 1, f' + 1,i,p,j,l,h,hf,hf' => by
    have ha := h.at_;have hq := (rskip_le L p h.hp).2;have hs := eq_stmt ha;have hi := h.hi;unfold psProgN rProgN
    by_cases hlt : i < P.ts.length
    · rw [if_pos hlt,if_neg (ha.inside hlt)]
      cases hx : psStmt P i with
      | error e =>
        rw [hx] at hs
        cases hy : rStmt L (rSkip L p) with
        | error e2 => rw [hy] at hs;exact hs
        | ok y => rw [hy] at hs;exact hs.elim
      | ok x =>
        obtain ⟨s,k⟩ := x;rw [hx] at hs;have hon := psStmt_on hx
        cases hy : rStmt L (rSkip L p) with
        | error e2 =>
          rw [hy] at hs;obtain ⟨hd,rfl⟩ := hs;have hk : k = P.ts.length := hd.hi;show Same (psProgN P L.length f k (l ++ [s])) (.error (P.far : Int));obtain ⟨g,rfl⟩ : ∃ g,f = g + 1 := ⟨f - 1,by omega⟩;unfold psProgN;rw [if_neg (by omega),if_pos (.inl hd.lt),hd.stop];exact rfl
        | ok y =>
          obtain ⟨s2,q2⟩ := y;rw [hy] at hs;obtain ⟨e1,j2,h2⟩ := hs;have e1' : s = s2 := e1;subst e1';have hlt2 := stmt_lt hq hy;show Same (psProgN P L.length f k (l ++ [s])) (rProgN L f' (rSkip L q2) (l ++ [s]));have := (rskip_le L q2 hlt2.2).1;exact eq_progN f f' k q2 j2 _ h2 (by omega) (by omega)
    · have hie : i = P.ts.length := by omega
      rw [if_neg hlt];rcases ha.last hq hie with ⟨a1,a2,a3,a4⟩ | ⟨a1,a2⟩
      · rw [if_pos a1,if_neg (by omega)];exact rfl
      · rw [if_neg a1,if_pos a2];have e1 : psStmt P i = .error (P.stop i [1,5,6]) := psStmt_no (has_no (by decide) (kind_at_end hie));rw [e1] at hs
        cases hy : rStmt L (rSkip L p) with
        | error e2 => rw [hy] at hs;exact hs
        | ok y => rw [hy] at hs;exact hs.elim
theorem Al.start (s : ByteArray) : Al (psOf s) (bl s) 0 0 false := by
 refine ⟨Nat.zero_le _,Nat.zero_le _,?_,?_,?_,fun h => by cases h⟩ <;> (rw [List.drop_zero,← tokens_tk];rfl)
/-- the parser tells what the document's reader tells -/
theorem eq_prog (s : ByteArray) : Same (psText s) (rProg (bl s)) := by
 have := eq_progN ((psOf s).ts.length + 1) ((bl s).length + 1) 0 0 false [] (Al.start s) (by omega) (by omega);exact this
end Lx
end Go.Proofs.YtclioihichcpiaaDoor
