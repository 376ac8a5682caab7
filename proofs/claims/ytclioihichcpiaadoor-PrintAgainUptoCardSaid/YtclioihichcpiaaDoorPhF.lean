/- What is written is read, plain: programs; texts are no longer than four times the bulk. -/
import Derived.Test.YtclioihichcpiaaDoorJoK
import Derived.Test.YtclioihichcpiaaDoorJoL
set_option maxHeartbeats 8000000
set_option maxRecDepth 100000
namespace Go.Proofs.YtclioihichcpiaaDoor
open Go.RowKit Lx
namespace Lx
theorem bi_byte (n : Int) (h0 : 0 ≤ n) (h1 : n < 256) : bi (byteI n) = n := by
 unfold bi byteI;rw [UInt8.toNat_ofNat'];omega
/-- the digits of an arity -/
def arL (n : Int) : Bs := if n < 10 then [byteI (48 + n)] else [49,byteI (38 + n)]
theorem ar_one {L R : Bs} {c : UInt8} {p : Nat} (hc : digitB (bi c) = true) (h : L.drop p = c :: R) (hR : Halts R) : rArity L p = .ok (bi c - 48,p + 1) := by
 have h1 : L.drop (p + 1) = R := drop_at (A := [c]) h;have hd := b_digit_letter (pk_halt hR);have hc2 := hc;unfold digitB at hc2;replace hc2 := of_decide_eq_true hc2;unfold rArity;rw [pk_of h,if_pos hc];unfold rArN;rw [pk_of h,if_pos hc,if_neg (by omega)];unfold rArN;rw [pk_at h1,hd.1,if_neg (by decide)]
 show (if wordlyI (pk L (p + 1)) = true then _ else Except.ok (10 * (0 : Int) + (bi c - 48),p + 1)) = _;rw [pk_at h1,hd.2,if_neg (by decide)]
 congr 2
 omega
theorem ar_two {L R : Bs} {c : UInt8} {p : Nat} (hc : digitB (bi c) = true) (hc6 : bi c ≤ 54) (h : L.drop p = 49 :: c :: R) (hR : Halts R) : rArity L p = .ok (bi c - 38,p + 2) := by
 have h1 : L.drop (p + 1) = c :: R := drop_at (A := [49]) h;have h2 : L.drop (p + 1 + 1) = R := drop_at (A := [c]) h1;have hd := b_digit_letter (pk_halt hR);have hc2 := hc;unfold digitB at hc2;replace hc2 := of_decide_eq_true hc2;have h49 : bi 49 = 49 := rfl;unfold rArity;rw [pk_of h,if_pos (by decide)];unfold rArN;rw [pk_of h,if_pos (by decide),if_neg (by omega)];unfold rArN
 rw [pk_of h1,if_pos hc,if_neg (by omega)];unfold rArN;rw [pk_at h2,hd.1,if_neg (by decide)];show (if wordlyI (pk L (p + 1 + 1)) = true then _ else Except.ok (10 * (10 * (0 : Int) + (bi 49 - 48)) + (bi c - 48),p + 1 + 1)) = _;rw [pk_at h2,hd.2,if_neg (by decide),h49]
 congr 2
 omega
theorem arity_on {L R : Bs} {n : Int} {p : Nat} (h0 : 0 ≤ n) (h1 : n ≤ 16) (h : L.drop p = arL n ++ R) (hR : Halts R) : rArity L p = .ok (n,p + (arL n).length) := by
 unfold arL at h ⊢
 by_cases h9 : n < 10
 · rw [if_pos h9] at h ⊢;have e := bi_byte (48 + n) (by omega) (by omega);rw [ar_one (by rw [e];unfold digitB;exact decide_eq_true (by omega)) h hR,e];show Except.ok (48 + n - 48,p + 1) = Except.ok (n,p + 1)
   congr 2;omega
 · rw [if_neg h9] at h ⊢;have e := bi_byte (38 + n) (by omega) (by omega);rw [ar_two (by rw [e];unfold digitB;exact decide_eq_true (by omega)) (by rw [e];omega) h hR,e];show Except.ok (38 + n - 38,p + 2) = Except.ok (n,p + 2)
   congr 2;omega
theorem ar_solid {n : Int} (h0 : 0 ≤ n) (h1 : n ≤ 16) (R : Bs) : Solid (arL n ++ R) := by
 unfold arL
 by_cases h9 : n < 10
 · rw [if_pos h9];refine solid_of (letter_solid ?_);rw [bi_byte _ (by omega) (by omega)];unfold letterB;exact decide_eq_true (by omega)
 · rw [if_neg h9];exact solid_of ⟨rfl,by decide⟩
theorem slash_on {L R : Bs} {pr : ByteArray} {n : Int} {q : Nat} (hn : nameB (bl pr) = true) (h0 : 0 ≤ n) (h1 : n ≤ 16) (h : L.drop q = 32 :: (bl pr ++ 47 :: (arL n ++ R))) (hR : Halts R) : rSlash L q = .ok ((pr,n),rSkip L (q + 1 + (bl pr).length + 1 + (arL n).length)) := by
 have a1 : L.drop (q + 1) = bl pr ++ 47 :: (arL n ++ R) := drop_at (A := [32]) h;have a2 := drop_at a1;have a3 : L.drop (q + 1 + (bl pr).length + 1) = arL n ++ R := drop_at (A := [47]) a2;unfold rSlash;rw [pk_of h,if_neg (by decide),rs_32 h (name_solid (b_name_parts hn).1 _),b_name_on a1 hn (halts_of rfl)]
 show ((rSign (bi 47) L (rSkip L (q + 1 + (bl pr).length))).bind fun r => (rArity L (rSkip L r)).bind fun m => .ok ((mk (bl pr),m.1),rSkip L m.2)) = _;rw [rs_solid a2 (solid_of ⟨rfl,by decide⟩),b_sign_on a2];show ((rArity L (rSkip L (q + 1 + (bl pr).length + 1))).bind fun m => .ok ((mk (bl pr),m.1),rSkip L m.2)) = _;rw [rs_solid a3 (ar_solid h0 h1 R),arity_on h0 h1 a3 hR,mk_bl]
 rfl
/-- the statements of a program as they are written -/
inductive Pr where
  | inp (p : ByteArray) (n : Int) (f : ByteArray)
  | outp (p : ByteArray) (n : Int)
  | rule (r : Rul)
def prL : Pr → Bs
  | .inp p n f => sInput ++ 32 :: (bl p ++ 47 :: (arL n ++ 32 :: (quoteL (bl f) ++ [46])))
  | .outp p n => sOutput ++ 32 :: (bl p ++ 47 :: (arL n ++ [46]))
  | .rule r => bl (ruleL r)
def prOk : Pr → Bool
  | .inp p n f => nameB (bl p) && decide (0 ≤ n ∧ n ≤ 16) && decide (f.size ≤ 1024)
  | .outp p n => nameB (bl p) && decide (0 ≤ n ∧ n ≤ 16)
  | .rule r => ruleOk r
def prS : Pr → Nat → Stmt
  | .inp p n f,a => .inp p n f a
  | .outp p n,a => .outp p n a
  | .rule r,a => .rule (toR r) a
theorem rule_solid {r : Rul} (h : ruleOk r = true) (R : Bs) : Solid (bl (ruleL r) ++ R) := by
 rw [ruleL_list h,List.append_assoc];exact atom_solid (ruleOk_parts h).1 _
theorem pr_solid {x : Pr} (h : prOk x = true) (R : Bs) : Solid (prL x ++ R) := by
 cases x with
 | inp p n f => exact solid_of ⟨rfl,by decide⟩
 | outp p n => exact solid_of ⟨rfl,by decide⟩
 | rule r => exact rule_solid h R
theorem rule_pos {r : Rul} (h : ruleOk r = true) : 0 < (bl (ruleL r)).length := by
 rw [ruleL_list h,atomL_list,List.length_append,List.length_append];have := (b_name_parts (atomOk_parts (ruleOk_parts h).1).2.1).1;unfold writtenB at this;rw [Bool.and_eq_true] at this;have := of_decide_eq_true this.2;omega
theorem pr_pos {x : Pr} (h : prOk x = true) : 0 < (prL x).length := by
 cases x with
 | inp p n f => exact Nat.succ_pos _
 | outp p n => exact Nat.succ_pos _
 | rule r => exact rule_pos h
theorem pr_first {x : Pr} (h : prOk x = true) (R : Bs) : pk (prL x ++ R) 0 ≠ -1 := by
 have := pr_pos h
 cases hx : prL x with
 | nil => rw [hx] at this;cases this
 | cons c r =>
  show ¬ bi c = -1;unfold bi;omega
theorem stmt_on {L R : Bs} {x : Pr} {p : Nat} (h : prOk x = true) (hd : L.drop p = prL x ++ R) : rStmt L p = .ok (prS x p,p + (prL x).length) := by
 have hz : ∀ (s : Bs) (f g : Bs × Nat → Except Int (Stmt × Nat)) (C : Bs × Nat → Prop) [∀ x,Decidable (C x)],C (s,p + s.length) → ((Except.ok (s,p + s.length) : Except Int (Bs × Nat)).bind fun x => if C x then f x else g x) = f (s,p + s.length) := fun s f g C _ hC => if_pos hC
 cases x with
 | inp pr n f =>
  unfold prOk at h;rw [Bool.and_eq_true,Bool.and_eq_true] at h;obtain ⟨⟨hn,hr⟩,hf⟩ := h;obtain ⟨h0,h1⟩ := of_decide_eq_true hr;have hf' : (bl f).length ≤ 1024 := by rw [bl_length];exact of_decide_eq_true hf
  have a0 : L.drop p = sInput ++ 32 :: (bl pr ++ 47 :: (arL n ++ (32 :: (quoteL (bl f) ++ 46 :: R)))) := by rw [hd];simp [prL]
  have a1 := drop_at a0;have a2 : L.drop (p + sInput.length + 1) = bl pr ++ 47 :: (arL n ++ (32 :: (quoteL (bl f) ++ 46 :: R))) := drop_at (A := [32]) a1;have a3 := drop_at a2;have a4 : L.drop (p + sInput.length + 1 + (bl pr).length + 1) = arL n ++ (32 :: (quoteL (bl f) ++ 46 :: R)) := drop_at (A := [47]) a3;have a5 := drop_at a4
  have a6 : L.drop (p + sInput.length + 1 + (bl pr).length + 1 + (arL n).length + 1) = quoteL (bl f) ++ 46 :: R := drop_at (A := [32]) a5;have a7 := drop_at a6;unfold rStmt;rw [pk_at a0,if_pos (by rfl),run_word a0 (by decide) (halts_of rfl)];refine (hz sInput _ _ _ ⟨.inl rfl,.inr (.inl (by rw [pk_of a1];rfl))⟩).trans ?_
  show ((rSlash L (p + sInput.length)).bind fun a => if sInput = sInput then (rText L a.2).bind fun f => (rSign 46 L (rSkip L f.2)).bind fun q => Except.ok (Stmt.inp a.1.1 a.1.2 (mk f.1) p,q) else (rSign 46 L a.2).bind fun q => Except.ok (Stmt.outp a.1.1 a.1.2 p,q)) = _;rw [slash_on hn h0 h1 a1 (halts_of rfl)]
  have hy : ∀ (y : (ByteArray × Int) × Nat) (f g : (ByteArray × Int) × Nat → Except Int (Stmt × Nat)),((Except.ok y : Except Int _).bind fun a => if sInput = sInput then f a else g a) = f y := fun y f g => by
   show (if sInput = sInput then f y else g y) = _;rw [if_pos rfl]
  refine (hy _ (fun a => (rText L a.2).bind fun f => (rSign 46 L (rSkip L f.2)).bind fun q => Except.ok (Stmt.inp a.1.1 a.1.2 (mk f.1) p,q)) _).trans ?_;show ((rText L (rSkip L (p + sInput.length + 1 + (bl pr).length + 1 + (arL n).length))).bind fun f => (rSign 46 L (rSkip L f.2)).bind fun q => Except.ok (Stmt.inp pr n (mk f.1) p,q)) = _
  rw [rs_32 a5 (solid_of ⟨rfl,by decide⟩),b_text_on a6 hf'];show ((rSign (bi 46) L (rSkip L (p + sInput.length + 1 + (bl pr).length + 1 + (arL n).length + 1 + (quoteL (bl f)).length))).bind fun q => Except.ok (Stmt.inp pr n (mk (bl f)) p,q)) = _;rw [rs_solid a7 (solid_of ⟨rfl,by decide⟩),b_sign_on a7,mk_bl];show Except.ok (Stmt.inp pr n f p,_) = Except.ok (Stmt.inp pr n f p,_)
  congr 2
  simp only [prL,List.length_append,List.length_cons,List.length_nil];omega
 | outp pr n =>
  unfold prOk at h;rw [Bool.and_eq_true] at h;obtain ⟨hn,hr⟩ := h;obtain ⟨h0,h1⟩ := of_decide_eq_true hr;have a0 : L.drop p = sOutput ++ 32 :: (bl pr ++ 47 :: (arL n ++ (46 :: R))) := by rw [hd];simp [prL]
  have a1 := drop_at a0;have a2 : L.drop (p + sOutput.length + 1) = bl pr ++ 47 :: (arL n ++ (46 :: R)) := drop_at (A := [32]) a1;have a3 := drop_at a2;have a4 : L.drop (p + sOutput.length + 1 + (bl pr).length + 1) = arL n ++ (46 :: R) := drop_at (A := [47]) a3;have a5 := drop_at a4;unfold rStmt;rw [pk_at a0,if_pos (by rfl),run_word a0 (by decide) (halts_of rfl)]
  refine (hz sOutput _ _ _ ⟨.inr rfl,.inr (.inl (by rw [pk_of a1];rfl))⟩).trans ?_;show ((rSlash L (p + sOutput.length)).bind fun a => if sOutput = sInput then (rText L a.2).bind fun f => (rSign 46 L (rSkip L f.2)).bind fun q => Except.ok (Stmt.inp a.1.1 a.1.2 (mk f.1) p,q) else (rSign 46 L a.2).bind fun q => Except.ok (Stmt.outp a.1.1 a.1.2 p,q)) = _
  rw [slash_on hn h0 h1 a1 (halts_of rfl)]
  have hy : ∀ (y : (ByteArray × Int) × Nat) (f g : (ByteArray × Int) × Nat → Except Int (Stmt × Nat)),((Except.ok y : Except Int _).bind fun a => if sOutput = sInput then f a else g a) = g y := fun y f g => by
   show (if sOutput = sInput then f y else g y) = _;rw [if_neg (by decide)]
  refine (hy _ _ (fun a => (rSign 46 L a.2).bind fun q => Except.ok (Stmt.outp a.1.1 a.1.2 p,q))).trans ?_;show ((rSign (bi 46) L (rSkip L (p + sOutput.length + 1 + (bl pr).length + 1 + (arL n).length))).bind fun q => Except.ok (Stmt.outp pr n p,q)) = _;rw [rs_solid a5 (solid_of ⟨rfl,by decide⟩),b_sign_on a5];show Except.ok (Stmt.outp pr n p,_) = Except.ok (Stmt.outp pr n p,_)
  congr 2
  simp only [prL,List.length_append,List.length_cons,List.length_nil];omega
 | rule r => exact rule_stmt h hd
/-- the statements at their places; g: what stands behind each -/
def prAt (g : Nat) : Nat → List Pr → List Stmt
  | _,[] => []
  | p,x :: r => prS x p :: prAt g (p + (prL x).length + g) r
theorem progN_on {L g : Bs} (hg : g = [] ∨ g = [10]) : ∀ (xs : List Pr) (f p : Nat) (acc : List Stmt),xs.all prOk = true → xs.length < f → L.drop p = xs.flatMap (fun x => prL x ++ g) → ∃ q,rProgN L f p acc = .ok (acc ++ prAt g.length p xs,q)
  | xs,0,p,acc,_,hf,_ => absurd hf (Nat.not_lt_zero _)
  | [],f + 1,p,acc,_,_,hd => by
    refine ⟨p,?_⟩;unfold rProgN;rw [pk_at hd];show (if (-1 : Int) = -1 then Except.ok (acc,p) else (rStmt L p).bind fun x => rProgN L f (rSkip L x.2) (acc ++ [x.1])) = _;rw [if_pos rfl];simp [prAt]
  | x :: r,f + 1,p,acc,ho,hf,hd => by
    rw [List.all_cons,Bool.and_eq_true] at ho;have hd1 : L.drop p = prL x ++ (g ++ r.flatMap (fun x => prL x ++ g)) := by rw [hd,List.flatMap_cons,List.append_assoc]
    have hd2 := drop_at hd1;have hd3 := drop_at hd2
    have hsol : Solid (r.flatMap (fun x => prL x ++ g)) := by
      cases r with
      | nil => exact fun c s e => by cases e
      | cons y s =>
        have ho2 := ho.2;rw [List.all_cons,Bool.and_eq_true] at ho2;rw [List.flatMap_cons,List.append_assoc];exact pr_solid ho2.1 _
    have hsk : rSkip L (p + (prL x).length) = p + (prL x).length + g.length := by
      rcases hg with rfl | rfl
      · exact rs_solid hd2 hsol
      · exact rs_10 hd2 hsol
    rw [List.length_cons] at hf;obtain ⟨q,hq⟩ := progN_on hg r f (p + (prL x).length + g.length) (acc ++ [prS x p]) ho.2 (by omega) hd3;refine ⟨q,?_⟩;unfold rProgN;rw [pk_at hd1,if_neg (pr_first ho.1 _),stmt_on ho.1 hd1];show rProgN L f (rSkip L (p + (prL x).length)) (acc ++ [prS x p]) = _;rw [hsk,hq];simp [prAt]
theorem flat_pos {g : Bs} : ∀ (xs : List Pr),xs.all prOk = true → xs.length ≤ (xs.flatMap (fun x => prL x ++ g)).length
  | [],_ => Nat.zero_le _
  | x :: r,ho => by
    rw [List.all_cons,Bool.and_eq_true] at ho;have := pr_pos ho.1;have := flat_pos (g := g) r ho.2;rw [List.flatMap_cons,List.length_append,List.length_append,List.length_cons];omega
/-- a program's text is read as the program -/
theorem prog_read {g : Bs} (hg : g = [] ∨ g = [10]) (xs : List Pr) (ho : xs.all prOk = true) (s : ByteArray) (hs : bl s = xs.flatMap (fun x => prL x ++ g)) : psText s = .ok (prAt g.length 0 xs) := by
 have h := eq_prog s
 have hsol : Solid (bl s) := by
  rw [hs]
  cases xs with
  | nil => exact fun c s e => by cases e
  | cons y r =>
   rw [List.all_cons,Bool.and_eq_true] at ho;rw [List.flatMap_cons,List.append_assoc];exact pr_solid ho.1 _
 have hlen := flat_pos (g := g) xs ho;rw [← hs] at hlen;have hd0 : (bl s).drop 0 = xs.flatMap (fun x => prL x ++ g) := hs;obtain ⟨q,hq⟩ := progN_on (L := bl s) hg xs ((bl s).length + 1) 0 [] ho (by omega) hd0;unfold rProg at h;rw [rs_solid List.drop_zero hsol,hq] at h
 cases hp : psText s with
 | error e => rw [hp] at h;exact h.elim
 | ok l =>
  rw [hp] at h;have : l = [] ++ prAt g.length 0 xs := h;rw [this];rfl
/-! ### how long a text is -/
def tWt (l : List (Bool × ByteArray)) : Nat := (l.map fun x => x.2.size + 3).sum
def lWt (x : Lit) : Nat := x.p.size + tWt x.a + x.l.2.size + x.r.2.size + 11
def ruleWt (r : Rul) : Nat := r.h.size + tWt r.a + (r.b.map lWt).sum + 5
theorem tL_len (t : Bool × ByteArray) : (tL t).length ≤ 4 * t.2.size + 2 := by
 unfold tL termL;have hb : (bl t.2).length = t.2.size := bl_length _
 split
 · split
   · omega
   · rw [quote_len];have := (escs_len (bl t.2)).2;omega
 · exact Nat.zero_le _
theorem tTail_len : ∀ us : List (Bool × ByteArray),(tTail us).length ≤ 4 * tWt us
  | [] => Nat.zero_le _
  | u :: us => by
    have := tTail_len us;have := tL_len u;rw [tTail_cons];simp only [List.length_cons,List.length_append,tWt,List.map_cons,List.sum_cons] at *;omega
theorem aL_len (l : List (Bool × ByteArray)) : (aL l).length ≤ 4 * tWt l := by
 cases l with
 | nil => exact Nat.zero_le _
 | cons t us =>
  have := tTail_len us;have := tL_len t;simp only [aL,List.length_cons,List.length_append,List.length_nil,tWt,List.map_cons,List.sum_cons] at *;omega
theorem atom_len (p : ByteArray) (l : List (Bool × ByteArray)) : (bl (atomL p l)).length ≤ p.size + 4 * tWt l := by
 rw [atomL_list,List.length_append,bl_length];have := aL_len l;omega
theorem lL_len {x : Lit} (h : litOk x = true) : (lL x).length + 2 ≤ 4 * lWt x := by
 unfold lWt;rcases lit_cases h with ⟨-,-,-,-,e⟩ | ⟨-,-,-,e⟩ | ⟨-,-,-,e⟩
 · rw [e];have := tL_len x.l;have := tL_len x.r;simp only [List.length_append,List.length_cons];omega
 · rw [e];have := atom_len x.p x.a;omega
 · rw [e];have := atom_len x.p x.a;simp only [List.length_cons];omega
theorem bTail_len : ∀ us : List Lit,us.all litOk = true → (bTail us).length ≤ 4 * (us.map lWt).sum
  | [],_ => Nat.zero_le _
  | u :: us,h => by
    rw [List.all_cons,Bool.and_eq_true] at h;have := bTail_len us h.2;have := lL_len h.1;rw [bTail_cons];simp only [List.length_cons,List.length_append,List.map_cons,List.sum_cons] at *;omega
theorem rule_len {r : Rul} (h : ruleOk r = true) : (bl (ruleL r)).length + 1 ≤ 4 * ruleWt r := by
 obtain ⟨-,h2,-⟩ := ruleOk_parts h;rw [ruleL_list h,List.length_append];have h3 := atom_len r.h r.a;unfold ruleWt
 cases hb : r.b with
 | nil => simp only [bodyL,List.length_cons,List.length_nil,List.map_nil,List.sum_nil];omega
 | cons x ys =>
  rw [hb] at h2;rw [List.all_cons,Bool.and_eq_true] at h2;have := bTail_len ys h2.2;have := lL_len h2.1;simp only [bodyL,List.length_cons,List.length_append,List.length_nil,List.map_cons,List.sum_cons] at *;omega
end Lx
theorem Terms.rt {w : World} {a : Option Addr} {l : List (Bool × ByteArray)} (h : Terms w a l) : RT w a l := ⟨by have := h.len;omega,h.cells⟩
theorem Lits.rl {w : World} {a : Option Addr} {l : List Lit} (h : Lits w a l) : RL w a (l.map toP) := by
 refine ⟨by rw [List.length_map];have := h.len;omega,fun j x hx => ?_⟩;rw [List.getElem?_map] at hx
 cases hy : l[j]? with
 | none => rw [hy] at hx;cases hx
 | some y =>
  rw [hy] at hx;injection hx with hx;subst hx;obtain ⟨p,ad,cap,h0,h1,h2,h3,h4,h5,h6,h7,h8⟩ := h.cells j y hy;exact ⟨p,ad,cap,h0,h1,h2,h3,h4,h5,h6,h7,h8.rt⟩
end Go.Proofs.YtclioihichcpiaaDoor
