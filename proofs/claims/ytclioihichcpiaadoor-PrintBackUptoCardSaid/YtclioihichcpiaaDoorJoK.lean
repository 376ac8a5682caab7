/- What is written is read, plain: the document's reader over printed texts. No program in sight. -/
import Derived.Test.YtclioihichcpiaaDoorJoI
import Derived.Test.YtclioihichcpiaaDoorPmH
set_option maxHeartbeats 8000000
set_option maxRecDepth 100000
namespace Go.Proofs.YtclioihichcpiaaDoor
open Go.RowKit Lx
namespace Lx
theorem b_bi_inj {c d : UInt8} (h : bi c = bi d) : c = d := by
 unfold bi at h;exact UInt8.toNat_inj.1 (by omega)
theorem half_hex (n : Int) (h0 : 0 ≤ n) (h1 : n < 16) : halfI (bi (byteI (hexI n))) = n := by
 have hr := hexI_range n h0 h1
 have : bi (byteI (hexI n)) = hexI n := by
  unfold bi byteI;rw [UInt8.toNat_ofNat'];omega
 rw [this];unfold hexI halfI
 split
 · rw [if_pos (by omega)];omega
 · rw [if_neg (by omega),if_pos (by omega)];omega
theorem quo_back (R : Bs) : ∀ (l : Bs) (n : Nat),n + l.length ≤ 1024 → quo (l.flatMap escL ++ 34 :: R) n = (l,(l.flatMap escL).length + 1,true)
  | [],n,_ => quo_34 34 R n rfl
  | c :: r,n,h => by
    have hn : ¬ n = 1024 := by rw [List.length_cons] at h;omega
    have ih := quo_back R r (n + 1) (by rw [List.length_cons] at h;omega);have h92 : bi 92 = 92 := rfl;rw [List.flatMap_cons,List.append_assoc]
    by_cases h1 : bi c = 34 ∨ bi c = 92
    · rw [esc_a c h1];show quo (92 :: c :: (r.flatMap escL ++ 34 :: R)) n = _;rw [quo_92 _ _ _ h92 hn];simp only [quoS];rw [if_pos h1,ih];simp
    by_cases h2 : bi c = 10
    · rw [esc_n c h2];show quo (92 :: 110 :: (r.flatMap escL ++ 34 :: R)) n = _;rw [quo_92 _ _ _ h92 hn];simp only [quoS];rw [if_neg (by decide),if_pos (by decide),ih,show c = 10 from b_bi_inj (by rw [h2];rfl)];simp
    by_cases h3 : bi c = 9
    · rw [esc_t c h3];show quo (92 :: 116 :: (r.flatMap escL ++ 34 :: R)) n = _;rw [quo_92 _ _ _ h92 hn];simp only [quoS];rw [if_neg (by decide),if_neg (by decide),if_pos (by decide),ih,show c = 9 from b_bi_inj (by rw [h3];rfl)];simp
    by_cases h4 : 32 ≤ bi c ∧ bi c ≤ 126
    · rw [esc_p c h1 h4];show quo (c :: (r.flatMap escL ++ 34 :: R)) n = _;rw [quo_chr _ _ _ (by omega) (by omega) (by omega),ih];simp
    · rw [esc_x c h1 h2 h3 h4];show quo (92 :: 120 :: byteI (hexI (bi c / 16)) :: byteI (hexI (bi c % 16)) :: (r.flatMap escL ++ 34 :: R)) n = _;have hr := bi_range c;have e1 := half_hex (bi c / 16) (by omega) (by omega);have e2 := half_hex (bi c % 16) (by omega) (by omega)
      rw [quo_92 _ _ _ h92 hn,quoS_x _ _ _ rfl,quoF_ok _ _ _ _ (bi c / 16) (bi c % 16) e1.symm e2.symm (by omega) (by omega),ih]
      have : UInt8.ofNat (16 * (bi c / 16) + bi c % 16).toNat = c := by
        apply b_bi_inj
        unfold bi;rw [UInt8.toNat_ofNat',show 16 * ((c.toNat : Int) / 16) + (c.toNat : Int) % 16 = (c.toNat : Int) from by omega];have := c.toNat_lt;omega
      rw [this];simp
/-- no word goes on here; here stands no blank -/
def Halts (R : Bs) : Prop := ∀ c r,R = c :: r → letterB (bi c) = false
def Solid (R : Bs) : Prop := ∀ c r,R = c :: r → blankB (bi c) = false ∧ bi c ≠ 37
theorem halts_of {c : UInt8} {r : Bs} (h : letterB (bi c) = false) : Halts (c :: r) := fun d s e => by injection e with e1 e2;rw [← e1];exact h
theorem solid_of {c : UInt8} {r : Bs} (h : blankB (bi c) = false ∧ bi c ≠ 37) : Solid (c :: r) := fun d s e => by injection e with e1 e2;rw [← e1];exact h
theorem letter_solid {c : UInt8} (h : letterB (bi c) = true) : blankB (bi c) = false ∧ bi c ≠ 37 := by
 unfold letterB at h;unfold blankB;simp at h ⊢;omega
theorem drop_at {L A R : Bs} {p : Nat} (h : L.drop p = A ++ R) : L.drop (p + A.length) = R := by
 rw [← List.drop_drop,h,List.drop_left]
theorem pk_at {L R : Bs} {p : Nat} (h : L.drop p = R) : pk L p = pk R 0 := by
 unfold pk;rw [← h,List.getElem?_drop,Nat.add_zero]
theorem pk_halt {R : Bs} (h : Halts R) : letterB (pk R 0) = false := by
 cases R with
 | nil => rfl
 | cons c r => exact h c r rfl
theorem skip_solid {R : Bs} (h : Solid R) : skipN false R = 0 := by
 cases R with
 | nil => rfl
 | cons c r =>
  have := h c r rfl;simp only [skipN];rw [if_neg this.2,this.1];rfl
theorem skip_32 {R : Bs} (h : Solid R) : skipN false (32 :: R) = 1 := by
 have := skip_solid h;simp only [skipN];rw [if_neg (by decide),if_pos (by decide),this]
theorem skip_10 {R : Bs} (h : Solid R) : skipN false (10 :: R) = 1 := by
 have := skip_solid h;simp only [skipN];rw [if_neg (by decide),if_pos (by decide),this]
theorem rs_solid {L R : Bs} {p : Nat} (h : L.drop p = R) (hs : Solid R) : rSkip L p = p := by unfold rSkip;rw [h,skip_solid hs];rfl
theorem rs_32 {L R : Bs} {p : Nat} (h : L.drop p = 32 :: R) (hs : Solid R) : rSkip L p = p + 1 := by unfold rSkip;rw [h,skip_32 hs]
theorem rs_10 {L R : Bs} {p : Nat} (h : L.drop p = 10 :: R) (hs : Solid R) : rSkip L p = p + 1 := by unfold rSkip;rw [h,skip_10 hs]
theorem run_all {f : UInt8 → Bool} {l R : Bs} (h : l.all f = true) (hR : ∀ c r,R = c :: r → f c = false) : ((l ++ R).takeWhile f).length = l.length := by
 induction l with
 | nil =>
  cases R with
  | nil => rfl
  | cons c r => rw [List.nil_append,List.takeWhile_cons,hR c r rfl];rfl
 | cons c r ih =>
  rw [List.all_cons,Bool.and_eq_true] at h;rw [List.cons_append,List.takeWhile_cons,if_pos h.1,List.length_cons,ih h.2,List.length_cons]
theorem letN_on {l R : Bs} (h : allB letterB l = true) (hR : Halts R) : letN (l ++ R) = l.length := run_all h hR
theorem b_digit_letter {c : Int} (h : letterB c = false) : digitB c = false ∧ wordlyI c = false := by
 unfold letterB at h;unfold wordlyI smallB greatB digitB;simp at h ⊢;omega
theorem digN_on {l R : Bs} (h : allB digitB l = true) (hR : Halts R) : digN (l ++ R) = l.length := run_all h (fun c r e => (b_digit_letter (hR c r e)).1)
theorem run_word {L l R : Bs} {p : Nat} (h : L.drop p = l ++ R) (hw : writtenB l = true) (hR : Halts R) : rRun L p = .ok (l,p + l.length) := by
 unfold writtenB at hw;rw [Bool.and_eq_true] at hw;have h64 := (of_decide_eq_true hw.2).2;unfold rRun;rw [h,letN_on hw.1 hR,if_pos h64,List.take_left]
theorem b_first_of {f : Int → Bool} {l : Bs} (h : firstB f l = true) (R : Bs) : f (pk (l ++ R) 0) = true := by
 cases l with
 | nil => cases h
 | cons c r => exact h
theorem b_name_parts {l : Bs} (h : nameB l = true) : writtenB l = true ∧ firstB smallB l = true ∧ reservedB l = false := by
 unfold nameB at h;rw [Bool.and_eq_true,Bool.and_eq_true] at h;exact ⟨h.1,h.2.1,by cases hr : reservedB l <;> rw [hr] at h <;> simp at h ⊢⟩
theorem name_solid {l : Bs} (h : writtenB l = true) (R : Bs) : Solid (l ++ R) := by
 unfold writtenB allB at h;rw [Bool.and_eq_true] at h
 cases l with
 | nil => exact absurd (of_decide_eq_true h.2).1 (by decide)
 | cons c r =>
  rw [List.all_cons,Bool.and_eq_true] at h;exact solid_of (letter_solid h.1.1)
theorem b_name_on {L l R : Bs} {p : Nat} (h : L.drop p = l ++ R) (hn : nameB l = true) (hR : Halts R) : rName L p = .ok (l,p + l.length) := by
 obtain ⟨h1,h2,h3⟩ := b_name_parts hn;unfold rName;rw [pk_at h,if_pos (b_first_of h2 R),run_word h h1 hR];show (if reservedB l = true then _ else _) = _;rw [h3];rfl
theorem b_small_not {c : Int} (h : smallB c = true) : greatB c = false ∧ digitB c = false ∧ c ≠ 34 := by
 unfold smallB at h;unfold greatB digitB;simp at h ⊢;omega
theorem b_digit_not {c : Int} (h : digitB c = true) : greatB c = false ∧ smallB c = false := by
 unfold digitB at h;unfold greatB smallB;simp at h ⊢;omega
theorem b_great_not {c : Int} (h : greatB c = true) : smallB c = false := by
 unfold greatB at h;unfold smallB;simp at h ⊢;omega
theorem quote_len (l : Bs) : (quoteL l).length = (l.flatMap escL).length + 2 := by unfold quoteL;simp
/-- what a term's text is -/
theorem term_cases {v : Bool} {l : Bs} (h : termOk v l = true) : (v = true ∧ variableB l = true ∧ termL v l = l) ∨ (v = false ∧ nameB l = true ∧ termL v l = l) ∨ (v = false ∧ nameB l = false ∧ numberB l = true ∧ termL v l = l) ∨ (v = false ∧ l.length ≤ 1024 ∧ nameB l = false ∧ termL v l = quoteL l) := by
 unfold termL;rw [if_pos h];unfold termOk at h
 cases v with
 | true => rw [if_pos rfl] at h;exact .inl ⟨rfl,h,rfl⟩
 | false =>
  rw [if_neg (by decide)] at h;unfold bareB
  cases hn : nameB l with
  | true => exact .inr (.inl ⟨rfl,rfl,rfl⟩)
  | false =>
   cases hm : numberB l with
   | true => exact .inr (.inr (.inl ⟨rfl,rfl,rfl,rfl⟩))
   | false => exact .inr (.inr (.inr ⟨rfl,of_decide_eq_true h,rfl,rfl⟩))
theorem number_first {l : Bs} (h : numberB l = true) : firstB digitB l = true ∧ allB digitB l = true ∧ l.length ≤ 64 := by
 unfold numberB at h;rw [Bool.and_eq_true] at h;obtain ⟨h1,h2⟩ := of_decide_eq_true h.2;refine ⟨?_,h.1,h2⟩
 cases l with
 | nil => exact absurd h1 (by decide)
 | cons c r =>
  have := h.1;unfold allB at this;rw [List.all_cons,Bool.and_eq_true] at this;exact this.1
theorem term_solid {v : Bool} {l : Bs} (h : termOk v l = true) (R : Bs) : Solid (termL v l ++ R) := by
 rcases term_cases h with ⟨-,h1,e⟩ | ⟨-,h1,e⟩ | ⟨-,-,h1,e⟩ | ⟨-,-,-,e⟩
 · rw [e];unfold variableB at h1;rw [Bool.and_eq_true] at h1;exact name_solid h1.1 R
 · rw [e];exact name_solid (b_name_parts h1).1 R
 · rw [e];have := (number_first h1).1
   cases l with
   | nil => cases this
   | cons c r =>
    refine solid_of ?_;have h3 : digitB (bi c) = true := this;unfold digitB at h3;unfold blankB;simp at h3 ⊢;omega
 · rw [e];exact solid_of ⟨rfl,by decide⟩
theorem b_text_on {L l R : Bs} {p : Nat} (h : L.drop p = quoteL l ++ R) (hl : l.length ≤ 1024) : rText L p = .ok (l,p + (quoteL l).length) := by
 have h1 : L.drop p = 34 :: (l.flatMap escL ++ 34 :: R) := by rw [h];unfold quoteL;simp
 have h2 : L.drop (p + 1) = l.flatMap escL ++ 34 :: R := drop_at (A := [34]) h1;unfold rText rSign;rw [pk_of h1,if_pos (show bi 34 = 34 from rfl)];show rQuo L (p + 1) = _;unfold rQuo;rw [h2,quo_back R l 0 (by omega)];show Except.ok (l,p + 1 + ((l.flatMap escL).length + 1)) = _;rw [quote_len]
 congr 2
 omega
theorem b_term_on {L R : Bs} {v : Bool} {l : Bs} {p : Nat} (ho : termOk v l = true) (h : L.drop p = termL v l ++ R) (hR : Halts R) : rTerm L p = .ok ((v,mk l),p + (termL v l).length) := by
 unfold rTerm;rcases term_cases ho with ⟨rfl,h1,e⟩ | ⟨rfl,h1,e⟩ | ⟨rfl,-,h1,e⟩ | ⟨rfl,hl,-,e⟩
 · rw [e] at h ⊢;unfold variableB at h1;rw [Bool.and_eq_true] at h1;rw [pk_at h,if_pos (b_first_of h1.2 R),run_word h h1.1 hR];rfl
 · rw [e] at h ⊢;have hs := b_small_not (b_first_of (b_name_parts h1).2.1 R);rw [pk_at h,hs.1,hs.2.1,if_neg (by decide),if_neg (by decide),if_neg hs.2.2,b_name_on h h1 hR];rfl
 · rw [e] at h ⊢;obtain ⟨h2,h3,h4⟩ := number_first h1;have hd := b_first_of h2 R;rw [pk_at h,(b_digit_not hd).1,if_neg (by decide),if_pos hd];unfold rDigits;rw [h,digN_on h3 hR,if_pos h4,pk_at (drop_at h),(b_digit_letter (pk_halt hR)).2,if_neg (by decide),List.take_left];rfl
 · rw [e] at h ⊢;have hp : pk L p = 34 := by rw [pk_at h];rfl
   rw [hp,if_neg (by decide),if_neg (by decide),if_pos rfl,b_text_on h hl];rfl
/-- a term's text -/
def tL (t : Bool × ByteArray) : Bs := termL t.1 (bl t.2)
def tOk (t : Bool × ByteArray) : Bool := termOk t.1 (bl t.2)
theorem tm_on {L R : Bs} {t : Bool × ByteArray} {p : Nat} (ho : tOk t = true) (h : L.drop p = tL t ++ R) (hR : Halts R) : rTerm L p = .ok (t,p + (tL t).length) := by
 rw [b_term_on ho h hR,mk_bl];rfl
def tTail (l : List (Bool × ByteArray)) : Bs := Lib.joinTail [44,32] (l.map tL)
theorem tTail_cons (u : Bool × ByteArray) (us : List (Bool × ByteArray)) : tTail (u :: us) = 44 :: 32 :: (tL u ++ tTail us) := by
 unfold tTail Lib.joinTail;simp
theorem b_sign_on {L R : Bs} {c : UInt8} {p : Nat} (h : L.drop p = c :: R) : rSign (bi c) L p = .ok (p + 1) := by
 unfold rSign;rw [pk_of h,if_pos rfl]
theorem b_args_on {L R : Bs} : ∀ (us : List (Bool × ByteArray)) (t : Bool × ByteArray) (n p e : Nat) (acc : List (Bool × ByteArray)),(t :: us).all tOk = true → us.length < n → rSkip L p = e → L.drop e = tL t ++ (tTail us ++ 41 :: R) →
    rArgsN L n p acc = .ok (acc ++ t :: us,e + (tL t).length + (tTail us).length + 1)
  | us,t,0,p,e,acc,_,hn,_,_ => absurd hn (Nat.not_lt_zero _)
  | [],t,n + 1,p,e,acc,ho,hn,he,h => by
    have ho' : tOk t = true := by simpa using ho
    have h1 : L.drop (e + (tL t).length) = 41 :: R := drop_at h;have hs := rs_solid h1 (solid_of ⟨rfl,by decide⟩);unfold rArgsN;rw [he,tm_on ho' h (halts_of rfl)];show (if pk L (rSkip L (e + (tL t).length)) = 44 then _ else (rSign 41 L (rSkip L (e + (tL t).length))).bind _) = _;rw [hs,pk_of h1,if_neg (by decide)];show (rSign (bi 41) L _).bind _ = _;rw [b_sign_on h1]
    rfl
  | u :: us,t,n + 1,p,e,acc,ho,hn,he,h => by
    have ho1 : tOk t = true := by rw [List.all_cons,Bool.and_eq_true] at ho;exact ho.1
    have ho2 : (u :: us).all tOk = true := by rw [List.all_cons,Bool.and_eq_true] at ho;exact ho.2
    have hou : tOk u = true := by rw [List.all_cons,Bool.and_eq_true] at ho2;exact ho2.1
    rw [tTail_cons] at h;have h1 : L.drop (e + (tL t).length) = 44 :: 32 :: (tL u ++ (tTail us ++ 41 :: R)) := by rw [drop_at h];simp
    have hs := rs_solid h1 (solid_of ⟨rfl,by decide⟩);have h2 : L.drop (e + (tL t).length + 1) = 32 :: (tL u ++ (tTail us ++ 41 :: R)) := drop_at (A := [44]) h1;have h3 := rs_32 h2 (term_solid hou _);have h4 : L.drop (e + (tL t).length + 1 + 1) = tL u ++ (tTail us ++ 41 :: R) := drop_at (A := [32]) h2;rw [List.length_cons] at hn
    have ih := b_args_on us u n (e + (tL t).length + 1) _ (acc ++ [t]) ho2 (by omega) h3 h4;unfold rArgsN;rw [he,tm_on ho1 h (halts_of rfl)];show (if pk L (rSkip L (e + (tL t).length)) = 44 then (if n = 0 then _ else rArgsN L n (rSkip L (e + (tL t).length) + 1) (acc ++ [t])) else _) = _;rw [hs,pk_of h1,if_pos (show bi 44 = 44 from rfl),if_neg (by omega),ih,tTail_cons,List.append_assoc]
    simp only [List.length_cons,List.length_append,List.cons_append,List.nil_append]
    congr 2
    omega
/-- the text of a row of terms between brackets -/
def aL (l : List (Bool × ByteArray)) : Bs := match l with
  | [] => []
  | t :: us => 40 :: (tL t ++ (tTail us ++ [41]))
theorem rargs_skip (L : Bs) (p : Nat) : rArgs L (rSkip L p) = rArgs L p := by unfold rArgs;rw [rskip_again]
theorem b_rargs_on {L R : Bs} {l : List (Bool × ByteArray)} {p : Nat} (ho : l.all tOk = true) (hn : l.length ≤ 16) (h : L.drop p = aL l ++ R) (h40 : pk L (rSkip L (p + (aL l).length)) ≠ 40) :
    ∃ q,rArgs L p = .ok (l,q) ∧ rSkip L q = rSkip L (p + (aL l).length) := by
 cases l with
 | nil =>
  refine ⟨rSkip L p,?_,rskip_again L p⟩;unfold rArgs;rw [if_neg (show ¬ pk L (rSkip L p) = 40 from h40)]
 | cons t us =>
  have h1 : L.drop p = 40 :: (tL t ++ (tTail us ++ 41 :: R)) := by rw [h];simp [aL]
  have hs := rs_solid h1 (solid_of ⟨rfl,by decide⟩);have h2 : L.drop (p + 1) = tL t ++ (tTail us ++ 41 :: R) := drop_at (A := [40]) h1;have hot : tOk t = true := by rw [List.all_cons,Bool.and_eq_true] at ho;exact ho.1
  have h3 := rs_solid h2 (term_solid hot _);rw [List.length_cons] at hn;refine ⟨_,?_,rfl⟩;unfold rArgs;rw [hs,pk_of h1,if_pos (show bi 40 = 40 from rfl),b_args_on us t 16 (p + 1) _ [] ho (by omega) h3 h2];simp only [List.nil_append,aL,List.length_cons,List.length_append,List.length_nil]
  congr 2
  omega
end Lx
end Go.Proofs.YtclioihichcpiaaDoor
/- What is written is read, plain: atoms, literals, rules, programs. -/
namespace Go.Proofs.YtclioihichcpiaaDoor
open Go.RowKit Lx
namespace Lx
theorem bl_app (a b : ByteArray) : bl (a ++ b) = bl a ++ bl b := by simp
theorem texts_lists (l : List (Bool × ByteArray)) : (textsT l).map (·.data.toList) = l.map tL := by
 unfold textsT;rw [List.map_map];refine List.map_congr_left fun x _ => ?_;show bl (mk _) = _;rw [bl_mk];rfl
theorem atomL_list (p : ByteArray) (l : List (Bool × ByteArray)) : bl (atomL p l) = bl p ++ aL l := by
 unfold atomL
 cases l with
 | nil => rw [if_pos (show ([] : List (Bool × ByteArray)).length = 0 from rfl)];simp [aL]
 | cons t us =>
  rw [if_neg (by simp),bl_app,bl_app,bl_app]
  have : bl (commas (t :: us)) = tL t ++ tTail us := by
   show (Array.toList (List.toArray _)) = _;rw [List.toList_toArray,texts_lists,List.map_cons,Lib.join_cons];rfl
  rw [this];simp [aL,bl]
theorem okT_all (l : List (Bool × ByteArray)) : okT l = l.all tOk := rfl
theorem atomOk_parts {p : ByteArray} {l : List (Bool × ByteArray)} (h : atomOk p l = true) : l.all tOk = true ∧ nameB (bl p) = true ∧ l.length ≤ 16 := by
 unfold atomOk at h;rw [Bool.and_eq_true,Bool.and_eq_true] at h;exact ⟨h.1.1,h.1.2,of_decide_eq_true h.2⟩
theorem aL_halts {R : Bs} (l : List (Bool × ByteArray)) (h : Halts R) : Halts (aL l ++ R) := by
 cases l with
 | nil => exact h
 | cons t us => exact halts_of rfl
theorem len_app {A B : Bs} (p : Nat) : p + (A ++ B).length = p + A.length + B.length := by rw [List.length_append];omega
theorem b_atom_on {L R : Bs} {pr : ByteArray} {l : List (Bool × ByteArray)} {p : Nat} (ho : atomOk pr l = true) (h : L.drop p = bl (atomL pr l) ++ R) (hR : Halts R) (h40 : pk L (rSkip L (p + (bl (atomL pr l)).length)) ≠ 40) :
    ∃ q,rAtom L p = .ok ((pr,l),q) ∧ rSkip L q = rSkip L (p + (bl (atomL pr l)).length) := by
 obtain ⟨h1,h2,h3⟩ := atomOk_parts ho;rw [atomL_list,List.append_assoc] at h;rw [atomL_list,len_app] at h40 ⊢;obtain ⟨q,hq,hq2⟩ := b_rargs_on h1 h3 (drop_at h) h40;refine ⟨q,?_,hq2⟩;unfold rAtom;rw [b_name_on h h2 (aL_halts l hR)];show (rArgs L _).bind _ = _;rw [hq];show Except.ok ((mk (bl pr),l),q) = _;rw [mk_bl]
def toP (x : Lit) : PLit := ⟨x.k,x.p,x.a,x.l,x.r⟩
def lL (x : Lit) : Bs := bl (litL x)
theorem b_unlike_on {L R : Bs} {t r : Bool × ByteArray} {q e : Nat} (ho : tOk r = true) (he : rSkip L q = e) (h : L.drop e = 33 :: 61 :: 32 :: (tL r ++ R)) (hR : Halts R) : rUnlike L t q = .ok (⟨3,⟨#[]⟩,[],t,r⟩,e + 3 + (tL r).length) := by
 have h1 : L.drop (e + 1) = 61 :: 32 :: (tL r ++ R) := drop_at (A := [33]) h;have h2 : L.drop (e + 1 + 1) = 32 :: (tL r ++ R) := drop_at (A := [61]) h1;have h3 : L.drop (e + 1 + 1 + 1) = tL r ++ R := drop_at (A := [32]) h2;have hs := rs_32 h2 (term_solid ho R);unfold rUnlike;rw [he];show (rSign (bi 33) L e).bind _ = _;rw [b_sign_on h];show (rSign (bi 61) L (e + 1)).bind _ = _
 rw [b_sign_on h1];show (rTerm L (rSkip L (e + 1 + 1))).bind _ = _;rw [hs,tm_on ho h3 hR]
 rfl
theorem empty_of {s : ByteArray} (h : s.toList = []) : s = ⟨#[]⟩ := nil_text h
theorem zero_of {x : Bool × ByteArray} (h : zeroT x = true) : x = (false,⟨#[]⟩) := by
 obtain ⟨v,s⟩ := x;unfold zeroT at h;rw [Bool.and_eq_true] at h;have h1 : v = false := by cases v <;> simp at h ⊢
 have h2 : s = ⟨#[]⟩ := empty_of (of_decide_eq_true h.2);rw [h1,h2]
/-- the three kinds of literals -/
theorem lit_cases {x : Lit} (h : litOk x = true) :
    (x.k = 3 ∧ tOk x.l = true ∧ tOk x.r = true ∧ toP x = ⟨3,⟨#[]⟩,[],x.l,x.r⟩ ∧ lL x = tL x.l ++ (32 :: 33 :: 61 :: 32 :: tL x.r)) ∨
    (x.k = 1 ∧ atomOk x.p x.a = true ∧ toP x = ⟨1,x.p,x.a,(false,⟨#[]⟩),(false,⟨#[]⟩)⟩ ∧ lL x = bl (atomL x.p x.a)) ∨
    (x.k = 2 ∧ atomOk x.p x.a = true ∧ toP x = ⟨2,x.p,x.a,(false,⟨#[]⟩),(false,⟨#[]⟩)⟩ ∧ lL x = 110 :: 111 :: 116 :: 32 :: bl (atomL x.p x.a)) := by
 obtain ⟨k,p,a,l,r⟩ := x;unfold litOk at h
 by_cases h3 : k = 3
 · subst h3;rw [if_pos rfl,Bool.and_eq_true,Bool.and_eq_true] at h;obtain ⟨⟨h1,h2⟩,h4⟩ := h;have h1' : ([l,r] : List _).all tOk = true := h1;rw [List.all_cons,List.all_cons,Bool.and_eq_true,Bool.and_eq_true] at h1';have hp : p = ⟨#[]⟩ := empty_of (of_decide_eq_true h2);have ha : a = [] := List.length_eq_zero_iff.1 (of_decide_eq_true h4);subst hp ha
   refine .inl ⟨rfl,h1'.1,h1'.2.1,rfl,?_⟩;unfold lL litL;rw [if_pos rfl];show (Array.toList (List.toArray _)) = _;rw [List.toList_toArray,texts_lists];simp [Lib.join_cons,Lib.joinTail]
 · rw [if_neg h3,Bool.and_eq_true,Bool.and_eq_true,Bool.and_eq_true] at h;obtain ⟨⟨hk,ha⟩,hl,hr⟩ := h;have hl' : l = (false,⟨#[]⟩) := zero_of hl;have hr' : r = (false,⟨#[]⟩) := zero_of hr;subst hl' hr';rw [Bool.or_eq_true] at hk;rcases hk with hk | hk
   · have hk : k = 1 := of_decide_eq_true hk;subst hk;exact .inr (.inl ⟨rfl,ha,rfl,rfl⟩)
   · have hk : k = 2 := of_decide_eq_true hk;subst hk;refine .inr (.inr ⟨rfl,ha,rfl,?_⟩);unfold lL litL;rw [if_neg (show ¬ (2 : Int) = 3 by decide),if_pos (show (2 : Int) = 2 from rfl),bl_app];rfl
theorem atom_solid {p : ByteArray} {l : List (Bool × ByteArray)} (h : atomOk p l = true) (R : Bs) : Solid (bl (atomL p l) ++ R) := by
 rw [atomL_list,List.append_assoc];exact name_solid (b_name_parts (atomOk_parts h).2.1).1 _
theorem lit_solid {x : Lit} (h : litOk x = true) (R : Bs) : Solid (lL x ++ R) := by
 rcases lit_cases h with ⟨-,h1,-,-,e⟩ | ⟨-,h1,-,e⟩ | ⟨-,h1,-,e⟩
 · rw [e,List.append_assoc];exact term_solid h1 _
 · rw [e];exact atom_solid h1 R
 · rw [e];exact solid_of ⟨rfl,by decide⟩
theorem not_reserved {l : Bs} (h : reservedB l = false) : l ≠ sNot ∧ l ≠ sInput ∧ l ≠ sOutput := by
 refine ⟨fun e => ?_,fun e => ?_,fun e => ?_⟩ <;> (rw [e] at h;exact absurd h (by decide))
theorem b_lit_on {L R : Bs} {x : Lit} {p : Nat} (ho : litOk x = true) (h : L.drop p = lL x ++ R) (hR : Halts R) (h40 : pk L (rSkip L (p + (lL x).length)) ≠ 40) (h33 : pk L (rSkip L (p + (lL x).length)) ≠ 33) :
    ∃ q,rLit L p = .ok (toP x,q) ∧ rSkip L q = rSkip L (p + (lL x).length) := by
 rcases lit_cases ho with ⟨-,hl,hr,e,e2⟩ | ⟨-,ha,e,e2⟩ | ⟨-,ha,e,e2⟩
 · rw [e];rw [e2] at h ⊢;have h' : L.drop p = tL x.l ++ (32 :: 33 :: 61 :: 32 :: (tL x.r ++ R)) := by rw [h];simp
   have h1 := drop_at h';have hs := rs_32 h1 (solid_of ⟨rfl,by decide⟩);have h2 : L.drop (p + (tL x.l).length + 1) = 33 :: 61 :: 32 :: (tL x.r ++ R) := drop_at (A := [32]) h1;have hu := fun q (hq : rSkip L q = p + (tL x.l).length + 1) => b_unlike_on (t := x.l) hr hq h2 hR
   have hlen : p + (tL x.l).length + 1 + 3 + (tL x.r).length = p + (tL x.l ++ (32 :: 33 :: 61 :: 32 :: tL x.r)).length := by simp;omega
   rw [← hlen];refine ⟨_,?_,rfl⟩;unfold rLit;have ht := tm_on hl h' (halts_of rfl);have hlo : termOk x.l.1 (bl x.l.2) = true := hl
   have key : smallB (pk L p) = true → nameB (bl x.l.2) = true ∧ x.l.1 = false ∧ tL x.l = bl x.l.2 := by
    intro hsm;rw [pk_at h'] at hsm;rcases term_cases hlo with ⟨-,h5,e5⟩ | ⟨h4,h5,e5⟩ | ⟨-,-,h5,e5⟩ | ⟨-,-,-,e5⟩
    · unfold tL at hsm;rw [e5] at hsm;unfold variableB at h5;rw [Bool.and_eq_true] at h5;rw [b_great_not (b_first_of h5.2 _)] at hsm;cases hsm
    · exact ⟨h5,h4,e5⟩
    · unfold tL at hsm;rw [e5] at hsm;rw [(b_digit_not (b_first_of (number_first h5).1 _)).2] at hsm;cases hsm
    · unfold tL at hsm;rw [e5] at hsm;exact absurd hsm (by show ¬ smallB (bi 34) = true;decide)
   by_cases hsm : smallB (pk L p) = true
   · obtain ⟨h5,h6,h7⟩ := key hsm;obtain ⟨n1,n2,n3⟩ := b_name_parts h5;rw [if_pos hsm];rw [h7] at h' hs hu h2 ⊢;rw [run_word h' n1 (halts_of rfl)];show (if bl x.l.2 = sNot then _ else if reservedB (bl x.l.2) = true then _ else if pk L (rSkip L (p + (bl x.l.2).length)) = 33 then rUnlike L (false,mk (bl x.l.2)) (rSkip L (p + (bl x.l.2).length)) else _) = _
     rw [if_neg (not_reserved n3).1,n3,if_neg (by decide),hs,pk_of h2,if_pos (show bi 33 = 33 from rfl),mk_bl];have hx : (false,x.l.2) = x.l := by rw [← h6]
     rw [hx];exact hu _ (by rw [← hs,rskip_again])
   · rw [if_neg hsm,ht];show rUnlike L x.l (p + (tL x.l).length) = _;exact hu _ hs
 · rw [e];rw [e2] at h h40 h33 ⊢;obtain ⟨h1,h2,h3⟩ := atomOk_parts ha;obtain ⟨n1,n2,n3⟩ := b_name_parts h2;rw [atomL_list,List.append_assoc] at h;rw [atomL_list,len_app] at h40 h33 ⊢;have h5 := drop_at h;obtain ⟨q,hq,hq2⟩ := b_rargs_on h1 h3 h5 h40;refine ⟨q,?_,hq2⟩;unfold rLit;rw [pk_at h,if_pos (b_first_of n2 _),run_word h n1 (aL_halts _ hR)]
   show (if bl x.p = sNot then _ else if reservedB (bl x.p) = true then _ else if pk L (rSkip L (p + (bl x.p).length)) = 33 then _ else (rArgs L (rSkip L (p + (bl x.p).length))).bind fun a => (.ok ((⟨1,mk (bl x.p),a.1,(false,⟨#[]⟩),(false,⟨#[]⟩)⟩ : PLit),a.2) : Except Int (PLit × Nat))) = _
   have h6 : pk L (rSkip L (p + (bl x.p).length)) ≠ 33 := by
    cases hxa : x.a with
    | nil => rw [hxa] at h33;exact h33
    | cons t us =>
     rw [hxa] at h5;rw [rs_solid h5 (solid_of ⟨rfl,by decide⟩),pk_of h5];show ¬ bi 40 = 33;decide
   rw [if_neg (not_reserved n3).1,n3,if_neg (by decide),if_neg h6,rargs_skip,hq,mk_bl]
   rfl
 · rw [e];rw [e2] at h h40 ⊢;have h1 : L.drop p = sNot ++ 32 :: (bl (atomL x.p x.a) ++ R) := by rw [h];rfl
   have h2 : L.drop (p + 3) = 32 :: (bl (atomL x.p x.a) ++ R) := drop_at h1;have h3 : L.drop (p + 3 + 1) = bl (atomL x.p x.a) ++ R := drop_at (A := [32]) h2;have hs := rs_32 h2 (atom_solid ha R);have hlen : p + (110 :: 111 :: 116 :: 32 :: bl (atomL x.p x.a)).length = p + 3 + 1 + (bl (atomL x.p x.a)).length := by simp;omega
   rw [hlen] at h40 ⊢;obtain ⟨q,hq,hq2⟩ := b_atom_on ha h3 hR h40;refine ⟨q,?_,hq2⟩;unfold rLit;rw [pk_at h1,if_pos (by rfl),run_word h1 (by decide) (halts_of rfl)]
   have hz : ∀ (f g : Bs × Nat → Except Int (PLit × Nat)),((Except.ok (sNot,p + List.length sNot) : Except Int (Bs × Nat)).bind fun x => if x.1 = sNot then f x else g x) = f (sNot,p + 3) := fun f g => by
    show (if sNot = sNot then f (sNot,p + 3) else g (sNot,p + 3)) = _;rw [if_pos rfl]
   refine (hz (fun x => rNot L x.2) _).trans ?_;show rNot L (p + 3) = _;unfold rNot;rw [pk_of h2,if_neg (by show ¬ wordlyI (bi 32) = true;decide),hs,hq]
   rfl
def bTail (b : List Lit) : Bs := Lib.joinTail [44,32] (b.map lL)
theorem bTail_cons (u : Lit) (us : List Lit) : bTail (u :: us) = 44 :: 32 :: (lL u ++ bTail us) := by
 unfold bTail Lib.joinTail;simp
theorem b_body_on {L R : Bs} : ∀ (us : List Lit) (t : Lit) (n p e : Nat) (acc : List PLit),(t :: us).all litOk = true → us.length < n → rSkip L p = e → L.drop e = lL t ++ (bTail us ++ 46 :: R) →
    rBodyN L n p acc = .ok (acc ++ (t :: us).map toP,e + (lL t).length + (bTail us).length + 1)
  | us,t,0,p,e,acc,_,hn,_,_ => absurd hn (Nat.not_lt_zero _)
  | [],t,n + 1,p,e,acc,ho,hn,he,h => by
    have ho' : litOk t = true := by simpa using ho
    have h1 : L.drop (e + (lL t).length) = 46 :: R := drop_at h;have hs := rs_solid h1 (solid_of ⟨rfl,by decide⟩);obtain ⟨q,hq,hq2⟩ := b_lit_on ho' h (halts_of rfl) (by rw [hs,pk_of h1];show ¬ bi 46 = 40;decide) (by rw [hs,pk_of h1];show ¬ bi 46 = 33;decide);unfold rBodyN;rw [he,hq];show (if pk L (rSkip L q) = 44 then _ else (rSign 46 L (rSkip L q)).bind _) = _
    rw [hq2,hs,pk_of h1,if_neg (by show ¬ bi 46 = 44;decide)];show (rSign (bi 46) L _).bind _ = _;rw [b_sign_on h1]
    rfl
  | u :: us,t,n + 1,p,e,acc,ho,hn,he,h => by
    have ho1 : litOk t = true := by rw [List.all_cons,Bool.and_eq_true] at ho;exact ho.1
    have ho2 : (u :: us).all litOk = true := by rw [List.all_cons,Bool.and_eq_true] at ho;exact ho.2
    have hou : litOk u = true := by rw [List.all_cons,Bool.and_eq_true] at ho2;exact ho2.1
    rw [bTail_cons] at h;have h1 : L.drop (e + (lL t).length) = 44 :: 32 :: (lL u ++ (bTail us ++ 46 :: R)) := by rw [drop_at h];simp
    have hs := rs_solid h1 (solid_of ⟨rfl,by decide⟩);have h2 : L.drop (e + (lL t).length + 1) = 32 :: (lL u ++ (bTail us ++ 46 :: R)) := drop_at (A := [44]) h1;have h3 := rs_32 h2 (lit_solid hou _);have h4 : L.drop (e + (lL t).length + 1 + 1) = lL u ++ (bTail us ++ 46 :: R) := drop_at (A := [32]) h2;rw [List.length_cons] at hn
    have ih := b_body_on us u n (e + (lL t).length + 1) _ (acc ++ [toP t]) ho2 (by omega) h3 h4;obtain ⟨q,hq,hq2⟩ := b_lit_on ho1 h (halts_of rfl) (by rw [hs,pk_of h1];show ¬ bi 44 = 40;decide) (by rw [hs,pk_of h1];show ¬ bi 44 = 33;decide);unfold rBodyN;rw [he,hq];show (if pk L (rSkip L q) = 44 then (if n = 0 then _ else rBodyN L n (rSkip L q + 1) (acc ++ [toP t])) else _) = _
    rw [hq2,hs,pk_of h1,if_pos (show bi 44 = 44 from rfl),if_neg (by omega),ih,bTail_cons,List.append_assoc];simp only [List.length_cons,List.length_append,List.cons_append,List.nil_append,List.map_cons]
    congr 2
    omega
/-- what stands behind a rule's head -/
def bodyL (b : List Lit) : Bs := match b with
  | [] => [46]
  | x :: ys => 32 :: 58 :: 45 :: 32 :: (lL x ++ (bTail ys ++ [46]))
theorem bodyL_halts (b : List Lit) (R : Bs) : Halts (bodyL b ++ R) := by cases b <;> exact halts_of rfl
theorem lits_lists (l : List Lit) (h : l.all litOk = true) : (textsL l).map (·.data.toList) = l.map lL := by
 unfold textsL;rw [List.map_map];refine List.map_congr_left fun x hx => ?_;show bl (litS x) = _;rw [(lit_yes (List.all_eq_true.1 h x hx)).1];rfl
theorem ruleOk_parts {r : Rul} (h : ruleOk r = true) : atomOk r.h r.a = true ∧ r.b.all litOk = true ∧ r.b.length ≤ 256 := by
 unfold ruleOk at h;rw [Bool.and_eq_true,Bool.and_eq_true] at h;exact ⟨h.1.1,h.1.2,of_decide_eq_true h.2⟩
theorem ruleL_list {r : Rul} (h : ruleOk r = true) : bl (ruleL r) = bl (atomL r.h r.a) ++ bodyL r.b := by
 obtain ⟨h,a,b⟩ := r;obtain ⟨-,h2,-⟩ := ruleOk_parts h;unfold ruleL
 cases b with
 | nil => rw [if_pos (show ([] : List Lit).length = 0 from rfl),bl_app];rfl
 | cons x ys =>
  rw [if_neg (by simp),bl_app,bl_app,bl_app]
  have : bl (commasL (x :: ys)) = lL x ++ bTail ys := by
   show (Array.toList (List.toArray _)) = _;rw [List.toList_toArray,lits_lists _ h2,List.map_cons,Lib.join_cons];rfl
  rw [this];simp [bodyL,bl]
/-- where the reader stands behind a rule's head -/
theorem body_at {L R : Bs} {b : List Lit} {e : Nat} (ho : b.all litOk = true) (h : L.drop e = bodyL b ++ R) : pk L (rSkip L e) ≠ 40 := by
 cases b with
 | nil =>
  rw [rs_solid h (solid_of ⟨rfl,by decide⟩),pk_at h];show ¬ bi 46 = 40;decide
 | cons x ys =>
  have h1 : L.drop (e + 1) = 58 :: 45 :: 32 :: (lL x ++ (bTail ys ++ [46])) ++ R := drop_at (A := [32]) h;rw [rs_32 (R := 58 :: 45 :: 32 :: (lL x ++ (bTail ys ++ [46])) ++ R) h (solid_of ⟨rfl,by decide⟩),pk_at h1];show ¬ bi 58 = 40;decide
theorem b_rbody_on {L R : Bs} {b : List Lit} {q e : Nat} (ho : b.all litOk = true) (hn : b.length ≤ 256) (h : L.drop e = bodyL b ++ R) (hq : rSkip L q = rSkip L e) : rBody L q = .ok (b.map toP,e + (bodyL b).length) := by
 unfold rBody;rw [hq]
 cases b with
 | nil =>
  have h' : L.drop e = 46 :: R := h;rw [rs_solid h' (solid_of ⟨rfl,by decide⟩),pk_of h',if_neg (by show ¬ bi 46 = 58;decide)];show (rSign (bi 46) L e).bind _ = _;rw [b_sign_on h']
  rfl
 | cons x ys =>
  have h0 : L.drop e = 32 :: 58 :: 45 :: 32 :: (lL x ++ (bTail ys ++ 46 :: R)) := by rw [h];simp [bodyL]
  have h1 : L.drop (e + 1) = 58 :: 45 :: 32 :: (lL x ++ (bTail ys ++ 46 :: R)) := drop_at (A := [32]) h0;have h2 : L.drop (e + 1 + 1) = 45 :: 32 :: (lL x ++ (bTail ys ++ 46 :: R)) := drop_at (A := [58]) h1;have h3 : L.drop (e + 1 + 1 + 1) = 32 :: (lL x ++ (bTail ys ++ 46 :: R)) := drop_at (A := [45]) h2
  have h4 : L.drop (e + 1 + 1 + 1 + 1) = lL x ++ (bTail ys ++ 46 :: R) := drop_at (A := [32]) h3;have hx : litOk x = true := by rw [List.all_cons,Bool.and_eq_true] at ho;exact ho.1
  rw [rs_32 h0 (solid_of ⟨rfl,by decide⟩),pk_of h1,if_pos (show bi 58 = 58 from rfl)];show (rSign (bi 45) L (e + 1 + 1)).bind _ = _;rw [b_sign_on h2];show rBodyN L 256 (e + 1 + 1 + 1) [] = _;rw [List.length_cons] at hn;rw [b_body_on ys x 256 _ _ [] ho (by omega) (rs_32 h3 (lit_solid hx _)) h4];simp only [List.nil_append,bodyL,List.length_cons,List.length_append,List.length_nil]
  congr 2
  omega
def toR (r : Rul) : PRule := ⟨r.h,r.a,r.b.map toP⟩
theorem rule_stmt {L R : Bs} {r : Rul} {p : Nat} (h : ruleOk r = true) (hd : L.drop p = bl (ruleL r) ++ R) : rStmt L p = .ok (.rule (toR r) p,p + (bl (ruleL r)).length) := by
 obtain ⟨h1,h2,h3⟩ := ruleOk_parts h;obtain ⟨a1,a2,a3⟩ := atomOk_parts h1;obtain ⟨n1,n2,n3⟩ := b_name_parts a2;rw [ruleL_list h,atomL_list,List.append_assoc,List.append_assoc] at hd;rw [ruleL_list h,atomL_list,len_app,len_app];have hd1 := drop_at hd;have hb := drop_at hd1;obtain ⟨q,hq,hq2⟩ := b_rargs_on a1 a3 hd1 (body_at h2 hb);unfold rStmt
 rw [pk_at hd,if_pos (b_first_of n2 _),run_word hd n1 (aL_halts _ (bodyL_halts _ _))];show (if (bl r.h = sInput ∨ bl r.h = sOutput) ∧ _ then _ else if reservedB (bl r.h) = true then _ else (rRuleOf L (mk (bl r.h)) (p + (bl r.h).length)).bind _) = _;rw [if_neg (fun hh => hh.1.elim (not_reserved n3).2.1 (not_reserved n3).2.2),n3,if_neg (by decide)];unfold rRuleOf;rw [hq]
 show ((rBody L q).bind _).bind _ = _;rw [b_rbody_on h2 h3 hb hq2,mk_bl]
 rfl
end Lx
end Go.Proofs.YtclioihichcpiaaDoor
