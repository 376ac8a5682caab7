/- the longest word: plain. -/
import Derived.Test.YtmjincocmhadeaaDoorLexSpec
import Derived.Test.YtmjincocmhadeaaDoorLexK
namespace Go.Proofs.YtmjincocmhadeaaDoor.Lx
theorem all_take_iff (p : UInt8 → Bool) : ∀ (l : Bs) (n m : Nat),n ≤ m → n ≤ l.length → ((l.take n).all p = true ↔ n ≤ ((l.take m).takeWhile p).length)
  | _,0,_,_,_ => by simp
  | [],n + 1,_,_,h => by simp at h
  | c :: r,n + 1,0,h,_ => by omega
  | c :: r,n + 1,m + 1,h,h2 => by
    have ih := all_take_iff p r n m (by omega) (by simpa using h2);simp only [List.take_succ_cons,List.all_cons,List.takeWhile_cons];cases hp : p c
    · simp
    · simp [ih]
def firstOk (l : Bs) : Bool := firstB (fun c => digitB c || greatB c || smallB c) l
def wordOk (l : Bs) : Prop := 1 ≤ l.length ∧ l.length ≤ 64 ∧ l.all (wpred (firstB digitB l)) = true ∧ firstOk l = true
theorem all_digit (l : Bs) : l.all (wpred true) = allB digitB l := by
 unfold allB wpred
 congr 1;funext c
 cases h : digitB (bi c)
 · simp
 · simp [digit_letter _ h]
theorem all_letter (l : Bs) : l.all (wpred false) = allB letterB l := by
 unfold allB wpred;simp
theorem kind_ne (l : Bs) : kindI l ≠ 0 ↔ wordOk l := by
 cases l with
 | nil => unfold wordOk;simp;decide
 | cons c r =>
  unfold wordOk
  by_cases hd : digitB (bi c) = true
  · have h1 : firstB digitB (c :: r) = true := hd;have h2 : firstOk (c :: r) = true := by show (digitB (bi c) || greatB (bi c) || smallB (bi c)) = true;rw [hd];rfl
    rw [h1,all_digit,h2];have hg : greatB (bi c) = false := by unfold digitB at hd;unfold greatB;simp at *;omega
    have hsm : smallB (bi c) = false := by unfold digitB at hd;unfold smallB;simp at *;omega
    have hv : variableB (c :: r) = false := by unfold variableB;show (_ && greatB (bi c)) = false;rw [hg];simp
    have hn : nameB (c :: r) = false := by unfold nameB;show (_ && (smallB (bi c) && _)) = false;rw [hsm];simp
    have hr : ¬ (c :: r) = sInput ∧ ¬ (c :: r) = sOutput ∧ ¬ (c :: r) = sNot := by
     refine ⟨?_,?_,?_⟩ <;> (intro h;injection h with h _;rw [h] at hd;revert hd;decide)
    unfold kindI;rw [if_neg hr.1,if_neg hr.2.1,if_neg hr.2.2,hv,hn]
    by_cases hnb : numberB (c :: r) = true
    · rw [hnb];unfold numberB at hnb;simp at hnb;simp;exact ⟨hnb.2,hnb.1⟩
    · have hnb' : numberB (c :: r) = false := by simpa using hnb
      rw [hnb'];unfold numberB at hnb';simp at hnb';simp;intro h1;cases hq : allB digitB (c :: r)
      · rfl
      · have := hnb' hq;omega
  · have hd' : digitB (bi c) = false := by simpa using hd
    have h1 : firstB digitB (c :: r) = false := hd';have hnb : numberB (c :: r) = false := by unfold numberB allB;simp [hd']
    rw [h1,all_letter];unfold kindI;rw [hnb]
    by_cases e1 : (c :: r) = sInput
    · rw [if_pos e1,e1];decide
    by_cases e2 : (c :: r) = sOutput
    · rw [if_neg e1,if_pos e2,e2];decide
    by_cases e3 : (c :: r) = sNot
    · rw [if_neg e1,if_neg e2,if_pos e3,e3];decide
    rw [if_neg e1,if_neg e2,if_neg e3];have hres : reservedB (c :: r) = false := by unfold reservedB;simp [e1,e2,e3]
    have hw : writtenB (c :: r) = true ↔ (1 ≤ (c :: r).length ∧ (c :: r).length ≤ 64 ∧ allB letterB (c :: r) = true) := by
     unfold writtenB;simp;exact ⟨fun h => ⟨h.2,h.1⟩,fun h => ⟨h.2,h.1⟩⟩
    have hf : firstOk (c :: r) = (greatB (bi c) || smallB (bi c)) := by show (digitB (bi c) || greatB (bi c) || smallB (bi c)) = _;rw [hd'];simp
    have hv : variableB (c :: r) = (writtenB (c :: r) && greatB (bi c)) := rfl;have hn : nameB (c :: r) = (writtenB (c :: r) && smallB (bi c)) := by unfold nameB;rw [hres];show (_ && (smallB (bi c) && _)) = _;simp
    rw [hf,hv,hn]
    have hcomb : (1 ≤ (c :: r).length ∧ (c :: r).length ≤ 64 ∧ allB letterB (c :: r) = true ∧ (greatB (bi c) || smallB (bi c)) = true) ↔ (writtenB (c :: r) = true ∧ (greatB (bi c) || smallB (bi c)) = true) := by
     rw [hw];constructor
     · rintro ⟨a,b,c,d⟩;exact ⟨⟨a,b,c⟩,d⟩
     · rintro ⟨⟨a,b,c⟩,d⟩;exact ⟨a,b,c,d⟩
    rw [hcomb];cases writtenB (c :: r) <;> cases greatB (bi c) <;> cases smallB (bi c) <;> simp
def longN (l : Bs) : Nat := if kindI (l.take (wordN l)) = 0 then 0 else wordN l
theorem first_take (p : Int → Bool) (l : Bs) (n : Nat) (h : 1 ≤ n) : firstB p (l.take n) = firstB p l := by
 cases l with
 | nil => simp
 | cons c r => cases n with
   | zero => omega
   | succ n => rfl
theorem wordN_le (l : Bs) : wordN l ≤ l.length ∧ wordN l ≤ 64 := by
 rw [wordN_pred];have h := (List.takeWhile_prefix (p := wpred (firstB digitB l)) (l := l.take 64)).length_le;simp at h;omega
theorem kind_take (l : Bs) (n : Nat) (h1 : 1 ≤ n) (h2 : n ≤ l.length) (h3 : n ≤ 64) : kindI (l.take n) ≠ 0 ↔ (n ≤ wordN l ∧ firstOk l = true) := by
 rw [kind_ne];unfold wordOk;have e : (l.take n).length = n := by simp;omega
 rw [e,first_take _ _ _ h1,all_take_iff _ _ _ 64 h3 h2,← wordN_pred];unfold firstOk;rw [first_take _ _ _ h1];constructor
 · rintro ⟨_,_,a,b⟩;exact ⟨a,b⟩
 · rintro ⟨a,b⟩;exact ⟨h1,h3,a,b⟩
end Go.Proofs.YtmjincocmhadeaaDoor.Lx
