/- The kind of a word: lex.kindOf and the reference's word; names, variables, numbers; blanks of the reference. -/
import Derived.Test.YtmjincocmhadeaaDoorProg
import Derived.Test.YtmjincocmhadeaaDoorBase
import Derived.Test.YtmjincocmhadeaaDoorLexSpec
import Derived.Test.YtmjincocmhadeaaDoorLexA
import Derived.Test.YtmjincocmhadeaaDoorLexB
namespace Go.Proofs.YtmjincocmhadeaaDoor
set_option maxHeartbeats 2000000
open Go.RowKit Lx
namespace Lx
def leB (c : Int) : Bool := decide (c ≤ 57)
theorem allB_imp {p q : Int → Bool} (h : ∀ c,p c = true → q c = true) {l : Bs} (hl : allB p l = true) : allB q l = true := by
 unfold allB at *;rw [List.all_eq_true] at *;exact fun c hc => h _ (hl c hc)
theorem digit_letter (c : Int) (h : digitB c = true) : letterB c = true := by unfold digitB at h;unfold letterB;simp at *;omega
theorem kind_size {l : Bs} (h : l.length < 1 ∨ 64 < l.length) : kindI l = 0 := by
 have h1 : writtenB l = false := by unfold writtenB;simp;omega
 have h2 : numberB l = false := by unfold numberB;simp;omega
 unfold kindI variableB nameB;rw [if_neg (by rintro rfl;simp [sInput] at h),if_neg (by rintro rfl;simp [sOutput] at h),if_neg (by rintro rfl;simp [sNot] at h),h1,h2];simp
theorem kind_bad {l : Bs} (h : allB letterB l = false) : kindI l = 0 := by
 have h1 : writtenB l = false := by unfold writtenB;rw [h];rfl
 have h2 : numberB l = false := by
  unfold numberB;cases hd : allB digitB l
  · rfl
  · rw [allB_imp digit_letter hd] at h;cases h
 unfold kindI variableB nameB;rw [if_neg (by rintro rfl;revert h;decide),if_neg (by rintro rfl;revert h;decide),if_neg (by rintro rfl;revert h;decide),h1,h2];simp
theorem all_digits {l : Bs} (h : allB letterB l = true) : allB digitB l = allB leB l := by
 rw [Bool.eq_iff_iff];unfold allB at *;rw [List.all_eq_true] at h;rw [List.all_eq_true,List.all_eq_true];constructor
 · intro k c hc;have := k c hc;unfold digitB at this;unfold leB;simp at *;omega
 · intro k c hc;have := k c hc;have h2 := h c hc;unfold leB at this;unfold digitB;unfold letterB at h2;simp at *;omega
theorem kind_digit {l : Bs} (h : writtenB l = true) (hf : firstB digitB l = true) : kindI l = if allB leB l = true then 3 else 0 := by
 have ha : allB letterB l = true := by unfold writtenB at h;simp at h;exact h.1
 have hn : numberB l = allB leB l := by unfold numberB;unfold writtenB at h;rw [ha] at h;rw [all_digits ha];simp at h;simp [h]
 cases l with
 | nil => cases hf
 | cons c r =>
  have hc : 48 ≤ bi c ∧ bi c ≤ 57 := by simpa [firstB,digitB] using hf
  have hg : firstB greatB (c :: r) = false := by simp [firstB,greatB];omega
  have hs : firstB smallB (c :: r) = false := by simp [firstB,smallB];omega
  unfold kindI variableB nameB;rw [hn,hg,hs,if_neg (by intro e;injection e with e;subst e;simp [bi] at hc),if_neg (by intro e;injection e with e;subst e;simp [bi] at hc),if_neg (by intro e;injection e with e;subst e;simp [bi] at hc)];simp
theorem not_number {l : Bs} (hf : firstB digitB l = false) : numberB l = false := by
 cases l with
 | nil => rfl
 | cons c r => unfold numberB allB;simp only [firstB] at hf;rw [List.all_cons,hf];rfl
theorem kind_great {l : Bs} (h : writtenB l = true) (hf : firstB greatB l = true) : kindI l = 2 := by
 cases l with
 | nil => cases hf
 | cons c r =>
  have hc : 65 ≤ bi c ∧ bi c ≤ 90 := by simpa [firstB,greatB] using hf
  have hd : firstB digitB (c :: r) = false := by simp [firstB,digitB];omega
  unfold kindI variableB;rw [not_number hd,h,hf,if_neg (by intro e;injection e with e;subst e;simp [bi] at hc),if_neg (by intro e;injection e with e;subst e;simp [bi] at hc),if_neg (by intro e;injection e with e;subst e;simp [bi] at hc)];simp
theorem kind_line {l : Bs} (hf : firstB (fun c => decide (c = 95)) l = true) : kindI l = 0 := by
 cases l with
 | nil => cases hf
 | cons c r =>
  have hc : bi c = 95 := by simpa [firstB] using hf
  have hd : firstB digitB (c :: r) = false := by simp [firstB,digitB];omega
  have hg : firstB greatB (c :: r) = false := by simp [firstB,greatB];omega
  have hs : firstB smallB (c :: r) = false := by simp [firstB,smallB];omega
  unfold kindI variableB nameB;rw [not_number hd,hg,hs,if_neg (by intro e;injection e with e;subst e;simp [bi] at hc),if_neg (by intro e;injection e with e;subst e;simp [bi] at hc),if_neg (by intro e;injection e with e;subst e;simp [bi] at hc)];simp
theorem kind_small {l : Bs} (h : writtenB l = true) (hf : firstB smallB l = true) : kindI l = if l = sInput then 5 else if l = sOutput then 6 else if l = sNot then 7 else 1 := by
 cases l with
 | nil => cases hf
 | cons c r =>
  have hc : 97 ≤ bi c ∧ bi c ≤ 122 := by simpa [firstB,smallB] using hf
  have hd : firstB digitB (c :: r) = false := by simp [firstB,digitB];omega
  have hg : firstB greatB (c :: r) = false := by simp [firstB,greatB];omega
  unfold kindI
  by_cases h1 : c :: r = sInput
  · rw [if_pos h1,if_pos h1]
  · by_cases h2 : c :: r = sOutput
    · rw [if_neg h1,if_neg h1,if_pos h2,if_pos h2]
    · by_cases h3 : c :: r = sNot
      · rw [if_neg h1,if_neg h1,if_neg h2,if_neg h2,if_pos h3,if_pos h3]
      · rw [if_neg h1,if_neg h1,if_neg h2,if_neg h2,if_neg h3,if_neg h3,not_number hd];unfold variableB nameB reservedB;rw [h,hg,hf];simp [h1,h2,h3]
end Lx
theorem lx_kindOf (s : ByteArray) (w : World) (hs : s.size ≤ 140737488355328) : Calls Tryd.prog 69 #[.string s] w fun e w' => e = .returned (.int .i64 (kindI (bl s))) ∧ w = w' := by
 by_cases hz1 : s.size < 1
 · have h5 : Hid (kindI (bl s) = 0) := kind_size (by rw [bl_length];omega);go_enter Tryd.func69,Tryd.ntmps69;go_wp2;go_ret;exact ⟨ret_int h5.out.symm,rfl⟩
 · by_cases hz2 : 64 < s.size
   · have h5 : Hid (kindI (bl s) = 0) := kind_size (by rw [bl_length];omega);go_enter Tryd.func69,Tryd.ntmps69;go_wp2;go_ret;exact ⟨ret_int h5.out.symm,rfl⟩
   · have hg0 : decide ((s.size : Int) < 1) = false := decide_eq_false (by omega);have hg1 : decide ((64 : Int) < s.size) = false := decide_eq_false (by omega);go_enter Tryd.func69,Tryd.ntmps69;go_wp2
     go_loop [3,4,16] (fun d k i => ∃ j : Nat,j ≤ s.size ∧ i = .int .i64 j ∧ d = .bool (allB leB ((bl s).take j)) ∧ Hid (allB letterB ((bl s).take j) = true)) (fun _ _ i => s.size - (intOf i).toNat)
     case atStart => exact ⟨0,Nat.zero_le _,rfl,rfl,rfl⟩
     case round =>
      obtain ⟨j,hj,rfl,rfl,he⟩ := hrel
      by_cases hlt : j < s.size
      · have hidx := fun w => run_index_str (P := Tryd.prog) Tryd.underlying9 s j hlt w
        by_cases hl : letterB (bat s j) = true
        · have h5 : Hid (allB letterB ((bl s).take (j + 1)) = true) := by rw [allB_take _ s j hlt,he.out,hl];rfl
          have h6 : Hid (allB leB ((bl s).take (j + 1)) = (allB leB ((bl s).take j) && decide (bat s j ≤ 57))) := allB_take _ s j hlt;obtain ⟨A,hA⟩ : ∃ A,A = allB leB ((bl s).take j) := ⟨_,rfl⟩;rw [← hA] at h6 ⊢;clear he hA
          go_wp2_with (go_at_call 68;refine (lx_word _ _).mono ?_;rintro e w' ⟨rfl,rfl⟩)
          all_goals
            go_round
            case rel => exact ⟨j + 1,by omega,by go_num,by rw [h6.out];simp_all,h5⟩
            case measure => simp [intOf];omega
        · have hl2 : letterB (bat s j) = false := by simpa using hl
          have h5 : Hid (kindI (bl s) = 0) := kind_bad (allB_at _ s j hlt hl2);clear he hl
          go_wp2_with (go_at_call 68;refine (lx_word _ _).mono ?_;rintro e w' ⟨rfl,rfl⟩)
          go_ret;exact ⟨ret_int h5.out.symm,rfl⟩
      · have hw : writtenB (bl s) = true := by
          unfold writtenB;rw [← allB_full _ s j (by omega),he.out,bl_length];simp;omega
        have hall : allB leB ((bl s).take j) = allB leB (bl s) := allB_full _ s j (by omega);have hpos : 0 < s.size := by omega
        have hidx := fun w => run_index_str0 (P := Tryd.prog) Tryd.underlying9 s hpos w;have hr := bat_range s 0;have hw32 : IntKind.i32.wrap (bat s 0) = bat s 0 := by rw [IntKind.wrap_i32];omega
        rw [hall];clear hall he
        by_cases hd : 48 ≤ bat s 0 ∧ bat s 0 ≤ 57
        · have h5 := Lh (kind_digit hw (by rw [firstB_bat _ s hpos];simpa [digitB] using hd));obtain ⟨A,hA⟩ : ∃ A,A = allB leB (bl s) := ⟨_,rfl⟩;rw [← hA] at h5 ⊢;clear hA hw;cases A
          all_goals
            go_wp2;go_ret;exact ⟨ret_int (by rw [h5.out];rfl),rfl⟩
        · by_cases hg : 65 ≤ bat s 0 ∧ bat s 0 ≤ 90
          · have h5 := Lh (kind_great hw (by rw [firstB_bat _ s hpos];simpa [greatB] using hg));obtain ⟨hg1',hg2'⟩ := hg;have gd : decide (bat s 0 ≤ 57) = false := decide_eq_false (by omega);clear hw;go_wp2;go_ret;exact ⟨ret_int h5.out.symm,rfl⟩
          · by_cases hu : bat s 0 = 95
            · have h5 := Lh (kind_line (l := bl s) (by rw [firstB_bat _ s hpos];simpa using hu));have gd : decide (bat s 0 ≤ 57) = false := decide_eq_false (by omega);have gg : decide (bat s 0 ≤ 90) = false := decide_eq_false (by omega);have gu : (bat s 0 == 95) = true := by simp [hu]
              have hge : 95 ≤ bat s 0 := by omega
              clear hw hu;go_wp2;go_ret;exact ⟨ret_int h5.out.symm,rfl⟩
            · have hsm : 97 ≤ bat s 0 ∧ bat s 0 ≤ 122 := by
                have hl0 : letterB (bat s 0) = true := by
                 have h1 := written_size hw;cases hl : letterB (bat s 0)
                 · have := allB_at letterB s 0 hpos hl;unfold writtenB at hw;rw [this] at hw;cases hw
                 · rfl
                unfold letterB at hl0;simp at hl0;omega
              have h5 := Lh (kind_small hw (by rw [firstB_bat _ s hpos];simpa [smallB] using hsm));obtain ⟨hs1,hs2⟩ := hsm;have gu : (bat s 0 == 95) = false := by rw [beq_eq_false_iff_ne];exact hu
              have gd : decide (bat s 0 ≤ 57) = false := decide_eq_false (by omega);have gg : decide (bat s 0 ≤ 90) = false := decide_eq_false (by omega);have g1 := eq_str s sInput;have g2 := eq_str s sOutput;have g3 := eq_str s sNot;unfold sInput at g1;unfold sOutput at g2;unfold sNot at g3;clear hw hu
              by_cases e1 : bl s = sInput
              · have h6 : Hid (kindI (bl s) = 5) := by show _ = _;rw [h5.out,if_pos e1]
                unfold sInput at e1;rw [decide_eq_true e1] at g1;clear g2 g3 e1 h5;go_wp2;go_ret;exact ⟨ret_int h6.out.symm,rfl⟩
              · by_cases e2 : bl s = sOutput
                · have h6 : Hid (kindI (bl s) = 6) := by show _ = _;rw [h5.out,if_neg e1,if_pos e2]
                  unfold sInput at e1;unfold sOutput at e2;rw [decide_eq_false e1] at g1;rw [decide_eq_true e2] at g2;clear g3 e1 e2 h5;go_wp2;go_ret;exact ⟨ret_int h6.out.symm,rfl⟩
                · by_cases e3 : bl s = sNot
                  · have h6 : Hid (kindI (bl s) = 7) := by show _ = _;rw [h5.out,if_neg e1,if_neg e2,if_pos e3]
                    unfold sInput at e1;unfold sOutput at e2;unfold sNot at e3;rw [decide_eq_false e1] at g1;rw [decide_eq_false e2] at g2;rw [decide_eq_true e3] at g3;clear e1 e2 e3 h5;go_wp2;go_ret;exact ⟨ret_int h6.out.symm,rfl⟩
                  · have h6 : Hid (kindI (bl s) = 1) := by show _ = _;rw [h5.out,if_neg e1,if_neg e2,if_neg e3]
                    unfold sInput at e1;unfold sOutput at e2;unfold sNot at e3;rw [decide_eq_false e1] at g1;rw [decide_eq_false e2] at g2;rw [decide_eq_false e3] at g3;clear e1 e2 e3 h5;go_wp2;go_ret;exact ⟨ret_int h6.out.symm,rfl⟩
end Go.Proofs.YtmjincocmhadeaaDoor
