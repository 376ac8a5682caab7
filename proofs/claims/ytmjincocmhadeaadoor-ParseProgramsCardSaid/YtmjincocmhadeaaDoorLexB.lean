/- Words: their kinds; the program's and the reference's. -/
import Derived.Test.YtmjincocmhadeaaDoorProg
import Derived.Test.YtmjincocmhadeaaDoorBase
import Derived.Test.YtmjincocmhadeaaDoorLexSpec
import Derived.Test.YtmjincocmhadeaaDoorLexA
namespace Go.Proofs.YtmjincocmhadeaaDoor
open Go.RowKit Lx
theorem bl_inj {a b : ByteArray} (h : bl a = bl b) : a = b := by rw [← mk_bl a,← mk_bl b,h]
theorem toList_bl (s : ByteArray) : s.toList = bl s := ByteArray.toList_eq s
theorem eq_str (s : ByteArray) (l : Bs) : (s.toList == l) = decide (bl s = l) := by
 rw [toList_bl,Bool.eq_iff_iff];simp
theorem allB_take (p : Int → Bool) (s : ByteArray) (j : Nat) (h : j < s.size) : allB p ((bl s).take (j + 1)) = (allB p ((bl s).take j) && p (bat s j)) := by
 have h' : j < (bl s).length := by rw [bl_length];exact h
 unfold allB;rw [List.take_succ_eq_append_getElem h',List.all_append];simp only [List.all_cons,List.all_nil,Bool.and_true];rw [← bi_getD,List.getD_eq_getElem?_getD,List.getElem?_eq_getElem h']
 rfl
theorem allB_full (p : Int → Bool) (s : ByteArray) (j : Nat) (h : s.size ≤ j) : allB p ((bl s).take j) = allB p (bl s) := by
 rw [List.take_of_length_le (by rw [bl_length];exact h)]
theorem allB_at (p : Int → Bool) (s : ByteArray) (j : Nat) (h : j < s.size) (hp : p (bat s j) = false) : allB p (bl s) = false := by
 unfold allB;rw [List.all_eq_false];have h' : j < (bl s).length := by rw [bl_length];exact h
 refine ⟨(bl s)[j],List.getElem_mem h',?_⟩;rw [← bi_getD,List.getD_eq_getElem?_getD,List.getElem?_eq_getElem h'] at hp;simp only [Option.getD_some] at hp;rw [hp];simp
theorem firstB_bat (p : Int → Bool) (s : ByteArray) (h : 0 < s.size) : firstB p (bl s) = p (bat s 0) := by
 have := drop_bl s 0 h;rw [List.drop_zero] at this;rw [this];rfl
theorem run_index_str0 {P : Program} {T : TypeId} (hT : P.underlying T = some .string) (s : ByteArray) (h : 0 < s.size) (w : World) :
    (Instr.index T (.string s) (.int .i64 0)).run P w = .ok (.int .u8 (bat s 0)) w := by simpa using run_index_str hT s 0 h w
theorem written_size {s : ByteArray} (h : writtenB (bl s) = true) : 1 ≤ s.size ∧ s.size ≤ 64 := by
 unfold writtenB at h;simp at h;exact h.2
theorem lx_Reserved (s : ByteArray) (w : World) : Calls Tryd.prog 70 #[.string s] w fun e w' => e = .returned (.bool (reservedB (bl s))) ∧ w = w' := by
 have g1 := eq_str s sInput;have g2 := eq_str s sOutput;have g3 := eq_str s sNot;unfold sInput at g1;unfold sOutput at g2;unfold sNot at g3
 have h5 : Hid (reservedB (bl s) = (decide (bl s = sInput) || decide (bl s = sOutput) || decide (bl s = sNot))) := by
  show _ = _;unfold reservedB;rw [Bool.eq_iff_iff];simp
 unfold sInput sOutput sNot at h5;go_enter Tryd.func70,Tryd.ntmps70;go_wp2
 all_goals go_ret
 all_goals exact ⟨ret_bool (by rw [h5.out];simp_all),rfl⟩
end Go.Proofs.YtmjincocmhadeaaDoor
