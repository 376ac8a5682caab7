/- Bytes and blanks: the program's and the reference's. -/
import Derived.Test.YtmjincocmhadeaaDoorProg
import Derived.Test.YtmjincocmhadeaaDoorBase
import Derived.Test.YtmjincocmhadeaaDoorLexSpec
import Derived.BigQuiet
import Derived.Deep.QuietTactic
namespace Go.Proofs.YtmjincocmhadeaaDoor
set_option maxHeartbeats 1000000
open Go.RowKit Lx
theorem lx_word (c : Int) (w : World) : Calls Tryd.prog 68 #[.int .u8 c] w fun e w' => e = .returned (.bool (letterB c)) ∧ w = w' := by
 go_enter Tryd.func68,Tryd.ntmps68;go_wp2
 all_goals go_ret
 all_goals exact ⟨ret_bool (by unfold letterB;rw [Bool.eq_iff_iff];simp <;> omega),rfl⟩
theorem lx_half (c : Int) (w : World) (h0 : 0 ≤ c) (h1 : c < 256) : Calls Tryd.prog 78 #[.int .u8 c] w fun e w' => e = .returned (.int .i64 (halfI c)) ∧ w = w' := by
 go_enter Tryd.func78,Tryd.ntmps78;go_wp2
 all_goals go_ret
 all_goals exact ⟨ret_int (by unfold halfI;split <;> (try split) <;> omega),rfl⟩
theorem bi_getD (s : ByteArray) (j : Nat) : bi ((bl s).getD j 0) = bat s j := rfl
/-- behind blanks and remarks -/
def blankP (s : ByteArray) (i : Nat) : Nat := i + skipN false ((bl s).drop i)
theorem skip_rem (s : ByteArray) (j : Nat) (h : j < s.size) : skipN true ((bl s).drop j) = 1 + skipN (!(bat s j == 10)) ((bl s).drop (j + 1)) := by
 rw [drop_bl s j h,skipN,bi_getD]
theorem skip_37 (s : ByteArray) (j : Nat) (h : j < s.size) (hb : bat s j = 37) : skipN false ((bl s).drop j) = 1 + skipN true ((bl s).drop (j + 1)) := by
 rw [drop_bl s j h,skipN,bi_getD,if_pos hb]
theorem skip_blank (s : ByteArray) (j : Nat) (h : j < s.size) (h37 : ¬ bat s j = 37) (hb : bat s j = 32 ∨ bat s j = 9 ∨ bat s j = 10 ∨ bat s j = 13) : skipN false ((bl s).drop j) = 1 + skipN false ((bl s).drop (j + 1)) := by
 rw [drop_bl s j h,skipN,bi_getD,if_neg h37,if_pos (by unfold blankB;simpa using hb)]
theorem skip_stop (s : ByteArray) (j : Nat) (h : j < s.size) (h37 : ¬ bat s j = 37) (hb : ¬ (bat s j = 32 ∨ bat s j = 9 ∨ bat s j = 10 ∨ bat s j = 13)) : skipN false ((bl s).drop j) = 0 := by
 rw [drop_bl s j h,skipN,bi_getD,if_neg h37,if_neg (by unfold blankB;simpa using hb)]
theorem skip_end (s : ByteArray) (r : Bool) (j : Nat) (h : s.size ≤ j) : skipN r ((bl s).drop j) = 0 := by
 rw [drop_bl_end s j h];cases r <;> rfl
theorem skip_le : ∀ (r : Bool) (l : Bs),skipN r l ≤ l.length
  | r,[] => by cases r <;> simp [skipN]
  | true,c :: l => by rw [skipN,List.length_cons];have := skip_le (!(bi c == 10)) l;omega
  | false,c :: l => by
    rw [skipN,List.length_cons];split
    · have := skip_le true l;omega
    · split
      · have := skip_le false l;omega
      · omega
theorem blankP_le (s : ByteArray) (i : Nat) (h : i ≤ s.size) : i ≤ blankP s i ∧ blankP s i ≤ s.size := by
 unfold blankP;have := skip_le false ((bl s).drop i);rw [List.length_drop,bl_length] at this;omega
theorem lx_blank (s : ByteArray) (i : Int) (w : World) (hs : s.size ≤ 4194304) (h0 : 0 ≤ i) (h1 : i ≤ s.size) :
    Calls Tryd.prog 54 #[.string s,.int .i64 i] w fun e w' => e = .returned (.int .i64 (blankP s i.toNat : Nat)) ∧ w = w' := by
 obtain ⟨i0,rfl⟩ := Int.eq_ofNat_of_zero_le h0;rw [Int.toNat_natCast];go_enter Tryd.func54,Tryd.ntmps54;go_wp2
 go_loop [1,5,6] (fun i r c => ∃ (j : Nat) (rb : Bool),j ≤ s.size ∧ i = .int .i64 j ∧ r = .bool rb ∧ Hid (j + skipN rb ((bl s).drop j) = blankP s i0)) (fun i _ _ => s.size - (intOf i).toNat)
 case atStart => exact ⟨i0,false,by omega,rfl,rfl,rfl⟩
 case round =>
  obtain ⟨j,rb,hj,rfl,rfl,he⟩ := hrel
  by_cases hlt : j < s.size
  · have hidx := fun w => run_index_str (P := Tryd.prog) Tryd.underlying9 s j hlt w;cases rb
    · by_cases h37 : bat s j = 37
      · have h5 : Hid (j + 1 + skipN true ((bl s).drop (j + 1)) = blankP s i0) := by rw [← he.out,skip_37 s j hlt h37];show _ = _;omega
        have g1 : (bat s j == 37) = true := by simp [h37]
        clear he h37;go_wp2
        go_round
        case rel => exact ⟨j + 1,true,by omega,by go_num,rfl,h5⟩
        case measure => simp [intOf];omega
      · have g1 : (bat s j == 37) = false := by simp [h37]
        by_cases hb : bat s j = 32 ∨ bat s j = 9 ∨ bat s j = 10 ∨ bat s j = 13
        · have h5 : Hid (j + 1 + skipN false ((bl s).drop (j + 1)) = blankP s i0) := by rw [← he.out,skip_blank s j hlt h37 hb];show _ = _;omega
          clear he;rcases hb with hb | hb | hb | hb
          · have g2 : (bat s j != 32) = false := by simp [hb]
            clear hb;go_wp2
            go_round
            case rel => exact ⟨j + 1,false,by omega,by go_num,rfl,h5⟩
            case measure => simp [intOf];omega
          · have g2 : (bat s j != 32) = true := by simp [hb]
            have g3 : (bat s j != 9) = false := by simp [hb]
            clear hb;go_wp2
            go_round
            case rel => exact ⟨j + 1,false,by omega,by go_num,rfl,h5⟩
            case measure => simp [intOf];omega
          · have g2 : (bat s j != 32) = true := by simp [hb]
            have g3 : (bat s j != 9) = true := by simp [hb]
            have g4 : (bat s j != 10) = false := by simp [hb]
            clear hb;go_wp2
            go_round
            case rel => exact ⟨j + 1,false,by omega,by go_num,rfl,h5⟩
            case measure => simp [intOf];omega
          · have g2 : (bat s j != 32) = true := by simp [hb]
            have g3 : (bat s j != 9) = true := by simp [hb]
            have g4 : (bat s j != 10) = true := by simp [hb]
            have g5 : (bat s j != 13) = false := by simp [hb]
            clear hb;go_wp2
            go_round
            case rel => exact ⟨j + 1,false,by omega,by go_num,rfl,h5⟩
            case measure => simp [intOf];omega
        · have h5 : Hid (j = blankP s i0) := by rw [← he.out,skip_stop s j hlt h37 hb];show _ = _;omega
          have g2 : (bat s j != 32) = true := by rw [bne_iff_ne];omega
          have g3 : (bat s j != 9) = true := by rw [bne_iff_ne];omega
          have g4 : (bat s j != 10) = true := by rw [bne_iff_ne];omega
          have g5 : (bat s j != 13) = true := by rw [bne_iff_ne];omega
          clear he hb;go_wp2;go_ret;exact ⟨ret_int (by rw [← h5.out]),rfl⟩
    · have h5 : Hid (j + 1 + skipN (!(bat s j == 10)) ((bl s).drop (j + 1)) = blankP s i0) := by rw [← he.out,skip_rem s j hlt];show _ = _;omega
      clear he;go_wp2
      go_round
      case rel => exact ⟨j + 1,!(bat s j == 10),by omega,by go_num,rfl,h5⟩
      case measure => simp [intOf];omega
  · have h5 : Hid (j = blankP s i0) := by rw [← he.out,skip_end s rb j (by omega)];rfl
    clear he;go_wp2;go_ret;exact ⟨ret_int (by rw [← h5.out]),rfl⟩
end Go.Proofs.YtmjincocmhadeaaDoor
