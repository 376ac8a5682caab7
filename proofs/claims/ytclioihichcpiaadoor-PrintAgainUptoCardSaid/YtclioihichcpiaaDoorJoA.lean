/- What a text's tokens are, as plain functions on lists of bytes. No program in sight. -/
import Derived.Test.YtclioihichcpiaaDoorProg
import Derived.Test.YtclioihichcpiaaDoorBase
import Derived.BigQuiet
import Derived.Deep.QuietTactic
import Derived.Test.YtclioihichcpiaaDoorBytes
namespace Go.Proofs.YtclioihichcpiaaDoor.Lx

abbrev Bs := List UInt8

def smallB (c : Int) : Bool := decide (97 ≤ c ∧ c ≤ 122)
def greatB (c : Int) : Bool := decide (65 ≤ c ∧ c ≤ 90)
def digitB (c : Int) : Bool := decide (48 ≤ c ∧ c ≤ 57)
def letterB (c : Int) : Bool := decide ((97 ≤ c ∧ c ≤ 122) ∨ (65 ≤ c ∧ c ≤ 90) ∨ (48 ≤ c ∧ c ≤ 57) ∨ c = 95)
def blankB (c : Int) : Bool := decide (c = 32 ∨ c = 9 ∨ c = 10 ∨ c = 13)
/-- the value of a digit of two, -1: none -/
def halfI (c : Int) : Int := if 48 ≤ c ∧ c ≤ 57 then c - 48 else if 97 ≤ c ∧ c ≤ 102 then c - 97 + 10 else -1

/-- a byte as a number -/
def bi (c : UInt8) : Int := (c.toNat : Int)

def allB (p : Int → Bool) (l : Bs) : Bool := l.all fun c => p (bi c)
def firstB (p : Int → Bool) : Bs → Bool
  | [] => false
  | c :: _ => p (bi c)

def sInput : Bs := [105, 110, 112, 117, 116]
def sOutput : Bs := [111, 117, 116, 112, 117, 116]
def sNot : Bs := [110, 111, 116]
def reservedB (l : Bs) : Bool := l == sInput || l == sOutput || l == sNot
/-- 1 to 64 bytes that may stand in a word -/
def writtenB (l : Bs) : Bool := allB letterB l && decide (1 ≤ l.length ∧ l.length ≤ 64)
def numberB (l : Bs) : Bool := allB digitB l && decide (1 ≤ l.length ∧ l.length ≤ 64)
def variableB (l : Bs) : Bool := writtenB l && firstB greatB l
def nameB (l : Bs) : Bool := writtenB l && (firstB smallB l && !reservedB l)
/-- the kind of a word; 0: it is none -/
def kindI (l : Bs) : Int :=
  if l = sInput then 5 else if l = sOutput then 6 else if l = sNot then 7
  else if numberB l then 3 else if variableB l then 2 else if nameB l then 1 else 0

/-- how many bytes of blanks and remarks -/
def skipN : Bool → Bs → Nat
  | _, [] => 0
  | true, c :: r => 1 + skipN (!(bi c == 10)) r
  | false, c :: r => if bi c = 37 then 1 + skipN true r else if blankB (bi c) then 1 + skipN false r else 0

/-- a string behind its first quote: the bytes, how far it goes, is it whole; n: how many bytes there are already -/
def quo : Bs → Nat → Bs × Nat × Bool
  | [], _ => ([], 0, false)
  | c :: r, n =>
    if bi c = 34 then ([], 1, true)
    else if n = 1024 ∨ bi c < 32 ∨ 126 < bi c then ([], 0, false)
    else if bi c = 92 then
      match r with
      | [] => ([], 1, false)
      | d :: r2 =>
        if bi d = 34 ∨ bi d = 92 then let (b, k, ok) := quo r2 (n + 1); (d :: b, k + 2, ok)
        else if bi d = 110 then let (b, k, ok) := quo r2 (n + 1); (10 :: b, k + 2, ok)
        else if bi d = 116 then let (b, k, ok) := quo r2 (n + 1); (9 :: b, k + 2, ok)
        else if bi d = 120 then
          match r2 with
          | [] => ([], 2, false)
          | h1 :: r3 =>
            if halfI (bi h1) < 0 then ([], 2, false)
            else match r3 with
              | [] => ([], 3, false)
              | h2 :: r4 =>
                if halfI (bi h2) < 0 then ([], 3, false)
                else let (b, k, ok) := quo r4 (n + 1); (UInt8.ofNat (16 * halfI (bi h1) + halfI (bi h2)).toNat :: b, k + 4, ok)
        else ([], 1, false)
    else let (b, k, ok) := quo r (n + 1); (c :: b, k + 1, ok)

structure Tok where
  kind : Int
  text : Bs
  at_ : Nat
  end_ : Nat
def zeroTok : Tok := ⟨0, [], 0, 0⟩
instance : Inhabited Tok := ⟨zeroTok⟩

/-- a sign: its kind, how many bytes it wants, its second byte -/
def signI (c : Int) : Option (Int × Nat × Int) :=
  if c = 40 then some (8, 1, 0) else if c = 41 then some (9, 1, 0) else if c = 44 then some (10, 1, 0) else if c = 46 then some (11, 1, 0)
  else if c = 47 then some (12, 1, 0) else if c = 58 then some (13, 2, 45) else if c = 33 then some (14, 2, 61) else none

/-- the length of the longest word -/
def wordN (l : Bs) : Nat :=
  ((l.take 64).takeWhile fun c => letterB (bi c) && (!firstB digitB l || digitB (bi c))).length

/-- the token at the place at, of the text l from there on, and is it whole -/
def nextT (l : Bs) (at_ : Nat) : Tok × Bool :=
  match l with
  | [] => (zeroTok, false)
  | c :: r =>
    if bi c = 34 then
      let (b, k, ok) := quo r 0
      (⟨4, if ok then b else [], at_, at_ + 1 + k⟩, ok)
    else match signI (bi c) with
      | some (k, 1, _) => (⟨k, [], at_, at_ + 1⟩, true)
      | some (k, _, d) => if firstB (fun x => decide (x = d)) r then (⟨k, [], at_, at_ + 2⟩, true) else (⟨k, [], at_, at_ + 1⟩, false)
      | none =>
        let w := l.take (wordN l)
        if kindI w = 0 then (zeroTok, false)
        else (⟨kindI w, if reservedB w then [] else w, at_, at_ + wordN l⟩, true)

def isWordB (k : Int) : Bool := decide (1 ≤ k ∧ k ≤ 7 ∧ k ≠ 4)

structure Res where
  toks : List Tok
  open_ : Tok
  far : Nat
  ok : Bool

/-- the tokens from the place at on; joint: a word ends just there -/
def toks : Nat → Bs → Nat → Bool → Res
  | 0, _, at_, _ => ⟨[], zeroTok, at_, true⟩
  | f + 1, l, at0, joint =>
    let n := skipN false l
    let l1 := l.drop n
    let at1 := at0 + n
    if l1 = [] then ⟨[], zeroTok, at1, true⟩
    else
      let (t, whole) := nextT l1 at1
      if isWordB t.kind && joint && n == 0 then ⟨[], zeroTok, at1, false⟩
      else if !whole then ⟨[], t, if t.kind = 0 then at1 else t.end_, false⟩
      else
        let r := toks f (l1.drop (t.end_ - at1)) t.end_ (isWordB t.kind)
        { r with toks := t :: r.toks }

def tokens (l : Bs) : Res := toks (l.length + 1) l 0 false

end Go.Proofs.YtclioihichcpiaaDoor.Lx


/- Bytes and blanks: the program's and the reference's. -/
namespace Go.Proofs.YtclioihichcpiaaDoor
open Go.RowKit Lx

set_option maxHeartbeats 400000 in
theorem lx_word (c : Int) (w : World) : Calls Tryd.prog 79 #[.int .u8 c] w fun e w' => e = .returned (.bool (letterB c)) ∧ w = w' := by
  go_enter Tryd.func79, Tryd.ntmps79
  go_wp2
  all_goals go_ret
  all_goals exact ⟨ret_bool (by unfold letterB; rw [Bool.eq_iff_iff]; simp <;> omega), rfl⟩

set_option maxHeartbeats 400000 in
theorem lx_half (c : Int) (w : World) (h0 : 0 ≤ c) (h1 : c < 256) : Calls Tryd.prog 100 #[.int .u8 c] w fun e w' => e = .returned (.int .i64 (halfI c)) ∧ w = w' := by
  go_enter Tryd.func100, Tryd.ntmps100
  go_wp2
  all_goals go_ret
  all_goals exact ⟨ret_int (by unfold halfI; split <;> (try split) <;> omega), rfl⟩

theorem bi_getD (s : ByteArray) (j : Nat) : bi ((bl s).getD j 0) = bat s j := rfl

/-- behind blanks and remarks -/
def blankP (s : ByteArray) (i : Nat) : Nat := i + skipN false ((bl s).drop i)
theorem skip_rem (s : ByteArray) (j : Nat) (h : j < s.size) : skipN true ((bl s).drop j) = 1 + skipN (!(bat s j == 10)) ((bl s).drop (j + 1)) := by
  rw [drop_bl s j h, skipN, bi_getD]
theorem skip_37 (s : ByteArray) (j : Nat) (h : j < s.size) (hb : bat s j = 37) : skipN false ((bl s).drop j) = 1 + skipN true ((bl s).drop (j + 1)) := by
  rw [drop_bl s j h, skipN, bi_getD, if_pos hb]
theorem skip_blank (s : ByteArray) (j : Nat) (h : j < s.size) (h37 : ¬ bat s j = 37) (hb : bat s j = 32 ∨ bat s j = 9 ∨ bat s j = 10 ∨ bat s j = 13) : skipN false ((bl s).drop j) = 1 + skipN false ((bl s).drop (j + 1)) := by
  rw [drop_bl s j h, skipN, bi_getD, if_neg h37, if_pos (by unfold blankB; simpa using hb)]
theorem skip_stop (s : ByteArray) (j : Nat) (h : j < s.size) (h37 : ¬ bat s j = 37) (hb : ¬ (bat s j = 32 ∨ bat s j = 9 ∨ bat s j = 10 ∨ bat s j = 13)) : skipN false ((bl s).drop j) = 0 := by
  rw [drop_bl s j h, skipN, bi_getD, if_neg h37, if_neg (by unfold blankB; simpa using hb)]
theorem skip_end (s : ByteArray) (r : Bool) (j : Nat) (h : s.size ≤ j) : skipN r ((bl s).drop j) = 0 := by
  rw [drop_bl_end s j h]; cases r <;> rfl
theorem skip_le : ∀ (r : Bool) (l : Bs), skipN r l ≤ l.length
  | r, [] => by cases r <;> simp [skipN]
  | true, c :: l => by rw [skipN, List.length_cons]; have := skip_le (!(bi c == 10)) l; omega
  | false, c :: l => by
    rw [skipN, List.length_cons]; split
    · have := skip_le true l; omega
    · split
      · have := skip_le false l; omega
      · omega
theorem blankP_le (s : ByteArray) (i : Nat) (h : i ≤ s.size) : i ≤ blankP s i ∧ blankP s i ≤ s.size := by
  unfold blankP
  have := skip_le false ((bl s).drop i)
  rw [List.length_drop, bl_length] at this
  omega

set_option maxHeartbeats 1000000 in
theorem lx_blank (s : ByteArray) (i : Int) (w : World) (hs : s.size ≤ 4194304) (h0 : 0 ≤ i) (h1 : i ≤ s.size) :
    Calls Tryd.prog 70 #[.string s, .int .i64 i] w fun e w' => e = .returned (.int .i64 (blankP s i.toNat : Nat)) ∧ w = w' := by
  obtain ⟨i0, rfl⟩ := Int.eq_ofNat_of_zero_le h0
  rw [Int.toNat_natCast]
  go_enter Tryd.func70, Tryd.ntmps70
  go_wp2
  go_loop [1, 5, 6] (fun i r c => ∃ (j : Nat) (rb : Bool), j ≤ s.size ∧ i = .int .i64 j ∧ r = .bool rb ∧ Hid (j + skipN rb ((bl s).drop j) = blankP s i0)) (fun i _ _ => s.size - (intOf i).toNat)
  case atStart => exact ⟨i0, false, by omega, rfl, rfl, rfl⟩
  case round =>
    obtain ⟨j, rb, hj, rfl, rfl, he⟩ := hrel
    by_cases hlt : j < s.size
    · have hidx := fun w => run_index_str (P := Tryd.prog) Tryd.underlying9 s j hlt w
      cases rb
      · by_cases h37 : bat s j = 37
        · have h5 : Hid (j + 1 + skipN true ((bl s).drop (j + 1)) = blankP s i0) := by rw [← he.out, skip_37 s j hlt h37]; show _ = _; omega
          have g1 : (bat s j == 37) = true := by simp [h37]
          clear he h37
          go_wp2
          go_round
          case rel => exact ⟨j + 1, true, by omega, by go_num, rfl, h5⟩
          case measure => simp [intOf]; omega
        · have g1 : (bat s j == 37) = false := by simp [h37]
          by_cases hb : bat s j = 32 ∨ bat s j = 9 ∨ bat s j = 10 ∨ bat s j = 13
          · have h5 : Hid (j + 1 + skipN false ((bl s).drop (j + 1)) = blankP s i0) := by rw [← he.out, skip_blank s j hlt h37 hb]; show _ = _; omega
            clear he
            rcases hb with hb | hb | hb | hb
            · have g2 : (bat s j != 32) = false := by simp [hb]
              clear hb
              go_wp2
              go_round
              case rel => exact ⟨j + 1, false, by omega, by go_num, rfl, h5⟩
              case measure => simp [intOf]; omega
            · have g2 : (bat s j != 32) = true := by simp [hb]
              have g3 : (bat s j != 9) = false := by simp [hb]
              clear hb
              go_wp2
              go_round
              case rel => exact ⟨j + 1, false, by omega, by go_num, rfl, h5⟩
              case measure => simp [intOf]; omega
            · have g2 : (bat s j != 32) = true := by simp [hb]
              have g3 : (bat s j != 9) = true := by simp [hb]
              have g4 : (bat s j != 10) = false := by simp [hb]
              clear hb
              go_wp2
              go_round
              case rel => exact ⟨j + 1, false, by omega, by go_num, rfl, h5⟩
              case measure => simp [intOf]; omega
            · have g2 : (bat s j != 32) = true := by simp [hb]
              have g3 : (bat s j != 9) = true := by simp [hb]
              have g4 : (bat s j != 10) = true := by simp [hb]
              have g5 : (bat s j != 13) = false := by simp [hb]
              clear hb
              go_wp2
              go_round
              case rel => exact ⟨j + 1, false, by omega, by go_num, rfl, h5⟩
              case measure => simp [intOf]; omega
          · have h5 : Hid (j = blankP s i0) := by rw [← he.out, skip_stop s j hlt h37 hb]; show _ = _; omega
            have g2 : (bat s j != 32) = true := by rw [bne_iff_ne]; omega
            have g3 : (bat s j != 9) = true := by rw [bne_iff_ne]; omega
            have g4 : (bat s j != 10) = true := by rw [bne_iff_ne]; omega
            have g5 : (bat s j != 13) = true := by rw [bne_iff_ne]; omega
            clear he hb
            go_wp2
            go_ret
            exact ⟨ret_int (by rw [← h5.out]), rfl⟩
      · have h5 : Hid (j + 1 + skipN (!(bat s j == 10)) ((bl s).drop (j + 1)) = blankP s i0) := by rw [← he.out, skip_rem s j hlt]; show _ = _; omega
        clear he
        go_wp2
        go_round
        case rel => exact ⟨j + 1, !(bat s j == 10), by omega, by go_num, rfl, h5⟩
        case measure => simp [intOf]; omega
    · have h5 : Hid (j = blankP s i0) := by rw [← he.out, skip_end s rb j (by omega)]; rfl
      clear he
      go_wp2
      go_ret
      exact ⟨ret_int (by rw [← h5.out]), rfl⟩

end Go.Proofs.YtclioihichcpiaaDoor


/- Words: their kinds; the program's and the reference's. -/
namespace Go.Proofs.YtclioihichcpiaaDoor
open Go.RowKit Lx

theorem bl_inj {a b : ByteArray} (h : bl a = bl b) : a = b := by rw [← mk_bl a, ← mk_bl b, h]
theorem toList_bl (s : ByteArray) : s.toList = bl s := ByteArray.toList_eq s
theorem eq_str (s : ByteArray) (l : Bs) : (s.toList == l) = decide (bl s = l) := by
  rw [toList_bl, Bool.eq_iff_iff]; simp
theorem allB_take (p : Int → Bool) (s : ByteArray) (j : Nat) (h : j < s.size) : allB p ((bl s).take (j + 1)) = (allB p ((bl s).take j) && p (bat s j)) := by
  have h' : j < (bl s).length := by rw [bl_length]; exact h
  unfold allB
  rw [List.take_succ_eq_append_getElem h', List.all_append]
  simp only [List.all_cons, List.all_nil, Bool.and_true]
  rw [← bi_getD, List.getD_eq_getElem?_getD, List.getElem?_eq_getElem h']
  rfl
theorem allB_full (p : Int → Bool) (s : ByteArray) (j : Nat) (h : s.size ≤ j) : allB p ((bl s).take j) = allB p (bl s) := by
  rw [List.take_of_length_le (by rw [bl_length]; exact h)]
theorem allB_at (p : Int → Bool) (s : ByteArray) (j : Nat) (h : j < s.size) (hp : p (bat s j) = false) : allB p (bl s) = false := by
  unfold allB
  rw [List.all_eq_false]
  have h' : j < (bl s).length := by rw [bl_length]; exact h
  refine ⟨(bl s)[j], List.getElem_mem h', ?_⟩
  rw [← bi_getD, List.getD_eq_getElem?_getD, List.getElem?_eq_getElem h'] at hp
  simp only [Option.getD_some] at hp
  rw [hp]; simp
theorem firstB_bat (p : Int → Bool) (s : ByteArray) (h : 0 < s.size) : firstB p (bl s) = p (bat s 0) := by
  have := drop_bl s 0 h
  rw [List.drop_zero] at this
  rw [this]; rfl
theorem run_index_str0 {P : Program} {T : TypeId} (hT : P.underlying T = some .string) (s : ByteArray) (h : 0 < s.size) (w : World) :
    (Instr.index T (.string s) (.int .i64 0)).run P w = .ok (.int .u8 (bat s 0)) w := by simpa using run_index_str hT s 0 h w
theorem written_size {s : ByteArray} (h : writtenB (bl s) = true) : 1 ≤ s.size ∧ s.size ≤ 64 := by
  unfold writtenB at h; simp at h; exact h.2

theorem lx_Reserved (s : ByteArray) (w : World) : Calls Tryd.prog 88 #[.string s] w fun e w' => e = .returned (.bool (reservedB (bl s))) ∧ w = w' := by
  have g1 := eq_str s sInput
  have g2 := eq_str s sOutput
  have g3 := eq_str s sNot
  unfold sInput at g1
  unfold sOutput at g2
  unfold sNot at g3
  have h5 : Hid (reservedB (bl s) = (decide (bl s = sInput) || decide (bl s = sOutput) || decide (bl s = sNot))) := by
    show _ = _; unfold reservedB; rw [Bool.eq_iff_iff]; simp
  unfold sInput sOutput sNot at h5
  go_enter Tryd.func88, Tryd.ntmps88
  go_wp2
  all_goals go_ret
  all_goals exact ⟨ret_bool (by rw [h5.out]; simp_all), rfl⟩

end Go.Proofs.YtclioihichcpiaaDoor


/- lex.quoted: a string behind its first quote. -/
namespace Go.Proofs.YtclioihichcpiaaDoor
open Go.RowKit Lx

namespace Lx
/-- behind a backslash and an x -/
def quoF (l : Bs) (n : Nat) : Bs × Nat × Bool :=
  match l with
  | [] => ([], 0, false)
  | h1 :: r3 =>
    if halfI (bi h1) < 0 then ([], 0, false)
    else match r3 with
      | [] => ([], 1, false)
      | h2 :: r4 =>
        if halfI (bi h2) < 0 then ([], 1, false)
        else let (b, k, ok) := quo r4 (n + 1); (UInt8.ofNat (16 * halfI (bi h1) + halfI (bi h2)).toNat :: b, k + 2, ok)
theorem quoF_bad (c : UInt8) (r : Bs) (n : Nat) (h : halfI (bi c) < 0) : quoF (c :: r) n = ([], 0, false) := by unfold quoF; simp only []; rw [if_pos h]
theorem quoF_end (c : UInt8) (n : Nat) (h : ¬ halfI (bi c) < 0) : quoF [c] n = ([], 1, false) := by unfold quoF; simp only []; rw [if_neg h]
theorem quoF_bad2 (c d : UInt8) (r : Bs) (n : Nat) (h : ¬ halfI (bi c) < 0) (h2 : halfI (bi d) < 0) : quoF (c :: d :: r) n = ([], 1, false) := by unfold quoF; simp only []; rw [if_neg h, if_pos h2]
theorem quoF_ok (c d : UInt8) (r : Bs) (n : Nat) (X Y : Int) (hX : X = halfI (bi c)) (hY : Y = halfI (bi d)) (h : ¬ X < 0) (h2 : ¬ Y < 0) :
    quoF (c :: d :: r) n = (UInt8.ofNat (16 * X + Y).toNat :: (quo r (n + 1)).1, (quo r (n + 1)).2.1 + 2, (quo r (n + 1)).2.2) := by
  subst hX hY; unfold quoF; simp only []; rw [if_neg h, if_neg h2]
/-- behind a backslash -/
def quoS (l : Bs) (n : Nat) : Bs × Nat × Bool :=
  match l with
  | [] => ([], 0, false)
  | d :: r2 =>
    if bi d = 34 ∨ bi d = 92 then let (b, k, ok) := quo r2 (n + 1); (d :: b, k + 1, ok)
    else if bi d = 110 then let (b, k, ok) := quo r2 (n + 1); (10 :: b, k + 1, ok)
    else if bi d = 116 then let (b, k, ok) := quo r2 (n + 1); (9 :: b, k + 1, ok)
    else if bi d = 120 then let (b, k, ok) := quoF r2 n; (b, k + 1, ok)
    else ([], 0, false)
theorem quo_nil (n : Nat) : quo [] n = ([], 0, false) := by rw [quo.eq_def]
theorem quo_34 (c : UInt8) (r : Bs) (n : Nat) (h : bi c = 34) : quo (c :: r) n = ([], 1, true) := by rw [quo.eq_def]; simp only []; rw [if_pos h]
theorem quo_bad (c : UInt8) (r : Bs) (n : Nat) (h : ¬ bi c = 34) (hb : n = 1024 ∨ bi c < 32 ∨ 126 < bi c) : quo (c :: r) n = ([], 0, false) := by rw [quo.eq_def]; simp only []; rw [if_neg h, if_pos hb]
theorem quo_92 (c : UInt8) (r : Bs) (n : Nat) (h : bi c = 92) (hn : ¬ n = 1024) : quo (c :: r) n = ((quoS r n).1, (quoS r n).2.1 + 1, (quoS r n).2.2) := by
  rw [quo.eq_def]
  simp only []
  rw [if_neg (by omega), if_neg (by omega), if_pos h]
  cases r with
  | nil => rfl
  | cons d r2 =>
    simp only [quoS]
    split
    · rfl
    · split
      · rfl
      · split
        · rfl
        · split
          · cases r2 with
            | nil => rfl
            | cons h1 r3 =>
              simp only [quoF]
              split
              · rfl
              · cases r3 with
                | nil => rfl
                | cons h2 r4 => simp only []; split <;> rfl
          · rfl
theorem quo_chr (c : UInt8) (r : Bs) (n : Nat) (h : ¬ bi c = 34) (hb : ¬ (n = 1024 ∨ bi c < 32 ∨ 126 < bi c)) (h92 : ¬ bi c = 92) :
    quo (c :: r) n = (c :: (quo r (n + 1)).1, (quo r (n + 1)).2.1 + 1, (quo r (n + 1)).2.2) := by
  rw [quo.eq_def]
  simp only []
  rw [if_neg h, if_neg hb, if_neg h92]
end Lx

/-- what stands at a place of the string: gathered are acc, to come is r; in all t, from i0 on -/
structure QAt (t : Bs × Nat × Bool) (i0 : Nat) (acc : Bs) (j : Nat) (r : Bs × Nat × Bool) : Prop where
  text : t.1 = acc ++ r.1 ∨ r.2.2 = false
  far : i0 + t.2.1 = j + r.2.1
  ok : t.2.2 = r.2.2

theorem QAt.one {t : Bs × Nat × Bool} {i0 : Nat} {acc : Bs} {j k : Nat} {c : UInt8} {r : Bs × Nat × Bool} (h : QAt t i0 acc j (c :: r.1, r.2.1 + k, r.2.2)) : QAt t i0 (acc ++ [c]) (j + k) r :=
  ⟨by rcases h.text with h | h
      · left; rw [h]; simp
      · exact .inr h, by have := h.far; simp at this; omega, h.ok⟩
theorem QAt.none {t : Bs × Nat × Bool} {i0 : Nat} {acc : Bs} {j k : Nat} {r : Bs × Nat × Bool} (h : QAt t i0 acc j (r.1, r.2.1 + k, r.2.2)) : QAt t i0 acc (j + k) r :=
  ⟨h.text, by have := h.far; simp at this; omega, h.ok⟩

theorem own_slice {w : World} {base : Nat} {e : TypeId} {size : Nat} {v : Value} {n : Nat} {xs : List Value} (h : w.ownsRow base e size v n xs) :
    ∃ a c, v = .slice a n c ∧ (a = none → n = 0 ∧ c = 0) := by
  rcases h.2 with ⟨rfl, rfl⟩ | ⟨g, cap, cur, rfl, _⟩
  · exact ⟨none, 0, rfl, fun _ => ⟨rfl, rfl⟩⟩
  · exact ⟨_, cap, rfl, fun h => by cases h⟩

/-- the frame of quoted between its jumps -/
def QFrame (s : ByteArray) (i b hi : Value) (a : Act) : Prop :=
  ∃ f : Nat → Value, a = { tmps := #[.string s, i, undef, undef, .string ⟨#[]⟩, .int .i64 0, .bool false, b, hi, f 9, f 10, f 11, f 12, f 13, f 14, f 15, f 16, f 17, f 18, f 19, f 20, f 21, f 22, f 23, f 24, f 25, f 26, f 27, f 28, f 29, f 30, f 31, f 32, f 33, f 34, f 35, f 36, f 37, f 38, f 39, f 40, f 41, f 42, f 43, f 44, f 45, f 46, f 47, f 48, f 49, f 50, f 51, f 52, f 53, f 54, f 55, f 56, f 57, f 58, f 59, f 60, f 61, f 62, f 63, f 64, f 65, f 66, f 67, f 68, f 69, f 70, f 71, f 72, f 73, f 74, f 75, f 76, f 77, f 78, f 79, f 80, f 81, f 82, f 83, f 84, f 85, f 86, f 87, f 88, f 89, f 90, f 91, f 92, f 93, f 94, f 95, f 96, f 97, f 98, f 99, f 100, f 101, f 102, f 103, f 104, f 105, f 106, f 107, f 108, f 109, f 110, f 111, f 112, f 113, f 114, f 115, f 116, f 117, f 118, f 119, f 120, f 121, f 122, f 123, f 124, f 125, f 126, f 127, f 128, f 129], defers := [] }
theorem QFrame.mk {s : ByteArray} {i b hi : Value} {a : Act} (h : a = { tmps := #[.string s, i, undef, undef, .string ⟨#[]⟩, .int .i64 0, .bool false, b, hi, a.tmps.getD 9 undef, a.tmps.getD 10 undef, a.tmps.getD 11 undef, a.tmps.getD 12 undef, a.tmps.getD 13 undef, a.tmps.getD 14 undef, a.tmps.getD 15 undef, a.tmps.getD 16 undef, a.tmps.getD 17 undef, a.tmps.getD 18 undef, a.tmps.getD 19 undef, a.tmps.getD 20 undef, a.tmps.getD 21 undef, a.tmps.getD 22 undef, a.tmps.getD 23 undef, a.tmps.getD 24 undef, a.tmps.getD 25 undef, a.tmps.getD 26 undef, a.tmps.getD 27 undef, a.tmps.getD 28 undef, a.tmps.getD 29 undef, a.tmps.getD 30 undef, a.tmps.getD 31 undef, a.tmps.getD 32 undef, a.tmps.getD 33 undef, a.tmps.getD 34 undef, a.tmps.getD 35 undef, a.tmps.getD 36 undef, a.tmps.getD 37 undef, a.tmps.getD 38 undef, a.tmps.getD 39 undef, a.tmps.getD 40 undef, a.tmps.getD 41 undef, a.tmps.getD 42 undef, a.tmps.getD 43 undef, a.tmps.getD 44 undef, a.tmps.getD 45 undef, a.tmps.getD 46 undef, a.tmps.getD 47 undef, a.tmps.getD 48 undef, a.tmps.getD 49 undef, a.tmps.getD 50 undef, a.tmps.getD 51 undef, a.tmps.getD 52 undef, a.tmps.getD 53 undef, a.tmps.getD 54 undef, a.tmps.getD 55 undef, a.tmps.getD 56 undef, a.tmps.getD 57 undef, a.tmps.getD 58 undef, a.tmps.getD 59 undef, a.tmps.getD 60 undef, a.tmps.getD 61 undef, a.tmps.getD 62 undef, a.tmps.getD 63 undef, a.tmps.getD 64 undef, a.tmps.getD 65 undef, a.tmps.getD 66 undef, a.tmps.getD 67 undef, a.tmps.getD 68 undef, a.tmps.getD 69 undef, a.tmps.getD 70 undef, a.tmps.getD 71 undef, a.tmps.getD 72 undef, a.tmps.getD 73 undef, a.tmps.getD 74 undef, a.tmps.getD 75 undef, a.tmps.getD 76 undef, a.tmps.getD 77 undef, a.tmps.getD 78 undef, a.tmps.getD 79 undef, a.tmps.getD 80 undef, a.tmps.getD 81 undef, a.tmps.getD 82 undef, a.tmps.getD 83 undef, a.tmps.getD 84 undef, a.tmps.getD 85 undef, a.tmps.getD 86 undef, a.tmps.getD 87 undef, a.tmps.getD 88 undef, a.tmps.getD 89 undef, a.tmps.getD 90 undef, a.tmps.getD 91 undef, a.tmps.getD 92 undef, a.tmps.getD 93 undef, a.tmps.getD 94 undef, a.tmps.getD 95 undef, a.tmps.getD 96 undef, a.tmps.getD 97 undef, a.tmps.getD 98 undef, a.tmps.getD 99 undef, a.tmps.getD 100 undef, a.tmps.getD 101 undef, a.tmps.getD 102 undef, a.tmps.getD 103 undef, a.tmps.getD 104 undef, a.tmps.getD 105 undef, a.tmps.getD 106 undef, a.tmps.getD 107 undef, a.tmps.getD 108 undef, a.tmps.getD 109 undef, a.tmps.getD 110 undef, a.tmps.getD 111 undef, a.tmps.getD 112 undef, a.tmps.getD 113 undef, a.tmps.getD 114 undef, a.tmps.getD 115 undef, a.tmps.getD 116 undef, a.tmps.getD 117 undef, a.tmps.getD 118 undef, a.tmps.getD 119 undef, a.tmps.getD 120 undef, a.tmps.getD 121 undef, a.tmps.getD 122 undef, a.tmps.getD 123 undef, a.tmps.getD 124 undef, a.tmps.getD 125 undef, a.tmps.getD 126 undef, a.tmps.getD 127 undef, a.tmps.getD 128 undef, a.tmps.getD 129 undef], defers := [] }) : QFrame s i b hi a := ⟨fun n => a.tmps.getD n undef, h⟩
/-- what holds at each jump -/
def QJ (s : ByteArray) (i0 : Nat) (w : World) (l : Nat) (a : Act) (wr : World) : Prop :=
  ∃ (j : Nat) (acc : Bs) (v hi : Value), QFrame s (.int .i64 j) v hi a ∧ j ≤ s.size ∧ wr.ownsRow w.heap.size 5 1 v acc.length (acc.map u8v) ∧ Below w.heap.size w wr ∧
    ((l = 0 ∧ acc.length ≤ 1024 ∧ QAt (quo ((bl s).drop i0) 0) i0 acc j (quo ((bl s).drop j) acc.length)) ∨
     (l = 1 ∧ acc.length < 1024 ∧ QAt (quo ((bl s).drop i0) 0) i0 acc j (quoS ((bl s).drop j) acc.length)) ∨
     (l = 2 ∧ acc.length < 1024 ∧ QAt (quo ((bl s).drop i0) 0) i0 acc j (quoF ((bl s).drop j) acc.length)))
def slot1 (a : Act) : Nat := (intOf (a.tmps.getD 1 undef)).toNat

theorem infoByte : (Tryd.prog.info? 5).map (fun i => (i.zero, i.size, i.bytes)) = some (some (.int .u8 0), 1, 1) := by kernel_rfl

theorem half_range (c : Int) : halfI c = -1 ∨ (0 ≤ halfI c ∧ halfI c ≤ 15) := by unfold halfI; split <;> (try split) <;> omega

/-- the post of quoted -/
def QPost (s : ByteArray) (i0 : Nat) (w : World) (e : Ending) (w' : World) : Prop :=
  e = .returned (.tuple #[.string (mk (if (quo ((bl s).drop i0) 0).2.2 then (quo ((bl s).drop i0) 0).1 else [])), .int .i64 ((i0 + (quo ((bl s).drop i0) 0).2.1 : Nat) : Int), .bool (quo ((bl s).drop i0) 0).2.2]) ∧ Below w.heap.size w w'

theorem QPost.bad {s : ByteArray} {i0 j : Nat} {w w' : World} {acc b : Bs} (h : QAt (quo ((bl s).drop i0) 0) i0 acc j (b, 0, false)) (hb : Below w.heap.size w w') :
    QPost s i0 w (.returned (.tuple #[.string ⟨#[]⟩, .int .i64 (j : Int), .bool false])) w' := by
  unfold QPost
  rw [h.ok, h.far]
  exact ⟨rfl, hb⟩
theorem QPost.bad1 {s : ByteArray} {i0 j : Nat} {w w' : World} {acc : Bs} (h : QAt (quo ((bl s).drop i0) 0) i0 acc j ([], 1, false)) (hb : Below w.heap.size w w') :
    QPost s i0 w (.returned (.tuple #[.string ⟨#[]⟩, .int .i64 ((j : Int) + 1), .bool false])) w' :=
  QPost.bad (j := j + 1) (acc := acc) (b := []) ⟨.inr rfl, by have := h.far; simp at this; simp; omega, h.ok⟩ hb
theorem QPost.good {s : ByteArray} {i0 j : Nat} {w w' : World} {acc : Bs} (h : QAt (quo ((bl s).drop i0) 0) i0 acc j ([], 1, true)) (hb : Below w.heap.size w w') :
    QPost s i0 w (.returned (.tuple #[.string (mk acc), .int .i64 ((j : Int) + 1), .bool true])) w' := by
  unfold QPost
  have ht : (quo ((bl s).drop i0) 0).1 = acc := by rcases h.text with h | h
                                                   · simpa using h
                                                   · cases h
  rw [h.ok, h.far, ht]
  exact ⟨rfl, hb⟩

theorem own_grown {w wr w2 : World} {et : TypeId} {v : Value} {n : Nat} {xs : List Value} {ob : Obj} (h : wr.ownsRow w.heap.size et 1 v n xs) (hb : Below w.heap.size w wr) (hg : (wr.alloc ob).grownBy w2 v.ownBlock) : Below w.heap.size w w2 :=
  (hb.al ob).grown hg (by have := hb.size; simp; omega) (own_ge h)

set_option maxRecDepth 100000 in
set_option maxHeartbeats 8000000 in
theorem lx_quoted (s : ByteArray) (i : Int) (w : World) (hs : s.size ≤ 4194304) (hi0 : 0 ≤ i) (hi1 : i ≤ s.size) :
    Calls Tryd.prog 86 #[.string s, .int .i64 i] w (QPost s i.toNat w) := by
  obtain ⟨i0, rfl⟩ := Int.eq_ofNat_of_zero_le hi0
  rw [Int.toNat_natCast]
  obtain ⟨ib, hib, hz0, hz1, hz2⟩ := info_parts infoByte
  go_enter Tryd.func86, Tryd.ntmps86
  go_wp2_with fail
  refine wp_scope_labels3 (fun Y => .seq _ (.seq _ (.seq (.label 0) Y))) (QJ s i0 w) (fun _ a _ => s.size - slot1 a) ?_ rfl rfl rfl rfl ?_ ?_ ?_ ?_
  · rintro l a wr ⟨j, acc, v, hi, _, _, _, _, h | h | h⟩ <;> omega
  · intro Y hY
    go_wp2_with fail
    go_step3
    go_wp2_with fail
    refine hY _ _ ?_
    exact ⟨i0, [], _, _, .mk rfl, by omega, World.ownsRow_lit w _ 0 (Nat.le_refl _) (by unfold maxLen; omega) (by simp), (Below.refl _ _).al _, .inl ⟨rfl, by simp, ⟨.inl rfl, rfl, rfl⟩⟩⟩
  · rintro a wr ⟨j, acc, v, hi, ⟨f, rfl⟩, hj, hown, hb, ⟨_, hlen, hq⟩ | ⟨h, _⟩ | ⟨h, _⟩⟩
    rotate_left
    · omega
    · omega
    obtain ⟨va, vc, rfl, hva⟩ := own_slice hown
    replace hown := Lib.hid hown
    replace hb := Lib.hid hb
    have h63 : Hid (acc.length + 1 ≤ maxLen) := by show acc.length + 1 ≤ maxLen; unfold maxLen; omega
    have h64 : Hid ((acc.length + 1) * 1 ≤ 140737488355328) := by show (acc.length + 1) * 1 ≤ 140737488355328; omega
    
    by_cases hlt : j < s.size
    · have hidx := fun w => run_index_str (P := Tryd.prog) Tryd.underlying9 s j hlt w
      have hr := bat_range s j
      have ge : ((j : Int) == (s.size : Int)) = false := by rw [beq_eq_false_iff_ne]; omega
      rw [drop_bl s j hlt] at hq
      have hbi : bi ((bl s).getD j 0) = bat s j := rfl
      by_cases h34 : bat s j = 34
      · rw [quo_34 _ _ _ (hbi.trans h34)] at hq
        have hgood := Lib.hid (QPost.good hq hb.out)
        have g1 : (bat s j == 34) = true := by simp [h34]
        have hconv := run_string_own (P := Tryd.prog) Tryd.underlying65 Tryd.underlying5 Tryd.underlying9 hown.out
        clear h34 hq hbi
        go_wp2
        simp only [Exit.jumps]
        go_ret3
        exact hgood.out
      · have g1 : (bat s j == 34) = false := by rw [beq_eq_false_iff_ne]; exact h34
        by_cases hbad0 : acc.length = 1024 ∨ bat s j < 32 ∨ 126 < bat s j
        · rw [quo_bad _ _ _ (by rw [hbi]; exact h34) (by rw [hbi]; exact hbad0)] at hq
          have hbad := Lib.hid (QPost.bad hq hb.out)
          clear hq hbi
          rcases hbad0 with h | h | h
          · have g2 : ((acc.length : Int) == 1024) = true := by simp [h]
            clear h
            go_wp2
            simp only [Exit.jumps]
            go_ret3
            exact hbad.out
          · by_cases hf : acc.length = 1024
            · have g2 : ((acc.length : Int) == 1024) = true := by simp [hf]
              clear hf
              go_wp2
              simp only [Exit.jumps]
              go_ret3
              exact hbad.out
            · have g2 : ((acc.length : Int) == 1024) = false := by rw [beq_eq_false_iff_ne]; omega
              go_wp2
              simp only [Exit.jumps]
              go_ret3
              exact hbad.out
          · by_cases hf : acc.length = 1024
            · have g2 : ((acc.length : Int) == 1024) = true := by simp [hf]
              clear hf
              go_wp2
              simp only [Exit.jumps]
              go_ret3
              exact hbad.out
            · have g2 : ((acc.length : Int) == 1024) = false := by rw [beq_eq_false_iff_ne]; omega
              have g3 : decide (bat s j < 32) = false := decide_eq_false (by omega)
              go_wp2
              simp only [Exit.jumps]
              go_ret3
              exact hbad.out
        · have g2 : ((acc.length : Int) == 1024) = false := by rw [beq_eq_false_iff_ne]; omega
          have g3 : decide (bat s j < 32) = false := decide_eq_false (by omega)
          have g4 : decide (126 < bat s j) = false := decide_eq_false (by omega)
          have hn2 : acc.length < 1024 := by omega
          by_cases h92 : bat s j = 92
          · rw [quo_92 _ _ _ (hbi.trans h92) (by omega)] at hq
            have hq2 := Lib.hid hq.none
            have g5 : (bat s j == 92) = true := by simp [h92]
            clear hq h92 hbi hbad0
            go_wp2
            go_step3
            exact ⟨⟨j + 1, acc, _, _, .mk (by go_num), by omega, hown.out, hb.out, .inr (.inl ⟨rfl, hn2, hq2.out⟩)⟩, by simp [slot1, intOf]; omega⟩
          · rw [quo_chr _ _ _ (by rw [hbi]; exact h34) (by rw [hbi]; omega) (by rw [hbi]; exact h92)] at hq
            have hq2 := Lib.hid (hq.one (c := (bl s).getD j 0))
            have g5 : (bat s j == 92) = false := by rw [beq_eq_false_iff_ne]; exact h92
            clear hq h92 hbi hbad0
            go_wp2_with (first
              | (at_builtin; refine wpList_append_own _ rfl (.tmp 45) (.tmp 49) 65 rfl w.heap.size 5 ib (.int .u8 0) 1 1 Tryd.underlying65 hib hz0 hz1 hz2 rfl (by decide) _ acc.length _ rfl (hown.out.alloc _) ⟨wr.heap.size, 0, none⟩ 1 1 [.int .u8 (bat s j)] rfl rfl own_cells_one (u8v_one [(bl s).getD j 0]) h63.out h64.out (by rw [World.size_alloc]; have := hb.out.size; omega) ?_))
            intro v2 w2 hown2 hgrow2 hv2
            have hb2 : Hid (Below w.heap.size w w2) := own_grown hown.out hb.out hgrow2
            have hown3 : Hid (w2.ownsRow w.heap.size 5 1 v2 (acc ++ [(bl s).getD j 0]).length ((acc ++ [(bl s).getD j 0]).map u8v)) := by rw [List.length_append]; exact own_snoc hown2
            clear hown2 hgrow2 hv2
            go_wp2
            go_step3
            exact ⟨⟨j + 1, acc ++ [(bl s).getD j 0], _, _, .mk (by go_num), by omega, hown3.out, hb2.out, .inl ⟨rfl, by simp; omega, by rw [List.length_append]; exact hq2.out⟩⟩, by simp [slot1, intOf]; omega⟩
    · have ge : ((j : Int) == (s.size : Int)) = true := by rw [beq_iff_eq]; omega
      rw [drop_bl_end s j (by omega), quo_nil] at hq
      have hbad := Lib.hid (QPost.bad hq hb.out)
      clear hq
      go_wp2
      simp only [Exit.jumps]
      go_ret3
      exact hbad.out
  · rintro a wr ⟨j, acc, v, hi, ⟨f, rfl⟩, hj, hown, hb, ⟨h, _⟩ | ⟨_, hlen, hq⟩ | ⟨h, _⟩⟩
    · omega
    rotate_left
    · omega
    have hn : acc.length ≤ 1024 := by have : acc.length < 1024 := hlen; omega
    have hn2 : acc.length < 1024 := hlen
    clear hlen
    obtain ⟨va, vc, rfl, hva⟩ := own_slice hown
    replace hown := Lib.hid hown
    replace hb := Lib.hid hb
    have h63 : Hid (acc.length + 1 ≤ maxLen) := by show acc.length + 1 ≤ maxLen; unfold maxLen; omega
    have h64 : Hid ((acc.length + 1) * 1 ≤ 140737488355328) := by show (acc.length + 1) * 1 ≤ 140737488355328; omega
    by_cases hlt : j < s.size
    · have hidx := fun w => run_index_str (P := Tryd.prog) Tryd.underlying9 s j hlt w
      have hr := bat_range s j
      have ge : ((j : Int) == (s.size : Int)) = false := by rw [beq_eq_false_iff_ne]; omega
      rw [drop_bl s j hlt] at hq
      have hbi : bi ((bl s).getD j 0) = bat s j := rfl
      by_cases h1 : bat s j = 34 ∨ bat s j = 92
      · rw [quoS, hbi, if_pos h1] at hq
        have hq2 := Lib.hid (hq.one (c := (bl s).getD j 0))
        by_cases h34 : bat s j = 34
        · have g1 : (bat s j == 34) = true := by simp [h34]
          clear h1 h34 hq hbi
          go_wp2_with (first
            | (at_builtin; refine wpList_append_own _ rfl (.tmp 65) (.tmp 69) 65 rfl w.heap.size 5 ib (.int .u8 0) 1 1 Tryd.underlying65 hib hz0 hz1 hz2 rfl (by decide) _ acc.length _ rfl (hown.out.alloc _) ⟨wr.heap.size, 0, none⟩ 1 1 [.int .u8 (bat s j)] rfl rfl own_cells_one (by intro u hu; simp at hu; subst hu; rfl) h63.out h64.out (by rw [World.size_alloc]; have := hb.out.size; omega) ?_))
          intro v2 w2 hown2 hgrow2 hv2
          have hb2 : Hid (Below w.heap.size w w2) := own_grown hown.out hb.out hgrow2
          have hown3 : Hid (w2.ownsRow w.heap.size 5 1 v2 (acc ++ [(bl s).getD j 0]).length ((acc ++ [(bl s).getD j 0]).map u8v)) := by rw [List.length_append]; exact own_snoc hown2
          clear hown2 hgrow2 hv2
          go_wp2
          go_step3
          exact ⟨⟨j + 1, acc ++ [(bl s).getD j 0], _, _, .mk (by go_num), by omega, hown3.out, hb2.out, .inl ⟨rfl, by simp; omega, by rw [List.length_append]; exact hq2.out⟩⟩, by simp [slot1, intOf]; omega⟩
        · have g1 : (bat s j == 34) = false := by rw [beq_eq_false_iff_ne]; exact h34
          have g2 : (bat s j == 92) = true := by rw [beq_iff_eq]; omega
          clear h1 h34 hq hbi
          go_wp2_with (first
            | (at_builtin; refine wpList_append_own _ rfl (.tmp 65) (.tmp 69) 65 rfl w.heap.size 5 ib (.int .u8 0) 1 1 Tryd.underlying65 hib hz0 hz1 hz2 rfl (by decide) _ acc.length _ rfl (hown.out.alloc _) ⟨wr.heap.size, 0, none⟩ 1 1 [.int .u8 (bat s j)] rfl rfl own_cells_one (by intro u hu; simp at hu; subst hu; rfl) h63.out h64.out (by rw [World.size_alloc]; have := hb.out.size; omega) ?_))
          intro v2 w2 hown2 hgrow2 hv2
          have hb2 : Hid (Below w.heap.size w w2) := own_grown hown.out hb.out hgrow2
          have hown3 : Hid (w2.ownsRow w.heap.size 5 1 v2 (acc ++ [(bl s).getD j 0]).length ((acc ++ [(bl s).getD j 0]).map u8v)) := by rw [List.length_append]; exact own_snoc hown2
          clear hown2 hgrow2 hv2
          go_wp2
          go_step3
          exact ⟨⟨j + 1, acc ++ [(bl s).getD j 0], _, _, .mk (by go_num), by omega, hown3.out, hb2.out, .inl ⟨rfl, by simp; omega, by rw [List.length_append]; exact hq2.out⟩⟩, by simp [slot1, intOf]; omega⟩
      · have g1 : (bat s j == 34) = false := by rw [beq_eq_false_iff_ne]; omega
        have g2 : (bat s j == 92) = false := by rw [beq_eq_false_iff_ne]; omega
        by_cases h2 : bat s j = 110
        · rw [quoS, hbi, if_neg h1, if_pos h2] at hq
          have hq2 := Lib.hid (hq.one (c := 10))
          have g3 : (bat s j == 110) = true := by simp [h2]
          clear h1 h2 hq hbi
          go_wp2_with (first
            | (at_builtin; refine wpList_append_own _ rfl (.tmp 73) (.tmp 74) 65 rfl w.heap.size 5 ib (.int .u8 0) 1 1 Tryd.underlying65 hib hz0 hz1 hz2 rfl (by decide) _ acc.length _ rfl (hown.out.alloc _) ⟨wr.heap.size, 0, none⟩ 1 1 [.int .u8 10] rfl rfl own_cells_one (by intro u hu; simp at hu; subst hu; rfl) h63.out h64.out (by rw [World.size_alloc]; have := hb.out.size; omega) ?_))
          intro v2 w2 hown2 hgrow2 hv2
          have hb2 : Hid (Below w.heap.size w w2) := own_grown hown.out hb.out hgrow2
          have hown3 : Hid (w2.ownsRow w.heap.size 5 1 v2 (acc ++ [10]).length ((acc ++ [10]).map u8v)) := by rw [List.length_append]; exact own_snoc hown2
          clear hown2 hgrow2 hv2
          go_wp2
          go_step3
          exact ⟨⟨j + 1, acc ++ [10], _, _, .mk (by go_num), by omega, hown3.out, hb2.out, .inl ⟨rfl, by simp; omega, by rw [List.length_append]; exact hq2.out⟩⟩, by simp [slot1, intOf]; omega⟩
        · have g3 : (bat s j == 110) = false := by rw [beq_eq_false_iff_ne]; omega
          by_cases h3 : bat s j = 116
          · rw [quoS, hbi, if_neg h1, if_neg h2, if_pos h3] at hq
            have hq2 := Lib.hid (hq.one (c := 9))
            have g4 : (bat s j == 116) = true := by simp [h3]
            clear h1 h2 h3 hq hbi
            go_wp2_with (first
              | (at_builtin; refine wpList_append_own _ rfl (.tmp 78) (.tmp 79) 65 rfl w.heap.size 5 ib (.int .u8 0) 1 1 Tryd.underlying65 hib hz0 hz1 hz2 rfl (by decide) _ acc.length _ rfl (hown.out.alloc _) ⟨wr.heap.size, 0, none⟩ 1 1 [.int .u8 9] rfl rfl own_cells_one (by intro u hu; simp at hu; subst hu; rfl) h63.out h64.out (by rw [World.size_alloc]; have := hb.out.size; omega) ?_))
            intro v2 w2 hown2 hgrow2 hv2
            have hb2 : Hid (Below w.heap.size w w2) := own_grown hown.out hb.out hgrow2
            have hown3 : Hid (w2.ownsRow w.heap.size 5 1 v2 (acc ++ [9]).length ((acc ++ [9]).map u8v)) := by rw [List.length_append]; exact own_snoc hown2
            clear hown2 hgrow2 hv2
            go_wp2
            go_step3
            exact ⟨⟨j + 1, acc ++ [9], _, _, .mk (by go_num), by omega, hown3.out, hb2.out, .inl ⟨rfl, by simp; omega, by rw [List.length_append]; exact hq2.out⟩⟩, by simp [slot1, intOf]; omega⟩
          · have g4 : (bat s j == 116) = false := by rw [beq_eq_false_iff_ne]; omega
            by_cases h4 : bat s j = 120
            · rw [quoS, hbi, if_neg h1, if_neg h2, if_neg h3, if_pos h4] at hq
              have hq2 := Lib.hid (QAt.none hq)
              have g5 : (bat s j == 120) = true := by simp [h4]
              clear h1 h2 h3 h4 hq hbi
              go_wp2
              go_step3
              exact ⟨⟨j + 1, acc, _, _, .mk (by go_num), by omega, hown.out, hb.out, .inr (.inr ⟨rfl, hn2, hq2.out⟩)⟩, by simp [slot1, intOf]; omega⟩
            · rw [quoS, hbi, if_neg h1, if_neg h2, if_neg h3, if_neg h4] at hq
              have hbad := Lib.hid (QPost.bad hq hb.out)
              have g5 : (bat s j == 120) = false := by rw [beq_eq_false_iff_ne]; omega
              clear h1 h2 h3 h4 hq hbi
              go_wp2
              simp only [Exit.jumps]
              go_ret3
              exact hbad.out
    · have ge : ((j : Int) == (s.size : Int)) = true := by rw [beq_iff_eq]; omega
      rw [drop_bl_end s j (by omega)] at hq
      have hbad := Lib.hid (QPost.bad (b := []) hq hb.out)
      clear hq
      go_wp2
      simp only [Exit.jumps]
      go_ret3
      exact hbad.out
  · rintro a wr ⟨j, acc, v, hi, ⟨f, rfl⟩, hj, hown, hb, ⟨h, _⟩ | ⟨h, _⟩ | ⟨_, hlen, hq⟩⟩
    · omega
    · omega
    have hn : acc.length ≤ 1024 := by have : acc.length < 1024 := hlen; omega
    have hn2 : acc.length < 1024 := hlen
    clear hlen
    obtain ⟨va, vc, rfl, hva⟩ := own_slice hown
    replace hown := Lib.hid hown
    replace hb := Lib.hid hb
    have h63 : Hid (acc.length + 1 ≤ maxLen) := by show acc.length + 1 ≤ maxLen; unfold maxLen; omega
    have h64 : Hid ((acc.length + 1) * 1 ≤ 140737488355328) := by show (acc.length + 1) * 1 ≤ 140737488355328; omega
    by_cases hlt : j < s.size
    · have hidx := fun w => run_index_str (P := Tryd.prog) Tryd.underlying9 s j hlt w
      have hr := bat_range s j
      have hh1 := fun w => lx_half (bat s j) w hr.1 hr.2
      replace hh1 := Lib.hid hh1
      have ge : ((j : Int) == (s.size : Int)) = false := by rw [beq_eq_false_iff_ne]; omega
      rw [drop_bl s j hlt] at hq
      have hbi : bi ((bl s).getD j 0) = bat s j := rfl
      by_cases h1 : halfI (bat s j) < 0
      · rw [quoF_bad _ _ _ (by rw [hbi]; exact h1)] at hq
        have hbad := Lib.hid (QPost.bad (b := []) hq hb.out)
        clear hq hbi
        go_wp2_with (go_at_call 100; refine (hh1.out _).mono ?_; rintro e w' ⟨rfl, rfl⟩)
        simp only [Exit.jumps]
        go_ret3
        exact hbad.out
      · have hr1 := half_range (bat s j)
        obtain ⟨X, hX⟩ : ∃ X, X = halfI (bat s j) := ⟨_, rfl⟩
        rw [← hX] at h1 hr1 hh1
        have gx : decide (X < 0) = false := decide_eq_false h1
        replace hX := Lib.hid hX
        by_cases hlt2 : j + 1 < s.size
        · have hidx2 := fun w => run_index_str (P := Tryd.prog) Tryd.underlying9 s (j + 1) hlt2 w
          rw [show ((j + 1 : Nat) : Int) = (j : Int) + 1 from by omega] at hidx2
          have hr2 := bat_range s (j + 1)
          have hh2 := fun w => lx_half (bat s (j + 1)) w hr2.1 hr2.2
          replace hh2 := Lib.hid hh2
          have ge2 : ((j : Int) + 1 == (s.size : Int)) = false := by rw [beq_eq_false_iff_ne]; omega
          rw [drop_bl s (j + 1) hlt2] at hq
          have hbi2 : bi ((bl s).getD (j + 1) 0) = bat s (j + 1) := rfl
          by_cases h2 : halfI (bat s (j + 1)) < 0
          · rw [quoF_bad2 _ _ _ _ (by rw [hbi, ← hX.out]; exact h1) (by rw [hbi2]; exact h2)] at hq
            have hbad := Lib.hid (QPost.bad1 hq hb.out)
            clear hq hbi hbi2
            obtain ⟨Y, hY⟩ : ∃ Y, Y = halfI (bat s (j + 1)) := ⟨_, rfl⟩
            rw [← hY] at h2 hh2
            have gy : decide (Y < 0) = true := decide_eq_true h2
            clear hY
            go_wp2_with fail
            refine (hh1.out _).mono ?_
            rintro e w' ⟨rfl, rfl⟩
            go_wp2_with fail
            refine (hh1.out _).mono ?_
            rintro e w' ⟨rfl, rfl⟩
            go_wp2_with fail
            refine (hh2.out _).mono ?_
            rintro e w' ⟨rfl, rfl⟩
            go_wp2_with fail
            simp only [Exit.jumps]
            go_ret3
            exact hbad.out
          · have hr3 := half_range (bat s (j + 1))
            obtain ⟨Y, hY⟩ : ∃ Y, Y = halfI (bat s (j + 1)) := ⟨_, rfl⟩
            rw [← hY] at h2 hr3 hh2
            have gy : decide (Y < 0) = false := decide_eq_false h2
            rw [quoF_ok _ _ _ _ X Y (by rw [hbi]; exact hX.out) (by rw [hbi2]; exact hY) h1 h2] at hq
            clear hY
            have hq2 := Lib.hid (hq.one (c := UInt8.ofNat (16 * X + Y).toNat))
            have hcv : IntKind.u8.wrap (X * 16 + Y) = X * 16 + Y := by rw [IntKind.wrap_u8]; omega
            have huv : u8v (UInt8.ofNat (16 * X + Y).toNat) = .int .u8 (X * 16 + Y) := by
              have hlt8 : (16 * X + Y).toNat < 256 := by omega
              have hv8 : (((16 * X + Y).toNat : Nat) : Int) = X * 16 + Y := by omega
              unfold u8v
              rw [UInt8.toNat_ofNat_of_lt' hlt8, hv8]
            replace huv := Lib.hid huv
            clear hq hbi hbi2
            go_wp2_with fail
            refine (hh1.out _).mono ?_
            rintro e w' ⟨rfl, rfl⟩
            go_wp2_with fail
            refine (hh1.out _).mono ?_
            rintro e w' ⟨rfl, rfl⟩
            go_wp2_with fail
            refine (hh2.out _).mono ?_
            rintro e w' ⟨rfl, rfl⟩
            go_wp2_with fail
            refine (hh2.out _).mono ?_
            rintro e w' ⟨rfl, rfl⟩
            go_wp2_with (first
              | (at_builtin; refine wpList_append_own _ rfl (.tmp 117) (.tmp 126) 65 rfl w.heap.size 5 ib (.int .u8 0) 1 1 Tryd.underlying65 hib hz0 hz1 hz2 rfl (by decide) _ acc.length _ rfl (hown.out.alloc _) ⟨wr.heap.size, 0, none⟩ 1 1 [.int .u8 (X * 16 + Y)] rfl rfl own_cells_one (by intro u hu; simp at hu; subst hu; rfl) h63.out h64.out (by rw [World.size_alloc]; have := hb.out.size; omega) ?_))
            intro v2 w2 hown2 hgrow2 hv2
            have hb2 : Hid (Below w.heap.size w w2) := own_grown hown.out hb.out hgrow2
            have hown3 : Hid (w2.ownsRow w.heap.size 5 1 v2 (acc ++ [UInt8.ofNat (16 * X + Y).toNat]).length ((acc ++ [UInt8.ofNat (16 * X + Y).toNat]).map u8v)) := by rw [List.length_append]; exact own_snoc (by rw [huv.out]; exact hown2)
            clear hown2 hgrow2 hv2
            go_wp2
            go_step3
            exact ⟨⟨j + 2, acc ++ [UInt8.ofNat (16 * X + Y).toNat], _, _, .mk (by go_num), by omega, hown3.out, hb2.out, .inl ⟨rfl, by simp; omega, by rw [List.length_append]; exact hq2.out⟩⟩, by simp [slot1, intOf]; omega⟩
        · have ge2 : ((j : Int) + 1 == (s.size : Int)) = true := by rw [beq_iff_eq]; omega
          rw [drop_bl_end s (j + 1) (by omega), quoF_end _ _ (by rw [hbi, ← hX.out]; exact h1)] at hq
          have hbad := Lib.hid (QPost.bad1 hq hb.out)
          clear hq hbi
          go_wp2_with fail
          refine (hh1.out _).mono ?_
          rintro e w' ⟨rfl, rfl⟩
          go_wp2_with fail
          refine (hh1.out _).mono ?_
          rintro e w' ⟨rfl, rfl⟩
          go_wp2_with fail
          simp only [Exit.jumps]
          go_ret3
          exact hbad.out
    · have ge : ((j : Int) == (s.size : Int)) = true := by rw [beq_iff_eq]; omega
      rw [drop_bl_end s j (by omega)] at hq
      have hbad := Lib.hid (QPost.bad (b := []) hq hb.out)
      clear hq
      go_wp2
      simp only [Exit.jumps]
      go_ret3
      exact hbad.out

end Go.Proofs.YtclioihichcpiaaDoor


/- The reference's piece and str. -/
namespace Go.Proofs.YtclioihichcpiaaDoor
open Go.RowKit Lx

namespace Lx
def pieceL : Bs → Int × Int
  | [] => (0, -1)
  | c :: r =>
    if bi c < 32 ∨ 126 < bi c then (0, -1)
    else if ¬ bi c = 92 then (bi c, 1)
    else match r with
      | [] => (0, -2)
      | d :: r2 =>
        if bi d = 34 ∨ bi d = 92 then (bi d, 2)
        else if bi d = 110 then (10, 2)
        else if bi d = 116 then (9, 2)
        else if bi d = 120 then
          match r2 with
          | [] => (0, -3)
          | h1 :: r3 =>
            if halfI (bi h1) < 0 then (0, -3)
            else match r3 with
              | [] => (0, -4)
              | h2 :: _ => if halfI (bi h2) < 0 then (0, -4) else (16 * halfI (bi h1) + halfI (bi h2), 4)
        else (0, -2)
theorem bi_range (c : UInt8) : 0 ≤ bi c ∧ bi c < 256 := by unfold bi; have := c.toNat_lt; omega
theorem quo_piece (c : UInt8) (r : Bs) (n : Nat) (h34 : ¬ bi c = 34) (hn : ¬ n = 1024) :
    ((pieceL (c :: r)).2 < 0 ∧ quo (c :: r) n = ([], (-(pieceL (c :: r)).2 - 1).toNat, false)) ∨
    (∃ (b : UInt8) (k : Nat), 1 ≤ k ∧ k ≤ r.length + 1 ∧ pieceL (c :: r) = (bi b, (k : Int)) ∧ quo (c :: r) n = (b :: (quo ((c :: r).drop k) (n + 1)).1, (quo ((c :: r).drop k) (n + 1)).2.1 + k, (quo ((c :: r).drop k) (n + 1)).2.2)) := by
  by_cases hb : bi c < 32 ∨ 126 < bi c
  · left
    rw [quo_bad c r n h34 (.inr hb)]
    simp only [pieceL, if_pos hb]
    exact ⟨by omega, rfl⟩
  · by_cases h92 : bi c = 92
    · rw [quo_92 c r n h92 hn]
      cases r with
      | nil => left; simp [pieceL, h92, quoS]
      | cons d r2 =>
        simp only [pieceL, h92, not_true, if_false, quoS]
        by_cases h1 : bi d = 34 ∨ bi d = 92
        · right; rw [if_pos h1, if_pos h1]; exact ⟨d, 2, by omega, by simp, rfl, rfl⟩
        · rw [if_neg h1, if_neg h1]
          by_cases h2 : bi d = 110
          · right; rw [if_pos h2, if_pos h2]; exact ⟨10, 2, by omega, by simp, rfl, rfl⟩
          · rw [if_neg h2, if_neg h2]
            by_cases h3 : bi d = 116
            · right; rw [if_pos h3, if_pos h3]; exact ⟨9, 2, by omega, by simp, rfl, rfl⟩
            · rw [if_neg h3, if_neg h3]
              by_cases h4 : bi d = 120
              · rw [if_pos h4, if_pos h4]
                cases r2 with
                | nil => left; exact ⟨by simp, by simp [quoF]⟩
                | cons g1 r3 =>
                  simp only []
                  by_cases k1 : halfI (bi g1) < 0
                  · left; rw [if_pos k1, quoF_bad _ _ _ k1]; exact ⟨by simp, by simp⟩
                  · rw [if_neg k1]
                    cases r3 with
                    | nil => left; rw [quoF_end _ _ k1]; exact ⟨by simp, by simp⟩
                    | cons g2 r4 =>
                      simp only []
                      by_cases k2 : halfI (bi g2) < 0
                      · left; rw [if_pos k2, quoF_bad2 _ _ _ _ k1 k2]; exact ⟨by simp, by simp⟩
                      · right
                        rw [if_neg k2, quoF_ok _ _ _ _ _ _ rfl rfl k1 k2]
                        have e1 := half_range (bi g1)
                        have e2 := half_range (bi g2)
                        have hv : bi (UInt8.ofNat (16 * halfI (bi g1) + halfI (bi g2)).toNat) = 16 * halfI (bi g1) + halfI (bi g2) := by
                          have hlt : (16 * halfI (bi g1) + halfI (bi g2)).toNat < 256 := by omega
                          unfold bi at hlt ⊢
                          rw [UInt8.toNat_ofNat_of_lt' hlt]; unfold bi at e1 e2 k1 k2; omega
                        exact ⟨_, 4, by omega, by simp, by rw [hv]; rfl, rfl⟩
              · left; rw [if_neg h4, if_neg h4]; exact ⟨by simp, by simp⟩
    · right
      rw [quo_chr c r n h34 (by omega) h92]
      simp only [pieceL, if_neg hb, if_pos h92]
      exact ⟨c, 1, by omega, by omega, rfl, rfl⟩
theorem pieceL_bad (c : UInt8) (r : Bs) (h : bi c < 32 ∨ 126 < bi c) : pieceL (c :: r) = (0, -1) := by rw [pieceL.eq_def]; simp only []; rw [if_pos h]
theorem pieceL_chr (c : UInt8) (r : Bs) (h : ¬ (bi c < 32 ∨ 126 < bi c)) (h2 : ¬ bi c = 92) : pieceL (c :: r) = (bi c, 1) := by rw [pieceL.eq_def]; simp only []; rw [if_neg h, if_pos h2]
theorem pieceL_one (c : UInt8) (h2 : bi c = 92) : pieceL [c] = (0, -2) := by rw [pieceL.eq_def]; simp only []; rw [if_neg (by omega), if_neg (by omega)]
theorem pieceL_two (c d : UInt8) (r2 : Bs) (h2 : bi c = 92) : pieceL (c :: d :: r2) = if bi d = 34 ∨ bi d = 92 then (bi d, 2)
        else if bi d = 110 then (10, 2)
        else if bi d = 116 then (9, 2)
        else if bi d = 120 then
          match r2 with
          | [] => (0, -3)
          | h1 :: r3 =>
            if halfI (bi h1) < 0 then (0, -3)
            else match r3 with
              | [] => (0, -4)
              | h2 :: _ => if halfI (bi h2) < 0 then (0, -4) else (16 * halfI (bi h1) + halfI (bi h2), 4)
        else (0, -2) := by
  rw [pieceL.eq_def]; simp only []; rw [if_neg (by omega), if_neg (by omega)]
  cases r2 with
  | nil => rfl
  | cons h1 r3 => cases r3 <;> rfl
end Lx

def PPost (s : ByteArray) (j : Nat) (w : World) (e : Ending) (w' : World) : Prop :=
  e = .returned (.tuple #[.int .u8 (pieceL ((bl s).drop j)).1, .int .i64 (pieceL ((bl s).drop j)).2]) ∧ Drawn w w'
theorem PPost.of {s : ByteArray} {j : Nat} {w w' : World} {b n : Int} (h : pieceL ((bl s).drop j) = (b, n)) (hd : Drawn w w') : PPost s j w (.returned (.tuple #[.int .u8 b, .int .i64 n])) w' := by
  unfold PPost; rw [h]; exact ⟨rfl, hd⟩

end Go.Proofs.YtclioihichcpiaaDoor


/- The reference's str. -/
namespace Go.Proofs.YtclioihichcpiaaDoor
open Go.RowKit Lx

theorem pieceL_range (l : Bs) : -4 ≤ (pieceL l).2 ∧ (pieceL l).2 ≤ 4 := by
  unfold pieceL
  repeat' split
  all_goals simp

/-- a token's cells -/
def tokCs (k : Int) (l : Bs) (a b : Int) : Array Value := #[.int .i64 k, .string (mk l), .int .i64 a, .int .i64 b]
theorem tokCs_one (k : Int) (l : Bs) (a b : Int) : ((tokCs k l a b).all fun x => x.oneCell') = true := by simp [tokCs, Value.oneCell']
theorem sizeTok : (Tryd.prog.info? 92).map (fun i => i.size) = some 4 := by kernel_rfl

/-- the post of str: the token at at_, how far, whole -/
def SPost (s : ByteArray) (at_ : Nat) (w : World) (e : Ending) (w' : World) : Prop :=
  e = .returned (.tuple #[.agg (if (quo ((bl s).drop (at_ + 1)) 0).2.2 then tokCs 4 (quo ((bl s).drop (at_ + 1)) 0).1 at_ ((at_ + 1 + (quo ((bl s).drop (at_ + 1)) 0).2.1 : Nat) : Int) else tokCs 0 [] 0 0),
    .int .i64 ((at_ + 1 + (quo ((bl s).drop (at_ + 1)) 0).2.1 : Nat) : Int), .bool (quo ((bl s).drop (at_ + 1)) 0).2.2]) ∧ Below w.heap.size w w'
theorem SPost.bad {s : ByteArray} {at_ j : Nat} {w w' : World} {acc b : Bs} {n : Int} {k : Nat} (h : QAt (quo ((bl s).drop (at_ + 1)) 0) (at_ + 1) acc j (b, k, false)) (hn : n = ((j + k : Nat) : Int)) (hb : Below w.heap.size w w') :
    SPost s at_ w (.returned (.tuple #[.agg (tokCs 0 [] 0 0), .int .i64 n, .bool false])) w' := by
  unfold SPost
  rw [h.ok, h.far, hn]
  exact ⟨rfl, hb⟩
theorem SPost.good {s : ByteArray} {at_ j : Nat} {w w' : World} {acc : Bs} (h : QAt (quo ((bl s).drop (at_ + 1)) 0) (at_ + 1) acc j ([], 1, true)) (hb : Below w.heap.size w w') :
    SPost s at_ w (.returned (.tuple #[.agg (tokCs 4 acc at_ ((j : Int) + 1)), .int .i64 ((j : Int) + 1), .bool true])) w' := by
  unfold SPost
  have ht : (quo ((bl s).drop (at_ + 1)) 0).1 = acc := by rcases h.text with h | h
                                                          · simpa using h
                                                          · cases h
  rw [h.ok, h.far, ht]
  exact ⟨rfl, hb⟩

end Go.Proofs.YtclioihichcpiaaDoor


/- lex.signs, lex.next: strings and signs. -/
namespace Go.Proofs.YtclioihichcpiaaDoor
open Go.RowKit Lx

theorem size58 : (Tryd.prog.info? 143).map (fun i => i.size) = some 7 := by kernel_rfl
theorem one58 : ((#[.string ⟨#[40]⟩, .string ⟨#[41]⟩, .string ⟨#[44]⟩, .string ⟨#[46]⟩, .string ⟨#[47]⟩, .string ⟨#[58, 45]⟩, .string ⟨#[33, 61]⟩] : Array Value).all fun x => x.oneCell') = true := by simp [Value.oneCell']
theorem lx_signs (w : World) : Calls Tryd.prog 87 #[] w fun e w' => e = .returned (.agg #[.string ⟨#[40]⟩, .string ⟨#[41]⟩, .string ⟨#[44]⟩, .string ⟨#[46]⟩, .string ⟨#[47]⟩, .string ⟨#[58, 45]⟩, .string ⟨#[33, 61]⟩]) ∧ Below w.heap.size w w' := by
  go_enter Tryd.func87, Tryd.ntmps87
  have hz : Hid ((w.alloc (.cells #[.string ⟨#[]⟩, .string ⟨#[]⟩, .string ⟨#[]⟩, .string ⟨#[]⟩, .string ⟨#[]⟩, .string ⟨#[]⟩, .string ⟨#[]⟩] 143)).heap[w.heap.size]? = some (.cells #[.string ⟨#[]⟩, .string ⟨#[]⟩, .string ⟨#[]⟩, .string ⟨#[]⟩, .string ⟨#[]⟩, .string ⟨#[]⟩, .string ⟨#[]⟩] 143)) := heap_alloc_new _ _
  go_wp2_with (refine wpList_store_rowA rfl 143 (.tmp 0) (.tmp 1) rfl w.heap.size #[.string ⟨#[40]⟩, .string ⟨#[41]⟩, .string ⟨#[44]⟩, .string ⟨#[46]⟩, .string ⟨#[47]⟩, .string ⟨#[58, 45]⟩, .string ⟨#[33, 61]⟩] rfl rfl 143 #[.string ⟨#[]⟩, .string ⟨#[]⟩, .string ⟨#[]⟩, .string ⟨#[]⟩, .string ⟨#[]⟩, .string ⟨#[]⟩, .string ⟨#[]⟩] hz.out size58 rfl one58 ?_)
  intro w2 hg hgr hsz
  have hb2 : Below w.heap.size w w2 := ((Below.refl _ _).al _).grown hgr (by simp) (by intro k hk; injection hk with hk; omega)
  clear hgr hsz hz
  go_wp2_with fail
  refine bodyPost_ret (v := .agg #[.string ⟨#[40]⟩, .string ⟨#[41]⟩, .string ⟨#[44]⟩, .string ⟨#[46]⟩, .string ⟨#[47]⟩, .string ⟨#[58, 45]⟩, .string ⟨#[33, 61]⟩]) ?_ rfl ⟨rfl, hb2⟩
  exact results_cell_row rfl _ _ w.heap.size 143 _ (0, 0) _ rfl hg.out Tryd.underlying143 rfl size58

/-- a token in cells -/
def tokC (t : Tok) : Array Value := tokCs t.kind t.text t.at_ t.end_
def NPost (s : ByteArray) (at_ : Nat) (w : World) (e : Ending) (w' : World) : Prop :=
  e = .returned (.tuple #[.agg (tokC (nextT ((bl s).drop at_) at_).1), .bool (nextT ((bl s).drop at_) at_).2]) ∧ Below w.heap.size w w'
theorem NPost.of {s : ByteArray} {at_ : Nat} {w w' : World} {t : Tok} {b : Bool} {cs : Array Value} (h : nextT ((bl s).drop at_) at_ = (t, b)) (hc : cs = tokC t) (hb : Below w.heap.size w w') : NPost s at_ w (.returned (.tuple #[.agg cs, .bool b])) w' := by
  unfold NPost; rw [h, hc]; exact ⟨rfl, hb⟩

namespace Lx
theorem next_str (c : UInt8) (r : Bs) (at_ : Nat) (h : bi c = 34) : nextT (c :: r) at_ = (⟨4, if (quo r 0).2.2 then (quo r 0).1 else [], at_, at_ + 1 + (quo r 0).2.1⟩, (quo r 0).2.2) := by
  unfold nextT; simp only []; rw [if_pos h]
theorem next_sign1 (c : UInt8) (r : Bs) (at_ : Nat) (k d : Int) (h : ¬ bi c = 34) (hs : signI (bi c) = some (k, 1, d)) : nextT (c :: r) at_ = (⟨k, [], at_, at_ + 1⟩, true) := by
  unfold nextT; simp only []; rw [if_neg h, hs]; rfl
theorem next_sign2 (c d : UInt8) (r : Bs) (at_ : Nat) (k x : Int) (h : ¬ bi c = 34) (hs : signI (bi c) = some (k, 2, x)) (hd : bi d = x) : nextT (c :: d :: r) at_ = (⟨k, [], at_, at_ + 2⟩, true) := by
  unfold nextT; simp only []; rw [if_neg h, hs]; simp [firstB, hd]
theorem next_sign2n (c : UInt8) (r : Bs) (at_ : Nat) (k x : Int) (h : ¬ bi c = 34) (hs : signI (bi c) = some (k, 2, x)) (hd : firstB (fun y => decide (y = x)) r = false) : nextT (c :: r) at_ = (⟨k, [], at_, at_ + 1⟩, false) := by
  unfold nextT; simp only []; rw [if_neg h, hs]; simp [hd]
end Lx

theorem sizeTok' : (Tryd.prog.info? 92).map (fun i => i.size) = some 4 := sizeTok
set_option maxHeartbeats 2000000 in
theorem lx_next_str (s : ByteArray) (a0 : Nat) (w : World) (hs : s.size ≤ 4194304) (hlt : a0 < s.size) (h34 : bat s a0 = 34) :
    Calls Tryd.prog 71 #[.string s, .int .i64 a0] w (NPost s a0 w) := by
  have hidx := fun w => run_index_str (P := Tryd.prog) Tryd.underlying9 s a0 hlt w
  have g1 : (bat s a0 == 34) = true := by simp [h34]
  have hnx : Hid (nextT ((bl s).drop a0) a0 = (⟨4, if (quo ((bl s).drop (a0 + 1)) 0).2.2 then (quo ((bl s).drop (a0 + 1)) 0).1 else [], a0, a0 + 1 + (quo ((bl s).drop (a0 + 1)) 0).2.1⟩, (quo ((bl s).drop (a0 + 1)) 0).2.2)) := by
    show _ = _; rw [drop_bl s a0 hlt, next_str _ _ _ h34]
  clear h34
  have hW : Hid ((w.alloc (.cells #[.int .i64 0, .string ⟨#[]⟩, .int .i64 0, .int .i64 0] 92)).heap[w.heap.size]? = some (.cells (tokCs 0 [] 0 0) 92)) := heap_alloc_new _ _
  have hWb : Below w.heap.size w (w.alloc (.cells #[.int .i64 0, .string ⟨#[]⟩, .int .i64 0, .int .i64 0] 92)) := (Below.refl _ _).al _
  have hWs : w.heap.size < (w.alloc (.cells #[.int .i64 0, .string ⟨#[]⟩, .int .i64 0, .int .i64 0] 92)).heap.size := by simp
  go_enter Tryd.func71, Tryd.ntmps71
  go_wp2_with fail
  generalize w.alloc (.cells #[.int .i64 0, .string ⟨#[]⟩, .int .i64 0, .int .i64 0] 92) = W at hW hWb hWs ⊢
  refine (lx_quoted s _ _ hs (by omega) (by omega)).mono ?_
  rintro e w2 ⟨he, hb2⟩
  rw [show ((a0 : Int) + 1).toNat = a0 + 1 from by omega] at he
  obtain ⟨B, hB⟩ : ∃ B, B = (if (quo ((bl s).drop (a0 + 1)) 0).2.2 then (quo ((bl s).drop (a0 + 1)) 0).1 else []) := ⟨_, rfl⟩
  obtain ⟨K, hK⟩ : ∃ K, K = (quo ((bl s).drop (a0 + 1)) 0).2.1 := ⟨_, rfl⟩
  obtain ⟨ok, hok⟩ : ∃ ok, ok = (quo ((bl s).drop (a0 + 1)) 0).2.2 := ⟨_, rfl⟩
  have hnx2 := hnx.out
  rw [← hB, ← hK, ← hok] at hnx2
  rw [← hB, ← hK, ← hok] at he
  subst he
  clear hB hK hok hnx
  have hcell : Hid (w2.heap[w.heap.size]? = some (.cells (tokCs 0 [] 0 0) 92)) := (hb2.block _ hWs).trans hW.out
  replace hnx2 := Lib.hid hnx2
  go_wp2_with (refine wpList_store_rowA rfl 92 (.tmp 4) (.tmp 30) rfl w.heap.size (tokCs 4 B a0 ((a0 + 1 + K : Nat) : Int)) rfl rfl 92 (tokCs 0 [] 0 0) hcell.out sizeTok rfl (tokCs_one _ _ _ _) ?_)
  intro w3 hg3 hgr hsz
  have hb3 : Below w.heap.size w w3 := (hWb.trans (hb2.mono (by omega))).grown hgr (by have := hb2.size; omega) (by intro k hk; injection hk with hk; omega)
  clear hgr hsz
  go_wp2_with fail
  refine bodyPost_ret (v := .tuple #[.agg (tokCs 4 B a0 ((a0 + 1 + K : Nat) : Int)), .bool ok]) ?_ rfl (NPost.of hnx2.out rfl hb3)
  exact results_cell2 rfl _ _ w.heap.size 92 _ (0, 0) _ rfl hg3.out Tryd.underlying92 rfl sizeTok _ rfl

end Go.Proofs.YtclioihichcpiaaDoor
