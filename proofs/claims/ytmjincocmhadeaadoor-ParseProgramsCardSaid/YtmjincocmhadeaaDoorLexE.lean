/- lex.quoted: a string behind its first quote. -/
import Derived.Test.YtmjincocmhadeaaDoorProg
import Derived.Test.YtmjincocmhadeaaDoorBase
import Derived.Test.YtmjincocmhadeaaDoorBytes
import Derived.Test.YtmjincocmhadeaaDoorLexSpec
import Derived.Test.YtmjincocmhadeaaDoorLexA
namespace Go.Proofs.YtmjincocmhadeaaDoor
set_option maxHeartbeats 8000000
set_option maxRecDepth 100000
open Go.RowKit Lx
namespace Lx
/-- behind a backslash and an x -/
def quoF (l : Bs) (n : Nat) : Bs × Nat × Bool :=
  match l with
  | [] => ([],0,false)
  | h1 :: r3 =>
    if halfI (bi h1) < 0 then ([],0,false)
    else match r3 with
      | [] => ([],1,false)
      | h2 :: r4 =>
        if halfI (bi h2) < 0 then ([],1,false)
        else let (b,k,ok) := quo r4 (n + 1);(UInt8.ofNat (16 * halfI (bi h1) + halfI (bi h2)).toNat :: b,k + 2,ok)
theorem quoF_bad (c : UInt8) (r : Bs) (n : Nat) (h : halfI (bi c) < 0) : quoF (c :: r) n = ([],0,false) := by unfold quoF;simp only [];rw [if_pos h]
theorem quoF_end (c : UInt8) (n : Nat) (h : ¬ halfI (bi c) < 0) : quoF [c] n = ([],1,false) := by unfold quoF;simp only [];rw [if_neg h]
theorem quoF_bad2 (c d : UInt8) (r : Bs) (n : Nat) (h : ¬ halfI (bi c) < 0) (h2 : halfI (bi d) < 0) : quoF (c :: d :: r) n = ([],1,false) := by unfold quoF;simp only [];rw [if_neg h,if_pos h2]
theorem quoF_ok (c d : UInt8) (r : Bs) (n : Nat) (X Y : Int) (hX : X = halfI (bi c)) (hY : Y = halfI (bi d)) (h : ¬ X < 0) (h2 : ¬ Y < 0) :
    quoF (c :: d :: r) n = (UInt8.ofNat (16 * X + Y).toNat :: (quo r (n + 1)).1,(quo r (n + 1)).2.1 + 2,(quo r (n + 1)).2.2) := by
 subst hX hY;unfold quoF;simp only [];rw [if_neg h,if_neg h2]
/-- behind a backslash -/
def quoS (l : Bs) (n : Nat) : Bs × Nat × Bool :=
  match l with
  | [] => ([],0,false)
  | d :: r2 =>
    if bi d = 34 ∨ bi d = 92 then let (b,k,ok) := quo r2 (n + 1);(d :: b,k + 1,ok)
    else if bi d = 110 then let (b,k,ok) := quo r2 (n + 1);(10 :: b,k + 1,ok)
    else if bi d = 116 then let (b,k,ok) := quo r2 (n + 1);(9 :: b,k + 1,ok)
    else if bi d = 120 then let (b,k,ok) := quoF r2 n;(b,k + 1,ok)
    else ([],0,false)
theorem quo_nil (n : Nat) : quo [] n = ([],0,false) := by rw [quo.eq_def]
theorem quo_34 (c : UInt8) (r : Bs) (n : Nat) (h : bi c = 34) : quo (c :: r) n = ([],1,true) := by rw [quo.eq_def];simp only [];rw [if_pos h]
theorem quo_bad (c : UInt8) (r : Bs) (n : Nat) (h : ¬ bi c = 34) (hb : n = 1024 ∨ bi c < 32 ∨ 126 < bi c) : quo (c :: r) n = ([],0,false) := by rw [quo.eq_def];simp only [];rw [if_neg h,if_pos hb]
theorem quo_92 (c : UInt8) (r : Bs) (n : Nat) (h : bi c = 92) (hn : ¬ n = 1024) : quo (c :: r) n = ((quoS r n).1,(quoS r n).2.1 + 1,(quoS r n).2.2) := by
 rw [quo.eq_def];simp only [];rw [if_neg (by omega),if_neg (by omega),if_pos h]
 cases r with
 | nil => rfl
 | cons d r2 =>
  simp only [quoS]
  split
  · rfl
  · split
    · rfl
    · split
      · rfl
      · split
        · cases r2 with
          | nil => rfl
          | cons h1 r3 =>
           simp only [quoF]
           split
           · rfl
           · cases r3 with
             | nil => rfl
             | cons h2 r4 => simp only [];split <;> rfl
        · rfl
theorem quo_chr (c : UInt8) (r : Bs) (n : Nat) (h : ¬ bi c = 34) (hb : ¬ (n = 1024 ∨ bi c < 32 ∨ 126 < bi c)) (h92 : ¬ bi c = 92) :
    quo (c :: r) n = (c :: (quo r (n + 1)).1,(quo r (n + 1)).2.1 + 1,(quo r (n + 1)).2.2) := by
 rw [quo.eq_def];simp only [];rw [if_neg h,if_neg hb,if_neg h92]
end Lx
/-- what stands at a place of the string: gathered are acc, to come is r; in all t, from i0 on -/
structure QAt (t : Bs × Nat × Bool) (i0 : Nat) (acc : Bs) (j : Nat) (r : Bs × Nat × Bool) : Prop where
  text : t.1 = acc ++ r.1 ∨ r.2.2 = false
  far : i0 + t.2.1 = j + r.2.1
  ok : t.2.2 = r.2.2
theorem QAt.one {t : Bs × Nat × Bool} {i0 : Nat} {acc : Bs} {j k : Nat} {c : UInt8} {r : Bs × Nat × Bool} (h : QAt t i0 acc j (c :: r.1,r.2.1 + k,r.2.2)) : QAt t i0 (acc ++ [c]) (j + k) r :=
  ⟨by rcases h.text with h | h
      · left;rw [h];simp
      · exact .inr h,by have := h.far;simp at this;omega,h.ok⟩
theorem QAt.none {t : Bs × Nat × Bool} {i0 : Nat} {acc : Bs} {j k : Nat} {r : Bs × Nat × Bool} (h : QAt t i0 acc j (r.1,r.2.1 + k,r.2.2)) : QAt t i0 acc (j + k) r :=
  ⟨h.text,by have := h.far;simp at this;omega,h.ok⟩
theorem own_slice {w : World} {base : Nat} {e : TypeId} {size : Nat} {v : Value} {n : Nat} {xs : List Value} (h : w.ownsRow base e size v n xs) :
    ∃ a c,v = .slice a n c ∧ (a = none → n = 0 ∧ c = 0) := by
 rcases h.2 with ⟨rfl,rfl⟩ | ⟨g,cap,cur,rfl,_⟩
 · exact ⟨none,0,rfl,fun _ => ⟨rfl,rfl⟩⟩
 · exact ⟨_,cap,rfl,fun h => by cases h⟩
/-- the frame of quoted between its jumps -/
def QFrame (s : ByteArray) (i b hi : Value) (a : Act) : Prop :=
  ∃ f : Nat → Value,a = { tmps := #[.string s,i,undef,undef,.string ⟨#[]⟩,.int .i64 0,.bool false,b,hi,f 9,f 10,f 11,f 12,f 13,f 14,f 15,f 16,f 17,f 18,f 19,f 20,f 21,f 22,f 23,f 24,f 25,f 26,f 27,f 28,f 29,f 30,f 31,f 32,f 33,f 34,f 35,f 36,f 37,f 38,f 39,f 40,f 41,f 42,f 43,f 44,f 45,f 46,f 47,f 48,f 49,f 50,f 51,f 52,f 53,f 54,f 55,f 56,f 57,f 58,f 59,f 60,f 61,f 62,f 63,f 64,f 65,f 66,f 67,f 68,f 69,f 70,f 71,f 72,f 73,f 74,f 75,f 76,f 77,f 78,f 79,f 80,f 81,f 82,f 83,f 84,f 85,f 86,f 87,f 88,f 89,f 90,f 91,f 92,f 93,f 94,f 95,f 96,f 97,f 98,f 99,f 100,f 101,f 102,f 103,f 104,f 105,f 106,f 107,f 108,f 109,f 110,f 111,f 112,f 113,f 114,f 115,f 116,f 117,f 118,f 119,f 120,f 121,f 122,f 123,f 124,f 125,f 126,f 127,f 128,f 129],defers := [] }
theorem QFrame.mk {s : ByteArray} {i b hi : Value} {a : Act} (h : a = { tmps := #[.string s,i,undef,undef,.string ⟨#[]⟩,.int .i64 0,.bool false,b,hi,a.tmps.getD 9 undef,a.tmps.getD 10 undef,a.tmps.getD 11 undef,a.tmps.getD 12 undef,a.tmps.getD 13 undef,a.tmps.getD 14 undef,a.tmps.getD 15 undef,a.tmps.getD 16 undef,a.tmps.getD 17 undef,a.tmps.getD 18 undef,a.tmps.getD 19 undef,a.tmps.getD 20 undef,a.tmps.getD 21 undef,a.tmps.getD 22 undef,a.tmps.getD 23 undef,a.tmps.getD 24 undef,a.tmps.getD 25 undef,a.tmps.getD 26 undef,a.tmps.getD 27 undef,a.tmps.getD 28 undef,a.tmps.getD 29 undef,a.tmps.getD 30 undef,a.tmps.getD 31 undef,a.tmps.getD 32 undef,a.tmps.getD 33 undef,a.tmps.getD 34 undef,a.tmps.getD 35 undef,a.tmps.getD 36 undef,a.tmps.getD 37 undef,a.tmps.getD 38 undef,a.tmps.getD 39 undef,a.tmps.getD 40 undef,a.tmps.getD 41 undef,a.tmps.getD 42 undef,a.tmps.getD 43 undef,a.tmps.getD 44 undef,a.tmps.getD 45 undef,a.tmps.getD 46 undef,a.tmps.getD 47 undef,a.tmps.getD 48 undef,a.tmps.getD 49 undef,a.tmps.getD 50 undef,a.tmps.getD 51 undef,a.tmps.getD 52 undef,a.tmps.getD 53 undef,a.tmps.getD 54 undef,a.tmps.getD 55 undef,a.tmps.getD 56 undef,a.tmps.getD 57 undef,a.tmps.getD 58 undef,a.tmps.getD 59 undef,a.tmps.getD 60 undef,a.tmps.getD 61 undef,a.tmps.getD 62 undef,a.tmps.getD 63 undef,a.tmps.getD 64 undef,a.tmps.getD 65 undef,a.tmps.getD 66 undef,a.tmps.getD 67 undef,a.tmps.getD 68 undef,a.tmps.getD 69 undef,a.tmps.getD 70 undef,a.tmps.getD 71 undef,a.tmps.getD 72 undef,a.tmps.getD 73 undef,a.tmps.getD 74 undef,a.tmps.getD 75 undef,a.tmps.getD 76 undef,a.tmps.getD 77 undef,a.tmps.getD 78 undef,a.tmps.getD 79 undef,a.tmps.getD 80 undef,a.tmps.getD 81 undef,a.tmps.getD 82 undef,a.tmps.getD 83 undef,a.tmps.getD 84 undef,a.tmps.getD 85 undef,a.tmps.getD 86 undef,a.tmps.getD 87 undef,a.tmps.getD 88 undef,a.tmps.getD 89 undef,a.tmps.getD 90 undef,a.tmps.getD 91 undef,a.tmps.getD 92 undef,a.tmps.getD 93 undef,a.tmps.getD 94 undef,a.tmps.getD 95 undef,a.tmps.getD 96 undef,a.tmps.getD 97 undef,a.tmps.getD 98 undef,a.tmps.getD 99 undef,a.tmps.getD 100 undef,a.tmps.getD 101 undef,a.tmps.getD 102 undef,a.tmps.getD 103 undef,a.tmps.getD 104 undef,a.tmps.getD 105 undef,a.tmps.getD 106 undef,a.tmps.getD 107 undef,a.tmps.getD 108 undef,a.tmps.getD 109 undef,a.tmps.getD 110 undef,a.tmps.getD 111 undef,a.tmps.getD 112 undef,a.tmps.getD 113 undef,a.tmps.getD 114 undef,a.tmps.getD 115 undef,a.tmps.getD 116 undef,a.tmps.getD 117 undef,a.tmps.getD 118 undef,a.tmps.getD 119 undef,a.tmps.getD 120 undef,a.tmps.getD 121 undef,a.tmps.getD 122 undef,a.tmps.getD 123 undef,a.tmps.getD 124 undef,a.tmps.getD 125 undef,a.tmps.getD 126 undef,a.tmps.getD 127 undef,a.tmps.getD 128 undef,a.tmps.getD 129 undef],defers := [] }) : QFrame s i b hi a := ⟨fun n => a.tmps.getD n undef,h⟩
/-- what holds at each jump -/
def QJ (s : ByteArray) (i0 : Nat) (w : World) (l : Nat) (a : Act) (wr : World) : Prop :=
  ∃ (j : Nat) (acc : Bs) (v hi : Value),QFrame s (.int .i64 j) v hi a ∧ j ≤ s.size ∧ wr.ownsRow w.heap.size 5 1 v acc.length (acc.map u8v) ∧ Below w.heap.size w wr ∧
    ((l = 0 ∧ acc.length ≤ 1024 ∧ QAt (quo ((bl s).drop i0) 0) i0 acc j (quo ((bl s).drop j) acc.length)) ∨
     (l = 1 ∧ acc.length < 1024 ∧ QAt (quo ((bl s).drop i0) 0) i0 acc j (quoS ((bl s).drop j) acc.length)) ∨
     (l = 2 ∧ acc.length < 1024 ∧ QAt (quo ((bl s).drop i0) 0) i0 acc j (quoF ((bl s).drop j) acc.length)))
def slot1 (a : Act) : Nat := (intOf (a.tmps.getD 1 undef)).toNat
theorem infoByte : (Tryd.prog.info? 5).map (fun i => (i.zero,i.size,i.bytes)) = some (some (.int .u8 0),1,1) := by kernel_rfl
theorem half_range (c : Int) : halfI c = -1 ∨ (0 ≤ halfI c ∧ halfI c ≤ 15) := by unfold halfI;split <;> (try split) <;> omega
/-- the post of quoted -/
def QPost (s : ByteArray) (i0 : Nat) (w : World) (e : Ending) (w' : World) : Prop :=
  e = .returned (.tuple #[.string (mk (if (quo ((bl s).drop i0) 0).2.2 then (quo ((bl s).drop i0) 0).1 else [])),.int .i64 ((i0 + (quo ((bl s).drop i0) 0).2.1 : Nat) : Int),.bool (quo ((bl s).drop i0) 0).2.2]) ∧ Below w.heap.size w w'
theorem QPost.bad {s : ByteArray} {i0 j : Nat} {w w' : World} {acc b : Bs} (h : QAt (quo ((bl s).drop i0) 0) i0 acc j (b,0,false)) (hb : Below w.heap.size w w') :
    QPost s i0 w (.returned (.tuple #[.string ⟨#[]⟩,.int .i64 (j : Int),.bool false])) w' := by
 unfold QPost;rw [h.ok,h.far];exact ⟨rfl,hb⟩
theorem QPost.bad1 {s : ByteArray} {i0 j : Nat} {w w' : World} {acc : Bs} (h : QAt (quo ((bl s).drop i0) 0) i0 acc j ([],1,false)) (hb : Below w.heap.size w w') :
    QPost s i0 w (.returned (.tuple #[.string ⟨#[]⟩,.int .i64 ((j : Int) + 1),.bool false])) w' :=
  QPost.bad (j := j + 1) (acc := acc) (b := []) ⟨.inr rfl,by have := h.far;simp at this;simp;omega,h.ok⟩ hb
theorem QPost.good {s : ByteArray} {i0 j : Nat} {w w' : World} {acc : Bs} (h : QAt (quo ((bl s).drop i0) 0) i0 acc j ([],1,true)) (hb : Below w.heap.size w w') :
    QPost s i0 w (.returned (.tuple #[.string (mk acc),.int .i64 ((j : Int) + 1),.bool true])) w' := by
 unfold QPost
 have ht : (quo ((bl s).drop i0) 0).1 = acc := by rcases h.text with h | h
                                                  · simpa using h
                                                  · cases h
 rw [h.ok,h.far,ht];exact ⟨rfl,hb⟩
theorem own_grown {w wr w2 : World} {et : TypeId} {v : Value} {n : Nat} {xs : List Value} {ob : Obj} (h : wr.ownsRow w.heap.size et 1 v n xs) (hb : Below w.heap.size w wr) (hg : (wr.alloc ob).grownBy w2 v.ownBlock) : Below w.heap.size w w2 :=
  (hb.al ob).grown hg (by have := hb.size;simp;omega) (own_ge h)
theorem lx_quoted (s : ByteArray) (i : Int) (w : World) (hs : s.size ≤ 4194304) (hi0 : 0 ≤ i) (hi1 : i ≤ s.size) :
    Calls Tryd.prog 66 #[.string s,.int .i64 i] w (QPost s i.toNat w) := by
 obtain ⟨i0,rfl⟩ := Int.eq_ofNat_of_zero_le hi0;rw [Int.toNat_natCast];obtain ⟨ib,hib,hz0,hz1,hz2⟩ := info_parts infoByte;go_enter Tryd.func66,Tryd.ntmps66;go_wp2_with fail;refine wp_scope_labels3 (fun Y => .seq _ (.seq _ (.seq (.label 0) Y))) (QJ s i0 w) (fun _ a _ => s.size - slot1 a) ?_ rfl rfl rfl rfl ?_ ?_ ?_ ?_
 · rintro l a wr ⟨j,acc,v,hi,_,_,_,_,h | h | h⟩ <;> omega
 · intro Y hY;go_wp2_with fail
   go_step3
   go_wp2_with fail;refine hY _ _ ?_;exact ⟨i0,[],_,_,.mk rfl,by omega,World.ownsRow_lit w _ 0 (Nat.le_refl _) (by unfold maxLen;omega) (by simp),(Below.refl _ _).al _,.inl ⟨rfl,by simp,⟨.inl rfl,rfl,rfl⟩⟩⟩
 · rintro a wr ⟨j,acc,v,hi,⟨f,rfl⟩,hj,hown,hb,⟨_,hlen,hq⟩ | ⟨h,_⟩ | ⟨h,_⟩⟩;rotate_left
   · omega
   · omega
   obtain ⟨va,vc,rfl,hva⟩ := own_slice hown;replace hown := Lh hown;replace hb := Lh hb;have h63 : Hid (acc.length + 1 ≤ maxLen) := by show acc.length + 1 ≤ maxLen;unfold maxLen;omega
   have h64 : Hid ((acc.length + 1) * 1 ≤ 140737488355328) := by show (acc.length + 1) * 1 ≤ 140737488355328;omega
    
   by_cases hlt : j < s.size
   · have hidx := fun w => run_index_str (P := Tryd.prog) Tryd.underlying9 s j hlt w;have hr := bat_range s j;have ge : ((j : Int) == (s.size : Int)) = false := by rw [beq_eq_false_iff_ne];omega
     rw [drop_bl s j hlt] at hq;have hbi : bi ((bl s).getD j 0) = bat s j := rfl
     by_cases h34 : bat s j = 34
     · rw [quo_34 _ _ _ (hbi.trans h34)] at hq;have hgood := Lh (QPost.good hq hb.out);have g1 : (bat s j == 34) = true := by simp [h34]
       have hconv := run_string_own (P := Tryd.prog) Tryd.underlying113 Tryd.underlying5 Tryd.underlying9 hown.out;clear h34 hq hbi;go_wp2;simp only [Exit.jumps]
       go_ret3
       exact hgood.out
     · have g1 : (bat s j == 34) = false := by rw [beq_eq_false_iff_ne];exact h34
       by_cases hbad0 : acc.length = 1024 ∨ bat s j < 32 ∨ 126 < bat s j
       · rw [quo_bad _ _ _ (by rw [hbi];exact h34) (by rw [hbi];exact hbad0)] at hq;have hbad := Lh (QPost.bad hq hb.out);clear hq hbi;rcases hbad0 with h | h | h
         · have g2 : ((acc.length : Int) == 1024) = true := by simp [h]
           clear h;go_wp2;simp only [Exit.jumps]
           go_ret3
           exact hbad.out
         · by_cases hf : acc.length = 1024
           · have g2 : ((acc.length : Int) == 1024) = true := by simp [hf]
             clear hf;go_wp2;simp only [Exit.jumps]
             go_ret3
             exact hbad.out
           · have g2 : ((acc.length : Int) == 1024) = false := by rw [beq_eq_false_iff_ne];omega
             go_wp2;simp only [Exit.jumps]
             go_ret3
             exact hbad.out
         · by_cases hf : acc.length = 1024
           · have g2 : ((acc.length : Int) == 1024) = true := by simp [hf]
             clear hf;go_wp2;simp only [Exit.jumps]
             go_ret3
             exact hbad.out
           · have g2 : ((acc.length : Int) == 1024) = false := by rw [beq_eq_false_iff_ne];omega
             have g3 : decide (bat s j < 32) = false := decide_eq_false (by omega);go_wp2;simp only [Exit.jumps]
             go_ret3
             exact hbad.out
       · have g2 : ((acc.length : Int) == 1024) = false := by rw [beq_eq_false_iff_ne];omega
         have g3 : decide (bat s j < 32) = false := decide_eq_false (by omega);have g4 : decide (126 < bat s j) = false := decide_eq_false (by omega);have hn2 : acc.length < 1024 := by omega
         by_cases h92 : bat s j = 92
         · rw [quo_92 _ _ _ (hbi.trans h92) (by omega)] at hq;have hq2 := Lh hq.none;have g5 : (bat s j == 92) = true := by simp [h92]
           clear hq h92 hbi hbad0;go_wp2
           go_step3
           exact ⟨⟨j + 1,acc,_,_,.mk (by go_num),by omega,hown.out,hb.out,.inr (.inl ⟨rfl,hn2,hq2.out⟩)⟩,by simp [slot1,intOf];omega⟩
         · rw [quo_chr _ _ _ (by rw [hbi];exact h34) (by rw [hbi];omega) (by rw [hbi];exact h92)] at hq;have hq2 := Lh (hq.one (c := (bl s).getD j 0));have g5 : (bat s j == 92) = false := by rw [beq_eq_false_iff_ne];exact h92
           clear hq h92 hbi hbad0
           go_wp2_with (first
             | (at_builtin;refine wpList_append_own _ rfl (.tmp 45) (.tmp 49) 113 rfl w.heap.size 5 ib (.int .u8 0) 1 1 Tryd.underlying113 hib hz0 hz1 hz2 rfl (by decide) _ acc.length _ rfl (hown.out.alloc _) ⟨wr.heap.size,0,none⟩ 1 1 [.int .u8 (bat s j)] rfl rfl own_cells_one (u8v_one [(bl s).getD j 0]) h63.out h64.out (by rw [World.size_alloc];have := hb.out.size;omega) ?_))
           intro v2 w2 hown2 hgrow2 hv2;have hb2 : Hid (Below w.heap.size w w2) := own_grown hown.out hb.out hgrow2;have hown3 : Hid (w2.ownsRow w.heap.size 5 1 v2 (acc ++ [(bl s).getD j 0]).length ((acc ++ [(bl s).getD j 0]).map u8v)) := by rw [List.length_append];exact own_snoc hown2
           clear hown2 hgrow2 hv2;go_wp2
           go_step3
           exact ⟨⟨j + 1,acc ++ [(bl s).getD j 0],_,_,.mk (by go_num),by omega,hown3.out,hb2.out,.inl ⟨rfl,by simp;omega,by rw [List.length_append];exact hq2.out⟩⟩,by simp [slot1,intOf];omega⟩
   · have ge : ((j : Int) == (s.size : Int)) = true := by rw [beq_iff_eq];omega
     rw [drop_bl_end s j (by omega),quo_nil] at hq;have hbad := Lh (QPost.bad hq hb.out);clear hq;go_wp2;simp only [Exit.jumps]
     go_ret3
     exact hbad.out
 · rintro a wr ⟨j,acc,v,hi,⟨f,rfl⟩,hj,hown,hb,⟨h,_⟩ | ⟨_,hlen,hq⟩ | ⟨h,_⟩⟩
   · omega
   rotate_left
   · omega
   have hn : acc.length ≤ 1024 := by have : acc.length < 1024 := hlen;omega
   have hn2 : acc.length < 1024 := hlen;clear hlen;obtain ⟨va,vc,rfl,hva⟩ := own_slice hown;replace hown := Lh hown;replace hb := Lh hb;have h63 : Hid (acc.length + 1 ≤ maxLen) := by show acc.length + 1 ≤ maxLen;unfold maxLen;omega
   have h64 : Hid ((acc.length + 1) * 1 ≤ 140737488355328) := by show (acc.length + 1) * 1 ≤ 140737488355328;omega
   by_cases hlt : j < s.size
   · have hidx := fun w => run_index_str (P := Tryd.prog) Tryd.underlying9 s j hlt w;have hr := bat_range s j;have ge : ((j : Int) == (s.size : Int)) = false := by rw [beq_eq_false_iff_ne];omega
     rw [drop_bl s j hlt] at hq;have hbi : bi ((bl s).getD j 0) = bat s j := rfl
     by_cases h1 : bat s j = 34 ∨ bat s j = 92
     · rw [quoS,hbi,if_pos h1] at hq;have hq2 := Lh (hq.one (c := (bl s).getD j 0))
       by_cases h34 : bat s j = 34
       · have g1 : (bat s j == 34) = true := by simp [h34]
         clear h1 h34 hq hbi
         go_wp2_with (first
           | (at_builtin;refine wpList_append_own _ rfl (.tmp 65) (.tmp 69) 113 rfl w.heap.size 5 ib (.int .u8 0) 1 1 Tryd.underlying113 hib hz0 hz1 hz2 rfl (by decide) _ acc.length _ rfl (hown.out.alloc _) ⟨wr.heap.size,0,none⟩ 1 1 [.int .u8 (bat s j)] rfl rfl own_cells_one (by intro u hu;simp at hu;subst hu;rfl) h63.out h64.out (by rw [World.size_alloc];have := hb.out.size;omega) ?_))
         intro v2 w2 hown2 hgrow2 hv2;have hb2 : Hid (Below w.heap.size w w2) := own_grown hown.out hb.out hgrow2;have hown3 : Hid (w2.ownsRow w.heap.size 5 1 v2 (acc ++ [(bl s).getD j 0]).length ((acc ++ [(bl s).getD j 0]).map u8v)) := by rw [List.length_append];exact own_snoc hown2
         clear hown2 hgrow2 hv2;go_wp2
         go_step3
         exact ⟨⟨j + 1,acc ++ [(bl s).getD j 0],_,_,.mk (by go_num),by omega,hown3.out,hb2.out,.inl ⟨rfl,by simp;omega,by rw [List.length_append];exact hq2.out⟩⟩,by simp [slot1,intOf];omega⟩
       · have g1 : (bat s j == 34) = false := by rw [beq_eq_false_iff_ne];exact h34
         have g2 : (bat s j == 92) = true := by rw [beq_iff_eq];omega
         clear h1 h34 hq hbi
         go_wp2_with (first
           | (at_builtin;refine wpList_append_own _ rfl (.tmp 65) (.tmp 69) 113 rfl w.heap.size 5 ib (.int .u8 0) 1 1 Tryd.underlying113 hib hz0 hz1 hz2 rfl (by decide) _ acc.length _ rfl (hown.out.alloc _) ⟨wr.heap.size,0,none⟩ 1 1 [.int .u8 (bat s j)] rfl rfl own_cells_one (by intro u hu;simp at hu;subst hu;rfl) h63.out h64.out (by rw [World.size_alloc];have := hb.out.size;omega) ?_))
         intro v2 w2 hown2 hgrow2 hv2;have hb2 : Hid (Below w.heap.size w w2) := own_grown hown.out hb.out hgrow2;have hown3 : Hid (w2.ownsRow w.heap.size 5 1 v2 (acc ++ [(bl s).getD j 0]).length ((acc ++ [(bl s).getD j 0]).map u8v)) := by rw [List.length_append];exact own_snoc hown2
         clear hown2 hgrow2 hv2;go_wp2
         go_step3
         exact ⟨⟨j + 1,acc ++ [(bl s).getD j 0],_,_,.mk (by go_num),by omega,hown3.out,hb2.out,.inl ⟨rfl,by simp;omega,by rw [List.length_append];exact hq2.out⟩⟩,by simp [slot1,intOf];omega⟩
     · have g1 : (bat s j == 34) = false := by rw [beq_eq_false_iff_ne];omega
       have g2 : (bat s j == 92) = false := by rw [beq_eq_false_iff_ne];omega
       by_cases h2 : bat s j = 110
       · rw [quoS,hbi,if_neg h1,if_pos h2] at hq;have hq2 := Lh (hq.one (c := 10));have g3 : (bat s j == 110) = true := by simp [h2]
         clear h1 h2 hq hbi
         go_wp2_with (first
           | (at_builtin;refine wpList_append_own _ rfl (.tmp 73) (.tmp 74) 113 rfl w.heap.size 5 ib (.int .u8 0) 1 1 Tryd.underlying113 hib hz0 hz1 hz2 rfl (by decide) _ acc.length _ rfl (hown.out.alloc _) ⟨wr.heap.size,0,none⟩ 1 1 [.int .u8 10] rfl rfl own_cells_one (by intro u hu;simp at hu;subst hu;rfl) h63.out h64.out (by rw [World.size_alloc];have := hb.out.size;omega) ?_))
         intro v2 w2 hown2 hgrow2 hv2;have hb2 : Hid (Below w.heap.size w w2) := own_grown hown.out hb.out hgrow2;have hown3 : Hid (w2.ownsRow w.heap.size 5 1 v2 (acc ++ [10]).length ((acc ++ [10]).map u8v)) := by rw [List.length_append];exact own_snoc hown2
         clear hown2 hgrow2 hv2;go_wp2
         go_step3
         exact ⟨⟨j + 1,acc ++ [10],_,_,.mk (by go_num),by omega,hown3.out,hb2.out,.inl ⟨rfl,by simp;omega,by rw [List.length_append];exact hq2.out⟩⟩,by simp [slot1,intOf];omega⟩
       · have g3 : (bat s j == 110) = false := by rw [beq_eq_false_iff_ne];omega
         by_cases h3 : bat s j = 116
         · rw [quoS,hbi,if_neg h1,if_neg h2,if_pos h3] at hq;have hq2 := Lh (hq.one (c := 9));have g4 : (bat s j == 116) = true := by simp [h3]
           clear h1 h2 h3 hq hbi
           go_wp2_with (first
             | (at_builtin;refine wpList_append_own _ rfl (.tmp 78) (.tmp 79) 113 rfl w.heap.size 5 ib (.int .u8 0) 1 1 Tryd.underlying113 hib hz0 hz1 hz2 rfl (by decide) _ acc.length _ rfl (hown.out.alloc _) ⟨wr.heap.size,0,none⟩ 1 1 [.int .u8 9] rfl rfl own_cells_one (by intro u hu;simp at hu;subst hu;rfl) h63.out h64.out (by rw [World.size_alloc];have := hb.out.size;omega) ?_))
           intro v2 w2 hown2 hgrow2 hv2;have hb2 : Hid (Below w.heap.size w w2) := own_grown hown.out hb.out hgrow2;have hown3 : Hid (w2.ownsRow w.heap.size 5 1 v2 (acc ++ [9]).length ((acc ++ [9]).map u8v)) := by rw [List.length_append];exact own_snoc hown2
           clear hown2 hgrow2 hv2;go_wp2
           go_step3
           exact ⟨⟨j + 1,acc ++ [9],_,_,.mk (by go_num),by omega,hown3.out,hb2.out,.inl ⟨rfl,by simp;omega,by rw [List.length_append];exact hq2.out⟩⟩,by simp [slot1,intOf];omega⟩
         · have g4 : (bat s j == 116) = false := by rw [beq_eq_false_iff_ne];omega
           by_cases h4 : bat s j = 120
           · rw [quoS,hbi,if_neg h1,if_neg h2,if_neg h3,if_pos h4] at hq;have hq2 := Lh (QAt.none hq);have g5 : (bat s j == 120) = true := by simp [h4]
             clear h1 h2 h3 h4 hq hbi;go_wp2
             go_step3
             exact ⟨⟨j + 1,acc,_,_,.mk (by go_num),by omega,hown.out,hb.out,.inr (.inr ⟨rfl,hn2,hq2.out⟩)⟩,by simp [slot1,intOf];omega⟩
           · rw [quoS,hbi,if_neg h1,if_neg h2,if_neg h3,if_neg h4] at hq;have hbad := Lh (QPost.bad hq hb.out);have g5 : (bat s j == 120) = false := by rw [beq_eq_false_iff_ne];omega
             clear h1 h2 h3 h4 hq hbi;go_wp2;simp only [Exit.jumps]
             go_ret3
             exact hbad.out
   · have ge : ((j : Int) == (s.size : Int)) = true := by rw [beq_iff_eq];omega
     rw [drop_bl_end s j (by omega)] at hq;have hbad := Lh (QPost.bad (b := []) hq hb.out);clear hq;go_wp2;simp only [Exit.jumps]
     go_ret3
     exact hbad.out
 · rintro a wr ⟨j,acc,v,hi,⟨f,rfl⟩,hj,hown,hb,⟨h,_⟩ | ⟨h,_⟩ | ⟨_,hlen,hq⟩⟩
   · omega
   · omega
   have hn : acc.length ≤ 1024 := by have : acc.length < 1024 := hlen;omega
   have hn2 : acc.length < 1024 := hlen;clear hlen;obtain ⟨va,vc,rfl,hva⟩ := own_slice hown;replace hown := Lh hown;replace hb := Lh hb;have h63 : Hid (acc.length + 1 ≤ maxLen) := by show acc.length + 1 ≤ maxLen;unfold maxLen;omega
   have h64 : Hid ((acc.length + 1) * 1 ≤ 140737488355328) := by show (acc.length + 1) * 1 ≤ 140737488355328;omega
   by_cases hlt : j < s.size
   · have hidx := fun w => run_index_str (P := Tryd.prog) Tryd.underlying9 s j hlt w;have hr := bat_range s j;have hh1 := fun w => lx_half (bat s j) w hr.1 hr.2;replace hh1 := Lh hh1;have ge : ((j : Int) == (s.size : Int)) = false := by rw [beq_eq_false_iff_ne];omega
     rw [drop_bl s j hlt] at hq;have hbi : bi ((bl s).getD j 0) = bat s j := rfl
     by_cases h1 : halfI (bat s j) < 0
     · rw [quoF_bad _ _ _ (by rw [hbi];exact h1)] at hq;have hbad := Lh (QPost.bad (b := []) hq hb.out);clear hq hbi
       go_wp2_with (go_at_call 78;refine (hh1.out _).mono ?_;rintro e w' ⟨rfl,rfl⟩)
       simp only [Exit.jumps]
       go_ret3
       exact hbad.out
     · have hr1 := half_range (bat s j);obtain ⟨X,hX⟩ : ∃ X,X = halfI (bat s j) := ⟨_,rfl⟩;rw [← hX] at h1 hr1 hh1;have gx : decide (X < 0) = false := decide_eq_false h1;replace hX := Lh hX
       by_cases hlt2 : j + 1 < s.size
       · have hidx2 := fun w => run_index_str (P := Tryd.prog) Tryd.underlying9 s (j + 1) hlt2 w;rw [show ((j + 1 : Nat) : Int) = (j : Int) + 1 from by omega] at hidx2;have hr2 := bat_range s (j + 1);have hh2 := fun w => lx_half (bat s (j + 1)) w hr2.1 hr2.2;replace hh2 := Lh hh2;have ge2 : ((j : Int) + 1 == (s.size : Int)) = false := by rw [beq_eq_false_iff_ne];omega
         rw [drop_bl s (j + 1) hlt2] at hq;have hbi2 : bi ((bl s).getD (j + 1) 0) = bat s (j + 1) := rfl
         by_cases h2 : halfI (bat s (j + 1)) < 0
         · rw [quoF_bad2 _ _ _ _ (by rw [hbi,← hX.out];exact h1) (by rw [hbi2];exact h2)] at hq;have hbad := Lh (QPost.bad1 hq hb.out);clear hq hbi hbi2;obtain ⟨Y,hY⟩ : ∃ Y,Y = halfI (bat s (j + 1)) := ⟨_,rfl⟩;rw [← hY] at h2 hh2;have gy : decide (Y < 0) = true := decide_eq_true h2;clear hY;go_wp2_with fail;refine (hh1.out _).mono ?_;rintro e w' ⟨rfl,rfl⟩;go_wp2_with fail
           refine (hh1.out _).mono ?_;rintro e w' ⟨rfl,rfl⟩;go_wp2_with fail;refine (hh2.out _).mono ?_;rintro e w' ⟨rfl,rfl⟩;go_wp2_with fail;simp only [Exit.jumps]
           go_ret3
           exact hbad.out
         · have hr3 := half_range (bat s (j + 1));obtain ⟨Y,hY⟩ : ∃ Y,Y = halfI (bat s (j + 1)) := ⟨_,rfl⟩;rw [← hY] at h2 hr3 hh2;have gy : decide (Y < 0) = false := decide_eq_false h2;rw [quoF_ok _ _ _ _ X Y (by rw [hbi];exact hX.out) (by rw [hbi2];exact hY) h1 h2] at hq;clear hY;have hq2 := Lh (hq.one (c := UInt8.ofNat (16 * X + Y).toNat))
           have hcv : IntKind.u8.wrap (X * 16 + Y) = X * 16 + Y := by rw [IntKind.wrap_u8];omega
           have huv : u8v (UInt8.ofNat (16 * X + Y).toNat) = .int .u8 (X * 16 + Y) := by
            have hlt8 : (16 * X + Y).toNat < 256 := by omega
            have hv8 : (((16 * X + Y).toNat : Nat) : Int) = X * 16 + Y := by omega
            unfold u8v;rw [UInt8.toNat_ofNat_of_lt' hlt8,hv8]
           replace huv := Lh huv;clear hq hbi hbi2;go_wp2_with fail;refine (hh1.out _).mono ?_;rintro e w' ⟨rfl,rfl⟩;go_wp2_with fail;refine (hh1.out _).mono ?_;rintro e w' ⟨rfl,rfl⟩;go_wp2_with fail;refine (hh2.out _).mono ?_;rintro e w' ⟨rfl,rfl⟩;go_wp2_with fail;refine (hh2.out _).mono ?_;rintro e w' ⟨rfl,rfl⟩
           go_wp2_with (first
             | (at_builtin;refine wpList_append_own _ rfl (.tmp 117) (.tmp 126) 113 rfl w.heap.size 5 ib (.int .u8 0) 1 1 Tryd.underlying113 hib hz0 hz1 hz2 rfl (by decide) _ acc.length _ rfl (hown.out.alloc _) ⟨wr.heap.size,0,none⟩ 1 1 [.int .u8 (X * 16 + Y)] rfl rfl own_cells_one (by intro u hu;simp at hu;subst hu;rfl) h63.out h64.out (by rw [World.size_alloc];have := hb.out.size;omega) ?_))
           intro v2 w2 hown2 hgrow2 hv2;have hb2 : Hid (Below w.heap.size w w2) := own_grown hown.out hb.out hgrow2;have hown3 : Hid (w2.ownsRow w.heap.size 5 1 v2 (acc ++ [UInt8.ofNat (16 * X + Y).toNat]).length ((acc ++ [UInt8.ofNat (16 * X + Y).toNat]).map u8v)) := by rw [List.length_append];exact own_snoc (by rw [huv.out];exact hown2)
           clear hown2 hgrow2 hv2;go_wp2
           go_step3
           exact ⟨⟨j + 2,acc ++ [UInt8.ofNat (16 * X + Y).toNat],_,_,.mk (by go_num),by omega,hown3.out,hb2.out,.inl ⟨rfl,by simp;omega,by rw [List.length_append];exact hq2.out⟩⟩,by simp [slot1,intOf];omega⟩
       · have ge2 : ((j : Int) + 1 == (s.size : Int)) = true := by rw [beq_iff_eq];omega
         rw [drop_bl_end s (j + 1) (by omega),quoF_end _ _ (by rw [hbi,← hX.out];exact h1)] at hq;have hbad := Lh (QPost.bad1 hq hb.out);clear hq hbi;go_wp2_with fail;refine (hh1.out _).mono ?_;rintro e w' ⟨rfl,rfl⟩;go_wp2_with fail;refine (hh1.out _).mono ?_;rintro e w' ⟨rfl,rfl⟩;go_wp2_with fail;simp only [Exit.jumps]
         go_ret3
         exact hbad.out
   · have ge : ((j : Int) == (s.size : Int)) = true := by rw [beq_iff_eq];omega
     rw [drop_bl_end s j (by omega)] at hq;have hbad := Lh (QPost.bad (b := []) hq hb.out);clear hq;go_wp2;simp only [Exit.jumps]
     go_ret3
     exact hbad.out
end Go.Proofs.YtmjincocmhadeaaDoor
