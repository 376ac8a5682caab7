/- Quote: the reference's. -/
import Derived.Test.YtefgipoegnacjaaProg
import Derived.Test.YtefgipoegnacjaaBase
import Derived.Test.YtefgipoegnacjaaBytes
import Derived.Test.YtefgipoegnacjaaLexSpec
import Derived.Test.YtefgipoegnacjaaLexA
import Derived.Test.YtefgipoegnacjaaLexB
import Derived.Test.YtefgipoegnacjaaLexE
import Derived.Test.YtefgipoegnacjaaLexF
import Derived.Test.YtefgipoegnacjaaLexX
import Derived.Deep.AppendLies
import Derived.Deep.RegionLaw
import Derived.Lib.AppendStr
import Derived.Lib.ConvBytes
namespace Go.Proofs.Ytefgipoegnacjaa
open Go.RowKit Lx

namespace Lx
/-- a digit of two, as a byte -/
def hexI (n : Int) : Int := if n < 10 then 48 + n else 87 + n
def byteI (n : Int) : UInt8 := UInt8.ofNat n.toNat
/-- a byte as it is written in a string -/
def escL (c : UInt8) : Bs :=
  if bi c = 34 ∨ bi c = 92 then [92, c] else if bi c = 10 then [92, 110] else if bi c = 9 then [92, 116]
  else if 32 ≤ bi c ∧ bi c ≤ 126 then [c] else [92, 120, byteI (hexI (bi c / 16)), byteI (hexI (bi c % 16))]
def quoteL (l : Bs) : Bs := 34 :: (l.flatMap escL ++ [34])
theorem esc_len (c : UInt8) : 1 ≤ (escL c).length ∧ (escL c).length ≤ 4 := by
  unfold escL; repeat' split
  all_goals simp
theorem escs_len (l : Bs) : l.length ≤ (l.flatMap escL).length ∧ (l.flatMap escL).length ≤ 4 * l.length := by
  induction l with
  | nil => simp
  | cons c r ih => have := esc_len c; rw [List.flatMap_cons, List.length_append, List.length_cons]; omega
theorem esc_a (c : UInt8) (h : bi c = 34 ∨ bi c = 92) : escL c = [92, c] := if_pos h
theorem esc_n (c : UInt8) (h : bi c = 10) : escL c = [92, 110] := by unfold escL; rw [if_neg (by omega), if_pos h]
theorem esc_t (c : UInt8) (h : bi c = 9) : escL c = [92, 116] := by unfold escL; rw [if_neg (by omega), if_neg (by omega), if_pos h]
theorem esc_p (c : UInt8) (h : ¬ (bi c = 34 ∨ bi c = 92)) (h2 : 32 ≤ bi c ∧ bi c ≤ 126) : escL c = [c] := by unfold escL; rw [if_neg h, if_neg (by omega), if_neg (by omega), if_pos h2]
theorem esc_x (c : UInt8) (h : ¬ (bi c = 34 ∨ bi c = 92)) (h2 : ¬ bi c = 10) (h3 : ¬ bi c = 9) (h4 : ¬ (32 ≤ bi c ∧ bi c ≤ 126)) : escL c = [92, 120, byteI (hexI (bi c / 16)), byteI (hexI (bi c % 16))] := by
  unfold escL; rw [if_neg h, if_neg h2, if_neg h3, if_neg h4]
theorem hexI_range (n : Int) (h0 : 0 ≤ n) (h1 : n < 16) : 0 ≤ hexI n ∧ hexI n < 256 := by unfold hexI; split <;> omega
end Lx

theorem u8v_byteI (n : Int) (h0 : 0 ≤ n) (h1 : n < 256) : u8v (byteI n) = .int .u8 n := by
  unfold u8v byteI
  have : ((UInt8.ofNat n.toNat).toNat : Int) = n := by rw [UInt8.toNat_ofNat']; omega
  rw [this]
theorem run_hex (q : Int) (h0 : 0 ≤ q) (h1 : q < 16) (w : World) :
    (Instr.index 9 (.string ⟨#[48, 49, 50, 51, 52, 53, 54, 55, 56, 57, 97, 98, 99, 100, 101, 102]⟩) (.int .u8 q)).run Try.prog w = .ok (.int .u8 (hexI q)) w := by
  have : q = 0 ∨ q = 1 ∨ q = 2 ∨ q = 3 ∨ q = 4 ∨ q = 5 ∨ q = 6 ∨ q = 7 ∨ q = 8 ∨ q = 9 ∨ q = 10 ∨ q = 11 ∨ q = 12 ∨ q = 13 ∨ q = 14 ∨ q = 15 := by omega
  rcases this with rfl | rfl | rfl | rfl | rfl | rfl | rfl | rfl | rfl | rfl | rfl | rfl | rfl | rfl | rfl | rfl <;> (rw [run_index_string w _ _ _ _ Try.underlying9, dif_pos ⟨by decide, by decide⟩]; rfl)

def quR (l : Bs) : Bs := if l.length ≤ 1024 then quoteL l else []
def quE (l : Bs) : Int := if l.length ≤ 1024 then 0 else 3
/-- what Quote answers -/
def QuPost (s : ByteArray) (w : World) (e : Ending) (w' : World) : Prop :=
  e = .returned (.tuple #[.string (mk (quR (bl s))), .int .i64 (quE (bl s))]) ∧ Below w.heap.size w w'
theorem QuPost.yes {s : ByteArray} {w w' : World} {x : ByteArray} (h : (bl s).length ≤ 1024) (hx : x = mk (quoteL (bl s))) (hb : Below w.heap.size w w') : QuPost s w (.returned (.tuple #[.string x, .int .i64 0])) w' := by
  unfold QuPost quR quE; rw [if_pos h, if_pos h, hx]; exact ⟨rfl, hb⟩
theorem QuPost.no {s : ByteArray} {w w' : World} (h : ¬ (bl s).length ≤ 1024) (hb : Below w.heap.size w w') : QuPost s w (.returned (.tuple #[.string ⟨#[]⟩, .int .i64 3])) w' := by
  unfold QuPost quR quE; rw [if_neg h, if_neg h]; exact ⟨rfl, hb⟩

/-- gathered so far: the first k bytes -/
def acc (s : ByteArray) (k : Nat) : Bs := 34 :: ((bl s).take k).flatMap escL
theorem acc_succ (s : ByteArray) (k : Nat) (h : k < s.size) : acc s (k + 1) = acc s k ++ escL ((bl s).getD k 0) := by
  have h' : k < (bl s).length := by rw [bl_length]; exact h
  unfold acc
  rw [List.take_succ_eq_append_getElem h', List.flatMap_append, List.getD_eq_getElem?_getD, List.getElem?_eq_getElem h']
  simp
theorem acc_len (s : ByteArray) (k : Nat) (h : k ≤ s.size) : 1 ≤ (acc s k).length ∧ (acc s k).length ≤ 1 + 4 * k := by
  have := escs_len ((bl s).take k)
  unfold acc
  rw [List.length_take, bl_length] at this
  rw [List.length_cons]; omega
theorem acc_end (s : ByteArray) : quoteL (bl s) = acc s s.size ++ [34] := by
  unfold acc quoteL; rw [List.take_of_length_le (by rw [bl_length]; exact Nat.le_refl _)]; rfl
/-- one byte more is written -/
theorem own_esc {w : World} {base : Nat} {et : TypeId} {v : Value} {s : ByteArray} {k m : Nat} {lit : List Value} (h : w.ownsRow base et 1 v ((acc s k).length + m) ((acc s k).map u8v ++ lit)) (hk : k < s.size)
    (he : lit = (escL ((bl s).getD k 0)).map u8v) (hm : m = lit.length) : w.ownsRow base et 1 v (acc s (k + 1)).length ((acc s (k + 1)).map u8v) := by
  have e2 : (escL ((bl s).getD k 0)).length = m := by rw [hm, he, List.length_map]
  rw [acc_succ s k hk, List.map_append, List.length_append, ← he, e2]; exact h
theorem own_fin {w : World} {base : Nat} {et : TypeId} {v : Value} {s : ByteArray} {k : Nat} (h : w.ownsRow base et 1 v ((acc s k).length + 1) ((acc s k).map u8v ++ [.int .u8 34])) (hk : k = s.size) :
    w.ownsRow base et 1 v ((acc s k).length + 1) ((quoteL (bl s)).map u8v) := by
  rw [acc_end, List.map_append, ← hk]; exact h
theorem lit_one {us : List Value} (h : ∃ l : Bs, us = l.map u8v) : ∀ u ∈ us, u.oneCell' = true := by
  obtain ⟨l, rfl⟩ := h; exact u8v_one l

theorem le_al_drew {n : Nat} {wr : World} (ob : Obj) (h : n ≤ wr.heap.size) : n ≤ (wr.alloc ob).drew.heap.size := by
  show n ≤ (wr.alloc ob).heap.size
  rw [World.size_alloc]; omega
theorem own_al_drew {w : World} {base : Nat} {e : TypeId} {size : Nat} {v : Value} {n : Nat} {xs : List Value} (ob : Obj) (h : w.ownsRow base e size v n xs) : (w.alloc ob).drew.ownsRow base e size v n xs := h.alloc ob
theorem own_grown_d {w wr w2 : World} {et : TypeId} {size : Nat} {v : Value} {n : Nat} {xs : List Value} {ob : Obj} (h : wr.ownsRow w.heap.size et size v n xs) (hb : Below w.heap.size w wr) (hg : (wr.alloc ob).drew.grownBy w2 v.ownBlock) : Below w.heap.size w w2 :=
  (below_drew (hb.al ob)).grown hg (le_al_drew ob hb.size) (own_ge h)
theorem u8_quo (b : Int) (h0 : 0 ≤ b) (h1 : b < 256) : IntKind.u8.wrap (b.tdiv 16) = b / 16 := by
  rw [Int.tdiv_eq_ediv_of_nonneg h0, show IntKind.u8.wrap (b / 16) = (b / 16) % 256 from by simp [IntKind.wrap, IntKind.bits, IntKind.signed]]; omega

set_option maxRecDepth 100000 in
set_option maxHeartbeats 8000000 in
theorem rx_Quote (s : ByteArray) (w : World) (hs : s.size ≤ 140737488355328) :
    Calls Try.prog 27 #[.string s] w (QuPost s w) := by
  obtain ⟨ib, hib, hz0, hz1, hz2⟩ := info_parts infoByte
  by_cases h1 : (bl s).length ≤ 1024
  · have g0 : decide ((bl s).length ≤ 1024) = true := by simpa using h1
    have h1' : Hid ((bl s).length ≤ 1024) := h1
    rw [bl_length] at h1
    replace g0 := Lib.hid g0
    go_enter Try.func27, Try.ntmps27
    go_wp2_with (go_at_call 26; refine (rx_Constant _ _ hs).mono ?_; rintro e w' ⟨he, rfl⟩; rw [g0.out] at he; subst he)
    go_loopw [5, 6, 7] (fun b i c wr => ∃ (k : Nat), k ≤ s.size ∧ i = .int .i64 k ∧ Hid (wr.ownsRow w.heap.size 5 1 b (acc s k).length ((acc s k).map u8v)) ∧ Hid (Below w.heap.size w wr)) (fun _ i _ _ => s.size - (intOf i).toNat)
    case atStart => exact ⟨0, Nat.zero_le _, rfl, World.ownsRow_lit w _ 1 (Nat.le_refl _) (by unfold maxLen; omega) (by simp), (Below.refl _ _).al _⟩
    case round =>
      obtain ⟨k, hk, rfl, hown, hb⟩ := hrel
      obtain ⟨va, vc, rfl, hva⟩ := own_slice hown.out
      clear hva
      have hal := acc_len s k hk
      by_cases hlt : k < s.size
      · have hidx := fun w => run_index_str (P := Try.prog) Try.underlying9 s k hlt w
        obtain ⟨hr1, hr2⟩ := bat_range s k
        by_cases h34 : bat s k = 34 ∨ bat s k = 92
        · have hesc0 := esc_a ((bl s).getD k 0) h34
          rcases h34 with h34 | h34
          · skip
            have g1 : (bat s k == 34) = true := by rw [beq_iff_eq]; omega
            have h63 : Hid ((acc s k).length + 2 ≤ maxLen) := by show (acc s k).length + 2 ≤ maxLen; unfold maxLen; omega
            have h64 : Hid (((acc s k).length + 2) * 1 ≤ 140737488355328) := by show ((acc s k).length + 2) * 1 ≤ 140737488355328; omega
            have hesc : Hid (([.int .u8 92, (.int .u8 (bat s k))] : List Value) = (escL ((bl s).getD k 0)).map u8v) := by show _ = _; rw [hesc0]; rfl
            clear hesc0 h34
            go_wp2_with (first | (at_builtin; refine wpList_append_own _ rfl (.tmp 39) (.tmp 41) 35 rfl w.heap.size 5 ib (.int .u8 0) 1 1 Try.underlying35 hib hz0 hz1 hz2 rfl (by decide) _ (acc s k).length _ rfl (hown.out.alloc _) ⟨wr.heap.size, 0, none⟩ 2 2 [.int .u8 92, (.int .u8 (bat s k))] rfl rfl (own_cells_row rfl rfl) (by intro u hu; simp at hu; rcases hu with rfl | rfl <;> rfl) h63.out h64.out (by rw [World.size_alloc]; have := hb.out.size; omega) ?_))
            intro v2 w4 hown4 hgrow4 hv2
            have hb4 : Hid (Below w.heap.size w w4) := own_grown hown.out hb.out hgrow4
            have hown5 : Hid (w4.ownsRow w.heap.size 5 1 v2 (acc s (k + 1)).length ((acc s (k + 1)).map u8v)) := own_esc hown4 hlt hesc.out rfl
            clear hown4 hgrow4 hv2 hesc
            go_wp2_with fail
            go_roundw
            case rel => exact ⟨k + 1, by omega, by go_num, hown5, hb4⟩
            case measure => simp [intOf]; omega
          · skip
            have g1 : (bat s k == 34) = false := by rw [beq_eq_false_iff_ne]; omega
            have g2 : (bat s k == 92) = true := by rw [beq_iff_eq]; omega
            have h63 : Hid ((acc s k).length + 2 ≤ maxLen) := by show (acc s k).length + 2 ≤ maxLen; unfold maxLen; omega
            have h64 : Hid (((acc s k).length + 2) * 1 ≤ 140737488355328) := by show ((acc s k).length + 2) * 1 ≤ 140737488355328; omega
            have hesc : Hid (([.int .u8 92, (.int .u8 (bat s k))] : List Value) = (escL ((bl s).getD k 0)).map u8v) := by show _ = _; rw [hesc0]; rfl
            clear hesc0 h34
            go_wp2_with (first | (at_builtin; refine wpList_append_own _ rfl (.tmp 39) (.tmp 41) 35 rfl w.heap.size 5 ib (.int .u8 0) 1 1 Try.underlying35 hib hz0 hz1 hz2 rfl (by decide) _ (acc s k).length _ rfl (hown.out.alloc _) ⟨wr.heap.size, 0, none⟩ 2 2 [.int .u8 92, (.int .u8 (bat s k))] rfl rfl (own_cells_row rfl rfl) (by intro u hu; simp at hu; rcases hu with rfl | rfl <;> rfl) h63.out h64.out (by rw [World.size_alloc]; have := hb.out.size; omega) ?_))
            intro v2 w4 hown4 hgrow4 hv2
            have hb4 : Hid (Below w.heap.size w w4) := own_grown hown.out hb.out hgrow4
            have hown5 : Hid (w4.ownsRow w.heap.size 5 1 v2 (acc s (k + 1)).length ((acc s (k + 1)).map u8v)) := own_esc hown4 hlt hesc.out rfl
            clear hown4 hgrow4 hv2 hesc
            go_wp2_with fail
            go_roundw
            case rel => exact ⟨k + 1, by omega, by go_num, hown5, hb4⟩
            case measure => simp [intOf]; omega
        by_cases h10 : bat s k = 10
        · have hesc0 := esc_n ((bl s).getD k 0) h10
          have g1 : (bat s k == 34) = false := by rw [beq_eq_false_iff_ne]; omega
          have g2 : (bat s k == 92) = false := by rw [beq_eq_false_iff_ne]; omega
          have g3 : (bat s k == 10) = true := by rw [beq_iff_eq]; omega
          have h63 : Hid ((acc s k).length + 2 ≤ maxLen) := by show (acc s k).length + 2 ≤ maxLen; unfold maxLen; omega
          have h64 : Hid (((acc s k).length + 2) * 1 ≤ 140737488355328) := by show ((acc s k).length + 2) * 1 ≤ 140737488355328; omega
          have hesc : Hid (([.int .u8 92, .int .u8 110] : List Value) = (escL ((bl s).getD k 0)).map u8v) := by show _ = _; rw [hesc0]; rfl
          clear hesc0 h34 h10
          go_wp2_with (first | (at_builtin; refine wpList_append_own _ rfl (.tmp 46) (.tmp 47) 35 rfl w.heap.size 5 ib (.int .u8 0) 1 1 Try.underlying35 hib hz0 hz1 hz2 rfl (by decide) _ (acc s k).length _ rfl (hown.out.alloc _) ⟨wr.heap.size, 0, none⟩ 2 2 [.int .u8 92, .int .u8 110] rfl rfl (own_cells_row rfl rfl) (by intro u hu; simp at hu; rcases hu with rfl | rfl <;> rfl) h63.out h64.out (by rw [World.size_alloc]; have := hb.out.size; omega) ?_))
          intro v2 w4 hown4 hgrow4 hv2
          have hb4 : Hid (Below w.heap.size w w4) := own_grown hown.out hb.out hgrow4
          have hown5 : Hid (w4.ownsRow w.heap.size 5 1 v2 (acc s (k + 1)).length ((acc s (k + 1)).map u8v)) := own_esc hown4 hlt hesc.out rfl
          clear hown4 hgrow4 hv2 hesc
          go_wp2_with fail
          go_roundw
          case rel => exact ⟨k + 1, by omega, by go_num, hown5, hb4⟩
          case measure => simp [intOf]; omega
        by_cases h9 : bat s k = 9
        · have hesc0 := esc_t ((bl s).getD k 0) h9
          have g1 : (bat s k == 34) = false := by rw [beq_eq_false_iff_ne]; omega
          have g2 : (bat s k == 92) = false := by rw [beq_eq_false_iff_ne]; omega
          have g3 : (bat s k == 10) = false := by rw [beq_eq_false_iff_ne]; omega
          have g4 : (bat s k == 9) = true := by rw [beq_iff_eq]; omega
          have h63 : Hid ((acc s k).length + 2 ≤ maxLen) := by show (acc s k).length + 2 ≤ maxLen; unfold maxLen; omega
          have h64 : Hid (((acc s k).length + 2) * 1 ≤ 140737488355328) := by show ((acc s k).length + 2) * 1 ≤ 140737488355328; omega
          have hesc : Hid (([.int .u8 92, .int .u8 116] : List Value) = (escL ((bl s).getD k 0)).map u8v) := by show _ = _; rw [hesc0]; rfl
          clear hesc0 h34 h10 h9
          go_wp2_with (first | (at_builtin; refine wpList_append_own _ rfl (.tmp 52) (.tmp 53) 35 rfl w.heap.size 5 ib (.int .u8 0) 1 1 Try.underlying35 hib hz0 hz1 hz2 rfl (by decide) _ (acc s k).length _ rfl (hown.out.alloc _) ⟨wr.heap.size, 0, none⟩ 2 2 [.int .u8 92, .int .u8 116] rfl rfl (own_cells_row rfl rfl) (by intro u hu; simp at hu; rcases hu with rfl | rfl <;> rfl) h63.out h64.out (by rw [World.size_alloc]; have := hb.out.size; omega) ?_))
          intro v2 w4 hown4 hgrow4 hv2
          have hb4 : Hid (Below w.heap.size w w4) := own_grown hown.out hb.out hgrow4
          have hown5 : Hid (w4.ownsRow w.heap.size 5 1 v2 (acc s (k + 1)).length ((acc s (k + 1)).map u8v)) := own_esc hown4 hlt hesc.out rfl
          clear hown4 hgrow4 hv2 hesc
          go_wp2_with fail
          go_roundw
          case rel => exact ⟨k + 1, by omega, by go_num, hown5, hb4⟩
          case measure => simp [intOf]; omega
        by_cases hpr : 32 ≤ bat s k ∧ bat s k ≤ 126
        · have hesc0 := esc_p ((bl s).getD k 0) h34 hpr
          have g1 : (bat s k == 34) = false := by rw [beq_eq_false_iff_ne]; omega
          have g2 : (bat s k == 92) = false := by rw [beq_eq_false_iff_ne]; omega
          have g3 : (bat s k == 10) = false := by rw [beq_eq_false_iff_ne]; omega
          have g4 : (bat s k == 9) = false := by rw [beq_eq_false_iff_ne]; omega
          obtain ⟨hp1, hp2⟩ := hpr
          have h63 : Hid ((acc s k).length + 1 ≤ maxLen) := by show (acc s k).length + 1 ≤ maxLen; unfold maxLen; omega
          have h64 : Hid (((acc s k).length + 1) * 1 ≤ 140737488355328) := by show ((acc s k).length + 1) * 1 ≤ 140737488355328; omega
          have hesc : Hid (([(.int .u8 (bat s k))] : List Value) = (escL ((bl s).getD k 0)).map u8v) := by show _ = _; rw [hesc0]; rfl
          clear hesc0 h34 h10 h9
          go_wp2_with (first | (at_builtin; refine wpList_append_own _ rfl (.tmp 62) (.tmp 64) 35 rfl w.heap.size 5 ib (.int .u8 0) 1 1 Try.underlying35 hib hz0 hz1 hz2 rfl (by decide) _ (acc s k).length _ rfl (hown.out.alloc _) ⟨wr.heap.size, 0, none⟩ 1 1 [(.int .u8 (bat s k))] rfl rfl (own_cells_row rfl rfl) (by intro u hu; simp at hu; subst hu; rfl) h63.out h64.out (by rw [World.size_alloc]; have := hb.out.size; omega) ?_))
          intro v2 w4 hown4 hgrow4 hv2
          have hb4 : Hid (Below w.heap.size w w4) := own_grown hown.out hb.out hgrow4
          have hown5 : Hid (w4.ownsRow w.heap.size 5 1 v2 (acc s (k + 1)).length ((acc s (k + 1)).map u8v)) := own_esc hown4 hlt hesc.out rfl
          clear hown4 hgrow4 hv2 hesc
          go_wp2_with fail
          go_roundw
          case rel => exact ⟨k + 1, by omega, by go_num, hown5, hb4⟩
          case measure => simp [intOf]; omega
        have hesc0 := esc_x ((bl s).getD k 0) h34 h10 h9 hpr
        by_cases h32 : 32 ≤ bat s k
        · have h126 : ¬ bat s k ≤ 126 := by omega
          have g1 : (bat s k == 34) = false := by rw [beq_eq_false_iff_ne]; omega
          have g2 : (bat s k == 92) = false := by rw [beq_eq_false_iff_ne]; omega
          have g3 : (bat s k == 10) = false := by rw [beq_eq_false_iff_ne]; omega
          have g4 : (bat s k == 9) = false := by rw [beq_eq_false_iff_ne]; omega
          have hh1 := hexI_range (bat s k / 16) (by omega) (by omega)
          have hh2 := hexI_range (bat s k % 16) (by omega) (by omega)
          have hx1 := fun w => run_hex (bat s k / 16) (by omega) (by omega) w
          have hx2 := fun w => run_hex (bat s k % 16) (by omega) (by omega) w
          have v1 : IntKind.u8.wrap ((bat s k).tdiv 16) = bat s k / 16 := u8_quo _ hr1 hr2
          have v2 : (bat s k).tmod 16 = bat s k % 16 := Int.tmod_eq_emod_of_nonneg hr1
          have h63 : Hid ((acc s k).length + 4 ≤ maxLen) := by show (acc s k).length + 4 ≤ maxLen; unfold maxLen; omega
          have h64 : Hid (((acc s k).length + 4) * 1 ≤ 140737488355328) := by show ((acc s k).length + 4) * 1 ≤ 140737488355328; omega
          have hesc : Hid (([.int .u8 92, .int .u8 120, .int .u8 (hexI (bat s k / 16)), .int .u8 (hexI (bat s k % 16))] : List Value) = (escL ((bl s).getD k 0)).map u8v) := by show _ = _; rw [hesc0, bi_getD]; show _ = [u8v 92, u8v 120, u8v _, u8v _]; rw [u8v_byteI _ hh1.1 hh1.2, u8v_byteI _ hh2.1 hh2.2]; rfl
          clear hesc0 h34 h10 h9 hpr hh1 hh2
          go_wp2_with fail
          go_region_law ((refine step_append_lies _ rfl (.tmp 21) (.tmp 30) 35 rfl w.heap.size 5 ib (.int .u8 0) 1 1 Try.underlying35 hib hz0 hz1 hz2 rfl (by decide) _ (acc s k).length _ rfl (own_al_drew _ hown.out) ⟨wr.heap.size, 0, none⟩ 4 4 [.int .u8 92, .int .u8 120, .int .u8 (hexI (bat s k / 16)), .int .u8 (hexI (bat s k % 16))] rfl rfl (own_cells_row (w := wr) rfl rfl) (by intro u hu; simp at hu; rcases hu with rfl | rfl | rfl | rfl <;> rfl) (by decide) h63.out h64.out (le_al_drew _ hb.out.size) _ rfl ?_; intro g4 c4 w4 hown4 hgrow4 hat4 hlt4))
          all_goals
            have hb4 : Hid (Below w.heap.size w w4) := own_grown_d hown.out hb.out hgrow4
            have hown5 : Hid (w4.ownsRow w.heap.size 5 1 (.slice (some ⟨g4, 0, none⟩) ((acc s k).length + 4) c4) (acc s (k + 1)).length ((acc s (k + 1)).map u8v)) := own_esc hown4 hlt hesc.out rfl
            clear hown4 hgrow4 hat4 hlt4 hesc
            go_wp2_with fail
            go_roundw
            case rel => exact ⟨k + 1, by omega, by go_num, hown5, hb4⟩
            case measure => simp [intOf]; omega
        · skip
          have g1 : (bat s k == 34) = false := by rw [beq_eq_false_iff_ne]; omega
          have g2 : (bat s k == 92) = false := by rw [beq_eq_false_iff_ne]; omega
          have g3 : (bat s k == 10) = false := by rw [beq_eq_false_iff_ne]; omega
          have g4 : (bat s k == 9) = false := by rw [beq_eq_false_iff_ne]; omega
          have hh1 := hexI_range (bat s k / 16) (by omega) (by omega)
          have hh2 := hexI_range (bat s k % 16) (by omega) (by omega)
          have hx1 := fun w => run_hex (bat s k / 16) (by omega) (by omega) w
          have hx2 := fun w => run_hex (bat s k % 16) (by omega) (by omega) w
          have v1 : IntKind.u8.wrap ((bat s k).tdiv 16) = bat s k / 16 := u8_quo _ hr1 hr2
          have v2 : (bat s k).tmod 16 = bat s k % 16 := Int.tmod_eq_emod_of_nonneg hr1
          have h63 : Hid ((acc s k).length + 4 ≤ maxLen) := by show (acc s k).length + 4 ≤ maxLen; unfold maxLen; omega
          have h64 : Hid (((acc s k).length + 4) * 1 ≤ 140737488355328) := by show ((acc s k).length + 4) * 1 ≤ 140737488355328; omega
          have hesc : Hid (([.int .u8 92, .int .u8 120, .int .u8 (hexI (bat s k / 16)), .int .u8 (hexI (bat s k % 16))] : List Value) = (escL ((bl s).getD k 0)).map u8v) := by show _ = _; rw [hesc0, bi_getD]; show _ = [u8v 92, u8v 120, u8v _, u8v _]; rw [u8v_byteI _ hh1.1 hh1.2, u8v_byteI _ hh2.1 hh2.2]; rfl
          clear hesc0 h34 h10 h9 hpr hh1 hh2
          go_wp2_with fail
          go_region_law ((refine step_append_lies _ rfl (.tmp 21) (.tmp 30) 35 rfl w.heap.size 5 ib (.int .u8 0) 1 1 Try.underlying35 hib hz0 hz1 hz2 rfl (by decide) _ (acc s k).length _ rfl (own_al_drew _ hown.out) ⟨wr.heap.size, 0, none⟩ 4 4 [.int .u8 92, .int .u8 120, .int .u8 (hexI (bat s k / 16)), .int .u8 (hexI (bat s k % 16))] rfl rfl (own_cells_row (w := wr) rfl rfl) (by intro u hu; simp at hu; rcases hu with rfl | rfl | rfl | rfl <;> rfl) (by decide) h63.out h64.out (le_al_drew _ hb.out.size) _ rfl ?_; intro g4 c4 w4 hown4 hgrow4 hat4 hlt4))
          all_goals
            have hb4 : Hid (Below w.heap.size w w4) := own_grown_d hown.out hb.out hgrow4
            have hown5 : Hid (w4.ownsRow w.heap.size 5 1 (.slice (some ⟨g4, 0, none⟩) ((acc s k).length + 4) c4) (acc s (k + 1)).length ((acc s (k + 1)).map u8v)) := own_esc hown4 hlt hesc.out rfl
            clear hown4 hgrow4 hat4 hlt4 hesc
            go_wp2_with fail
            go_roundw
            case rel => exact ⟨k + 1, by omega, by go_num, hown5, hb4⟩
            case measure => simp [intOf]; omega
      · have hke : k = s.size := by omega
        have h63 : Hid ((acc s k).length + 1 ≤ maxLen) := by show (acc s k).length + 1 ≤ maxLen; unfold maxLen; omega
        have h64 : Hid (((acc s k).length + 1) * 1 ≤ 140737488355328) := by show ((acc s k).length + 1) * 1 ≤ 140737488355328; omega
        replace hke := Lib.hid hke
        go_wp2_with (first | (at_builtin; refine wpList_append_own _ rfl (.tmp 66) (.tmp 67) 35 rfl w.heap.size 5 ib (.int .u8 0) 1 1 Try.underlying35 hib hz0 hz1 hz2 rfl (by decide) _ (acc s k).length _ rfl (hown.out.alloc _) ⟨wr.heap.size, 0, none⟩ 1 1 [.int .u8 34] rfl rfl (own_cells_row rfl rfl) (by intro u hu; simp at hu; subst hu; rfl) h63.out h64.out (by rw [World.size_alloc]; have := hb.out.size; omega) ?_))
        intro v2 w4 hown4 hgrow4 hv2
        have hb4 : Hid (Below w.heap.size w w4) := own_grown hown.out hb.out hgrow4
        have hconv := run_string_own (P := Try.prog) Try.underlying35 Try.underlying5 Try.underlying9 (own_fin hown4 hke.out)
        clear hown4 hgrow4 hv2
        go_wp2_with fail
        go_ret2
        exact QuPost.yes h1'.out rfl hb4.out
  · have g0 : Hid (decide ((bl s).length ≤ 1024) = false) := by show _ = _; simpa using h1
    replace h1 := Lib.hid h1
    go_enter Try.func27, Try.ntmps27
    go_wp2_with (go_at_call 26; refine (rx_Constant _ _ hs).mono ?_; rintro e w' ⟨he, rfl⟩; rw [g0.out] at he; subst he)
    go_ret2
    exact QuPost.no h1.out (Below.refl _ _)

end Go.Proofs.Ytefgipoegnacjaa
