/- tuple.Cut: a tuple's numbers at some columns. -/
import Derived.Test.YtgndogoaenlchaaRows
import Derived.Test.YtgndogoaenlchaaBase
import Derived.Test.YtgndogoaenlchaaKit
import Derived.Test.YtgndogoaenlchaaLend
namespace Go.Proofs.Ytgndogoaenlchaa
open Go.RowKit

/-- the numbers at the columns of c, from place i on, f places long -/
def cutR (zs : List Int) : Nat → Nat → Nat → List Int
  | 0, _, _ => []
  | f + 1, i, c => (if c % 2 = 1 then [nth zs i] else []) ++ cutR zs f (i + 1) (c / 2)
def cutL (zs : List Int) (c : Nat) : List Int := cutR zs 16 0 c
theorem cutR_zero (zs : List Int) : ∀ f i, cutR zs f i 0 = []
  | 0, _ => rfl
  | f + 1, i => by rw [cutR, cutR_zero zs f]; rfl
theorem cutR_step (zs : List Int) (i c : Nat) (hi : i < 16) : cutR zs (16 - i) i c = (if c % 2 = 1 then [nth zs i] else []) ++ cutR zs (16 - (i + 1)) (i + 1) (c / 2) := by
  rw [show 16 - i = (16 - (i + 1)) + 1 from by omega]; rfl
theorem cut_lt {i c c0 n : Nat} (h0 : c ≠ 0) (h1 : c * 2 ^ i ≤ c0) (h2 : c0 < 2 ^ n) : i < n := by
  have h3 : 2 ^ i ≤ c * 2 ^ i := Nat.le_mul_of_pos_left _ (by omega)
  exact (Nat.pow_lt_pow_iff_right (by omega : 1 < 2)).1 (by omega)
theorem cut_half {i c c0 : Nat} (h1 : c * 2 ^ i ≤ c0) : c / 2 * 2 ^ (i + 1) ≤ c0 := by
  have h2 : c / 2 * 2 ≤ c := Nat.div_mul_le_self c 2
  calc c / 2 * 2 ^ (i + 1) = c / 2 * 2 * 2 ^ i := by rw [Nat.pow_succ, Nat.mul_comm (2 ^ i) 2, Nat.mul_assoc]
    _ ≤ c * 2 ^ i := Nat.mul_le_mul_right _ h2
    _ ≤ c0 := h1
theorem wraps_u16 (n : Int) (h0 : 0 ≤ n) (h1 : n < 2 ^ 16) : IntKind.u16.wrap n = n := by
  simp [IntKind.wrap, IntKind.bits, IntKind.signed]; omega
theorem and1_u16 (c : Nat) (h : c < 65536) : bits .and .u16 (c : Int) 1 = ((c % 2 : Nat) : Int) := by
  have := bits_mask .u16 16 (by decide) wraps_u16 1 (by decide) (c : Int) (by omega) (by omega)
  simpa using this
theorem cut_test {c : Nat} (h : c < 65536) : (bits .and .u16 (c : Int) 1 == 1) = decide (c % 2 = 1) := by
  rw [and1_u16 c h, Bool.eq_iff_iff]; simp; omega

/-- the cut: what was gathered in the call's own row -/
def CutAt (w : World) (zs : List Int) (c0 : Nat) (wr : World) (o : Value) (i ci : Nat) : Prop :=
  ∃ acc : List Int, ci * 2 ^ i ≤ c0 ∧ acc ++ cutR zs (16 - i) i ci = cutL zs c0 ∧ acc.length ≤ i ∧ wr.ownsRow w.heap.size 3 1 o acc.length (acc.map (Value.int .i64)) ∧ Below w.heap.size w wr

theorem CutAt.skip {w wr : World} {zs : List Int} {c0 i ci : Nat} {o : Value} (h : CutAt w zs c0 wr o i ci) (hi : i < 16) (ho : ¬ ci % 2 = 1) : CutAt w zs c0 wr o (i + 1) (ci / 2) := by
  obtain ⟨acc, h1, h2, h3, h4, h5⟩ := h
  rw [cutR_step zs i ci hi, if_neg ho, List.nil_append] at h2
  exact ⟨acc, cut_half h1, h2, by omega, h4, h5⟩

theorem CutAt.take {w wr w2 : World} {zs : List Int} {c0 i ci : Nat} {o v2 : Value} {acc : List Int} {ob : Obj} (h1 : ci * 2 ^ i ≤ c0) (h2 : acc ++ cutR zs (16 - i) i ci = cutL zs c0) (h3 : acc.length ≤ i)
    (h4 : wr.ownsRow w.heap.size 3 1 o acc.length (acc.map (Value.int .i64))) (h5 : Below w.heap.size w wr) (hi : i < 16) (ho : ci % 2 = 1)
    (hown : w2.ownsRow w.heap.size 3 1 v2 (acc.length + 1) (acc.map (Value.int .i64) ++ [.int .i64 (nth zs i)])) (hg : (wr.alloc ob).grownBy w2 o.ownBlock) : CutAt w zs c0 w2 v2 (i + 1) (ci / 2) := by
  rw [cutR_step zs i ci hi, if_pos ho, ← List.append_assoc] at h2
  refine ⟨acc ++ [nth zs i], cut_half h1, h2, by simp; omega, ?_, ?_⟩
  · simpa using hown
  · exact (h5.alloc h5.size ob).grown hg (by have := h5.size; simp; omega) (own_ge h4)

set_option maxHeartbeats 1000000 in
theorem cut_ok (a : Option Addr) (cap : Nat) (zs : List Int) (c : Nat) (w : World) (ha : Ints .i64 w a zs) (hc : c < 65536) (hlen : c < 2 ^ zs.length) :
    Calls Try.prog 28 #[.slice a zs.length cap, .int .u16 c] w fun e w' => ∃ v, e = .returned (.tuple #[v, .int .i64 0]) ∧ w'.ownsRow w.heap.size 3 1 v (cutL zs c).length ((cutL zs c).map (Value.int .i64)) ∧ Below w.heap.size w w' := by
  have hm := ha.len
  obtain ⟨i0, hi, hz0, hz1, hz2⟩ := info_parts infoInt
  have gd : ((c : Int) / 2 ^ zs.length != 0) = false := by
    have : (c : Int) / 2 ^ zs.length = 0 := Int.ediv_eq_zero_of_lt (by omega) (by have : (c : Int) < ((2 ^ zs.length : Nat) : Int) := by omega
                                                                                  simpa using this)
    rw [this]; rfl
  have hlen2 := Lib.hid hlen
  clear hlen
  by_cases h16 : zs.length < 16
  all_goals
    first
      | (have g2 : decide ((zs.length : Int) < 16) = true := decide_eq_true (by omega))
      | (have g2 : decide ((zs.length : Int) < 16) = false := decide_eq_false (by omega))
    go_enter Try.func28, Try.ntmps28
    go_wp2_with fail
    go_loopw [1, 6, 7] (fun s1 s6 s7 wr => ∃ (i ci : Nat), i ≤ 16 ∧ s7 = .int .i64 i ∧ s1 = .int .u16 ci ∧ ci < 65536 ∧ Hid (CutAt w zs c wr s6 i ci)) (fun _ _ s7 _ => 16 - (intOf s7).toNat)
    case atStart => exact ⟨0, c, by omega, rfl, rfl, hc, [], by simp, rfl, by simp, World.ownsRow_nil _ _ _ _, Below.refl _ _⟩
    case round =>
      obtain ⟨i, ci, hi16, rfl, rfl, hci, hR⟩ := hrel
      by_cases hz : ci = 0
      · obtain ⟨acc, h1, h2, h3, h4, h5⟩ := hR.out
        have g3 : ((ci : Int) != 0) = false := by simp [hz]
        rw [hz, cutR_zero, List.append_nil] at h2
        subst h2
        have h4 := Lib.hid h4
        clear hz h1 h3 hR
        go_wp2
        go_ret2
        exact ⟨_, rfl, h4.out, h5⟩
      · have g3 : ((ci : Int) != 0) = true := by simp [hz]
        obtain ⟨acc, h1, h2, h3, h4, h5⟩ := hR.out
        have hlt := cut_lt hz h1 hlen2.out
        have hlt2 := cut_lt hz h1 (show c < 2 ^ 16 from hc)
        obtain ⟨b, off, rfl, hcell⟩ := ha.cells i hlt
        have hcell2 := cell_below h5 rfl hcell
        have hh1 := Lib.hid h1
        have hh2 := Lib.hid h2
        have hh5 := Lib.hid h5
        by_cases ho : ci % 2 = 1
        · have g4 : (bits .and .u16 (ci : Int) 1 == 1) = true := by rw [cut_test hci]; simp [ho]
          have ho2 := Lib.hid ho
          clear hz h1 h2 h5 ho hR hcell
          go_wp2_with (first
            | (at_builtin; refine wpList_append_own _ rfl (.tmp 27) (.tmp 32) 22 rfl w.heap.size 3 i0 (.int .i64 0) 1 8 Try.underlying22 hi hz0 hz1 hz2 rfl (by decide) _ acc.length _ rfl (h4.alloc _) ⟨wr.heap.size, 0, none⟩ 1 1 [.int .i64 (nth zs i)] rfl rfl own_cells_one ?d2 ?d3 ?d4 ?d5 ?_))
          case d2 => intro u hu; simp at hu; subst hu; rfl
          case d3 => unfold maxLen; omega
          case d4 => omega
          case d5 => have := hh5.out.size; simp; omega
          intro v2 w2 hown2 hgrow2 hv2
          have hR2 := Lib.hid (CutAt.take hh1.out hh2.out h3 h4 hh5.out hlt2 ho2.out hown2 hgrow2)
          clear hown2 hgrow2 hv2 h4 hcell2
          go_wp2
          go_roundw
          case rel => exact ⟨i + 1, ci / 2, by omega, by go_num, by first | rfl | go_num, by omega, hR2⟩
          case measure => simp [intOf]; omega
        · have g4 : (bits .and .u16 (ci : Int) 1 == 1) = false := by rw [cut_test hci]; simp [ho]
          have hR2 := Lib.hid (hR.out.skip hlt2 ho)
          clear hz h1 h2 h5 ho hR hcell h4 hcell2
          go_wp2
          go_roundw
          case rel => exact ⟨i + 1, ci / 2, by omega, by go_num, by first | rfl | go_num, by omega, hR2⟩
          case measure => simp [intOf]; omega

theorem cut_okI (a : Option Addr) (cap n : Nat) (zs : List Int) (cI : Int) (c : Nat) (w : World) (ha : Ints .i64 w a zs) (hn : zs.length = n) (hcI : (c : Int) = cI) (hc : c < 65536) (hlen : c < 2 ^ zs.length) :
    Calls Try.prog 28 #[.slice a n cap, .int .u16 cI] w fun e w' => ∃ v, e = .returned (.tuple #[v, .int .i64 0]) ∧ w'.ownsRow w.heap.size 3 1 v (cutL zs c).length ((cutL zs c).map (Value.int .i64)) ∧ Below w.heap.size w w' := by
  subst hn hcI; exact cut_ok a cap zs c w ha hc hlen

end Go.Proofs.Ytgndogoaenlchaa
