/- Sets of columns: the program's and the reference's. -/
import Derived.Test.YtgndogoaenlchaaDoorProg
import Derived.Test.YtgndogoaenlchaaDoorBase
import Derived.Test.YtgndogoaenlchaaDoorKit
import Derived.Test.YtgndogoaenlchaaDoorLend
import Derived.Test.YtgndogoaenlchaaDoorOf
import Derived.Test.YtgndogoaenlchaaDoorCut
import Derived.Test.YtgndogoaenlchaaDoorKeys
import Derived.Laws.BitsAllLaws
namespace Go.Proofs.YtgndogoaenlchaaDoor
open Go.RowKit

def inB (c j : Nat) : Bool := decide (c / 2 ^ j % 2 = 1)
theorem or_bit (c x : Nat) : c ||| 2 ^ x = if inB c x = true then c else c + 2 ^ x := by
  have ht : inB c x = c.testBit x := by unfold inB; rw [Nat.testBit_eq_decide_div_mod_eq]
  rw [ht]
  by_cases h : c.testBit x = true
  · rw [if_pos h]
    apply Nat.eq_of_testBit_eq
    intro i
    rw [Nat.testBit_or, Nat.testBit_two_pow]
    by_cases hi : x = i
    · subst hi; simp [h]
    · simp [hi]
  · rw [if_neg h]
    have hd : c / 2 ^ x % 2 = 0 := by
      have : ¬ inB c x = true := by rw [ht]; exact h
      unfold inB at this
      simp at this
      omega
    have hpow : 2 ^ (x + 1) = 2 ^ x * 2 := Nat.pow_succ 2 x
    have e1 : c = 2 ^ (x + 1) * (c / 2 ^ (x + 1)) + c % 2 ^ x := by
      have a1 := Nat.div_add_mod c (2 ^ x)
      have a2 := Nat.div_add_mod (c / 2 ^ x) 2
      rw [hd, Nat.div_div_eq_div_mul, ← hpow] at a2
      rw [hpow, Nat.mul_assoc, ← hpow]
      rw [Nat.add_zero] at a2
      rw [a2]; omega
    have hlo : c % 2 ^ x < 2 ^ x := Nat.mod_lt _ (Nat.two_pow_pos x)
    have hlo2 : c % 2 ^ x < 2 ^ (x + 1) := by rw [hpow]; omega
    have e2 : c = 2 ^ (x + 1) * (c / 2 ^ (x + 1)) ||| c % 2 ^ x := by
      rw [← Nat.two_pow_add_eq_or_of_lt hlo2]; exact e1
    have e3 : c + 2 ^ x = 2 ^ (x + 1) * (c / 2 ^ (x + 1)) ||| (2 ^ x * 1 + c % 2 ^ x) := by
      rw [← Nat.two_pow_add_eq_or_of_lt (by rw [hpow]; omega)]; omega
    rw [e3, Nat.two_pow_add_eq_or_of_lt hlo, Nat.mul_one, ← Nat.or_assoc, Nat.or_comm (2 ^ (x + 1) * _) (2 ^ x), Nat.or_assoc, ← e2, Nat.or_comm]
theorem bit_lt {c x : Nat} (hc : c < 65536) (hx : x < 16) : c ||| 2 ^ x < 65536 := by
  have h2 : 2 ^ x < 65536 := by have : 2 ^ x ≤ 2 ^ 15 := Nat.pow_le_pow_right (by omega) (by omega); omega
  exact Nat.or_lt_two_pow (n := 16) hc h2
theorem orBit_nat (c x : Nat) (hc : c < 65536) (hx : x < 16) : orBit (c : Int) (x : Int) = ((c ||| 2 ^ x : Nat) : Int) := by
  have h2 : 2 ^ x < 65536 := by have : 2 ^ x ≤ 2 ^ 15 := Nat.pow_le_pow_right (by omega) (by omega); omega
  unfold orBit
  rw [Int.toNat_natCast]
  have e : IntKind.u16.wrap (2 ^ x) = ((2 ^ x : Nat) : Int) := by
    have : ((2 : Int) ^ x) = ((2 ^ x : Nat) : Int) := by simp
    rw [this]; generalize 2 ^ x = p at h2; exact wraps_u16 _ (by omega) (by omega)
  rw [e]; exact u16_or_nat c (2 ^ x) hc h2
theorem ofL_range : ∀ (zs : List Int) (c : Nat), c < 65536 → ∀ r, ofL zs (c : Int) = some r → ∃ d : Nat, d < 65536 ∧ r = (d : Int)
  | [], c, hc, r, h => ⟨c, hc, by injection h with h; exact h.symm⟩
  | x :: rest, c, hc, r, h => by
    rw [ofL] at h
    split at h
    · cases h
    · rename_i hx
      obtain ⟨xn, rfl⟩ : ∃ xn : Nat, x = (xn : Int) := ⟨x.toNat, by omega⟩
      rw [orBit_nat c xn hc (by omega)] at h
      exact ofL_range rest _ (bit_lt hc (by omega)) r h

set_option maxHeartbeats 800000 in
theorem rbit (j : Nat) (w : World) (hj : j < 16) : Calls Tryd.prog 35 #[.int .i64 (j : Int)] w fun e w' => e = .returned (.int .u16 ((2 ^ j : Nat) : Int)) ∧ w = w' := by
  go_enter Tryd.func35, Tryd.ntmps35
  go_wp2
  go_loop [3, 4] (fun x i => ∃ (k p : Nat), k ≤ j ∧ i = .int .i64 k ∧ x = .int .u16 (p : Int) ∧ Hid (p = 2 ^ k)) (fun _ i => j - (intOf i).toNat)
  case atStart => exact ⟨0, 1, Nat.zero_le _, rfl, rfl, rfl⟩
  case round =>
    obtain ⟨k, p, hk, rfl, rfl, hp⟩ := hrel
    by_cases hlt : k < j
    · have hp2 : Hid (2 * p = 2 ^ (k + 1)) := by show _ = _; rw [hp.out, Nat.pow_succ, Nat.mul_comm]
      have hb : 2 * p < 65536 := by
        rw [hp2.out]; have : 2 ^ (k + 1) ≤ 2 ^ 15 := Nat.pow_le_pow_right (by omega) (by omega); omega
      have hw : IntKind.u16.wrap (2 * (p : Int)) = ((2 * p : Nat) : Int) := by rw [wraps_u16 _ (by omega) (by omega)]; simp
      clear hp
      go_wp2
      go_round
      case rel => exact ⟨k + 1, 2 * p, by omega, by go_num, by simp, hp2⟩
      case measure => simp [intOf]; omega
    · have hkj : Hid (k = j) := by show _ = _; omega
      go_wp2
      go_ret
      exact ⟨ret_int (by rw [hp.out, hkj.out]; simp), rfl⟩

set_option maxHeartbeats 800000 in
theorem rIn (c j : Nat) (w : World) (hc : c < 65536) (hj : j < 16) : Calls Tryd.prog 34 #[.int .u16 (c : Int), .int .i64 (j : Int)] w fun e w' => e = .returned (.bool (inB c j)) ∧ w = w' := by
  have hpos : 0 < 2 ^ j := Nat.two_pow_pos j
  obtain ⟨p, hp⟩ : ∃ p, p = 2 ^ j := ⟨_, rfl⟩
  rw [← hp] at hpos
  have hd : c / p ≤ c := Nat.div_le_self c p
  have hres : Hid (((IntKind.u16.wrap ((c : Int) / (p : Int))).tmod 2 == 1) = inB c j) := by
    show _ = _
    have e : IntKind.u16.wrap ((c : Int) / (p : Int)) = ((c / p : Nat) : Int) := by
      rw [← Int.natCast_ediv]; generalize c / p = q at hd; exact wraps_u16 _ (by omega) (by omega)
    rw [e]
    unfold inB
    rw [← hp]
    generalize c / p = q
    rw [Int.tmod_eq_emod_of_nonneg (by omega), Bool.eq_iff_iff]; simp; omega
  have hz : ((p : Int) == 0) = false := by rw [beq_eq_false_iff_ne]; omega
  have hr := fun w => rbit j w hj
  rw [← hp] at hr
  replace hr := Lib.hid hr
  replace hp := Lib.hid hp
  go_enter Tryd.func34, Tryd.ntmps34
  go_wp2_with (go_at_call 35; refine (hr.out _).mono ?_; rintro e w' ⟨rfl, rfl⟩)
  go_ret
  exact ⟨ret_bool hres.out, rfl⟩

theorem ofL_step (c x : Nat) (r : List Int) (hc : c < 65536) (hx : x < 16) : ofL ((x : Int) :: r) (c : Int) = ofL r ((if inB c x = true then c else c + 2 ^ x : Nat) : Int) := by
  rw [ofL, if_neg (by omega), orBit_nat c x hc hx, or_bit]

set_option maxHeartbeats 2000000 in
theorem rOf (a : Option Addr) (cap : Nat) (zs : List Int) (w : World) (ha : Ints .i64 w a zs) :
    Calls Tryd.prog 24 #[.slice a zs.length cap] w fun e w' => e = .returned (ofV (ofL zs 0)) ∧ w = w' := by
  have hm := ha.len
  go_enter Tryd.func24, Tryd.ntmps24
  go_wp2
  go_loop [4, 5] (fun c i => ∃ (j : Nat) (c0 : Nat), j ≤ zs.length ∧ c0 < 65536 ∧ i = .int .i64 j ∧ c = .int .u16 (c0 : Int) ∧ Hid (ofL (zs.drop j) (c0 : Int) = ofL zs 0)) (fun _ i => zs.length - (intOf i).toNat)
  case atStart => exact ⟨0, 0, Nat.zero_le _, by omega, rfl, rfl, rfl⟩
  case round =>
    obtain ⟨j, c0, hj, hc0, rfl, rfl, he⟩ := hrel
    by_cases hlt : j < zs.length
    · obtain ⟨b, off, rfl, hcell⟩ := ha.cells j hlt
      by_cases hneg : nth zs j < 0
      · have h5 : Hid (ofL zs 0 = none) := by rw [← he.out, drop_nth zs j hlt, ofL, if_pos (by omega)]; rfl
        clear he
        go_wp2
        go_ret2
        exact ⟨by rw [h5.out]; rfl, rfl⟩
      · by_cases hbig : 16 ≤ nth zs j
        · have h5 : Hid (ofL zs 0 = none) := by rw [← he.out, drop_nth zs j hlt, ofL, if_pos (by omega)]; rfl
          clear he
          go_wp2
          go_ret2
          exact ⟨by rw [h5.out]; rfl, rfl⟩
        · obtain ⟨x, hx⟩ : ∃ x : Nat, nth zs j = (x : Int) := ⟨(nth zs j).toNat, by omega⟩
          have h5 : Hid (ofL (zs.drop (j + 1)) ((if inB c0 x = true then c0 else c0 + 2 ^ x : Nat) : Int) = ofL zs 0) := by
            show _ = _
            rw [← he.out, drop_nth zs j hlt, hx, ofL_step c0 x _ hc0 (by omega)]
          rw [hx] at hcell hneg hbig
          have hx16 : x < 16 := by omega
          have hsum := or_bit c0 x
          have hlt2 := bit_lt hc0 hx16
          rw [hsum] at hlt2
          clear he hx hsum
          cases hin : inB c0 x with
          | true =>
            rw [hin, if_pos rfl] at h5
            replace hin := Lib.hid hin
            clear hlt2
            go_wp2_with (go_at_call 34; refine (rIn c0 x _ hc0 hx16).mono ?_; rintro e w' ⟨he, rfl⟩; rw [hin.out] at he; subst he)
            go_round
            case rel => exact ⟨j + 1, c0, by omega, hc0, by go_num, rfl, h5⟩
            case measure => simp [intOf]; omega
          | false =>
            rw [hin, if_neg (by decide)] at h5 hlt2
            replace hin := Lib.hid hin
            have hw : IntKind.u16.wrap ((c0 : Int) + ((2 ^ x : Nat) : Int)) = ((c0 + 2 ^ x : Nat) : Int) := by
              rw [← Int.natCast_add]; generalize c0 + 2 ^ x = q at hlt2; exact wraps_u16 _ (by omega) (by omega)
            obtain ⟨p, hp⟩ : ∃ p, p = 2 ^ x := ⟨_, rfl⟩
            have hbit := fun w => rbit x w hx16
            rw [← hp] at h5 hlt2 hw hbit
            replace hbit := Lib.hid hbit
            clear hp
            go_wp2_with (first
              | (go_at_call 34; refine (rIn c0 x _ hc0 hx16).mono ?_; rintro e w' ⟨he, rfl⟩; rw [hin.out] at he; subst he)
              | (go_at_call 35; refine (hbit.out _).mono ?_; rintro e w' ⟨rfl, rfl⟩))
            go_round
            case rel => exact ⟨j + 1, c0 + p, by omega, hlt2, by go_num, by simp, h5⟩
            case measure => simp [intOf]; omega
    · have h5 : Hid (ofL zs 0 = some (c0 : Int)) := by rw [← he.out, List.drop_of_length_le (by omega), ofL]; rfl
      clear he
      go_wp2
      go_ret2
      exact ⟨by rw [h5.out]; rfl, rfl⟩

/-- the columns of a set, from the place i on -/
def listR (c : Nat) : Nat → Nat → List Int
  | 0, _ => []
  | f + 1, i => (if inB c i = true then [(i : Int)] else []) ++ listR c f (i + 1)
def listL (c : Nat) : List Int := listR c 16 0
theorem listR_len (c : Nat) : ∀ f i, (listR c f i).length ≤ f
  | 0, _ => Nat.le_refl _
  | f + 1, i => by rw [listR, List.length_append]; have := listR_len c f (i + 1); split <;> simp <;> omega
theorem listR_wf (c : Nat) : ∀ f i, i + f ≤ 16 → ∀ x ∈ listR c f i, 0 ≤ x ∧ x < 16
  | 0, _, _, x, h => by simp [listR] at h
  | f + 1, i, hi, x, h => by
    rw [listR, List.mem_append] at h
    rcases h with h | h
    · split at h
      · simp at h; omega
      · simp at h
    · exact listR_wf c f (i + 1) (by omega) x h
theorem listR_step (c i : Nat) (hi : i < 16) : listR c (16 - i) i = (if inB c i = true then [(i : Int)] else []) ++ listR c (16 - (i + 1)) (i + 1) := by
  rw [show 16 - i = (16 - (i + 1)) + 1 from by omega]; rfl
def LiAt (w : World) (c : Nat) (wr : World) (o : Value) (i : Nat) : Prop :=
  ∃ acc : List Int, acc ++ listR c (16 - i) i = listL c ∧ acc.length ≤ i ∧ wr.ownsRow w.heap.size 3 1 o acc.length (acc.map (Value.int .i64)) ∧ Below w.heap.size w wr
theorem LiAt.skip {w wr : World} {c i : Nat} {o : Value} (h : LiAt w c wr o i) (hi : i < 16) (ho : inB c i = false) : LiAt w c wr o (i + 1) := by
  obtain ⟨acc, h1, h2, h3, h4⟩ := h
  rw [listR_step c i hi, ho, if_neg (by decide), List.nil_append] at h1
  exact ⟨acc, h1, by omega, h3, h4⟩
theorem LiAt.take {w wr w2 : World} {c i : Nat} {o v2 : Value} {acc : List Int} {ob : Obj} (h1 : acc ++ listR c (16 - i) i = listL c) (h2 : acc.length ≤ i) (h3 : wr.ownsRow w.heap.size 3 1 o acc.length (acc.map (Value.int .i64))) (h4 : Below w.heap.size w wr) (hi : i < 16) (ho : inB c i = true)
    (hown : w2.ownsRow w.heap.size 3 1 v2 (acc.length + 1) (acc.map (Value.int .i64) ++ [.int .i64 (i : Int)])) (hg : (wr.alloc ob).grownBy w2 o.ownBlock) : LiAt w c w2 v2 (i + 1) := by
  rw [listR_step c i hi, ho, if_pos rfl, ← List.append_assoc] at h1
  refine ⟨acc ++ [(i : Int)], h1, by simp; omega, by simpa using hown, ?_⟩
  exact (h4.alloc h4.size ob).grown hg (by have := h4.size; simp; omega) (own_ge h3)
/-- what List answers -/
def LiPost (c : Nat) (w : World) (e : Ending) (w' : World) : Prop :=
  ∃ a k, e = .returned (.slice a (listL c).length k) ∧ w'.ownsRow w.heap.size 3 1 (.slice a (listL c).length k) (listL c).length ((listL c).map (Value.int .i64)) ∧ Below w.heap.size w w'
theorem LiAt.fin {w wr : World} {c i : Nat} {o : Value} (h : LiAt w c wr o i) (hi : i = 16) : LiPost c w (.returned o) wr := by
  subst hi
  obtain ⟨acc, h1, h2, h3, h4⟩ := h
  simp [listR] at h1
  subst h1
  obtain ⟨a, k, rfl, _⟩ := own_slice1 h3
  exact ⟨a, k, rfl, h3, h4⟩
theorem LiAt.start (w : World) (c : Nat) : LiAt w c w (.slice none 0 0) 0 := ⟨[], rfl, Nat.le_refl _, World.ownsRow_nil _ _ _ _, Below.refl _ _⟩

set_option maxHeartbeats 2000000 in
theorem rList (c : Nat) (w : World) (hc : c < 65536) : Calls Tryd.prog 26 #[.int .u16 (c : Int)] w (LiPost c w) := by
  obtain ⟨i0, hi0, hz0, hz1, hz2⟩ := info_parts infoInt
  go_enter Tryd.func26, Tryd.ntmps26
  go_wp2
  go_loopw [3, 4] (fun o i wr => ∃ k : Nat, k ≤ 16 ∧ i = .int .i64 k ∧ Hid (LiAt w c wr o k)) (fun _ i _ => 16 - (intOf i).toNat)
  case atStart => exact ⟨0, Nat.zero_le _, rfl, LiAt.start w c⟩
  case round =>
    obtain ⟨k, hk, rfl, hA⟩ := hrel
    by_cases hlt : k < 16
    · cases hin : inB c k with
      | false =>
        have h2 := Lib.hid (hA.out.skip hlt hin)
        replace hin := Lib.hid hin
        clear hA
        go_wp2_with (go_at_call 34; refine (rIn c k _ hc hlt).mono ?_; rintro e w' ⟨he, rfl⟩; rw [hin.out] at he; subst he)
        go_roundw
        case rel => exact ⟨k + 1, by omega, by go_num, h2⟩
        case measure => simp [intOf]; omega
      | true =>
        obtain ⟨acc, h1, h2, h3, h4⟩ := hA.out
        obtain ⟨va, vc, rfl, _⟩ := own_slice1 h3
        replace hin := Lib.hid hin
        replace h1 := Lib.hid h1
        replace h3 := Lib.hid h3
        replace h4 := Lib.hid h4
        clear hA
        go_wp2_with (first
          | (go_at_call 34; refine (rIn c k _ hc hlt).mono ?_; rintro e w' ⟨he, rfl⟩; rw [hin.out] at he; subst he)
          | (at_builtin; refine wpList_append_own _ rfl (.tmp 12) (.tmp 14) 23 rfl w.heap.size 3 i0 (.int .i64 0) 1 8 Tryd.underlying23 hi0 hz0 hz1 hz2 rfl (by decide) _ acc.length _ rfl (h3.out.alloc _) ⟨wr.heap.size, 0, none⟩ 1 1 [.int .i64 (k : Int)] rfl rfl own_cells_one (by intro u hu; simp at hu; subst hu; rfl) (by unfold maxLen; omega) (by omega) (by rw [World.size_alloc]; have := h4.out.size; omega) ?_))
        intro v2 w2 hown hg hv
        have hA2 := Lib.hid (LiAt.take h1.out h2 h3.out h4.out hlt hin.out hown hg)
        clear hown hg hv
        go_wp2
        go_roundw
        case rel => exact ⟨k + 1, by omega, by go_num, hA2⟩
        case measure => simp [intOf]; omega
    · have hfin := Lib.hid (hA.out.fin (by omega))
      clear hA
      go_wp2
      go_ret
      exact hfin.out

set_option maxHeartbeats 2000000 in
theorem list_any (c : Nat) (w : World) (hc : c < 65536) : Calls Tryd.prog 25 #[.int .u16 (c : Int)] w (LiPost c w) := by
  obtain ⟨i0, hi0, hz0, hz1, hz2⟩ := info_parts infoInt
  go_enter Tryd.func25, Tryd.ntmps25
  go_wp2
  go_loopw [3, 4, 5] (fun o x i wr => ∃ k : Nat, k ≤ 16 ∧ i = .int .i64 k ∧ Hid (LiAt w c wr o k)) (fun _ _ i _ => 16 - (intOf i).toNat)
  case atStart => exact ⟨0, Nat.zero_le _, rfl, LiAt.start w c⟩
  case round =>
    obtain ⟨k, hk, rfl, hA⟩ := hrel
    by_cases hlt : k < 16
    · have hd : c / 2 ^ k ≤ c := Nat.div_le_self _ _
      have hct : (bits .and .u16 ((c : Int) / 2 ^ k) 1 == 1) = inB c k := by
        have e : (c : Int) / 2 ^ k = ((c / 2 ^ k : Nat) : Int) := by simp
        rw [e, cut_test (by omega)]; rfl
      cases hin : inB c k with
      | false =>
        rw [hin] at hct
        have h2 := Lib.hid (hA.out.skip hlt hin)
        clear hA hin hd
        go_wp2
        go_roundw
        case rel => exact ⟨k + 1, by omega, by go_num, h2⟩
        case measure => simp [intOf]; omega
      | true =>
        rw [hin] at hct
        obtain ⟨acc, h1, h2, h3, h4⟩ := hA.out
        obtain ⟨va, vc, rfl, _⟩ := own_slice1 h3
        replace hin := Lib.hid hin
        replace h1 := Lib.hid h1
        replace h3 := Lib.hid h3
        replace h4 := Lib.hid h4
        clear hA hd
        go_wp2_with (first
          | (at_builtin; refine wpList_append_own _ rfl (.tmp 13) (.tmp 15) 23 rfl w.heap.size 3 i0 (.int .i64 0) 1 8 Tryd.underlying23 hi0 hz0 hz1 hz2 rfl (by decide) _ acc.length _ rfl (h3.out.alloc _) ⟨wr.heap.size, 0, none⟩ 1 1 [.int .i64 (k : Int)] rfl rfl own_cells_one (by intro u hu; simp at hu; subst hu; rfl) (by unfold maxLen; omega) (by omega) (by rw [World.size_alloc]; have := h4.out.size; omega) ?_))
        intro v2 w2 hown hg hv
        have hA2 := Lib.hid (LiAt.take h1.out h2 h3.out h4.out hlt hin.out hown hg)
        clear hown hg hv
        go_wp2
        go_roundw
        case rel => exact ⟨k + 1, by omega, by go_num, hA2⟩
        case measure => simp [intOf]; omega
    · have hfin := Lib.hid (hA.out.fin (by omega))
      clear hA
      go_wp2
      go_ret
      exact hfin.out

end Go.Proofs.YtgndogoaenlchaaDoor
