/- TupleCuts: cuts and agreement, the program's and the reference's. -/
import Derived.Test.YtgndogoaenlchaaDoorProg
import Derived.Test.YtgndogoaenlchaaDoorBase
import Derived.Test.YtgndogoaenlchaaDoorKit
import Derived.Test.YtgndogoaenlchaaDoorLend
import Derived.Test.YtgndogoaenlchaaDoorCut
import Derived.Test.YtgndogoaenlchaaDoorKeys
import Derived.Test.YtgndogoaenlchaaDoorCols
import Derived.Test.YtgndogoaenlchaaDoorLawKeys
import Derived.Test.YtgndogoaenlchaaDoorBook3
import Derived.Test.YtgndogoaenlchaaDoorLawCols
namespace Go.Proofs.YtgndogoaenlchaaDoor
open Go.RowKit

theorem cutR_len (zs : List Int) : ∀ f i c, (cutR zs f i c).length ≤ f
  | 0, _, _ => Nat.le_refl _
  | f + 1, i, c => by rw [cutR, List.length_append]; have := cutR_len zs f (i + 1) (c / 2); split <;> simp <;> omega
theorem div_next (c i : Nat) : c / 2 ^ i / 2 = c / 2 ^ (i + 1) := by rw [Nat.div_div_eq_div_mul, Nat.pow_succ]
theorem cut_list (zs : List Int) (c : Nat) : ∀ f i, cutR zs f i (c / 2 ^ i) = (listR c f i).map (fun x => nth zs x.toNat)
  | 0, _ => rfl
  | f + 1, i => by
    rw [cutR, listR, List.map_append, div_next, cut_list zs c f (i + 1)]
    unfold inB
    by_cases h : c / 2 ^ i % 2 = 1 <;> simp [h]
theorem cutL_list (zs : List Int) (c : Nat) : cutL zs c = (listL c).map (fun x => nth zs x.toNat) := by
  have := cut_list zs c 16 0
  simpa [cutL, listL] using this
theorem listR_mem (c : Nat) : ∀ f i j, i ≤ j → j < i + f → inB c j = true → (j : Int) ∈ listR c f i
  | 0, _, _, _, _, _ => by omega
  | f + 1, i, j, h1, h2, h => by
    rw [listR, List.mem_append]
    by_cases e : j = i
    · subst e; left; rw [if_pos h]; simp
    · right; exact listR_mem c f (i + 1) j (by omega) (by omega) h
theorem listR_bit (c : Nat) : ∀ f i (x : Int), x ∈ listR c f i → ∃ j : Nat, x = (j : Int) ∧ inB c j = true
  | 0, _, _, h => by simp [listR] at h
  | f + 1, i, x, h => by
    rw [listR, List.mem_append] at h
    rcases h with h | h
    · split at h
      · rename_i hb; simp at h; exact ⟨i, h, hb⟩
      · simp at h
    · exact listR_bit c f (i + 1) x h
theorem inB_test (c j : Nat) : inB c j = c.testBit j := by unfold inB; rw [Nat.testBit_eq_decide_div_mod_eq]
theorem list_fits (c n : Nat) (hc : c < 65536) : (∀ x ∈ listL c, x < (n : Int)) ↔ c < 2 ^ n := by
  constructor
  · intro h
    refine Nat.lt_pow_two_of_testBit c fun j hj => ?_
    by_cases hb : c.testBit j = true
    · have hj16 : j < 16 := by
        rcases Nat.lt_or_ge j 16 with h1 | h1
        · exact h1
        · have := Nat.testBit_lt_two_pow (show c < 2 ^ j from Nat.lt_of_lt_of_le (show c < 2 ^ 16 from hc) (Nat.pow_le_pow_right (by omega) h1))
          rw [this] at hb; cases hb
      have := h j (listR_mem c 16 0 j (by omega) (by omega) (by rw [inB_test]; exact hb))
      omega
    · simpa using hb
  · intro h x hx
    obtain ⟨j, rfl, hb⟩ := listR_bit c 16 0 x hx
    rw [inB_test] at hb
    rcases Nat.lt_or_ge j n with h1 | h1
    · omega
    · have := Nat.testBit_lt_two_pow (show c < 2 ^ j from Nat.lt_of_lt_of_le h (Nat.pow_le_pow_right (by omega) h1))
      rw [this] at hb; cases hb

def cutO (zs : List Int) (c : Nat) : List Int := if c < 2 ^ zs.length then cutL zs c else []
def cutN (zs : List Int) (c : Nat) : Int := if c < 2 ^ zs.length then 0 else 2
theorem cutO_len (zs : List Int) (c : Nat) : (cutO zs c).length ≤ 16 := by
  unfold cutO; split
  · exact cutR_len zs 16 0 c
  · simp
theorem cutO_wf (zs : List Int) (c : Nat) (h : ∀ i, i < zs.length → IntKind.i64.wrap (nth zs i) = nth zs i) : ∀ i, i < (cutO zs c).length → IntKind.i64.wrap (nth (cutO zs c) i) = nth (cutO zs c) i := by
  intro i hi
  have hm := nth_mem (cutO zs c) i hi
  generalize nth (cutO zs c) i = z at hm
  unfold cutO at hm
  split at hm
  · rw [cutL_list] at hm
    obtain ⟨x, _, rfl⟩ := List.mem_map.1 hm
    rcases Nat.lt_or_ge x.toNat zs.length with h2 | h2
    · exact h _ h2
    · rw [nth_beyond zs _ h2]; rfl
  · cases hm
def CuPost (zs : List Int) (c : Nat) (w : World) (e : Ending) (w' : World) : Prop :=
  ∃ a k, e = .returned (.tuple #[.slice a (cutO zs c).length k, .int .i64 (cutN zs c)]) ∧ w'.ownsRow w.heap.size 3 1 (.slice a (cutO zs c).length k) (cutO zs c).length ((cutO zs c).map (Value.int .i64)) ∧ Below w.heap.size w w'

set_option maxHeartbeats 1000000 in
theorem cut_all (a : Option Addr) (cap : Nat) (zs : List Int) (c : Nat) (w : World) (ha : Ints .i64 w a zs) (hc : c < 65536) :
    Calls Tryd.prog 19 #[.slice a zs.length cap, .int .u16 c] w (CuPost zs c w) := by
  by_cases hlen : c < 2 ^ zs.length
  · refine (cut_ok a cap zs c w ha hc hlen).mono ?_
    rintro e w' ⟨v, rfl, h1, h2⟩
    have e1 : cutO zs c = cutL zs c := by unfold cutO; rw [if_pos hlen]
    have e2 : cutN zs c = 0 := by unfold cutN; rw [if_pos hlen]
    obtain ⟨a, k, rfl, _⟩ := own_slice1 h1
    exact ⟨a, k, by rw [e1, e2], by rw [e1]; exact h1, h2⟩
  · have hpost : CuPost zs c w (.returned (.tuple #[.slice none 0 0, .int .i64 2])) w := by
      have e1 : cutO zs c = [] := by unfold cutO; rw [if_neg hlen]
      have e2 : cutN zs c = 2 := by unfold cutN; rw [if_neg hlen]
      refine ⟨none, 0, by rw [e1, e2]; rfl, ?_, Below.refl _ _⟩
      rw [e1]; exact World.ownsRow_nil _ _ _ _
    have h16 : zs.length < 16 := by
      rcases Nat.lt_or_ge zs.length 16 with h | h
      · exact h
      · exact absurd (Nat.lt_of_lt_of_le (show c < 2 ^ 16 from hc) (Nat.pow_le_pow_right (by omega) h)) hlen
    have gd : ((c : Int) / 2 ^ zs.length != 0) = true := by
      have e : (c : Int) / 2 ^ zs.length = ((c / 2 ^ zs.length : Nat) : Int) := by simp
      have hq : 0 < c / 2 ^ zs.length := Nat.div_pos (by omega) (Nat.two_pow_pos _)
      rw [e, bne_iff_ne]; omega
    have g2 : decide ((zs.length : Int) < 16) = true := decide_eq_true (by omega)
    have hm := ha.len
    have hpost := Lib.hid hpost
    clear hlen
    go_enter Tryd.func19, Tryd.ntmps19
    go_wp2_with fail
    go_ret2
    exact hpost.out

def RcAt (w : World) (zs : List Int) (c : Nat) (wr : World) (o : Value) (j : Nat) : Prop :=
  (∀ x ∈ (listL c).take j, x < (zs.length : Int)) ∧ wr.ownsRow w.heap.size 3 1 o j (((listL c).take j).map (fun x => Value.int .i64 (nth zs x.toNat))) ∧ Below w.heap.size w wr
theorem take_next (l : List Int) (j : Nat) (h : j < l.length) : l.take (j + 1) = l.take j ++ [nth l j] := by
  have : nth l j = l[j] := by simp [nth, List.getD_eq_getElem?_getD, h]
  rw [this, List.take_succ_eq_append_getElem h]

set_option maxHeartbeats 2000000 in
theorem rCut (a : Option Addr) (cap : Nat) (zs : List Int) (c : Nat) (w : World) (ha : Ints .i64 w a zs) (hc : c < 65536) :
    Calls Tryd.prog 20 #[.slice a zs.length cap, .int .u16 c] w (CuPost zs c w) := by
  have hm := ha.len
  obtain ⟨i0, hi0, hz0, hz1, hz2⟩ := info_parts infoInt
  obtain ⟨n1, hn1⟩ : ∃ n, n = (listL c).length := ⟨_, rfl⟩
  have hn1b : n1 ≤ 16 := by rw [hn1]; exact listL_len c
  replace hn1 := Lib.hid hn1
  go_enter Tryd.func20, Tryd.ntmps20
  go_wp2_with fail
  refine (rList c w hc).mono ?_
  rintro e w1 ⟨ga, k1, rfl, own1, hb1⟩
  rw [← hn1.out] at own1 ⊢
  have i1 : Ints .i64 w1 ga (listL c) := Ints.ofOwn own1 (by have := listL_len c; omega) (listL_wf c)
  have hz1' := hb1.size
  have hb1h := Lib.hid hb1
  have ha1 := ha.below hb1
  clear own1 hb1
  go_wp2
  go_loopw [7, 8] (fun o i wr => ∃ j : Nat, j ≤ n1 ∧ i = .int .i64 j ∧ Hid (RcAt w1 zs c wr o j)) (fun _ i _ => n1 - (intOf i).toNat)
  case atStart => exact ⟨0, Nat.zero_le _, rfl, by intro x h; simp at h, World.ownsRow_nil _ _ _ _, Below.refl _ _⟩
  case round =>
    obtain ⟨j, hj, rfl, hA⟩ := hrel
    by_cases hlt : j < n1
    · obtain ⟨h1, h3, h4⟩ := hA.out
      have i2 := i1.below h4
      obtain ⟨b, off, rfl, hcell⟩ := i2.cells j (by rw [← hn1.out]; exact hlt)
      have hx := listR_wf c 16 0 (by omega) _ (nth_mem (listL c) j (by rw [← hn1.out]; exact hlt))
      have hsx := take_next (listL c) j (by rw [← hn1.out]; exact hlt)
      have hmx := nth_mem (listL c) j (by rw [← hn1.out]; exact hlt)
      obtain ⟨x, hx2⟩ : ∃ x : Nat, nth (listL c) j = (x : Int) := ⟨(nth (listL c) j).toNat, by omega⟩
      rw [hx2] at hcell hx hsx hmx
      obtain ⟨va, vc, rfl, _⟩ := own_slice1 h3
      replace h1 := Lib.hid h1
      replace h3 := Lib.hid h3
      replace h4 := Lib.hid h4
      replace hsx := Lib.hid hsx
      replace hmx := Lib.hid hmx
      clear hA hx2 i2
      by_cases hin : x < zs.length
      · have ha2 := ha1.below h4.out
        obtain ⟨b2, off2, rfl, hcell2⟩ := ha2.cells x hin
        clear ha2
        go_wp2_with (first
          | (at_builtin; refine wpList_append_own _ rfl (.tmp 24) (.tmp 32) 23 rfl w1.heap.size 3 i0 (.int .i64 0) 1 8 Tryd.underlying23 hi0 hz0 hz1 hz2 rfl (by decide) _ j _ rfl (h3.out.alloc _) ⟨wr.heap.size, 0, none⟩ 1 1 [.int .i64 (nth zs x)] rfl rfl own_cells_one (by intro u hu; simp at hu; subst hu; rfl) (by unfold maxLen; omega) (by omega) (by rw [World.size_alloc]; have := h4.out.size; omega) ?_))
        intro v2 w2 hown hg hv
        have hA2 : Hid (RcAt w1 zs c w2 v2 (j + 1)) := by
          refine ⟨?_, ?_, ?_⟩
          · rw [hsx.out]; intro y hy; rw [List.mem_append] at hy
            rcases hy with hy | hy
            · exact h1.out y hy
            · simp at hy; subst hy; omega
          · rw [hsx.out]; simpa using hown
          · exact (h4.out.alloc h4.out.size _).grown hg (by have := h4.out.size; simp; omega) (own_ge h3.out)
        clear hown hg hv
        go_wp2
        go_roundw
        case rel => exact ⟨j + 1, by omega, by go_num, hA2⟩
        case measure => simp [intOf]; omega
      · have hfin : Hid (CuPost zs c w (.returned (.tuple #[.slice none 0 0, .int .i64 2])) wr) := by
          have hbad : ¬ c < 2 ^ zs.length := fun h => by have := (list_fits c zs.length hc).2 h _ hmx.out; omega
          have e1 : cutO zs c = [] := by unfold cutO; rw [if_neg hbad]
          have e2 : cutN zs c = 2 := by unfold cutN; rw [if_neg hbad]
          refine ⟨none, 0, by rw [e1, e2]; rfl, ?_, hb1h.out.trans (h4.out.mono hz1')⟩
          rw [e1]; exact World.ownsRow_nil _ _ _ _
        go_wp2
        go_ret2
        exact hfin.out
    · have hjn : j = n1 := by omega
      subst hjn
      obtain ⟨va, vc, rfl, _⟩ := own_slice1 hA.out.2.1
      have hfin : Hid (CuPost zs c w (.returned (.tuple #[.slice va j vc, .int .i64 0])) wr) := by
        obtain ⟨h1, h3, h4⟩ := hA.out
        have htk : (listL c).take j = listL c := List.take_of_length_le (by rw [hn1.out]; exact Nat.le_refl _)
        rw [htk] at h1 h3
        have hgood := (list_fits c zs.length hc).1 h1
        have e1 : cutO zs c = cutL zs c := by unfold cutO; rw [if_pos hgood]
        have e2 : cutN zs c = 0 := by unfold cutN; rw [if_pos hgood]
        have el : (cutL zs c).length = j := by rw [cutL_list, List.length_map, hn1.out]
        refine ⟨va, vc, by rw [e1, e2, el], ?_, hb1h.out.trans (h4.mono hz1')⟩
        rw [e1, el, cutL_list, List.map_map]
        exact own_lower h3 hz1'
      clear hA
      go_wp2
      go_ret2
      exact hfin.out

/-- do two tuples agree at a column -/
def agP (zs ys : List Int) (x : Int) : Bool := decide (x < zs.length) && (decide (x < ys.length) && decide (nth zs x.toNat = nth ys x.toNat))
def agL (zs ys : List Int) (c : Nat) : Bool := (listL c).all (agP zs ys)
theorem listR_none (c : Nat) : ∀ f i, c / 2 ^ i = 0 → listR c f i = []
  | 0, _, _ => rfl
  | f + 1, i, h => by
    rw [listR, listR_none c f (i + 1) (by rw [← div_next, h])]
    unfold inB; rw [h]; simp
theorem agP_no {zs ys : List Int} {i : Nat} (h : ¬ (i < zs.length ∧ i < ys.length ∧ nth zs i = nth ys i)) : agP zs ys (i : Int) = false := by
  unfold agP
  rw [Int.toNat_natCast]
  by_cases h1 : i < zs.length
  · by_cases h2 : i < ys.length
    · by_cases h3 : nth zs i = nth ys i
      · exact absurd ⟨h1, h2, h3⟩ h
      · simp [h3]
    · simp; omega
  · simp; omega
theorem agP_yes {zs ys : List Int} {i : Nat} (h1 : i < zs.length) (h2 : i < ys.length) (h3 : nth zs i = nth ys i) : agP zs ys (i : Int) = true := by
  unfold agP
  rw [Int.toNat_natCast]
  simp [h1, h2, h3]
def AgAt (zs ys : List Int) (c i : Nat) : Prop := (listR c (16 - i) i).all (agP zs ys) = agL zs ys c
theorem AgAt.skip {zs ys : List Int} {c i : Nat} (h : AgAt zs ys c i) (hi : i < 16) (hb : inB c i = false) : AgAt zs ys c (i + 1) := by
  unfold AgAt at h ⊢
  rw [listR_step c i hi, hb] at h
  simpa using h
theorem AgAt.good {zs ys : List Int} {c i : Nat} (h : AgAt zs ys c i) (hi : i < 16) (hb : inB c i = true) (hp : agP zs ys (i : Int) = true) : AgAt zs ys c (i + 1) := by
  unfold AgAt at h ⊢
  rw [listR_step c i hi, hb, List.all_append] at h
  simpa [hp] using h
theorem AgAt.bad {zs ys : List Int} {c i : Nat} (h : AgAt zs ys c i) (hi : i < 16) (hb : inB c i = true) (hp : agP zs ys (i : Int) = false) : agL zs ys c = false := by
  unfold AgAt at h
  rw [listR_step c i hi, hb, List.all_append] at h
  rw [← h]; simp [hp]
theorem AgAt.fin {zs ys : List Int} {c i : Nat} (h : AgAt zs ys c i) (hz : c / 2 ^ i = 0) : agL zs ys c = true := by
  unfold AgAt at h
  rw [listR_none c _ _ hz] at h
  exact h.symm
theorem Drawn.n {w w' : World} (h : Drawn w w') : ∃ n, w' = w.drewN n := h

set_option maxHeartbeats 2000000 in
theorem agree_all (a b : Option Addr) (ca cb : Nat) (zs ys : List Int) (c : Nat) (w : World) (ha : Ints .i64 w a zs) (hb : Ints .i64 w b ys) (hc : c < 65536) :
    Calls Tryd.prog 21 #[.slice a zs.length ca, .slice b ys.length cb, .int .u16 c] w fun e w' => e = .returned (.bool (agL zs ys c)) ∧ Drawn w w' := by
  have hm := ha.len
  have hn := hb.len
  go_enter Tryd.func21, Tryd.ntmps21
  go_wp2
  go_loopw [2, 7] (fun s2 s7 wr => ∃ (i ci : Nat), i ≤ 16 ∧ s7 = .int .i64 i ∧ s2 = .int .u16 ci ∧ ci < 65536 ∧ Hid (ci = c / 2 ^ i) ∧ Hid (AgAt zs ys c i) ∧ Drawn w wr) (fun _ s7 _ => 16 - (intOf s7).toNat)
  case atStart => exact ⟨0, c, by omega, rfl, rfl, hc, by show _ = _; simp, rfl, Drawn.refl _⟩
  case round =>
    obtain ⟨i, ci, hi16, rfl, rfl, hci, hce, hA, ⟨nd, rfl⟩⟩ := hrel
    by_cases hz : ci = 0
    · have g3 : ((ci : Int) != 0) = false := by simp [hz]
      have hfin := Lib.hid (hA.out.fin (by rw [← hce.out]; exact hz))
      clear hz hA hce
      go_wp2
      go_ret
      exact ⟨ret_bool hfin.out.symm, by (repeat (refine Drawn.step ?_ _)); exact Drawn.refl _⟩
    · have g3 : ((ci : Int) != 0) = true := by simp [hz]
      have hlt : i < 16 := cut_lt hz (by rw [hce.out]; exact Nat.div_mul_le_self _ _) (show c < 2 ^ 16 from hc)
      have hce2 : Hid (ci / 2 = c / 2 ^ (i + 1)) := by show _ = _; rw [hce.out, div_next]
      by_cases ho : ci % 2 = 1
      · have g4 : (bits .and .u16 (ci : Int) 1 == 1) = true := by rw [cut_test hci]; simp [ho]
        have hin : inB c i = true := by unfold inB; rw [← hce.out]; simp [ho]
        by_cases hi1 : i < zs.length
        · have n1 : decide (zs.length ≤ i) = false := decide_eq_false (by omega)
          by_cases hi2 : i < ys.length
          · have n2 : decide (ys.length ≤ i) = false := decide_eq_false (by omega)
            obtain ⟨b1, off1, rfl, hcell1⟩ := ha.cells i (by omega)
            obtain ⟨b2, off2, rfl, hcell2⟩ := hb.cells i (by omega)
            by_cases hd : nth zs i = nth ys i
            · have g5 : (nth zs i != nth ys i) = false := by simp [hd]
              have hA2 := Lib.hid (hA.out.good hlt hin (agP_yes (by omega) (by omega) hd))
              clear hz hA hce ho hin hd
              go_wp2
              go_quiet (fail)
              go_wp2
              go_roundw
              case rel => exact ⟨i + 1, ci / 2, by omega, by go_num, by first | rfl | go_num, by omega, hce2, hA2, by (repeat (refine Drawn.step ?_ _)); exact Drawn.refl _⟩
              case measure => simp [intOf]; omega
            · have g5 : (nth zs i != nth ys i) = true := by simp [hd]
              have hfin := Lib.hid (hA.out.bad hlt hin (agP_no (fun h => hd h.2.2)))
              clear hz hA hce ho hin hd
              go_wp2
              go_quiet (fail)
              go_wp2
              go_ret
              exact ⟨ret_bool hfin.out.symm, by (repeat (refine Drawn.step ?_ _)); exact Drawn.refl _⟩
          · have n2 : decide (ys.length ≤ i) = true := decide_eq_true (by omega)
            have hfin := Lib.hid (hA.out.bad hlt hin (agP_no (fun h => hi2 (by omega))))
            clear hz hA hce ho hin
            go_wp2
            go_quiet (fail)
            go_wp2
            go_ret
            exact ⟨ret_bool hfin.out.symm, by (repeat (refine Drawn.step ?_ _)); exact Drawn.refl _⟩
        · have n1 : decide (zs.length ≤ i) = true := decide_eq_true (by omega)
          have hfin := Lib.hid (hA.out.bad hlt hin (agP_no (fun h => hi1 (by omega))))
          clear hz hA hce ho hin
          go_wp2
          go_quiet (fail)
          go_wp2
          go_ret
          exact ⟨ret_bool hfin.out.symm, by (repeat (refine Drawn.step ?_ _)); exact Drawn.refl _⟩
      · have g4 : (bits .and .u16 (ci : Int) 1 == 1) = false := by rw [cut_test hci]; simp [ho]
        have hin : inB c i = false := by unfold inB; rw [← hce.out]; simp [ho]
        have hA2 := Lib.hid (hA.out.skip hlt hin)
        clear hz hA hce ho hin
        go_wp2
        go_quiet (fail)
        go_wp2
        go_roundw
        case rel => exact ⟨i + 1, ci / 2, by omega, by go_num, by first | rfl | go_num, by omega, hce2, hA2, by (repeat (refine Drawn.step ?_ _)); exact Drawn.refl _⟩
        case measure => simp [intOf]; omega

def RaAt (zs ys : List Int) (c j : Nat) : Prop := ((listL c).drop j).all (agP zs ys) = agL zs ys c
theorem RaAt.good {zs ys : List Int} {c j x : Nat} (h : RaAt zs ys c j) (hd : (listL c).drop j = (x : Int) :: (listL c).drop (j + 1)) (hp : agP zs ys (x : Int) = true) : RaAt zs ys c (j + 1) := by
  unfold RaAt at h ⊢
  rw [hd] at h
  simpa [hp] using h
theorem RaAt.bad {zs ys : List Int} {c j x : Nat} (h : RaAt zs ys c j) (hd : (listL c).drop j = (x : Int) :: (listL c).drop (j + 1)) (hp : agP zs ys (x : Int) = false) : agL zs ys c = false := by
  unfold RaAt at h
  rw [hd] at h
  rw [← h]; simp [hp]

set_option maxHeartbeats 2000000 in
theorem rAgree (a b : Option Addr) (ca cb : Nat) (zs ys : List Int) (c : Nat) (w : World) (ha0 : Ints .i64 w a zs) (hb0 : Ints .i64 w b ys) (hc : c < 65536) :
    Calls Tryd.prog 22 #[.slice a zs.length ca, .slice b ys.length cb, .int .u16 c] w fun e w' => e = .returned (.bool (agL zs ys c)) ∧ Below w.heap.size w w' := by
  have hm := ha0.len
  have hn := hb0.len
  obtain ⟨n1, hn1⟩ : ∃ n, n = (listL c).length := ⟨_, rfl⟩
  have hn1b : n1 ≤ 16 := by rw [hn1]; exact listL_len c
  replace hn1 := Lib.hid hn1
  go_enter Tryd.func22, Tryd.ntmps22
  go_wp2_with fail
  refine (rList c w hc).mono ?_
  rintro e w1 ⟨ga, k1, rfl, own1, hb1⟩
  rw [← hn1.out] at own1 ⊢
  have i1 : Ints .i64 w1 ga (listL c) := Ints.ofOwn own1 (by have := listL_len c; omega) (listL_wf c)
  have ha := ha0.below hb1
  have hb := hb0.below hb1
  have hb1h := Lib.hid hb1
  clear own1 hb1 ha0 hb0
  go_wp2
  go_loopw [8] (fun i wr => ∃ j : Nat, j ≤ n1 ∧ i = .int .i64 j ∧ Hid (RaAt zs ys c j) ∧ Drawn w1 wr) (fun i _ => n1 - (intOf i).toNat)
  case atStart => exact ⟨0, Nat.zero_le _, rfl, rfl, Drawn.refl _⟩
  case round =>
    obtain ⟨j, hj, rfl, hA, ⟨nd, rfl⟩⟩ := hrel
    by_cases hlt : j < n1
    · obtain ⟨b0, off0, rfl, hcell⟩ := i1.cells j (by rw [← hn1.out]; exact hlt)
      have hx := listR_wf c 16 0 (by omega) _ (nth_mem (listL c) j (by rw [← hn1.out]; exact hlt))
      have hdr := drop_nth (listL c) j (by rw [← hn1.out]; exact hlt)
      obtain ⟨x, hx2⟩ : ∃ x : Nat, nth (listL c) j = (x : Int) := ⟨(nth (listL c) j).toNat, by omega⟩
      rw [hx2] at hcell hx hdr
      clear hx2
      by_cases hi1 : x < zs.length
      · have n1' : decide (zs.length ≤ x) = false := decide_eq_false (by omega)
        obtain ⟨b1, off1, rfl, hcell1⟩ := ha.cells x hi1
        by_cases hi2 : x < ys.length
        · have n2' : decide (ys.length ≤ x) = false := decide_eq_false (by omega)
          obtain ⟨b2, off2, rfl, hcell2⟩ := hb.cells x hi2
          by_cases hd : nth zs x = nth ys x
          · have g5 : (nth zs x != nth ys x) = false := by simp [hd]
            have hA2 := Lib.hid (hA.out.good hdr (agP_yes hi1 hi2 hd))
            clear hA hdr hd
            go_wp2
            go_quiet (fail)
            go_wp2
            go_roundw
            case rel => exact ⟨j + 1, by omega, by go_num, hA2, by (repeat (refine Drawn.step ?_ _)); exact Drawn.refl _⟩
            case measure => simp [intOf]; omega
          · have g5 : (nth zs x != nth ys x) = true := by simp [hd]
            have hfin := Lib.hid (hA.out.bad hdr (agP_no (fun h => hd h.2.2)))
            clear hA hdr hd
            go_wp2
            go_quiet (fail)
            go_wp2
            go_ret
            refine ⟨ret_bool hfin.out.symm, ?_⟩
            have hdd : Drawn w1 ((w1.drewN nd).drewN nq) := by (repeat (refine Drawn.step ?_ _)); exact Drawn.refl _
            exact hb1h.out.trans ((hdd.below _).mono hb1h.out.size)
        · have n2' : decide (ys.length ≤ x) = true := decide_eq_true (by omega)
          have hfin := Lib.hid (hA.out.bad hdr (agP_no (fun h => hi2 h.2.1)))
          clear hA hdr
          go_wp2
          go_quiet (fail)
          go_wp2
          go_ret
          refine ⟨ret_bool hfin.out.symm, ?_⟩
          have hdd : Drawn w1 ((w1.drewN nd).drewN nq) := by (repeat (refine Drawn.step ?_ _)); exact Drawn.refl _
          exact hb1h.out.trans ((hdd.below _).mono hb1h.out.size)
      · have n1' : decide (zs.length ≤ x) = true := decide_eq_true (by omega)
        have hfin := Lib.hid (hA.out.bad hdr (agP_no (fun h => hi1 h.1)))
        clear hA hdr
        go_wp2
        go_quiet (fail)
        go_wp2
        go_ret
        refine ⟨ret_bool hfin.out.symm, ?_⟩
        have hdd : Drawn w1 ((w1.drewN nd).drewN nq) := by (repeat (refine Drawn.step ?_ _)); exact Drawn.refl _
        exact hb1h.out.trans ((hdd.below _).mono hb1h.out.size)
    · have hfin : Hid (agL zs ys c = true) := by
        have h := hA.out
        unfold RaAt at h
        rw [List.drop_of_length_le (by rw [← hn1.out]; omega)] at h
        exact h.symm
      clear hA
      go_wp2
      go_ret
      refine ⟨ret_bool hfin.out.symm, ?_⟩
      have hdd : Drawn w1 (w1.drewN nd) := by (repeat (refine Drawn.step ?_ _)); exact Drawn.refl _
      exact hb1h.out.trans ((hdd.below _).mono hb1h.out.size)

/-- they agree just if they have these columns and their cuts are alike -/
theorem agree_cuts (zs ys : List Int) (c : Nat) (hc : c < 65536) : agL zs ys c = (decide (cutN zs c = 0) && (decide (cutN ys c = 0) && eqB (cutO zs c) (cutO ys c))) := by
  have hz := list_fits c zs.length hc
  have hy := list_fits c ys.length hc
  have nz : decide (cutN zs c = 0) = decide (c < 2 ^ zs.length) := by unfold cutN; by_cases h : c < 2 ^ zs.length <;> simp [h]
  have ny : decide (cutN ys c = 0) = decide (c < 2 ^ ys.length) := by unfold cutN; by_cases h : c < 2 ^ ys.length <;> simp [h]
  rw [nz, ny, Bool.eq_iff_iff]
  simp only [Bool.and_eq_true, decide_eq_true_eq]
  have hall : agL zs ys c = true ↔ ∀ x ∈ listL c, x < zs.length ∧ x < ys.length ∧ nth zs x.toNat = nth ys x.toNat := by
    unfold agL agP
    rw [List.all_eq_true]
    simp only [Bool.and_eq_true, decide_eq_true_eq]
  rw [hall]
  constructor
  · intro h
    have h1 := hz.1 (fun x hx => (h x hx).1)
    have h2 := hy.1 (fun x hx => (h x hx).2.1)
    refine ⟨h1, h2, ?_⟩
    unfold eqB cutO
    rw [if_pos h1, if_pos h2, cutL_list, cutL_list]
    exact decide_eq_true (List.map_congr_left fun x hx => (h x hx).2.2)
  · rintro ⟨h1, h2, h3⟩ x hx
    refine ⟨hz.2 h1 x hx, hy.2 h2 x hx, ?_⟩
    unfold eqB cutO at h3
    rw [if_pos h1, if_pos h2, cutL_list, cutL_list] at h3
    exact List.map_inj_left.1 (of_decide_eq_true h3) x hx

end Go.Proofs.YtgndogoaenlchaaDoor
