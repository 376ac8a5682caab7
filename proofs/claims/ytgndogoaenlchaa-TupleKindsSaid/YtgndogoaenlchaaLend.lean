/- lend, kept: numbers in new memory with marks behind them. -/
import Derived.Test.YtgndogoaenlchaaRows
import Derived.Test.YtgndogoaenlchaaBase
import Derived.Test.YtgndogoaenlchaaKit
namespace Go.Proofs.Ytgndogoaenlchaa
open Go.RowKit

theorem infoInt : (Try.prog.info? 3).map (fun i => (i.zero, i.size, i.bytes)) = some (some (.int .i64 0), 1, 8) := by kernel_rfl

def mark (i : Nat) : Int := -70 - (i : Int)
def marks (n : Nat) : List Int := (List.range n).map mark
theorem marks_succ (n : Nat) : marks (n + 1) = marks n ++ [mark n] := by simp [marks, List.range_succ]
theorem marks_length (n : Nat) : (marks n).length = n := by simp [marks]
theorem nth_marks (zs : List Int) (i : Nat) (h : i < 9) : nth (zs ++ marks 9) (zs.length + i) = -70 - (i : Int) := by
  rw [nth_eq _ _ (by simp [marks_length]; omega)]
  simp [marks, mark]

/-- what lend made: the numbers, and nine marks behind them, in a block from B on. -/
def Lent (B : Nat) (w : World) (g c : Nat) (zs : List Int) : Prop :=
  w.ownsRow B 3 1 (.slice (some ⟨g, 0, none⟩) (zs.length + 9) c) (zs.length + 9) ((zs ++ marks 9).map (Value.int .i64))

theorem lend_step {w wr w2 : World} {o v2 : Value} {zs : List Int} {k : Nat} (_hk : k < 9)
    (hR : wr.ownsRow w.heap.size 3 1 o (zs.length + k) ((zs ++ marks k).map (Value.int .i64)) ∧ o ≠ .slice none 0 0 ∧ Below w.heap.size w wr)
    {ob : Obj} (hown : w2.ownsRow w.heap.size 3 1 v2 (zs.length + k + 1) (zs.map (Value.int .i64) ++ ((marks k).map (Value.int .i64) ++ [.int .i64 (-70 - (k : Int))])))
    (hgrow : (wr.alloc ob).grownBy w2 o.ownBlock) (hv : v2 ≠ .slice none 0 0) :
    w2.ownsRow w.heap.size 3 1 v2 (zs.length + (k + 1)) ((zs ++ marks (k + 1)).map (Value.int .i64)) ∧ v2 ≠ .slice none 0 0 ∧ Below w.heap.size w w2 := by
  refine ⟨?_, hv, ?_⟩
  · rw [marks_succ, List.map_append, List.map_append]; exact hown
  · exact (hR.2.2.alloc hR.2.2.size ob).grown hgrow (by have := hR.2.2.size; simp; omega) (own_ge hR.1)

set_option maxHeartbeats 1000000 in
theorem lend_any (a : Option Addr) (cap : Nat) (zs : List Int) (w : World) (ha : Ints .i64 w a zs) (hnil : a = none → zs = [] ∧ cap = 0) :
    Calls Try.prog 6 #[.slice a zs.length cap] w fun e w' => ∃ g c, e = .returned (.slice (some ⟨g, 0, none⟩) zs.length c) ∧ zs.length + 9 ≤ c ∧ c ≤ maxLen ∧ Lent w.heap.size w' g c zs ∧ Below w.heap.size w w' := by
  have hm := ha.len
  obtain ⟨i0, hi, hz0, hz1, hz2⟩ := info_parts infoInt
  have hn0 : a = none → zs.length = 0 ∧ cap = 0 := fun h => by obtain ⟨h1, h2⟩ := hnil h; exact ⟨by rw [h1]; rfl, h2⟩
  have hn1 := Lib.hid hn0
  clear hnil hn0
  go_enter Try.func6, Try.ntmps6
  go_wp2_with (first
    | (at_builtin; refine wpList_append_src _ rfl (.tmp 5) (.tmp 6) 22 rfl w.heap.size 3 i0 (.int .i64 0) 1 8 Try.underlying22 hi hz0 hz1 hz2 rfl (by decide) _ 0 [] rfl ?c0 a zs.length cap (zs.map (Value.int .i64)) rfl hn1.out ?c1 ?c2 ?c3 ?c4 ?c5 ?c6 ?_))
  case c0 => exact World.ownsRow_lit w _ 0 (Nat.le_refl _) (by unfold maxLen; omega) (by simp)
  case c1 => simp
  case c2 => exact (ha.below ((Below.refl _ _).alloc (Nat.le_refl _) _)).news
  case c3 => exact ints_one _ _
  case c4 => unfold maxLen; omega
  case c5 => omega
  case c6 => simp
  intro v1 w1 hown1 hgrow1 hv1
  have hR0 : w1.ownsRow w.heap.size 3 1 v1 (zs.length + 0) ((zs ++ marks 0).map (Value.int .i64)) ∧ v1 ≠ .slice none 0 0 ∧ Below w.heap.size w w1 :=
    ⟨by simpa [marks] using hown1, fun h => hv1 h,
      ((Below.refl _ _).alloc (Nat.le_refl _) _).grown hgrow1 (by simp) (by intro k hk; simp [Value.ownBlock] at hk; omega)⟩
  have hR1 := Lib.hid hR0
  clear hown1 hgrow1 hv1 hR0 hn1
  go_wp2
  go_loopw [3, 4] (fun o i wr => ∃ k : Nat, k ≤ 9 ∧ i = .int .i64 k ∧ Hid (wr.ownsRow w.heap.size 3 1 o (zs.length + k) ((zs ++ marks k).map (Value.int .i64)) ∧ o ≠ .slice none 0 0 ∧ Below w.heap.size w wr)) (fun _ i _ => 9 - (intOf i).toNat)
  case atStart => exact ⟨0, by omega, rfl, hR1⟩
  case round =>
    obtain ⟨k, hk, rfl, hR⟩ := hrel
    clear hR1
    by_cases hlt : k < 9
    · go_wp2_with (first
        | (at_builtin; refine wpList_append_own _ rfl (.tmp 12) (.tmp 15) 22 rfl w.heap.size 3 i0 (.int .i64 0) 1 8 Try.underlying22 hi hz0 hz1 hz2 rfl (by decide) _ (zs.length + k) _ rfl (hR.out.1.alloc _) ⟨wr.heap.size, 0, none⟩ 1 1 [.int .i64 (-70 - (k : Int))] rfl rfl ?d1 ?d2 ?d3 ?d4 ?d5 ?_))
      case d1 => exact own_cells_one
      case d2 => intro u hu; simp at hu; subst hu; rfl
      case d3 => unfold maxLen; omega
      case d4 => omega
      case d5 => have := hR.out.2.2.size; simp; omega
      intro v2 w2 hown2 hgrow2 hv2
      have hR2 := Lib.hid (lend_step hlt hR.out hown2 hgrow2 hv2)
      clear hown2 hgrow2 hv2 hR
      go_wp2
      go_roundw
      case rel => exact ⟨k + 1, by omega, by go_num, hR2⟩
      case measure => simp [intOf]; omega
    · obtain rfl : k = 9 := by omega
      obtain ⟨g, c, rfl, hg1, hg2, hg3, hg4⟩ := not_nil_some hR.out.1 hR.out.2.1
      go_wp2
      go_ret
      exact ⟨g, c, rfl, by omega, hg4, hR.out.1, hR.out.2.2⟩

theorem marks_wf (zs : List Int) (h : ∀ i, i < zs.length → IntKind.i64.wrap (nth zs i) = nth zs i) : ∀ i, i < (zs ++ marks 9).length → IntKind.i64.wrap (nth (zs ++ marks 9) i) = nth (zs ++ marks 9) i := by
  intro i hi
  rcases Nat.lt_or_ge i zs.length with h1 | h1
  · have e : nth (zs ++ marks 9) i = nth zs i := by rw [nth_eq _ _ hi, nth_eq _ _ h1, List.getElem_append_left h1]
    rw [e]; exact h i h1
  · obtain ⟨j, rfl⟩ : ∃ j, i = zs.length + j := ⟨i - zs.length, by omega⟩
    have hj : j < 9 := by simp [marks_length] at hi; omega
    rw [nth_marks zs j hj, IntKind.wrap_i64]; omega

/-- what lend made, read. -/
theorem Lent.ints {B : Nat} {w : World} {g c : Nat} {zs : List Int} (h : Lent B w g c zs) (hl : zs.length + 9 ≤ 17592186044200) (hw : ∀ i, i < zs.length → IntKind.i64.wrap (nth zs i) = nth zs i) :
    Ints .i64 w (some ⟨g, 0, none⟩) (zs ++ marks 9) := by
  have h' : w.ownsRow B 3 1 (.slice (some ⟨g, 0, none⟩) (zs.length + 9) c) (zs.length + 9) ((zs ++ marks 9 ++ []).map (Value.int .i64)) := by rw [List.append_nil]; exact h
  exact Ints.of_own h' (by simp [marks_length]; omega) (marks_wf zs hw)

theorem Ints.front {k : IntKind} {w : World} {a : Option Addr} {xs ys : List Int} (h : Ints k w a (xs ++ ys)) : Ints k w a xs := by
  have e : ∀ i, i < xs.length → nth (xs ++ ys) i = nth xs i := fun i hi => by
    rw [nth_eq _ _ (by simp; omega), nth_eq _ _ hi, List.getElem_append_left hi]
  refine ⟨by have := h.len; simp at this; omega, fun i hi => ?_, fun i hi => ?_⟩
  · obtain ⟨b, off, ha, hc⟩ := h.cells i (by simp; omega)
    exact ⟨b, off, ha, by rw [← e i hi]; exact hc⟩
  · have := h.wf i (by simp; omega); rwa [e i hi] at this

set_option maxHeartbeats 1000000 in
theorem kept_any (g c : Nat) (a : Option Addr) (cap : Nat) (xs ys : List Int) (w : World) (hx : Ints .i64 w (some ⟨g, 0, none⟩) (xs ++ marks 9)) (ha : Ints .i64 w a ys) (hl : xs.length = ys.length) (hc : ys.length + 9 ≤ c) :
    Calls Try.prog 12 #[.slice (some ⟨g, 0, none⟩) ys.length c, .slice a ys.length cap] w fun e w' => e = .returned (.bool (eqB xs ys)) ∧ Drawn w w' := by
  have hm := ha.len
  have hc1 : ((ys.length : Int) + 9).toNat ≤ c := by omega
  have hcell : ∀ i, i < 9 → w.cell? ⟨g, ys.length + i, none⟩ = some (.int .i64 (-70 - (i : Int))) := by
    intro i hi
    obtain ⟨b, off, e, h⟩ := hx.cells (xs.length + i) (by simp [marks_length]; omega)
    injection e with e; injection e with e1 e2
    subst e1 e2
    rw [nth_marks xs i hi, hl, Nat.zero_add] at h
    exact h
  have hl2 := Lib.hid hl
  have hcell2 := Lib.hid hcell
  clear hl hcell
  go_enter Try.func12, Try.ntmps12
  go_wp2
  go_loop [6] (fun i => ∃ k : Nat, k ≤ 9 ∧ i = .int .i64 k) (fun i => 9 - (intOf i).toNat)
  case atStart => exact ⟨0, by omega, rfl⟩
  case round =>
    obtain ⟨k, hk, rfl⟩ := hrel
    by_cases hlt : k < 9
    · have hck := hcell2.out k hlt
      have g1 : ((ys.length : Int) + (k : Int)).toNat = ys.length + k := by omega
      have g2 : (-70 - (k : Int) != -70 - (k : Int)) = false := by simp
      go_wp2
      go_round
      case rel => exact ⟨k + 1, by omega, by go_num⟩
      case measure => simp [intOf]; omega
    · have hxs := hx.front
      have hkk := fun cx => kints (some ⟨g, 0, none⟩) a cx cap xs ys w hxs ha
      rw [hl2.out] at hkk
      have hkk2 := Lib.hid hkk
      clear hkk
      go_wp2_with fail
      refine (hkk2.out _).mono ?_
      rintro e w' ⟨rfl, hd⟩
      go_wp2
      go_ret
      exact ⟨rfl, hd⟩

end Go.Proofs.Ytgndogoaenlchaa
