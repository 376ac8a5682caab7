/- inklingkit.Ints: are two lists of numbers alike? -/
import Derived.Test.YtgndogoaenlchaaRows
import Derived.Test.YtgndogoaenlchaaBase
import Derived.BigQuiet
import Derived.Deep.QuietTactic
namespace Go.Proofs.Ytgndogoaenlchaa
open Go.RowKit

def eqB (xs ys : List Int) : Bool := decide (xs = ys)
theorem eqB_len {xs ys : List Int} (h : xs.length ≠ ys.length) : eqB xs ys = false := by
  unfold eqB; exact decide_eq_false (fun e => h (by rw [e]))
theorem eqB_at {xs ys : List Int} (j : Nat) (h : nth xs j ≠ nth ys j) : eqB xs ys = false := by
  unfold eqB; exact decide_eq_false (fun e => h (by rw [e]))
theorem eqB_all {xs ys : List Int} (hl : xs.length = ys.length) (h : ∀ i, i < xs.length → nth xs i = nth ys i) : eqB xs ys = true := by
  unfold eqB
  refine decide_eq_true (List.ext_getElem hl fun i h1 h2 => ?_)
  have := h i h1
  rwa [nth_eq xs i h1, nth_eq ys i h2] at this

set_option maxHeartbeats 800000 in
theorem kints (a b : Option Addr) (ca cb : Nat) (xs ys : List Int) (w : World) (ha : Ints .i64 w a xs) (hb : Ints .i64 w b ys) :
    Calls Try.prog 19 #[.slice a xs.length ca, .slice b ys.length cb] w fun e w' => e = .returned (.bool (eqB xs ys)) ∧ Drawn w w' := by
  have hm := ha.len
  have hn := hb.len
  by_cases hl : xs.length = ys.length
  · have g1 : ((xs.length : Int) != (ys.length : Int)) = false := by simp [hl]
    have g2 : ((xs.length : Int) == (ys.length : Int)) = true := by simp [hl]
    have hl2 : xs.length ≤ ys.length ∧ ys.length ≤ xs.length := by omega
    have hl := Lib.hid hl
    go_enter Try.func19, Try.ntmps19
    go_wp2
    go_loopw [5] (fun i wr => ∃ (j : Nat), j ≤ xs.length ∧ i = .int .i64 j ∧ Hid (∀ i, i < j → nth xs i = nth ys i) ∧ Drawn w wr) (fun i _ => xs.length - (intOf i).toNat)
    case atStart => exact ⟨0, Nat.zero_le _, rfl, fun i h => absurd h (by omega), (by (repeat (refine Drawn.step ?_ _)); exact Drawn.refl _)⟩
    case round =>
      obtain ⟨j, hj, rfl, he, ⟨nd, rfl⟩⟩ := hrel
      by_cases hlt : j < xs.length
      · obtain ⟨b1, off1, rfl, hcell1⟩ := ha.cells j hlt
        obtain ⟨b2, off2, rfl, hcell2⟩ := hb.cells j (by omega)
        have hi1 : (j : Int) < (xs.length : Int) := by omega
        have hi2 : (j : Int) < (ys.length : Int) := by omega
        by_cases hd : nth xs j = nth ys j
        · have g3 : (nth xs j != nth ys j) = false := by simp [hd]
          have he2 : Hid (∀ i, i < j + 1 → nth xs i = nth ys i) := fun i hi => by
            rcases Nat.lt_or_ge i j with h | h
            · exact he.out i h
            · have : i = j := by omega
              rw [this]; exact hd
          clear he hd
          go_wp2
          go_quiet (fail)
          go_wp2
          go_roundw
          case rel => exact ⟨j + 1, by omega, by go_num, he2, (by (repeat (refine Drawn.step ?_ _)); exact Drawn.refl _)⟩
          case measure => simp [intOf]; omega
        · have g3 : (nth xs j != nth ys j) = true := by simp [hd]
          have h5 := Lib.hid (eqB_at j hd)
          clear he hd
          go_wp2
          go_quiet (fail)
          go_wp2
          go_ret
          exact ⟨ret_bool h5.out.symm, (by (repeat (refine Drawn.step ?_ _)); exact Drawn.refl _)⟩
      · have h5 := Lib.hid (eqB_all hl.out (fun i hi => he.out i (by omega)))
        clear he
        go_wp2
        go_ret
        exact ⟨ret_bool h5.out.symm, (by (repeat (refine Drawn.step ?_ _)); exact Drawn.refl _)⟩
  · have g1 : ((xs.length : Int) != (ys.length : Int)) = true := by simp; omega
    have h5 := Lib.hid (eqB_len hl)
    clear hl
    go_enter Try.func19, Try.ntmps19
    go_wp2
    go_ret
    exact ⟨ret_bool h5.out.symm, Drawn.refl _⟩

end Go.Proofs.Ytgndogoaenlchaa
