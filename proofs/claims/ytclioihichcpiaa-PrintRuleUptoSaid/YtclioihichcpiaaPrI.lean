/- Print: an atom. -/
import Derived.Test.YtclioihichcpiaaPrH
namespace Go.Proofs.Ytclioihichcpiaa
open Go.RowKit Go.Shelf Lx
def commas (l : List (Bool × ByteArray)) : ByteArray := ⟨(Lib.join ((textsT l).map (·.data.toList)) [44, 32]).toArray⟩
def atomOk (p : ByteArray) (l : List (Bool × ByteArray)) : Bool := okT l && nameB (bl p) && decide (l.length ≤ 16)
def atomL (p : ByteArray) (l : List (Bool × ByteArray)) : ByteArray := if l.length = 0 then p else p ++ ⟨#[40]⟩ ++ commas l ++ ⟨#[41]⟩
def atomS (p : ByteArray) (l : List (Bool × ByteArray)) : ByteArray := if atomOk p l then atomL p l else ⟨#[]⟩
def atomE (p : ByteArray) (l : List (Bool × ByteArray)) : Int := if atomOk p l then 0 else 2
theorem Terms.new {w : World} {a : Option Addr} {l : List (Bool × ByteArray)} (h : Terms w a l) (ob : Obj) : Terms (w.alloc ob) a l := h.below ((Below.refl _ _).al _)
theorem commas_size (l : List (Bool × ByteArray)) (h : ∀ x ∈ l, x.2.size ≤ 1048576) (hn : l.length ≤ 16) : (commas l).size ≤ 134217760 := by
  have h1 := join_bound [44, 32] ((textsT l).map (·.data.toList)) 8388608 (by
    intro t ht
    obtain ⟨u, hu, rfl⟩ := List.mem_map.1 ht
    rw [Array.length_toList]; exact textsT_size l h u hu)
  rw [List.length_map, textsT, List.length_map] at h1
  have h2 : l.length * ([44, 32].length + 8388608) ≤ 16 * (2 + 8388608) := Nat.mul_le_mul hn (Nat.le_refl _)
  have h3 : (commas l).size = (Lib.join ((textsT l).map (·.data.toList)) [44, 32]).length := by show (Array.size _) = _; simp
  rw [h3]
  exact Nat.le_trans h1 (Nat.le_trans h2 (by decide))
set_option maxHeartbeats 1000000 in
set_option maxRecDepth 100000 in
theorem pt_Atom (p : ByteArray) (a : Option Addr) (l : List (Bool × ByteArray)) (cap : Nat) (w : World) (hp : p.size ≤ 1048576) (ht : Terms w a l) :
    Calls Try.prog 12 #[.agg #[.string p, .slice a l.length cap]] w fun e w' => e = .returned (.tuple #[.string (atomS p l), .int .i64 (atomE p l)]) ∧ Below w.heap.size w w' := by
  have hls := fun w ht => pt_listed_Term a l cap ⟨#[44, 32]⟩ w ht (by decide)
  cases ho : okT l with
  | false =>
    have hr : Hid (atomS p l = ⟨#[]⟩ ∧ atomE p l = 2) := Lib.hid (by unfold atomS atomE atomOk; rw [ho]; exact ⟨rfl, rfl⟩)
    rw [ho] at hls
    go_enter Try.func12, Try.ntmps12
    go_wp2_with (go_at_call 32; refine (hls _ (ht.new _)).mono ?_; rintro e w1 ⟨rfl, hb1⟩; obtain ⟨hc1, hc2⟩ := new_cells hb1; replace hb1 := Lib.hid hb1)
    go_ret2
    rw [hr.out.1, hr.out.2]
    exact ⟨rfl, ((Below.refl _ _).al _).trans (hb1.out.mono (by rw [World.size_alloc]; omega))⟩
  | true =>
    have hnm := fun w => lx_Name p w (by omega)
    rw [ho] at hls
    rw [if_pos rfl, show (⟨(Lib.join ((textsT l).map (·.data.toList)) [44, 32]).toArray⟩ : ByteArray) = commas l from rfl] at hls
    cases hn : nameB (bl p) with
    | false =>
      have hr : Hid (atomS p l = ⟨#[]⟩ ∧ atomE p l = 2) := Lib.hid (by unfold atomS atomE atomOk; rw [ho, hn]; exact ⟨rfl, rfl⟩)
      rw [hn] at hnm
      go_enter Try.func12, Try.ntmps12
      go_wp2_with (first
          | (go_at_call 32; refine (hls _ (ht.new _)).mono ?_; rintro e w1 ⟨rfl, hb1⟩; obtain ⟨hc1, hc2⟩ := new_cells hb1; replace hb1 := Lib.hid hb1)
          | (go_at_call 35; refine (hnm _).mono ?_; rintro e w' ⟨rfl, rfl⟩))
      go_ret2
      rw [hr.out.1, hr.out.2]
      exact ⟨rfl, ((Below.refl _ _).al _).trans (hb1.out.mono (by rw [World.size_alloc]; omega))⟩
    | true =>
      rw [hn] at hnm
      by_cases h16 : l.length ≤ 16
      · have hok : atomOk p l = true := by unfold atomOk; rw [ho, hn, decide_eq_true h16]; rfl
        by_cases h0 : l.length = 0
        · have hr : Hid (atomS p l = p ∧ atomE p l = 0) := Lib.hid (by unfold atomS atomE atomL; rw [hok, if_pos rfl, if_pos h0]; exact ⟨rfl, rfl⟩)
          clear hok
          rw [h0] at hls
          rw [h0]
          go_enter Try.func12, Try.ntmps12
          go_wp2_with (first
              | (go_at_call 32; refine (hls _ (ht.new _)).mono ?_; rintro e w1 ⟨rfl, hb1⟩; obtain ⟨hc1, hc2⟩ := new_cells hb1; replace hb1 := Lib.hid hb1)
              | (go_at_call 35; refine (hnm _).mono ?_; rintro e w' ⟨rfl, rfl⟩))
          go_ret2
          rw [hr.out.1, hr.out.2]
          exact ⟨rfl, ((Below.refl _ _).al _).trans (hb1.out.mono (by rw [World.size_alloc]; omega))⟩
        · have hr : Hid (atomS p l = p ++ ⟨#[40]⟩ ++ commas l ++ ⟨#[41]⟩ ∧ atomE p l = 0) := Lib.hid (by unfold atomS atomE atomL; rw [hok, if_pos rfl, if_neg h0]; exact ⟨rfl, rfl⟩)
          have hcs := commas_size l ht.size h16
          have h0' : ((l.length : Int) == 0) = false := by rw [beq_eq_false_iff_ne]; omega
          clear hok
          go_enter Try.func12, Try.ntmps12
          go_wp2_with (first
              | (go_at_call 32; refine (hls _ (ht.new _)).mono ?_; rintro e w1 ⟨rfl, hb1⟩; obtain ⟨hc1, hc2⟩ := new_cells hb1; replace hb1 := Lib.hid hb1)
              | (go_at_call 35; refine (hnm _).mono ?_; rintro e w' ⟨rfl, rfl⟩))
          go_ret2
          rw [hr.out.1, hr.out.2]
          exact ⟨rfl, ((Below.refl _ _).al _).trans (hb1.out.mono (by rw [World.size_alloc]; omega))⟩
      · have hr : Hid (atomS p l = ⟨#[]⟩ ∧ atomE p l = 2) := Lib.hid (by unfold atomS atomE atomOk; rw [ho, hn, decide_eq_false h16]; exact ⟨rfl, rfl⟩)
        go_enter Try.func12, Try.ntmps12
        go_wp2_with (first
            | (go_at_call 32; refine (hls _ (ht.new _)).mono ?_; rintro e w1 ⟨rfl, hb1⟩; obtain ⟨hc1, hc2⟩ := new_cells hb1; replace hb1 := Lib.hid hb1)
            | (go_at_call 35; refine (hnm _).mono ?_; rintro e w' ⟨rfl, rfl⟩))
        go_ret2
        rw [hr.out.1, hr.out.2]
        exact ⟨rfl, ((Below.refl _ _).al _).trans (hb1.out.mono (by rw [World.size_alloc]; omega))⟩
end Go.Proofs.Ytclioihichcpiaa
