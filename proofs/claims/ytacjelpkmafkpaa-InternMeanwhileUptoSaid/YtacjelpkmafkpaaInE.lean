/- Intern: Text, Texts; alike lists. -/
import Derived.Test.YtacjelpkmafkpaaInD
namespace Go.Proofs.Ytacjelpkmafkpaa
open Go.RowKit It
attribute [local go_sem] neq_map
set_option maxHeartbeats 2000000
set_option maxRecDepth 100000
/-- is it a number of the table? -/
def okN (L : List ByteArray) (n : Int) : Prop := 0 ≤ n ∧ n < L.length
instance (L : List ByteArray) (n : Int) : Decidable (okN L n) := inferInstanceAs (Decidable (_ ∧ _))
def txtOf (L : List ByteArray) (n : Int) : ByteArray := if okN L n then L.getD n.toNat ⟨#[]⟩ else ⟨#[]⟩
/-- the texts of numbers, if they all are -/
def getsB (L : List ByteArray) (ns : List Int) : Bool := ns.all fun n => decide (okN L n)
section
variable {w : World} {B b mb : Nat} {v : Value} {L : List ByteArray}
theorem row_txt {a : Option Addr} {n c : Nat} (h : w.ownsRow B 9 1 (.slice a n c) n (L.map Value.string)) (j : Nat) (hj : j < L.length) : ∃ g, a = some ⟨g, 0, none⟩ ∧ w.cell? ⟨g, j, none⟩ = some (.string (L.getD j ⟨#[]⟩)) := by
  have hn : L.length = n := by have := h.1; simpa using this
  obtain ⟨g, c', e1, -⟩ := own_shape h (by omega)
  injection e1 with e1 _ _
  refine ⟨g, e1, ?_⟩
  subst e1
  rw [h.cellAt j (by omega), List.getElem?_map, List.getElem?_eq_getElem hj, List.getD_eq_getElem?_getD, List.getElem?_eq_getElem hj]; rfl
theorem in_Text (h : Tab w B b v mb L) (n : Int) : Calls Try.prog 20 #[.pointer (some ⟨b, 0, none⟩), .int .i64 n] w fun e w' => e = .returned (.tuple #[.string (txtOf L n), .bool (decide (okN L n))]) ∧ w = w' := by
  obtain ⟨c0, c1, -⟩ := h.cells
  obtain ⟨va, vc, rfl, -⟩ := own_slice h.row
  have h0 := Lib.hid h
  have hl := h.len
  clear h
  by_cases hn : okN L n
  · obtain ⟨m, rfl⟩ : ∃ m : Nat, n = m := ⟨n.toNat, by have := hn.1; omega⟩
    have hm : m < L.length := by have := hn.2; omega
    obtain ⟨g, rfl, hc⟩ := row_txt h0.out.row m hm
    have ht : Hid (txtOf L m = L.getD m ⟨#[]⟩ ∧ decide (okN L m) = true) := Lib.hid ⟨by unfold txtOf; rw [if_pos hn]; rfl, decide_eq_true hn⟩
    generalize L.getD m ⟨#[]⟩ = s at hc ht
    have hm0 : ¬ (m : Int) < 0 := by omega
    have hm1 : ¬ (L.length : Int) ≤ (m : Int) := by omega
    have hm2 : (m : Int) < (L.length : Int) := by omega
    clear hn
    go_enter Try.func20, Try.ntmps20
    go_wp2_with (go_at_call 19; refine (in_Len h0.out).mono ?_; rintro e w1 ⟨rfl, rfl⟩)
    go_ret2
    exact ⟨by rw [ht.out.1, ht.out.2]; rfl, rfl⟩
  · have ht : Hid (txtOf L n = ⟨#[]⟩ ∧ decide (okN L n) = false) := Lib.hid ⟨by unfold txtOf; rw [if_neg hn], decide_eq_false hn⟩
    by_cases hn0 : n < 0
    · clear hn
      go_enter Try.func20, Try.ntmps20
      go_wp2_with (go_at_call 19; refine (in_Len h0.out).mono ?_; rintro e w1 ⟨rfl, rfl⟩)
      go_ret2
      exact ⟨by rw [ht.out.1, ht.out.2]; rfl, rfl⟩
    · have hn1 : (L.length : Int) ≤ n := by unfold okN at hn; omega
      clear hn
      go_enter Try.func20, Try.ntmps20
      go_wp2_with (go_at_call 19; refine (in_Len h0.out).mono ?_; rintro e w1 ⟨rfl, rfl⟩)
      go_ret2
      exact ⟨by rw [ht.out.1, ht.out.2]; rfl, rfl⟩
end
/-- two lists of texts that are alike -/
theorem rf_SameTexts {w : World} {a b : Option Addr} {l : List ByteArray} {c d : Nat} (h1 : TxA w a l) (h2 : TxA w b l) :
    Calls Try.prog 24 #[.slice a l.length c, .slice b l.length d] w fun e w' => e = .returned (.bool true) ∧ Below w.heap.size w w' := by
  have hln := h1.len
  replace h1 := Lib.hid h1
  replace h2 := Lib.hid h2
  go_enter Try.func24, Try.ntmps24
  go_wp2
  go_loopw [5] (fun i wr => ∃ k : Nat, k ≤ l.length ∧ i = .int .i64 k ∧ Hid (Below w.heap.size w wr)) (fun i _ => l.length - (intOf i).toNat)
  case atStart => exact ⟨0, Nat.zero_le _, rfl, Lib.hid (Below.refl _ _)⟩
  case round =>
    obtain ⟨k, hk, rfl, hb⟩ := hrel
    by_cases hlt : k < l.length
    · obtain ⟨g, off, rfl, q1⟩ := (h1.out.below hb.out).cells k hlt
      obtain ⟨g2, off2, rfl, q2⟩ := (h2.out.below hb.out).cells k hlt
      have hki : (k : Int) < (l.length : Int) := by omega
      have hk0 : (0 : Int) ≤ (k : Int) := Int.natCast_nonneg _
      generalize l.getD k ⟨#[]⟩ = s at q1 q2
      have hss : (s.toList != s.toList) = false := by simp
      go_wp2
      go_quiet (fail)
      go_wp2
      go_roundw
      case rel => exact ⟨k + 1, by omega, by go_num, Lib.hid (below_drewN hb.out _)⟩
      case measure => simp [intOf]; omega
    · have hki : ¬ ((k : Int) < (l.length : Int)) := by omega
      go_wp2
      go_ret
      exact ⟨rfl, hb.out⟩
end Go.Proofs.Ytacjelpkmafkpaa
