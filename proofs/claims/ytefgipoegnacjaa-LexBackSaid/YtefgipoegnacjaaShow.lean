/- Show: lex's and the reference's. -/
import Derived.Test.YtefgipoegnacjaaProg
import Derived.Test.YtefgipoegnacjaaBase
import Derived.Test.YtefgipoegnacjaaLexD
import Derived.Test.YtefgipoegnacjaaQuote
import Derived.Test.YtefgipoegnacjaaQuoteL
namespace Go.Proofs.Ytefgipoegnacjaa
open Go.RowKit Lx

def showL (l : Bs) : Bs := if (nameB l || numberB l) = true then l else quR l
def showE (l : Bs) : Int := if (nameB l || numberB l) = true then 0 else quE l
/-- what Show answers -/
def ShPost (s : ByteArray) (w : World) (e : Ending) (w' : World) : Prop :=
  e = .returned (.tuple #[.string (mk (showL (bl s))), .int .i64 (showE (bl s))]) ∧ Below w.heap.size w w'
theorem ShPost.word {s : ByteArray} {w w' : World} (h : (nameB (bl s) || numberB (bl s)) = true) (hb : Below w.heap.size w w') : ShPost s w (.returned (.tuple #[.string s, .int .i64 0])) w' := by
  unfold ShPost showL showE; rw [if_pos h, if_pos h, mk_bl]; exact ⟨rfl, hb⟩
theorem ShPost.quote {s : ByteArray} {w w' : World} (h : (nameB (bl s) || numberB (bl s)) = false) (hb : Below w.heap.size w w') :
    ShPost s w (.returned (.tuple #[.string (mk (quR (bl s))), .int .i64 (quE (bl s))])) w' := by
  unfold ShPost showL showE; rw [h]; exact ⟨rfl, hb⟩

set_option maxHeartbeats 2000000 in
theorem lx_Show (s : ByteArray) (w : World) (hs : s.size ≤ 140737488355328) : Calls Try.prog 16 #[.string s] w (ShPost s w) := by
  have e1 := kind_name (bl s)
  have e3 := kind_number (bl s)
  by_cases h1 : nameB (bl s) = true
  · have g1 : (kindI (bl s) == 1) = true := by rw [e1]; exact h1
    have hw : Hid ((nameB (bl s) || numberB (bl s)) = true) := by show _ = _; rw [h1]; rfl
    clear e1 e3 h1
    go_enter Try.func16, Try.ntmps16
    go_wp2_with (go_at_call 35; refine (lx_kindOf _ _ hs).mono ?_; rintro e w' ⟨rfl, rfl⟩)
    go_ret2
    exact ShPost.word hw.out (Below.refl _ _)
  · have h1' : nameB (bl s) = false := by simpa using h1
    have g1 : (kindI (bl s) == 1) = false := by rw [e1]; exact h1'
    by_cases h3 : numberB (bl s) = true
    · have g3 : (kindI (bl s) == 3) = true := by rw [e3]; exact h3
      have hw : Hid ((nameB (bl s) || numberB (bl s)) = true) := by show _ = _; rw [h3]; simp
      clear e1 e3 h1 h3 h1'
      go_enter Try.func16, Try.ntmps16
      go_wp2_with (go_at_call 35; refine (lx_kindOf _ _ hs).mono ?_; rintro e w' ⟨rfl, rfl⟩)
      go_ret2
      exact ShPost.word hw.out (Below.refl _ _)
    · have h3' : numberB (bl s) = false := by simpa using h3
      have g3 : (kindI (bl s) == 3) = false := by rw [e3]; exact h3'
      have hw : Hid ((nameB (bl s) || numberB (bl s)) = false) := by show _ = _; rw [h1', h3']; rfl
      clear e1 e3 h1 h3 h1' h3'
      go_enter Try.func16, Try.ntmps16
      go_wp2_with (first
        | (go_at_call 35; refine (lx_kindOf _ _ hs).mono ?_; rintro e w' ⟨rfl, rfl⟩)
        | (go_at_call 15; refine (lx_Quote _ _ hs).mono ?_; rintro e w' ⟨rfl, hb⟩))
      go_ret2
      exact ShPost.quote hw.out hb

set_option maxHeartbeats 2000000 in
theorem rx_Show (s : ByteArray) (w : World) (hs : s.size ≤ 140737488355328) : Calls Try.prog 28 #[.string s] w (ShPost s w) := by
  by_cases h1 : nameB (bl s) = true
  · have hw : Hid ((nameB (bl s) || numberB (bl s)) = true) := by show _ = _; rw [h1]; rfl
    replace h1 := Lib.hid h1
    go_enter Try.func28, Try.ntmps28
    go_wp2_with (go_at_call 20; refine (rx_Name _ _ hs).mono ?_; rintro e w' ⟨he, rfl⟩; rw [h1.out] at he; subst he)
    go_ret2
    exact ShPost.word hw.out (Below.refl _ _)
  · have h1' : Hid (nameB (bl s) = false) := by show _ = _; simpa using h1
    by_cases h3 : numberB (bl s) = true
    · have hw : Hid ((nameB (bl s) || numberB (bl s)) = true) := by show _ = _; rw [h3]; simp
      replace h3 := Lib.hid h3
      clear h1
      go_enter Try.func28, Try.ntmps28
      go_wp2_with (first
        | (go_at_call 20; refine (rx_Name _ _ hs).mono ?_; rintro e w' ⟨he, rfl⟩; rw [h1'.out] at he; subst he)
        | (go_at_call 25; refine (rx_Number _ _ hs).mono ?_; rintro e w' ⟨he, rfl⟩; rw [h3.out] at he; subst he))
      go_ret2
      exact ShPost.word hw.out (Below.refl _ _)
    · have h3' : Hid (numberB (bl s) = false) := by show _ = _; simpa using h3
      have hw : Hid ((nameB (bl s) || numberB (bl s)) = false) := by show _ = _; rw [h1'.out, h3'.out]; rfl
      clear h1 h3
      go_enter Try.func28, Try.ntmps28
      go_wp2_with (first
        | (go_at_call 20; refine (rx_Name _ _ hs).mono ?_; rintro e w' ⟨he, rfl⟩; rw [h1'.out] at he; subst he)
        | (go_at_call 25; refine (rx_Number _ _ hs).mono ?_; rintro e w' ⟨he, rfl⟩; rw [h3'.out] at he; subst he)
        | (go_at_call 27; refine (rx_Quote _ _ hs).mono ?_; rintro e w' ⟨rfl, hb⟩))
      go_ret2
      exact ShPost.quote hw.out hb

end Go.Proofs.Ytefgipoegnacjaa
