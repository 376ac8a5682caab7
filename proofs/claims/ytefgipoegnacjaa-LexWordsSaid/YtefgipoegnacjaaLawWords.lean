/- LexWords: the law walked. -/
import Derived.Test.YtefgipoegnacjaaProg
import Derived.Test.YtefgipoegnacjaaBase
import Derived.Test.YtefgipoegnacjaaLexD
import Derived.Test.YtefgipoegnacjaaShow
import Derived.Test.YtefgipoegnacjaaKnown
namespace Go.Proofs.Ytefgipoegnacjaa
open Go.RowKit Lx

set_option maxRecDepth 100000 in
set_option maxHeartbeats 4000000 in
theorem law_LexWords (s : ByteArray) (w : World) (hs : s.size ≤ 140737488351232) :
    Calls Try.prog 8 #[.string s] w fun e w' => e = .returned (.bool true) ∧ Below w.heap.size w w' := by
  have hs2 : s.size ≤ 140737488355328 := by omega
  obtain ⟨b1, h1⟩ : ∃ b, b = nameB (bl s) := ⟨_, rfl⟩
  obtain ⟨b2, h2⟩ : ∃ b, b = reservedB (bl s) := ⟨_, rfl⟩
  obtain ⟨b3, h3⟩ : ∃ b, b = variableB (bl s) := ⟨_, rfl⟩
  obtain ⟨b4, h4⟩ : ∃ b, b = numberB (bl s) := ⟨_, rfl⟩
  obtain ⟨b5, h5⟩ : ∃ b, b = decide ((bl s).length ≤ 1024) := ⟨_, rfl⟩
  replace h1 := Lib.hid h1
  replace h2 := Lib.hid h2
  replace h3 := Lib.hid h3
  replace h4 := Lib.hid h4
  replace h5 := Lib.hid h5
  go_enter Try.func8, Try.ntmps8
  go_wp2_with (first
    | (go_at_call 18; refine (lx_Name _ _ hs2).mono ?_; rintro e w' ⟨he, rfl⟩; rw [← h1.out] at he; subst he)
    | (go_at_call 20; refine (rx_Name _ _ hs2).mono ?_; rintro e w' ⟨he, rfl⟩; rw [← h1.out] at he; subst he)
    | (go_at_call 21; refine (lx_Reserved _ _).mono ?_; rintro e w' ⟨he, rfl⟩; rw [← h2.out] at he; subst he)
    | (go_at_call 22; refine (rx_Reserved _ _).mono ?_; rintro e w' ⟨he, rfl⟩; rw [← h2.out] at he; subst he)
    | (go_at_call 23; refine (lx_Variable _ _ hs2).mono ?_; rintro e w' ⟨he, rfl⟩; rw [← h3.out] at he; subst he)
    | (go_at_call 24; refine (rx_Variable _ _ hs2).mono ?_; rintro e w' ⟨he, rfl⟩; rw [← h3.out] at he; subst he)
    | (go_at_call 19; refine (lx_Number _ _ hs2).mono ?_; rintro e w' ⟨he, rfl⟩; rw [← h4.out] at he; subst he)
    | (go_at_call 25; refine (rx_Number _ _ hs2).mono ?_; rintro e w' ⟨he, rfl⟩; rw [← h4.out] at he; subst he)
    | (go_at_call 17; refine (lx_Constant _ _ hs2).mono ?_; rintro e w' ⟨he, rfl⟩; rw [← h5.out] at he; subst he)
    | (go_at_call 26; refine (rx_Constant _ _ hs2).mono ?_; rintro e w' ⟨he, rfl⟩; rw [← h5.out] at he; subst he))
  refine (lx_Quote _ _ hs2).mono ?_
  rintro e w1 ⟨rfl, hb1⟩
  go_wp2_with fail
  refine (rx_Quote _ _ hs2).mono ?_
  rintro e w2 ⟨rfl, hb2⟩
  replace hb2 := hb1.trans (hb2.mono hb1.size)
  clear hb1
  go_wp2_with fail
  refine (lx_Show _ _ hs2).mono ?_
  rintro e w3 ⟨rfl, hb3⟩
  replace hb3 := hb2.trans (hb3.mono hb2.size)
  clear hb2
  go_wp2_with fail
  refine (rx_Show _ _ hs2).mono ?_
  rintro e w4 ⟨rfl, hb4⟩
  replace hb4 := hb3.trans (hb4.mono hb3.size)
  clear hb3
  go_wp2_with (first
    | (go_at_call 13; refine (nm_any _ _).mono ?_; rintro e w' ⟨rfl, rfl⟩)
    | (go_at_call 14; refine (lw_known _).mono ?_; rintro e w5 ⟨rfl, hb5⟩))
  go_ret
  exact ⟨rfl, hb4.trans (hb5.mono hb4.size)⟩

end Go.Proofs.Ytefgipoegnacjaa
