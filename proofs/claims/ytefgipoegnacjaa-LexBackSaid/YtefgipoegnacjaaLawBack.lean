/- LexBack: the law walked. -/
import Derived.Test.YtefgipoegnacjaaProg
import Derived.Test.YtefgipoegnacjaaBase
import Derived.Test.YtefgipoegnacjaaBytes
import Derived.Test.YtefgipoegnacjaaLexD
import Derived.Test.YtefgipoegnacjaaLexX
import Derived.Test.YtefgipoegnacjaaSame
import Derived.Test.YtefgipoegnacjaaKnown
import Derived.Test.YtefgipoegnacjaaShow
import Derived.Test.YtefgipoegnacjaaBackP
import Derived.Test.YtefgipoegnacjaaLawPieces
import Derived.BigQuiet
import Derived.Deep.QuietTactic
namespace Go.Proofs.Ytefgipoegnacjaa
open Go.RowKit Lx

theorem name_q (s : ByteArray) (b : Bool) (h : nameB (bl s) = b) (hs : s.size ≤ 140737488355328) (w : World) : Calls Try.prog 18 #[.string s] w fun e w' => e = .returned (.bool b) ∧ w' = w := by
  subst h; exact (lx_Name s w hs).mono fun _ _ ⟨h, h2⟩ => ⟨h, h2.symm⟩
theorem number_q (s : ByteArray) (b : Bool) (h : numberB (bl s) = b) (hs : s.size ≤ 140737488355328) (w : World) : Calls Try.prog 19 #[.string s] w fun e w' => e = .returned (.bool b) ∧ w' = w := by
  subst h; exact (lx_Number s w hs).mono fun _ _ ⟨h, h2⟩ => ⟨h, h2.symm⟩

set_option maxRecDepth 100000 in
set_option maxHeartbeats 8000000 in
theorem back_no (s : ByteArray) (w : World) (hs : s.size ≤ 140737488351232) (hl : ¬ s.size ≤ 1024) :
    Calls Try.prog 7 #[.string s] w fun e w' => e = .returned (.bool true) ∧ Below w.heap.size w w' := by
  have hs2 : s.size ≤ 140737488355328 := by omega
  have hn : (nameB (bl s) || numberB (bl s)) = false := by
    have h1 : nameB (bl s) = false := by
      unfold nameB writtenB; rw [bl_length]; simp; intro _ _ h; omega
    have h2 : numberB (bl s) = false := by
      unfold numberB; rw [bl_length]; simp; intro _ _; omega
    rw [h1, h2]; rfl
  have e1 : mk (quR (bl s)) = ⟨#[]⟩ := by unfold quR; rw [bl_length, if_neg hl]; rfl
  have e2 : quE (bl s) = 3 := by unfold quE; rw [bl_length, if_neg hl]
  have e3 : mk (showL (bl s)) = ⟨#[]⟩ := by unfold showL; rw [hn]; exact e1
  have e4 : showE (bl s) = 3 := by unfold showE; rw [hn]; exact e2
  have e5 : decide ((bl s).length ≤ 1024) = false := by rw [bl_length]; simpa using hl
  replace e1 := Lib.hid e1
  replace e2 := Lib.hid e2
  replace e3 := Lib.hid e3
  replace e4 := Lib.hid e4
  replace e5 := Lib.hid e5
  have hl2 : decide ((1024 : Int) < (s.size : Int)) = true := by simp; omega
  have hl3 : decide (1024 < s.size) = true := by simp; omega
  clear hn hl
  go_enter Try.func7, Try.ntmps7
  go_wp2_with fail
  refine (lw_known _).mono ?_
  rintro e w0 ⟨rfl, hb0⟩
  go_wp2_with fail
  refine (lx_Quote s _ hs2).mono ?_
  rintro e w1 ⟨he, hb1⟩
  rw [e1.out, e2.out] at he
  subst he
  replace hb1 := hb0.trans (hb1.mono hb0.size)
  clear hb0
  go_wp2_with fail
  refine (lx_Show s _ hs2).mono ?_
  rintro e w2 ⟨he, hb2⟩
  rw [e3.out, e4.out] at he
  subst he
  replace hb2 := hb1.trans (hb2.mono hb1.size)
  clear hb1
  go_wp2_with (first
    | (go_at_call 17; refine (lx_Constant _ _ hs2).mono ?_; rintro e w' ⟨he, rfl⟩; rw [e5.out] at he; subst he)
    | (go_at_call 13; refine (nm_any _ _).mono ?_; rintro e w' ⟨rfl, rfl⟩))
  go_ret
  exact ⟨rfl, hb2⟩

set_option maxRecDepth 100000 in
set_option maxHeartbeats 16000000 in
theorem back_yes (s A B : ByteArray) (K : Int) (b1 b3 : Bool) (w : World) (hl : s.size ≤ 1024) (hA : A = mk (quoteL (bl s))) (hB : B = mk (showL (bl s))) (hn1 : nameB (bl s) = b1) (hn3 : numberB (bl s) = b3)
    (hTA : tokens (bl A) = ⟨[⟨4, bl s, 0, A.size⟩], zeroTok, A.size, true⟩) (hTB : tokens (bl B) = ⟨[⟨K, bl s, 0, B.size⟩], zeroTok, B.size, true⟩) (hAB : B.size ≤ A.size) (hAs : A.size ≤ 5000)
    (hK1 : (K == 1) = b1) (hK3 : (K == 3) = b3) :
    Calls Try.prog 7 #[.string s] w fun e w' => e = .returned (.bool true) ∧ Below w.heap.size w w' := by
  have hs2 : s.size ≤ 140737488355328 := by omega
  have e1 : mk (quR (bl s)) = A := by unfold quR; rw [bl_length, if_pos hl, hA]
  have e2 : quE (bl s) = 0 := by unfold quE; rw [bl_length, if_pos hl]
  have e4 : showE (bl s) = 0 := by unfold showE; rw [e2]; simp
  have e5 : decide ((bl s).length ≤ 1024) = true := by rw [bl_length]; simpa using hl
  replace e1 := Lib.hid e1
  replace e2 := Lib.hid e2
  replace hB := Lib.hid hB
  replace e4 := Lib.hid e4
  replace e5 := Lib.hid e5
  replace hn1 := Lib.hid hn1
  replace hn3 := Lib.hid hn3
  replace hTA := Lib.hid hTA
  replace hTB := Lib.hid hTB
  have hA4 : A.size ≤ 4194304 := by omega
  have hB4 : B.size ≤ 4194304 := by omega
  clear hA
  go_enter Try.func7, Try.ntmps7
  go_wp2_with fail
  refine (lw_known _).mono ?_
  rintro e w0 ⟨rfl, hb0⟩
  go_wp2_with fail
  refine (lx_Quote s _ hs2).mono ?_
  rintro e w1 ⟨he, hb1⟩
  rw [e1.out, e2.out] at he
  subst he
  replace hb1 := hb0.trans (hb1.mono hb0.size)
  clear hb0
  go_wp2_with fail
  refine (lx_Show s _ hs2).mono ?_
  rintro e w2 ⟨he, hb2⟩
  rw [← hB.out, e4.out] at he
  subst he
  replace hb2 := hb1.trans (hb2.mono hb1.size)
  clear hb1
  go_wp2_with (first
    | (go_at_call 17; refine (lx_Constant _ _ hs2).mono ?_; rintro e w' ⟨he, rfl⟩; rw [e5.out] at he; subst he))
  refine (lx_Tokens A _ hA4).mono ?_
  rintro e w3 ⟨v3, he, own3, hb3⟩
  rw [hTA.out] at he own3
  simp only [] at own3
  obtain ⟨va, ca, rfl, hva⟩ := own_slice own3
  clear hva
  have re := Lib.hid (he.trans (show _ = Ending.returned (.tuple #[.slice va 1 ca, .agg (tokC zeroTok), .int .i64 A.size, .int .i64 0]) from rfl))
  clear he
  have he := re.out
  subst he
  clear re
  have r3 := (TokRow.own own3).2
  replace hb3 := hb2.trans (hb3.mono hb2.size)
  clear own3 hb2
  go_wp2_with (refine wpList_store_rowA rfl 25 (.tmp 8) (.tmp 55) rfl w3.heap.size (tokC zeroTok) rfl rfl 25 (tokCs 0 [] 0 0) (heap_alloc_new _ _) sizeTok rfl (tokCs_one _ _ _ _) ?_)
  intro w4 hg4 hgr4 hsz4
  have hb34 : Below w3.heap.size w3 w4 := ((Below.refl _ _).al _).grown hgr4 (by simp) (by intro k hk; injection hk with hk; omega)
  have hb4 := hb3.trans (hb34.mono hb3.size)
  have r4 := r3.below hb34
  clear hg4 hgr4 hsz4 hb34 hb3 r3
  go_wp2_with fail
  refine (lx_Tokens B _ hB4).mono ?_
  rintro e w5 ⟨v5, he, own5, hb5⟩
  rw [hTB.out] at he own5
  simp only [] at own5
  obtain ⟨vb, cb, rfl, hvb⟩ := own_slice own5
  clear hvb
  have re := Lib.hid (he.trans (show _ = Ending.returned (.tuple #[.slice vb 1 cb, .agg (tokC zeroTok), .int .i64 B.size, .int .i64 0]) from rfl))
  clear he
  have he := re.out
  subst he
  clear re
  have r5 := (TokRow.own own5).2
  have r45 := r4.below hb5
  replace hb5 := hb4.trans (hb5.mono hb4.size)
  clear own5 hb4 r4
  go_wp2_with (refine wpList_store_rowA rfl 25 (.tmp 12) (.tmp 62) rfl w5.heap.size (tokC zeroTok) rfl rfl 25 (tokCs 0 [] 0 0) (heap_alloc_new _ _) sizeTok rfl (tokCs_one _ _ _ _) ?_)
  intro w6 hg6 hgr6 hsz6
  have hb56 : Below w5.heap.size w5 w6 := ((Below.refl _ _).al _).grown hgr6 (by simp) (by intro k hk; injection hk with hk; omega)
  have hb6 := Lib.hid (hb5.trans (hb56.mono hb5.size))
  obtain ⟨ga, hga, p0, p1, p2, p3⟩ := (r45.below hb56).at_ 0 (by simp)
  obtain ⟨gb, hgb, q0, q1, q2, q3⟩ := (r5.below hb56).at_ 0 (by simp)
  subst hga hgb
  clear hg6 hgr6 hsz6 hb56 hb5 r45 r5
  replace p0 : w6.cell? ⟨ga, 0, none⟩ = some (.int .i64 4) := p0
  replace p1 : w6.cell? ⟨ga, 1, none⟩ = some (.string s) := by rw [← mk_bl s]; exact p1
  replace p2 : w6.cell? ⟨ga, 2, none⟩ = some (.int .i64 0) := p2
  replace p3 : w6.cell? ⟨ga, 3, none⟩ = some (.int .i64 (A.size : Int)) := p3
  replace q0 : w6.cell? ⟨gb, 0, none⟩ = some (.int .i64 K) := q0
  replace q1 : w6.cell? ⟨gb, 1, none⟩ = some (.string s) := by rw [← mk_bl s]; exact q1
  replace q2 : w6.cell? ⟨gb, 2, none⟩ = some (.int .i64 0) := q2
  replace q3 : w6.cell? ⟨gb, 3, none⟩ = some (.int .i64 (B.size : Int)) := q3
  have hq : ∀ w, (binOp .neq 25 (.agg #[.int .i64 4, .string s, .int .i64 0, .int .i64 (A.size : Int)]) (.agg #[.int .i64 4, .string s, .int .i64 0, .int .i64 (A.size : Int)])).run Try.prog w = .ok (.bool false) w := by
    have := run_neq_self4 4 (bl s) 0 (A.size : Int); simpa only [tv, mk_bl] using this
  go_wp2_with (go_at_call 13; refine (nm_any _ _).mono ?_; rintro e w' ⟨rfl, rfl⟩)
  have hdl : decide (B.size ≤ A.size) = true := by simpa using hAB
  clear p0 p1 p2 p3 hq
  go_quiet ((first
    | (go_at_call 18; exact Calls.quiet_of_same (name_q s b1 hn1.out hs2 _))
    | (go_at_call 19; exact Calls.quiet_of_same (number_q s b3 hn3.out hs2 _))))
  go_wp2
  go_ret
  exact ⟨rfl, below_drewN hb6.out _⟩

theorem law_LexBack (s : ByteArray) (w : World) (hs : s.size ≤ 140737488351232) :
    Calls Try.prog 7 #[.string s] w fun e w' => e = .returned (.bool true) ∧ Below w.heap.size w w' := by
  by_cases hl : s.size ≤ 1024
  · have hl2 : (bl s).length ≤ 1024 := hl
    obtain ⟨K, h1, h2, h3⟩ := show_back (bl s) hl2
    have h4 := quote_back (bl s) hl2
    have h5 := escs_len (bl s)
    have hA : (quoteL (bl s)).length ≤ 5000 := by
      have : (quoteL (bl s)).length = ((bl s).flatMap escL).length + 2 := by simp [quoteL]
      omega
    have e : ∀ l : Bs, (mk l).size = l.length := fun l => rfl
    refine back_yes s _ _ K _ _ w hl rfl rfl rfl rfl (by rw [bl_mk, e]; exact h4) (by rw [bl_mk, e]; exact h1) (by rw [e, e]; exact h2) (by rw [e]; exact hA) ?_ ?_
    · rcases h3 with ⟨rfl, h, _⟩ | ⟨rfl, h, _⟩ | ⟨rfl, h, _⟩ <;> rw [h] <;> rfl
    · rcases h3 with ⟨rfl, _, h⟩ | ⟨rfl, _, h⟩ | ⟨rfl, _, h⟩ <;> rw [h] <;> rfl
  · exact back_no s w hs hl

end Go.Proofs.Ytefgipoegnacjaa
