/- LexByte: the law walked. -/
import Derived.Test.YtefgipoegnacjaaProg
import Derived.Test.YtefgipoegnacjaaBase
import Derived.Test.YtefgipoegnacjaaBytes
import Derived.Test.YtefgipoegnacjaaLexD
import Derived.Test.YtefgipoegnacjaaLexX
import Derived.Test.YtefgipoegnacjaaLexY
import Derived.Test.YtefgipoegnacjaaKnown
import Derived.Laws.Concat
namespace Go.Proofs.Ytefgipoegnacjaa
open Go.RowKit Lx

theorem bl_append (a b : ByteArray) : bl (a ++ b) = bl a ++ bl b := by
  show (a ++ b).data.toList = _
  rw [ByteArray.data_append, Array.toList_append]
theorem u8_byte {n : Int} (h : IntKind.u8.wrap n = n) : 0 ≤ n ∧ n < 256 := by
  have : IntKind.u8.wrap n = n % 256 := by simp [IntKind.wrap, IntKind.bits, IntKind.signed]
  omega
theorem tokens_far (l : Bs) : (tokens l).far ≤ l.length ∧ ((tokens l).ok = true → (tokens l).far = l.length ∧ (tokens l).open_ = zeroTok) := by
  have := tk_far l 0 false
  rw [tokens_tk]
  refine ⟨by omega, fun h => ?_⟩
  have := this.2.2.1 h
  exact ⟨by omega, this.2⟩

/-- a call of Tokens, and its open token laid in memory: what the law keeps of the world -/
theorem byte_way (a b : Res) (l : Bs) (c : UInt8) (ha : a = tokens l) (hb : b = tokens (l ++ [c])) :
    (a.ok = false ∧ a.far ≤ b.far) ∨ (a.ok = true ∧ a.far = l.length ∧ ((b.far = l.length ∧ b.ok = false) ∨ b.far = l.length + 1)) := by
  subst ha hb
  cases h : (tokens l).ok with
  | false =>
    left
    rw [tokens_tk] at *
    exact ⟨rfl, tk_byteNo [c] l 0 false h⟩
  | true =>
    right
    refine ⟨rfl, ((tokens_far l).2 h).1, ?_⟩
    have := tk_byteOk c l 0 false h
    rw [← tokens_tk] at this
    simpa using this

set_option maxRecDepth 100000 in
set_option maxHeartbeats 4000000 in
theorem law_LexByte (s : ByteArray) (n : Int) (w : World) (hs : s.size ≤ 1048576) (hn : IntKind.u8.wrap n = n) :
    Calls Try.prog 5 #[.string s, .int .u8 n] w fun e w' => e = .returned (.bool true) ∧ Below w.heap.size w w' := by
  obtain ⟨hn0, hn1⟩ := u8_byte hn
  clear hn
  have hs2 : s.size ≤ 4194304 := by omega
  obtain ⟨c, hc⟩ : ∃ c, c = byteI n := ⟨_, rfl⟩
  have hcv : Value.int .u8 n = u8v c := by rw [hc, u8v_byteI n hn0 hn1]
  obtain ⟨R1, hR1⟩ : ∃ R, R = tokens (bl s) := ⟨_, rfl⟩
  obtain ⟨R2, hR2⟩ : ∃ R, R = tokens (bl s ++ [c]) := ⟨_, rfl⟩
  have hway := byte_way R1 R2 (bl s) c hR1 hR2
  rw [bl_length] at hway
  replace hR1 := Lib.hid hR1
  have hR2' : Hid (R2 = tokens (bl (s ++ mk [c]))) := by show _ = _; rw [bl_append, bl_mk]; exact hR2
  have hsz : (s ++ mk [c]).size ≤ 4194304 := by rw [ByteArray.size_append]; show s.size + 1 ≤ _; omega
  replace hsz := Lib.hid hsz
  replace hc := Lib.hid hc
  replace hcv := Lib.hid hcv
  obtain ⟨C1, hC1⟩ : ∃ C : Int, C = if R1.ok then 0 else 11 := ⟨_, rfl⟩
  obtain ⟨C2, hC2⟩ : ∃ C : Int, C = if R2.ok then 0 else 11 := ⟨_, rfl⟩
  obtain ⟨F1, hF1⟩ : ∃ F : Nat, F = R1.far := ⟨_, rfl⟩
  obtain ⟨F2, hF2⟩ : ∃ F : Nat, F = R2.far := ⟨_, rfl⟩
  have hw2 : Hid ((C1 = 11 ∧ F1 ≤ F2) ∨ (C1 = 0 ∧ F1 = s.size ∧ ((F2 = s.size ∧ C2 = 11) ∨ F2 = s.size + 1))) := by
    show _ ∨ _
    rw [hC1, hC2, hF1, hF2]
    rcases hway with ⟨h, h2⟩ | ⟨h, h2, h3⟩
    · left; rw [h]; exact ⟨rfl, h2⟩
    · right; rw [h]; refine ⟨rfl, h2, ?_⟩
      rcases h3 with ⟨h3, h4⟩ | h3
      · left; rw [h4]; exact ⟨h3, rfl⟩
      · right; exact h3
  replace hC1 := Lib.hid hC1
  replace hC2 := Lib.hid hC2
  replace hF1 := Lib.hid hF1
  replace hF2 := Lib.hid hF2
  clear hway
  clear hR2
  go_enter Try.func5, Try.ntmps5
  go_wp2_with fail
  refine (lw_known _).mono ?_
  rintro e w0 ⟨rfl, hb0⟩
  go_wp2_with fail
  refine (lx_Tokens s _ hs2).mono ?_
  rintro e w1 ⟨v1, he, own1, hb1⟩
  rw [← hR1.out, ← hC1.out, ← hF1.out] at he
  subst he
  replace hb1 := hb0.trans (hb1.mono hb0.size)
  clear own1 hb0
  go_wp2_with (refine wpList_store_rowA rfl 25 (.tmp 6) (.tmp 19) rfl w1.heap.size (tokC R1.open_) rfl rfl 25 (tokCs 0 [] 0 0) (heap_alloc_new _ _) sizeTok rfl (tokCs_one _ _ _ _) ?_)
  intro w2 hg2 hgr hsz2
  have hb2 : Below w.heap.size w w2 := (hb1.al _).grown hgr (by have := hb1.size; simp; omega) (by intro k hk; injection hk with hk; have := hb1.size; omega)
  clear hg2 hgr hsz2 hb1
  have hcon : (convert 35 9 (.slice (some ⟨w2.heap.size, 0, none⟩) 1 1)).run Try.prog (w2.alloc (.cells #[.int .u8 n] 5)) = .ok (.string (mk [c])) (w2.alloc (.cells #[.int .u8 n] 5)) := by
    refine run_string_own Try.underlying35 Try.underlying5 Try.underlying9 (base := w2.heap.size) (et := 5) (n := 1) ?_
    have := World.ownsRow_lit (base := w2.heap.size) (size := 1) (e := 5) w2 #[.int .u8 n] 1 (Nat.le_refl _) (by unfold maxLen; omega) (by simp)
    rw [show [c].map u8v = [Value.int .u8 n] from by rw [hcv.out]; rfl]
    exact this
  have hadd := fun w => run_string_add_sum (P := Try.prog) w s (mk [c]) (by show s.size + 1 ≤ _; omega)
  go_wp2_with fail
  refine (lx_Tokens (s ++ mk [c]) _ hsz.out).mono ?_
  rintro e w3 ⟨v3, he, own3, hb3⟩
  rw [← hR2'.out, ← hC2.out, ← hF2.out] at he
  subst he
  replace hb3 := (hb2.al _).trans (hb3.mono (by have := hb2.size; simp; omega))
  clear own3 hb2 hcon hadd
  go_wp2_with (refine wpList_store_rowA rfl 25 (.tmp 10) (.tmp 30) rfl w3.heap.size (tokC R2.open_) rfl rfl 25 (tokCs 0 [] 0 0) (heap_alloc_new _ _) sizeTok rfl (tokCs_one _ _ _ _) ?_)
  intro w4 hg4 hgr hsz4
  have hb4 : Below w.heap.size w w4 := (hb3.al _).grown hgr (by have := hb3.size; simp; omega) (by intro k hk; injection hk with hk; have := hb3.size; omega)
  clear hg4 hgr hsz4 hb3
  rcases hw2.out with ⟨h1, h2⟩ | ⟨h1, h2, ⟨h3, h4⟩ | h3⟩
  · have g1 : (C1 != 0) = true := by rw [h1]; decide
    have g2 : decide (F1 ≤ F2) = true := by simpa using h2
    clear h1 hw2
    go_wp2_with (go_at_call 13; refine (nm_any _ _).mono ?_; rintro e w' ⟨rfl, rfl⟩)
    go_ret
    exact ⟨rfl, hb4⟩
  · have g1 : (C1 != 0) = false := by rw [h1]; decide
    have g2 : ((F1 : Int) == (s.size : Int)) = true := by rw [h2]; simp
    have g3 : ((F2 : Int) == (F1 : Int)) = true := by rw [h2, h3]; simp
    have g4 : (C2 != 0) = true := by rw [h4]; decide
    have hF : F1 ≤ 1048576 := by omega
    clear h1 h2 h3 h4 hw2
    go_wp2_with (go_at_call 13; refine (nm_any _ _).mono ?_; rintro e w' ⟨rfl, rfl⟩)
    go_ret
    exact ⟨rfl, hb4⟩
  · have g1 : (C1 != 0) = false := by rw [h1]; decide
    have g2 : ((F1 : Int) == (s.size : Int)) = true := by rw [h2]; simp
    have g3 : ((F2 : Int) == (F1 : Int)) = false := by rw [beq_eq_false_iff_ne]; omega
    have g4 : ((F2 : Int) == (F1 : Int) + 1) = true := by rw [beq_iff_eq]; omega
    have hF : F1 ≤ 1048576 := by omega
    clear h1 h2 h3 hw2
    go_wp2_with (go_at_call 13; refine (nm_any _ _).mono ?_; rintro e w' ⟨rfl, rfl⟩)
    go_ret
    exact ⟨rfl, hb4⟩

end Go.Proofs.Ytefgipoegnacjaa
