/- LexBehind: the law walked. -/
import Derived.Test.YtefgipoegnacjaaProg
import Derived.Test.YtefgipoegnacjaaBase
import Derived.Test.YtefgipoegnacjaaBytes
import Derived.Test.YtefgipoegnacjaaLexD
import Derived.Test.YtefgipoegnacjaaLexX
import Derived.Test.YtefgipoegnacjaaLexY
import Derived.Test.YtefgipoegnacjaaSame
import Derived.Test.YtefgipoegnacjaaKnown
import Derived.Test.YtefgipoegnacjaaLawTokens
import Derived.Test.YtefgipoegnacjaaLawByte
import Derived.Deep.AppendLies
import Derived.Laws.Concat
namespace Go.Proofs.Ytefgipoegnacjaa
open Go.RowKit Lx

namespace Lx
theorem tk_kinds (l : Bs) (a : Nat) (j : Bool) : (∀ t ∈ (tk l a j).toks, t.kind ≠ 0) ∧ ((tk l a j).open_.kind = 0 → (tk l a j).open_ = zeroTok) := by
  refine tk_ind (P := fun l a _ r => (∀ t ∈ r.toks, t.kind ≠ 0) ∧ (r.open_.kind = 0 → r.open_ = zeroTok)) ?_ ?_ ?_ ?_ l a j
  · intro l a j _; exact ⟨fun t h => by simp at h, fun _ => rfl⟩
  · intro l a t wh _ _ _ _; exact ⟨fun t h => by simp at h, fun _ => rfl⟩
  · intro l a j n l1 t hn hl1 h1 hlt hx; exact ⟨fun t h => by simp at h, (next_facts h1 hx).zero⟩
  · intro l a j n l1 t r hn hl1 h1 hlt hx hj hr hlo hhi ih
    refine ⟨fun u hu => ?_, ih.2⟩
    rcases List.mem_cons.1 hu with rfl | hu
    · exact (next_facts h1 hx).whole rfl
    · exact ih.1 u hu
theorem tk_bounds (l : Bs) (a : Nat) (j : Bool) : (∀ t ∈ (tk l a j).toks, a ≤ t.at_ ∧ t.at_ < t.end_ ∧ t.end_ ≤ (tk l a j).far) ∧ (tk l a j).open_.at_ ≤ (tk l a j).far ∧ (tk l a j).open_.end_ ≤ (tk l a j).far := by
  refine tk_ind (P := fun l a _ r => (∀ t ∈ r.toks, a ≤ t.at_ ∧ t.at_ < t.end_ ∧ t.end_ ≤ r.far) ∧ r.open_.at_ ≤ r.far ∧ r.open_.end_ ≤ r.far) ?_ ?_ ?_ ?_ l a j
  · intro l a j _; exact ⟨fun t h => by simp at h, Nat.zero_le _, Nat.zero_le _⟩
  · intro l a t wh _ _ _ _; exact ⟨fun t h => by simp at h, Nat.zero_le _, Nat.zero_le _⟩
  · intro l a j n l1 t hn hl1 h1 hlt hx
    have hf := next_facts h1 hx
    refine ⟨fun t h => by simp at h, ?_⟩
    by_cases hk : t.kind = 0
    · rw [hf.zero hk]; exact ⟨Nat.zero_le _, Nat.zero_le _⟩
    · simp only [if_neg hk]
      have := hf.lo hk
      have := hf.at_ hk
      exact ⟨by omega, Nat.le_refl _⟩
  · intro l a j n l1 t r hn hl1 h1 hlt hx hj hr hlo hhi ih
    have hfar := (tk_far (l1.drop (t.end_ - (a + n))) t.end_ (isWordB t.kind)).1
    rw [← hr] at hfar
    have hat := (next_facts h1 hx).at_ ((next_facts h1 hx).whole rfl)
    refine ⟨fun u hu => ?_, ih.2⟩
    rcases List.mem_cons.1 hu with rfl | hu
    · exact ⟨by omega, by omega, hfar⟩
    · have := ih.1 u hu; exact ⟨by omega, this.2⟩
theorem behind_way (s0 s1 : Bs) (h : (tokens s0).ok = true) :
    tokens (s0 ++ 10 :: s1) = ⟨(tokens s0).toks ++ (tokens s1).toks.map (moveT (s0.length + 1)), moveT (s0.length + 1) (tokens s1).open_, (tokens s1).far + (s0.length + 1), (tokens s1).ok⟩ := by
  rw [tokens_tk, tk_behind s1 s0 0 false (by rw [← tokens_tk]; exact h), show 0 + s0.length + 1 = 0 + (s0.length + 1) from by omega, tk_move, ← tokens_tk, ← tokens_tk]
  rfl
end Lx

/-- a moved token's cells -/
def mcs (d : Nat) (t : Tok) : List Value := [.int .i64 t.kind, .string (mk t.text), .int .i64 ((t.at_ : Int) + d), .int .i64 ((t.end_ : Int) + d)]
theorem mcs_eq (d : Nat) (t : Tok) (h : t.kind ≠ 0) : mcs d t = tcs (moveT d t) := by
  rw [moveT_ne d t h]; unfold mcs tcs; simp only [Int.natCast_add]
theorem mcs_one (d : Nat) (t : Tok) : ∀ u ∈ mcs d t, u.oneCell' = true := by
  intro u hu; simp [mcs] at hu; rcases hu with rfl | rfl | rfl | rfl <;> rfl
theorem run_eql_self4 (k : Int) (l : Bs) (a b : Int) (w : World) : (binOp .eql 25 (tv k l a b) (tv k l a b)).run Try.prog w = .ok (.bool true) w := by
  rw [run_eql_struct]
  simp [go_sem, Try.underlying25, run_equalIn_agg]
theorem map_step (d : Nat) (A L M : List Tok) (hM : M = L.map (moveT d)) (k : Nat) (h : k < L.length) : A ++ M.take (k + 1) = (A ++ M.take k) ++ [moveT d L[k]] := by
  subst hM
  rw [List.take_succ_eq_append_getElem (by simpa using h), List.append_assoc, List.getElem_map]

set_option maxRecDepth 100000 in
set_option maxHeartbeats 16000000 in
theorem law_LexBehind (s0 s1 : ByteArray) (w : World) (hs : s0.size + s1.size ≤ 1048576) :
    Calls Try.prog 6 #[.string s0, .string s1] w fun e w' => e = .returned (.bool true) ∧ Below w.heap.size w w' := by
  obtain ⟨it, hit, hz0, hz1, hz2⟩ := info_parts infoTok
  obtain ⟨R1, hR1⟩ : ∃ R, R = tokens (bl s0) := ⟨_, rfl⟩
  obtain ⟨R2, hR2⟩ : ∃ R, R = tokens (bl s1) := ⟨_, rfl⟩
  have l1 : R1.toks.length ≤ s0.size ∧ R1.far ≤ s0.size := by rw [hR1, tokens_tk]; have := tk_far (bl s0) 0 false; rw [bl_length] at this; omega
  have l2 : R2.toks.length ≤ s1.size ∧ R2.far ≤ s1.size := by rw [hR2, tokens_tk]; have := tk_far (bl s1) 0 false; rw [bl_length] at this; omega
  have hs0 : s0.size ≤ 4194304 := by omega
  have hs1 : s1.size ≤ 4194304 := by omega
  have bounds : (∀ t ∈ R2.toks, t.at_ < 1048577 ∧ t.end_ < 1048577) ∧ R2.open_.at_ < 1048577 ∧ R2.open_.end_ < 1048577 := by
    have := tk_bounds (bl s1) 0 false
    rw [← tokens_tk, ← hR2] at this
    refine ⟨fun t ht => ?_, by omega, by omega⟩
    have := this.1 t ht; omega
  have kinds : (∀ t ∈ R2.toks, t.kind ≠ 0) ∧ (R2.open_.kind = 0 → R2.open_ = zeroTok) := by rw [hR2, tokens_tk]; exact tk_kinds _ _ _
  have hR3 : R1.ok = true → tokens (bl (s0 ++ ⟨#[10]⟩ ++ s1)) = ⟨R1.toks ++ R2.toks.map (moveT (s0.size + 1)), moveT (s0.size + 1) R2.open_, R2.far + (s0.size + 1), R2.ok⟩ := by
    intro h
    rw [bl_append, bl_append, List.append_assoc, hR1, hR2]
    rw [hR1] at h
    have := behind_way (bl s0) (bl s1) h
    rw [bl_length] at this
    exact this
  obtain ⟨C1, hC1⟩ : ∃ C : Int, C = if R1.ok then 0 else 11 := ⟨_, rfl⟩
  obtain ⟨C2, hC2⟩ : ∃ C : Int, C = if R2.ok then 0 else 11 := ⟨_, rfl⟩
  obtain ⟨F1, hF1⟩ : ∃ F : Nat, F = R1.far := ⟨_, rfl⟩
  obtain ⟨F2, hF2⟩ : ∃ F : Nat, F = R2.far := ⟨_, rfl⟩
  have hF2l : F2 ≤ 1048576 := by omega
  replace hR1 := Lib.hid hR1
  replace hR2 := Lib.hid hR2
  replace hC2 := Lib.hid hC2
  replace hF1 := Lib.hid hF1
  replace hF2 := Lib.hid hF2
  cases hok : R1.ok with
  | false =>
    have hc1 : (C1 != 0) = true := by rw [hC1, hok]; decide
    replace hC1 := Lib.hid hC1
    clear hR3 hok l1 l2 kinds bounds
    go_enter Try.func6, Try.ntmps6
    go_wp2_with fail
    refine (lw_known _).mono ?_
    rintro e w0 ⟨rfl, hb0⟩
    go_wp2_with fail
    refine (lx_Tokens s0 _ hs0).mono ?_
    rintro e w1 ⟨v1, he, own1, hb1⟩
    rw [← hR1.out, ← hC1.out, ← hF1.out] at he
    subst he
    replace hb1 := hb0.trans (hb1.mono hb0.size)
    clear own1 hb0
    go_wp2_with (refine wpList_store_rowA rfl 25 (.tmp 6) (.tmp 26) rfl w1.heap.size (tokC R1.open_) rfl rfl 25 (tokCs 0 [] 0 0) (heap_alloc_new _ _) sizeTok rfl (tokCs_one _ _ _ _) ?_)
    intro w2 hg2 hgr hsz2
    have hb2 : Below w.heap.size w w2 := (hb1.al _).grown hgr (by have := hb1.size; simp; omega) (by intro k hk; injection hk with hk; have := hb1.size; omega)
    clear hg2 hgr hsz2 hb1
    go_wp2_with (go_at_call 13; refine (nm_any _ _).mono ?_; rintro e w' ⟨rfl, rfl⟩)
    go_ret
    exact ⟨rfl, hb2⟩
  | true =>
    have hc1 : C1 = 0 := by rw [hC1, hok]; rfl
    subst hc1
    replace hR3 := Lib.hid (hR3 hok)
    have hok' : Hid (R1.ok = true) := hok
    clear hC1 hok
    replace kinds := Lib.hid kinds
    replace bounds := Lib.hid bounds
    obtain ⟨d, hd⟩ : ∃ d, d = s0.size + 1 := ⟨_, rfl⟩
    rw [← hd] at hR3
    have hdl : d ≤ 1048577 := by omega
    have hdv : IntKind.i64.wrap ((s0.size : Int) + 1) = (d : Int) := by rw [IntWalk.i64_in _ (by omega), hd]; simp
    replace hd := Lib.hid hd
    obtain ⟨A, hA⟩ : ∃ A, A = R1.toks := ⟨_, rfl⟩
    obtain ⟨B, hB⟩ : ∃ B, B = R2.toks := ⟨_, rfl⟩
    obtain ⟨O, hO⟩ : ∃ O, O = R2.open_ := ⟨_, rfl⟩
    rw [← hA] at l1
    rw [← hB] at l2
    rw [← hA, ← hB, ← hO, ← hF2.out] at hR3
    rw [← hB, ← hO] at kinds bounds
    replace hA := Lib.hid hA
    replace hB := Lib.hid hB
    replace hO := Lib.hid hO
    obtain ⟨BM, hBM⟩ : ∃ BM, BM = B.map (moveT d) := ⟨_, rfl⟩
    rw [← hBM] at hR3
    have hBl : BM.length = B.length := by rw [hBM, List.length_map]
    replace hBl := Lib.hid hBl
    replace hBM := Lib.hid hBM
    obtain ⟨l1a, _⟩ := l1
    obtain ⟨l2a, _⟩ := l2
    go_enter Try.func6, Try.ntmps6
    go_wp2_with fail
    refine (lw_known _).mono ?_
    rintro e w0 ⟨rfl, hb0⟩
    go_wp2_with fail
    refine (lx_Tokens s0 _ hs0).mono ?_
    rintro e w1 ⟨v1, he, own1, hb1⟩
    rw [← hR1.out, hok'.out, ← hF1.out] at he
    rw [← hR1.out, ← hA.out] at own1
    replace he := he.trans (show _ = Ending.returned (.tuple #[v1, .agg (tokC R1.open_), .int .i64 F1, .int .i64 0]) from rfl)
    subst he
    obtain ⟨va, ca, rfl, hva⟩ := own_slice own1
    clear hva
    go_wp2_with (refine wpList_store_rowA rfl 25 (.tmp 6) (.tmp 26) rfl w1.heap.size (tokC R1.open_) rfl rfl 25 (tokCs 0 [] 0 0) (heap_alloc_new _ _) sizeTok rfl (tokCs_one _ _ _ _) ?_)
    intro w2 hg2 hgr hsz2
    have hb12 : Below w1.heap.size w1 w2 := ((Below.refl _ _).al _).grown hgr (by simp) (by intro k hk; injection hk with hk; omega)
    have hs12 : w1.heap.size < w2.heap.size := by have h := hsz2.out; first | omega | (simp at h; omega)
    clear hg2 hgr hsz2
    go_wp2_with (first
      | (go_at_call 13; refine (nm_any _ _).mono ?_; rintro e w' ⟨rfl, rfl⟩))
    refine (lx_Tokens s1 _ hs1).mono ?_
    rintro e w3 ⟨v3, he, own3, hb3⟩
    rw [← hR2.out, ← hC2.out, ← hF2.out, ← hO.out] at he
    rw [← hR2.out, ← hB.out] at own3
    subst he
    obtain ⟨vb, cb, rfl, hvb⟩ := own_slice own3
    clear hvb
    go_wp2_with (refine wpList_store_rowA rfl 25 (.tmp 11) (.tmp 39) rfl w3.heap.size (tokC O) rfl rfl 25 (tokCs 0 [] 0 0) (heap_alloc_new _ _) sizeTok rfl (tokCs_one _ _ _ _) ?_)
    intro w4 hg4 hgr hsz4
    have hb34 : Below w3.heap.size w3 w4 := ((Below.refl _ _).al _).grown hgr (by simp) (by intro k hk; injection hk with hk; omega)
    have hs34 : w3.heap.size < w4.heap.size := by have h := hsz4.out; first | omega | (simp at h; omega)
    clear hgr hsz4
    have hadd1 := fun w => run_string_add_sum (P := Try.prog) w s0 ⟨#[10]⟩ (by show s0.size + 1 ≤ _; omega)
    have hadd2 := fun w => run_string_add_sum (P := Try.prog) w (s0 ++ ⟨#[10]⟩) s1 (by rw [ByteArray.size_append]; show s0.size + 1 + s1.size ≤ _; omega)
    have hs3 : Hid ((s0 ++ ⟨#[10]⟩ ++ s1).size ≤ 4194304) := by show _ ≤ _; rw [ByteArray.size_append, ByteArray.size_append]; show s0.size + 1 + s1.size ≤ _; omega
    go_wp2_with fail
    refine (lx_Tokens _ _ hs3.out).mono ?_
    rintro e w5 ⟨v5, he, own5, hb5⟩
    rw [hR3.out] at he own5
    simp only [] at he own5
    rw [← hC2.out] at he
    subst he
    obtain ⟨vc, cc, rfl, hvc⟩ := own_slice own5
    clear hvc hadd1 hadd2 hs3
    go_wp2_with (refine wpList_store_rowA rfl 25 (.tmp 15) (.tmp 49) rfl w5.heap.size (tokC (moveT d O)) rfl rfl 25 (tokCs 0 [] 0 0) (heap_alloc_new _ _) sizeTok rfl (tokCs_one _ _ _ _) ?_)
    intro w6 hg6 hgr hsz6
    have hb56 : Below w5.heap.size w5 w6 := ((Below.refl _ _).al _).grown hgr (by simp) (by intro k hk; injection hk with hk; omega)
    have hs56 : w5.heap.size < w6.heap.size := by have h := hsz6.out; first | omega | (simp at h; omega)
    clear hgr hsz6
    have b13 : Below w1.heap.size w1 w3 := hb12.trans (hb3.mono hb12.size)
    have b15 : Below w1.heap.size w1 w5 := b13.trans ((hb34.trans (hb5.mono hb34.size)).mono b13.size)
    have b16 : Below w1.heap.size w1 w6 := b15.trans (hb56.mono b15.size)
    have b36 : Below w3.heap.size w3 w6 := (hb34.trans (hb5.mono hb34.size)).trans (hb56.mono (by have := hb34.size; have := hb5.size; omega))
    have b46 : Below w4.heap.size w4 w6 := hb5.trans (hb56.mono hb5.size)
    have bw1 : Below w.heap.size w w1 := hb0.trans (hb1.mono hb0.size)
    have bw0 : Hid (Below w.heap.size w w6) := bw1.trans (b16.mono bw1.size)
    have oa : Hid (w6.ownsRow w.heap.size 25 4 (.slice va A.length ca) A.length (tcells A)) := own_base (own_below own1 b16) hb0.size
    have rb : Hid (TokRow w6 vb B) := (TokRow.own own3).2.below b36
    have rc : Hid (TokRow w6 vc (A ++ BM)) := (TokRow.own own5).2.below hb56
    have fa : Hid (∀ ad, va = some ad → w.heap.size ≤ ad.block ∧ ad.block < w1.heap.size) := by
      rintro ad rfl
      rcases own1.2 with ⟨h, _⟩ | ⟨g, cap, cur, h, hg, hh, _⟩
      · cases h
      · injection h with h _ _; injection h with h; subst h; exact ⟨Nat.le_trans hb0.size hg, (Array.getElem?_eq_some_iff.1 hh).1⟩
    have fb : Hid (∀ ad, vb = some ad → w2.heap.size ≤ ad.block ∧ ad.block < w3.heap.size) := by
      rintro ad rfl
      rcases own3.2 with ⟨h, _⟩ | ⟨g, cap, cur, h, hg, hh, _⟩
      · cases h
      · injection h with h _ _; injection h with h; subst h; exact ⟨hg, (Array.getElem?_eq_some_iff.1 hh).1⟩
    have fc : Hid (∀ ad, vc = some ad → w4.heap.size ≤ ad.block ∧ ad.block < w5.heap.size) := by
      rintro ad rfl
      rcases own5.2 with ⟨h, _⟩ | ⟨g, cap, cur, h, hg, hh, _⟩
      · cases h
      · injection h with h _ _; injection h with h; subst h; exact ⟨hg, (Array.getElem?_eq_some_iff.1 hh).1⟩
    have hO6 : Hid (w6.heap[w3.heap.size]? = some (.cells (tokC O) 25)) := (b46.block _ hs34).trans hg4.out
    have z3 : w3.heap.size < w6.heap.size := by have := b46.size; omega
    have z5 : w5.heap.size < w6.heap.size := hs56
    have z23 : w1.heap.size < w2.heap.size := hs12
    have z45 : w3.heap.size < w4.heap.size := hs34
    have z2 : w2.heap.size ≤ w3.heap.size := hb3.size
    have z4 : w4.heap.size ≤ w5.heap.size := hb5.size
    obtain ⟨row, hrow⟩ : ∃ row : Option Nat, row = va.map (fun ad => ad.block) := ⟨_, rfl⟩
    obtain ⟨m3, hm3⟩ : ∃ m, m = w3.heap.size := ⟨_, rfl⟩
    obtain ⟨m5, hm5⟩ : ∃ m, m = w5.heap.size := ⟨_, rfl⟩
    have hr3 : Hid (some m3 ≠ row) := by
      show some m3 ≠ row
      rw [hrow]
      intro h
      obtain ⟨ad, had, hbl⟩ := map_block h
      have := (fa.out ad had).2; omega
    have hr5 : Hid (some m5 ≠ row) := by
      show some m5 ≠ row
      rw [hrow]
      intro h
      obtain ⟨ad, had, hbl⟩ := map_block h
      have := (fa.out ad had).2; omega
    have hrb : Hid (∀ ad, vb = some ad → some ad.block ≠ row) := by
      show ∀ ad, vb = some ad → some ad.block ≠ row
      intro ad had
      have h2 := fb.out ad had
      rw [hrow]
      intro h
      obtain ⟨ad', had', hbl⟩ := map_block h
      have := (fa.out ad' had').2; omega
    have hrc : Hid (∀ ad, vc = some ad → some ad.block ≠ row ∧ ad.block ≠ m3 ∧ ad.block < w6.heap.size) := by
      show ∀ ad, vc = some ad → some ad.block ≠ row ∧ ad.block ≠ m3 ∧ ad.block < w6.heap.size
      intro ad had
      have h2 := fc.out ad had
      rw [hrow]
      refine ⟨?_, by omega, by omega⟩
      intro h
      obtain ⟨ad', had', hbl⟩ := map_block h
      have := (fa.out ad' had').2; omega
    have hrw : Hid (∀ k, row = some k → w.heap.size ≤ k ∧ k ≠ m3) := by
      show ∀ k, row = some k → w.heap.size ≤ k ∧ k ≠ m3
      intro k hk
      rw [hrow] at hk
      obtain ⟨ad, had, rfl⟩ := map_block hk.symm
      have := fa.out ad had
      exact ⟨this.1, by omega⟩
    have hwm : w.heap.size ≤ m3 := by have := bw1.size; omega
    rw [← hm3] at hO6 z3
    rw [← hm5] at hg6 z5
    have hm35 : m3 < m5 := by omega
    replace hrow := Lib.hid hrow
    rw [← hm3, ← hm5]
    clear own1 own3 own5 hb0 hb1 hb12 hb3 hb34 hb5 hb56 b13 b15 b16 b36 b46 bw1 hg4 hs12 hs34 hs56 fa fb fc z23 z45 z2 z4 hm3 hm5
    have e3 : (R2.toks.length = B.length) := by rw [hB.out]
    go_wp2_with fail
    replace e3 := Lib.hid e3
    go_loopw [5, 18] (fun a i wr => ∃ (k : Nat) (va2 : Option Addr) (ca2 : Nat), k ≤ B.length ∧ i = .int .i64 k ∧ a = .slice va2 (A.length + k) ca2 ∧ Hid (wr.ownsRow w.heap.size 25 4 (.slice va2 (A.length + k) ca2) (A.length + k) (tcells (A ++ BM.take k))) ∧ Hid (w6.grownBy wr row) ∧
        Hid ((Value.slice va2 (A.length + k) ca2).ownBlock = row ∨ ∀ b, (Value.slice va2 (A.length + k) ca2).ownBlock = some b → w6.heap.size ≤ b)) (fun _ i _ => B.length - (intOf i).toNat)
    case atStart => exact ⟨0, va, ca, Nat.zero_le _, rfl, rfl, by simp only [List.take_zero, List.append_nil]; exact oa, World.grownBy.refl _ _, .inl (by rw [hrow.out]; cases va <;> rfl)⟩
    case round =>
      obtain ⟨k, va2, ca2, hk, rfl, rfl, own, hgr, hat⟩ := hrel
      by_cases hlt : k < B.length
      · obtain ⟨g, rfl, p0, p1, p2, p3⟩ := (rb.out.grown hgr.out hrb.out).at_ k hlt
        have hstep := map_step d A B BM hBM.out k hlt
        have hkd := kinds.out.1 _ (List.getElem_mem hlt)
        obtain ⟨hb1, hb2⟩ := bounds.out.1 _ (List.getElem_mem hlt)
        generalize B[k] = t at p0 p1 p2 p3 hstep hkd hb1 hb2
        replace hstep := Lib.hid hstep
        replace hkd := Lib.hid hkd
        have h63 : Hid (A.length + k + 1 ≤ maxLen) := by show A.length + k + 1 ≤ maxLen; unfold maxLen; omega
        have h64 : Hid ((A.length + k + 1) * 40 ≤ 140737488355328) := by show (A.length + k + 1) * 40 ≤ 140737488355328; omega
        have hbs : w.heap.size ≤ wr.heap.size := by have := bw0.out.size; have := hgr.out.size; omega
        go_wp2_with (first
          | (at_builtin; refine wpList_append_lies _ rfl (.tmp 72) (.tmp 74) 22 rfl w.heap.size 25 it (.agg (tokCs 0 [] 0 0)) 4 40 Try.underlying22 hit hz0 hz1 hz2 rfl (by decide) _ (A.length + k) _ rfl ((own.out.alloc _).alloc _) ⟨wr.heap.size + 1, 0, none⟩ 1 1 (mcs d t) rfl rfl (own_cells_row (World.size_alloc _ _) rfl) (mcs_one d t) (by decide) h63.out h64.out (by rw [World.size_alloc, World.size_alloc]; omega) _ rfl ?_))
        intro g4 c4 w4 own4 hgr4 hat4 hlt4
        have own5 : Hid (w4.ownsRow w.heap.size 25 4 (.slice (some ⟨g4, 0, none⟩) (A.length + (k + 1)) c4) (A.length + (k + 1)) (tcells (A ++ BM.take (k + 1)))) := by
          show World.ownsRow _ _ _ _ _ _ _
          rw [hstep.out, tcells_snoc, ← mcs_eq d t hkd.out]; exact own4
        have hgr5 : Hid (w6.grownBy w4 row) := grown_trans (grown_al (grown_al hgr.out)) hgr4 (by
          rcases hat.out with h | h
          · exact .inl h
          · exact .inr h)
        have hat5 : Hid ((Value.slice (some ⟨g4, 0, none⟩) (A.length + (k + 1)) c4).ownBlock = row ∨ ∀ b, (Value.slice (some ⟨g4, 0, none⟩) (A.length + (k + 1)) c4).ownBlock = some b → w6.heap.size ≤ b) := by
          rcases hat4 with h | h
          · rcases hat.out with h2 | h2
            · left; rw [← h2, h]; rfl
            · right; intro b hb; have hb : some g4 = some b := hb; rw [← h] at hb; exact h2 b hb
          · right; intro b hb; have hb : some g4 = some b := hb; injection hb with hb; have := hgr.out.size; first | omega | (simp at h; omega)
        clear own4 hgr4 hat4 hlt4 own hgr hat p0 p1 p2 p3 hstep hkd
        go_wp2_with fail
        go_roundw
        case rel => exact ⟨k + 1, some ⟨g4, 0, none⟩, c4, by omega, by go_num, rfl, own5, hgr5, hat5⟩
        case measure => simp [intOf]; omega
      · have hkB : k = BM.length := by rw [hBl.out]; omega
        subst hkB
        have own5 := own.out
        rw [List.take_of_length_le (Nat.le_refl _)] at own5
        have ra := Lib.hid (TokRow.own own5).2
        have hll : Hid ((A ++ BM).length ≤ 17592186044416) := by show _ ≤ _; rw [List.length_append, hBl.out]; omega
        have rc2 := Lib.hid (rc.out.grown hgr.out (fun ad h => (hrc.out ad h).1))
        have fva : Hid (∀ ad, va2 = some ad → ad.block ≠ m3) := by
          show ∀ ad, va2 = some ad → ad.block ≠ m3
          rintro ad rfl
          rcases hat.out with h | h
          · have := (hrw.out ad.block h.symm).2; omega
          · have := h ad.block rfl; omega
        have fvc : Hid (∀ ad, vc = some ad → ad.block ≠ m3) := fun ad h => (hrc.out ad h).2.1
        have bwr := Lib.hid (bw0.out.grown hgr.out bw0.out.size (fun k h => (hrw.out k h).1))
        have o3 := (hgr.out.block m3 z3 hr3.out).trans hO6.out
        have o5 := (hgr.out.block m5 z5 hr5.out).trans hg6.out
        have zr3 : m3 < wr.heap.size := by have := hgr.out.size; omega
        have zr5 : m5 < wr.heap.size := by have := hgr.out.size; omega
        clear own5 rb hrb rc hrc hrw own hgr hat
        obtain ⟨p0, p1, p2, p3⟩ := row_cells o3
        have f2 : wr.frozen? ⟨m3, 2, none⟩ = false := frozen_of_row _ _ _ _ _ o3
        have f3 : wr.frozen? ⟨m3, 3, none⟩ = false := frozen_of_row _ _ _ _ _ o3
        have hq := run_neq_tok O zeroTok
        have hsame : ∀ w', TokRow w' va2 (A ++ BM) → TokRow w' vc (A ++ BM) → Calls Try.prog 12 #[.slice va2 (A.length + BM.length) ca2, .slice vc (A.length + BM.length) cc] w' fun e w'' => e = .returned (.bool true) ∧ Drawn w' w'' := by
          intro w' h1 h2
          have := rx_Same va2 vc ca2 cc (A ++ BM) w' h1 h2 hll.out
          rw [List.length_append] at this; exact this
        replace hsame := Lib.hid hsame
        by_cases hO0 : O = zeroTok
        · subst hO0
          rw [tokB_self] at hq
          replace hq : ∀ w, (binOp .neq 25 (tv 0 [] 0 0) (tv 0 [] 0 0)).run Try.prog w = .ok (.bool false) w := hq
          replace p0 : wr.cell? ⟨m3, 0, none⟩ = some (.int .i64 0) := p0
          replace p1 : wr.cell? ⟨m3, 1, none⟩ = some (.string ⟨#[]⟩) := p1
          replace p2 : wr.cell? ⟨m3, 2, none⟩ = some (.int .i64 0) := p2
          replace p3 : wr.cell? ⟨m3, 3, none⟩ = some (.int .i64 0) := p3
          replace o5 := Lib.hid o5
          replace o3 := Lib.hid o3
          go_wp2_with fail
          refine (hsame.out wr ra.out rc2.out).mono ?_
          rintro e w8 ⟨rfl, hd8⟩
          have hb8 : Below wr.heap.size wr w8 := hd8.below _
          clear hd8 p0 p1 p2 p3 f2 f3
          obtain ⟨p0, p1, p2, p3⟩ := row_cells (t := zeroTok) ((hb8.block _ zr3).trans o3.out)
          obtain ⟨q0, q1, q2, q3⟩ := row_cells (t := zeroTok) ((hb8.block _ zr5).trans o5.out)
          replace p0 : w8.cell? ⟨m3, 0, none⟩ = some (.int .i64 0) := p0
          replace p1 : w8.cell? ⟨m3, 1, none⟩ = some (.string ⟨#[]⟩) := p1
          replace p2 : w8.cell? ⟨m3, 2, none⟩ = some (.int .i64 0) := p2
          replace p3 : w8.cell? ⟨m3, 3, none⟩ = some (.int .i64 0) := p3
          replace q0 : w8.cell? ⟨m5, 0, none⟩ = some (.int .i64 0) := q0
          replace q1 : w8.cell? ⟨m5, 1, none⟩ = some (.string ⟨#[]⟩) := q1
          replace q2 : w8.cell? ⟨m5, 2, none⟩ = some (.int .i64 0) := q2
          replace q3 : w8.cell? ⟨m5, 3, none⟩ = some (.int .i64 0) := q3
          have bw8 := bwr.out.trans (hb8.mono bwr.out.size)
          clear hb8 hq
          go_wp2
          go_ret
          exact ⟨rfl, bw8⟩
        · have hne : tokB O zeroTok = false := by
            cases h : tokB O zeroTok with
            | false => rfl
            | true => exact absurd ((tokB_iff _ _).1 h) hO0
          have hOk : O.kind ≠ 0 := fun h => hO0 (kinds.out.2 h)
          obtain ⟨hO1, hO2⟩ := bounds.out.2
          rw [hne] at hq
          replace hq : ∀ w, (binOp .neq 25 (tv O.kind O.text O.at_ O.end_) (.agg #[.int .i64 0, .string ⟨#[]⟩, .int .i64 0, .int .i64 0])).run Try.prog w = .ok (.bool true) w := hq
          obtain ⟨X, hX⟩ : ∃ X : Int, X = (O.at_ : Int) + (d : Int) := ⟨_, rfl⟩
          obtain ⟨Y, hY⟩ : ∃ Y : Int, Y = (O.end_ : Int) + (d : Int) := ⟨_, rfl⟩
          have o5' : Hid (wr.heap[m5]? = some (.cells #[.int .i64 O.kind, .string (mk O.text), .int .i64 X, .int .i64 Y] 25)) := by
            show _ = _
            rw [o5, moveT_ne d O hOk, hX, hY]; rfl
          have w2a : IntKind.i64.wrap ((O.at_ : Int) + (d : Int)) = X := by rw [hX]; exact IntWalk.i64_in _ (by omega)
          have w2b : IntKind.i64.wrap ((O.end_ : Int) + (d : Int)) = Y := by rw [hY]; exact IntWalk.i64_in _ (by omega)
          replace hX := Lib.hid hX
          replace hY := Lib.hid hY
          clear hne hO0 hOk o5
          replace o3 := Lib.hid o3
          go_wp2_with fail
          have hgw : wr.grownBy ((wr.setCell ⟨m3, 2, none⟩ (.int .i64 X)).setCell ⟨m3, 3, none⟩ (.int .i64 Y)) (some m3) := grown_set (grown_set (World.grownBy.refl _ _))
          have ra2 := ra.out.grown hgw (fun ad h he => fva.out ad h (by injection he))
          have rc3 := rc2.out.grown hgw (fun ad h he => fvc.out ad h (by injection he))
          have b2 : Below w.heap.size w ((wr.setCell ⟨m3, 2, none⟩ (.int .i64 X)).setCell ⟨m3, 3, none⟩ (.int .i64 Y)) := (bwr.out.setCell hwm _).setCell hwm _
          have oo3 : ((wr.setCell ⟨m3, 2, none⟩ (.int .i64 X)).setCell ⟨m3, 3, none⟩ (.int .i64 Y)).heap[m3]? = some (.cells #[.int .i64 O.kind, .string (mk O.text), .int .i64 X, .int .i64 Y] 25) :=
            heap_setCell_same _ _ 3 _ _ _ (heap_setCell_same _ _ 2 _ _ _ o3.out)
          have oo5 := (hgw.block m5 zr5 (by intro h; injection h with h; omega)).trans o5'.out
          have hsz3 : m3 < ((wr.setCell ⟨m3, 2, none⟩ (.int .i64 X)).setCell ⟨m3, 3, none⟩ (.int .i64 Y)).heap.size := Nat.lt_of_lt_of_le zr3 hgw.size
          have hsz5 : m5 < ((wr.setCell ⟨m3, 2, none⟩ (.int .i64 X)).setCell ⟨m3, 3, none⟩ (.int .i64 Y)).heap.size := Nat.lt_of_lt_of_le zr5 hgw.size
          clear hgw p0 p1 p2 p3 f2 f3
          refine (hsame.out _ ra2 rc3).mono ?_
          rintro e w8 ⟨rfl, hd8⟩
          have hb8 := hd8.below ((wr.setCell ⟨m3, 2, none⟩ (.int .i64 X)).setCell ⟨m3, 3, none⟩ (.int .i64 Y)).heap.size
          have bw8 := b2.trans (hd8.below w.heap.size)
          have h3 := (hb8.block _ hsz3).trans oo3
          have h5 := (hb8.block _ hsz5).trans oo5
          clear hd8 hb8 oo3 oo5 hsz3 hsz5 b2 ra2 rc3
          have p0 : w8.cell? ⟨m3, 0, none⟩ = some (.int .i64 O.kind) := cell_of_row _ _ _ _ _ _ h3
          have p1 : w8.cell? ⟨m3, 1, none⟩ = some (.string (mk O.text)) := cell_of_row _ _ _ _ _ _ h3
          have p2 : w8.cell? ⟨m3, 2, none⟩ = some (.int .i64 X) := cell_of_row _ _ _ _ _ _ h3
          have p3 : w8.cell? ⟨m3, 3, none⟩ = some (.int .i64 Y) := cell_of_row _ _ _ _ _ _ h3
          have q0 : w8.cell? ⟨m5, 0, none⟩ = some (.int .i64 O.kind) := cell_of_row _ _ _ _ _ _ h5
          have q1 : w8.cell? ⟨m5, 1, none⟩ = some (.string (mk O.text)) := cell_of_row _ _ _ _ _ _ h5
          have q2 : w8.cell? ⟨m5, 2, none⟩ = some (.int .i64 X) := cell_of_row _ _ _ _ _ _ h5
          have q3 : w8.cell? ⟨m5, 3, none⟩ = some (.int .i64 Y) := cell_of_row _ _ _ _ _ _ h5
          have heq := run_eql_self4 O.kind O.text X Y
          clear h3 h5 hq
          go_wp2
          go_ret
          exact ⟨rfl, bw8⟩

end Go.Proofs.Ytefgipoegnacjaa
