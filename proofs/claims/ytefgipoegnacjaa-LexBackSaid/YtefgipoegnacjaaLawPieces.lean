/- LexPieces: the law walked. -/
import Derived.Test.YtefgipoegnacjaaProg
import Derived.Test.YtefgipoegnacjaaBase
import Derived.Test.YtefgipoegnacjaaBytes
import Derived.Test.YtefgipoegnacjaaLexD
import Derived.Test.YtefgipoegnacjaaLexX
import Derived.Test.YtefgipoegnacjaaLexY
import Derived.Test.YtefgipoegnacjaaSame
import Derived.Test.YtefgipoegnacjaaKnown
import Derived.Test.YtefgipoegnacjaaLawBehind
import Derived.Test.YtefgipoegnacjaaPiece
namespace Go.Proofs.Ytefgipoegnacjaa
open Go.RowKit Lx

theorem run_neq_self4 (k : Int) (l : Bs) (a b : Int) (w : World) : (binOp .neq 25 (tv k l a b) (tv k l a b)).run Try.prog w = .ok (.bool false) w := by
  rw [run_neq_struct]
  simp [go_sem, Try.underlying25, run_equalIn_agg]
/-- the zero token, written out -/
abbrev zv : Value := .agg #[.int .i64 0, .string ⟨#[]⟩, .int .i64 0, .int .i64 0]
theorem run_neq_zero (t : Tok) (w : World) : (binOp .neq 25 (tv t.kind t.text t.at_ t.end_) zv).run Try.prog w = .ok (.bool (!tokB t zeroTok)) w := run_neq_tok t zeroTok w
theorem run_eql_zero (t : Tok) (w : World) : (binOp .eql 25 (tv t.kind t.text t.at_ t.end_) zv).run Try.prog w = .ok (.bool (tokB t zeroTok)) w := run_eql_tok t zeroTok w
theorem nm_q (n : Int) (w : World) : Calls Try.prog 13 #[.int .i64 n] w fun e w' => e = .returned (.int .i64 n) ∧ w' = w :=
  (nm_any n w).mono fun _ _ ⟨h, h2⟩ => ⟨h, h2.symm⟩

/-- what the law's loop needs of each token -/
structure PW (s : ByteArray) (R : Res) : Prop where
  far : R.far ≤ s.size
  piece : ∀ k (h : k < R.toks.length), ends 0 R.toks k ≤ R.toks[k].at_ ∧ R.toks[k].at_ < R.toks[k].end_ ∧ R.toks[k].end_ ≤ R.far ∧
    tokens (bl (s.extract R.toks[k].at_ R.toks[k].end_)) = ⟨[⟨R.toks[k].kind, R.toks[k].text, 0, R.toks[k].end_ - R.toks[k].at_⟩], zeroTok, R.toks[k].end_ - R.toks[k].at_, true⟩
  cut : tokens (bl (s.extract 0 R.far)) = ⟨R.toks, R.open_, R.far, R.open_.kind == 0⟩
  ok : R.ok = true → R.far = s.size ∧ R.open_ = zeroTok
  zero : R.open_.kind = 0 → R.open_ = zeroTok
  opn : R.open_.kind ≠ 0 → ends 0 R.toks R.toks.length ≤ R.open_.at_ ∧ R.open_.end_ = R.far ∧ R.open_.text = []
  len : R.toks.length ≤ s.size
theorem PW.of (s : ByteArray) : PW s (tokens (bl s)) := by
  have h1 := tk_far (bl s) 0 false
  have h2 := tk_pieces (bl s) 0 false
  have h3 := tk_bounds (bl s) 0 false
  have h4 := tk_order (bl s) 0 false
  have h5 := tk_kinds (bl s) 0 false
  rw [← tokens_tk] at h1 h2 h3 h4 h5
  rw [bl_length] at h1
  refine ⟨by omega, fun k h => ?_, ?_, fun h => ?_, h5.2, h4.2, h1.2.2.2⟩
  · have hb := h3.1 _ (List.getElem_mem h)
    have hp := (h2 _ (List.getElem_mem h)).2.2
    refine ⟨h4.1 k h, hb.2.1, hb.2.2, ?_⟩
    rw [extract_mk', bl_mk]
    rw [Nat.sub_zero] at hp
    exact hp
  · rw [extract_mk', bl_mk, List.drop_zero, Nat.sub_zero]
    exact tokens_cut (bl s)
  · have := h1.2.2.1 h; exact ⟨by omega, this.2⟩

set_option maxRecDepth 100000 in
set_option maxHeartbeats 16000000 in
theorem law_LexPieces (s : ByteArray) (w : World) (hs : s.size ≤ 1048576) :
    Calls Try.prog 4 #[.string s] w fun e w' => e = .returned (.bool true) ∧ Below w.heap.size w w' := by
  have pw0 := PW.of s
  obtain ⟨R, hR⟩ : ∃ R, R = tokens (bl s) := ⟨_, rfl⟩
  rw [← hR] at pw0
  have hs2 : s.size ≤ 4194304 := by omega
  obtain ⟨C, hC⟩ : ∃ C : Int, C = if R.ok then 0 else 11 := ⟨_, rfl⟩
  obtain ⟨F, hF⟩ : ∃ F : Nat, F = R.far := ⟨_, rfl⟩
  obtain ⟨O, hO⟩ : ∃ O, O = R.open_ := ⟨_, rfl⟩
  obtain ⟨T, hT⟩ : ∃ T, T = R.toks := ⟨_, rfl⟩
  have hFs : F ≤ s.size := by rw [hF]; exact pw0.far
  have hTl : T.length ≤ 1048576 := by rw [hT]; have := pw0.len; omega
  have hpiece := pw0.piece
  have hcut := pw0.cut
  have hzero := pw0.zero
  have hopn := pw0.opn
  have hcase : (C = 0 ∧ F = s.size ∧ O = zeroTok) ∨ C = 11 := by
    rw [hC, hF, hO]
    cases h : R.ok with
    | true => left; have := pw0.ok h; exact ⟨rfl, this.1, this.2⟩
    | false => right; rfl
  rw [← hT, ← hF] at hpiece
  rw [← hT, ← hF, ← hO] at hcut
  rw [← hO] at hzero
  rw [← hO, ← hT, ← hF] at hopn
  replace hR := Lib.hid hR
  replace hC := Lib.hid hC
  replace hF := Lib.hid hF
  replace hO := Lib.hid hO
  replace hT := Lib.hid hT
  replace hpiece := Lib.hid hpiece
  replace hcut := Lib.hid hcut
  replace hzero := Lib.hid hzero
  replace hopn := Lib.hid hopn
  replace hcase := Lib.hid hcase
  clear pw0
  go_enter Try.func4, Try.ntmps4
  go_wp2_with fail
  refine (lw_known _).mono ?_
  rintro e w0 ⟨rfl, hb0⟩
  go_wp2_with fail
  refine (lx_Tokens s _ hs2).mono ?_
  rintro e w1 ⟨v1, he, own1, hb1⟩
  rw [← hR.out, ← hC.out, ← hF.out, ← hO.out] at he
  rw [← hR.out, ← hT.out] at own1
  subst he
  obtain ⟨va, ca, rfl, hva⟩ := own_slice own1
  clear hva
  have rt1 := (TokRow.own own1).2
  have e1 := (TokRow.own own1).1
  rw [e1]
  have bw1 := hb0.trans (hb1.mono hb0.size)
  clear own1 hb1 hb0
  go_wp2_with (refine wpList_store_rowA rfl 25 (.tmp 4) (.tmp 24) rfl w1.heap.size (tokC O) rfl rfl 25 (tokCs 0 [] 0 0) (heap_alloc_new _ _) sizeTok rfl (tokCs_one _ _ _ _) ?_)
  intro W hg2 hgr hsz
  have hb12 : Below w1.heap.size w1 W := ((Below.refl _ _).al _).grown hgr (by simp) (by intro k hk; injection hk with hk; omega)
  have hsW : w1.heap.size < W.heap.size := by have h := hsz.out; first | omega | (simp at h; omega)
  have rt := Lib.hid (rt1.below hb12)
  have bw := Lib.hid (bw1.trans (hb12.mono bw1.size))
  clear hgr hsz hb12 rt1 bw1 e1
  obtain ⟨m, hm⟩ : ∃ m, m = w1.heap.size := ⟨_, rfl⟩
  rw [← hm] at hg2 hsW ⊢
  clear hm
  obtain ⟨a0, a1, a2, a3⟩ := row_cells hg2.out
  have hqz := run_neq_zero O
  have hn1 : ¬ (F : Int) < 0 := by omega
  have hn2 : ¬ (s.size : Int) < (F : Int) := by omega
  rcases hcase.out with ⟨rfl, hFe, hOz⟩ | rfl
  rotate_left
  · go_wp2_with (go_at_call 13; refine (nm_any _ _).mono ?_; rintro e w' ⟨rfl, rfl⟩)
    clear a0 a1 a2 a3 hn1 hn2
    go_loopw [7, 8] (fun at_ i wr => ∃ (k : Nat), k ≤ T.length ∧ i = .int .i64 k ∧ at_ = .int .i64 (ends 0 T k : Nat) ∧ Hid (Below W.heap.size W wr)) (fun _ i _ => T.length - (intOf i).toNat)
    case atStart => exact ⟨0, Nat.zero_le _, rfl, by cases T <;> rfl, Below.refl _ _⟩
    case round =>
      obtain ⟨k, hk, rfl, rfl, hb⟩ := hrel
      by_cases hlt : k < T.length
      · obtain ⟨g, rfl, p0, p1, p2, p3⟩ := (rt.out.below hb.out).at_ k hlt
        obtain ⟨o1, o2, o3, o4⟩ := hpiece.out k hlt
        have hends := ends_succ 0 T k hlt
        obtain ⟨E, hE⟩ : ∃ E, E = ends 0 T k := ⟨_, rfl⟩
        rw [← hE] at o1 ⊢
        generalize T[k] = t at p0 p1 p2 p3 o1 o2 o3 o4 hends
        replace hE := Lib.hid hE
        replace o4 := Lib.hid o4
        replace hends := Lib.hid hends
        have u1 : ¬ (t.at_ : Int) < (E : Int) := by omega
        have u2 : ¬ (t.end_ : Int) ≤ (t.at_ : Int) := by omega
        have u3 : ¬ (F : Int) < (t.end_ : Int) := by omega
        have x1 : (t.at_ : Int) ≤ (t.end_ : Int) := by omega
        have x2 : (t.end_ : Int) ≤ (s.size : Int) := by omega
        have hx : Hid ((s.extract t.at_ t.end_).size ≤ 4194304) := by show _ ≤ _; rw [ByteArray.size_extract]; omega
        go_wp2_with fail
        refine (lx_Tokens _ _ hx.out).mono ?_
        rintro e w3 ⟨v3, he, own3, hb3⟩
        rw [o4.out] at he own3
        simp only [] at he own3
        obtain ⟨vb, cb, rfl, hvb⟩ := own_slice own3
        clear hvb
        have re := Lib.hid (he.trans (show _ = Ending.returned (.tuple #[.slice vb 1 cb, .agg (tokC zeroTok), .int .i64 ((t.end_ - t.at_ : Nat) : Int), .int .i64 0]) from rfl))
        clear he
        have he := re.out
        subst he
        clear re
        have r3 := (TokRow.own own3).2
        have hsr : wr.heap.size < (wr.alloc (.cells #[.int .i64 t.kind, .string (mk t.text), .int .i64 t.at_, .int .i64 t.end_] 25)).heap.size := by simp
        have hw3 : w3.heap[wr.heap.size]? = some (.cells (tokC t) 25) := (hb3.block _ hsr).trans (heap_alloc_new _ _)
        have hb3' : Below W.heap.size W w3 := (hb.out.al _).trans (hb3.mono (by have := hb.out.size; simp; omega))
        have hs3 : wr.heap.size < w3.heap.size := Nat.lt_of_lt_of_le hsr hb3.size
        clear own3 hb3 hsr p0 p1 p2 p3
        go_wp2_with (refine wpList_store_rowA rfl 25 (.tmp 11) (.tmp 102) rfl w3.heap.size (tokC zeroTok) rfl rfl 25 (tokCs 0 [] 0 0) (heap_alloc_new _ _) sizeTok rfl (tokCs_one _ _ _ _) ?_)
        intro w4 hg4 hgr4 hsz4
        have hb34 : Below w3.heap.size w3 w4 := ((Below.refl _ _).al _).grown hgr4 (by simp) (by intro k hk; injection hk with hk; omega)
        have hb4 := Lib.hid (hb3'.trans (hb34.mono hb3'.size))
        obtain ⟨g3, hge, q0, q1, q2, q3⟩ := (r3.below hb34).at_ 0 (by simp)
        obtain ⟨p0, p1, p2, p3⟩ := row_cells ((hb34.block _ hs3).trans hw3)
        clear hg4 hgr4 hsz4 hb34 hb3' hw3 r3 hs3
        subst hge
        have v1 : IntKind.i64.wrap ((t.end_ : Int) - (t.at_ : Int)) = ((t.end_ - t.at_ : Nat) : Int) := by rw [IntWalk.i64_in _ (by omega)]; omega
        have hq := run_neq_self4 t.kind t.text 0 ((t.end_ - t.at_ : Nat) : Int)
        replace q0 : w4.cell? ⟨g3, 0, none⟩ = some (.int .i64 t.kind) := q0
        replace q1 : w4.cell? ⟨g3, 1, none⟩ = some (.string (mk t.text)) := q1
        replace q2 : w4.cell? ⟨g3, 2, none⟩ = some (.int .i64 0) := q2
        replace q3 : w4.cell? ⟨g3, 3, none⟩ = some (.int .i64 ((t.end_ - t.at_ : Nat) : Int)) := q3
        generalize ((t.end_ - t.at_ : Nat) : Int) = D at v1 hq q3 ⊢
        go_wp2_with fail
        go_quiet ((go_at_call 13; exact Calls.quiet_of_same (nm_q _ _)))
        go_wp2
        go_roundw
        case rel => exact ⟨k + 1, by omega, by go_num, by rw [hends.out], by (have h := hb4.out; exact below_drewN h _)⟩
        case measure => simp [intOf]; omega
      · have hkT : k = T.length := by omega
        subst hkT
        have rtr := Lib.hid (rt.out.below hb.out)
        have hOr := Lib.hid ((hb.out.block _ hsW).trans hg2.out)
        have hmr : m < wr.heap.size := Nat.lt_of_lt_of_le hsW hb.out.size
        have bwr := Lib.hid (bw.out.trans (hb.out.mono bw.out.size))
        obtain ⟨E, hE⟩ : ∃ E, E = ends 0 T T.length := ⟨_, rfl⟩
        rw [← hE] at hopn ⊢
        replace hE := Lib.hid hE
        have hxs : Hid ((s.extract 0 F).size ≤ 4194304) := by show _ ≤ _; rw [ByteArray.size_extract]; omega
        have x2 : (F : Int) ≤ (s.size : Int) := by omega
        clear hb hqz
        obtain ⟨K, hK⟩ : ∃ K, K = O.kind := ⟨_, rfl⟩
        obtain ⟨P, hP⟩ : ∃ P, P = O.at_ := ⟨_, rfl⟩
        obtain ⟨Q, hQ⟩ : ∃ Q, Q = O.end_ := ⟨_, rfl⟩
        have hway : (O = zeroTok ∧ K = 0 ∧ P = 0 ∧ Q = 0) ∨ (O = ⟨K, [], P, Q⟩ ∧ K ≠ 0 ∧ E ≤ P ∧ Q = F) := by
          by_cases h : O.kind = 0
          · left; have := hzero.out h; rw [hK, hP, hQ, this]; exact ⟨rfl, rfl, rfl, rfl⟩
          · right
            have := hopn.out h
            refine ⟨?_, by rw [hK]; exact h, by rw [hP]; exact this.1, by rw [hQ]; exact this.2.1⟩
            rw [hK, hP, hQ, ← this.2.2]
        have hOlit : O = ⟨K, [], P, Q⟩ := by
          rcases hway with ⟨h, h1, h2, h3⟩ | ⟨h, _⟩
          · rw [h, h1, h2, h3]; rfl
          · exact h
        replace hK := Lib.hid hK
        replace hP := Lib.hid hP
        replace hQ := Lib.hid hQ
        replace hOlit := Lib.hid hOlit
        have hO3 : wr.heap[m]? = some (.cells #[.int .i64 K, .string ⟨#[]⟩, .int .i64 P, .int .i64 Q] 25) := by rw [hOr.out, hOlit.out]; rfl
        have a0 : wr.cell? ⟨m, 0, none⟩ = some (.int .i64 K) := cell_of_row _ _ _ _ _ _ hO3
        have a1 : wr.cell? ⟨m, 1, none⟩ = some (.string ⟨#[]⟩) := cell_of_row _ _ _ _ _ _ hO3
        have a2 : wr.cell? ⟨m, 2, none⟩ = some (.int .i64 P) := cell_of_row _ _ _ _ _ _ hO3
        have a3 : wr.cell? ⟨m, 3, none⟩ = some (.int .i64 Q) := cell_of_row _ _ _ _ _ _ hO3
        replace hO3 := Lib.hid hO3
        have hqn : ∀ w, (binOp .neq 25 (.agg #[.int .i64 K, .string ⟨#[]⟩, .int .i64 P, .int .i64 Q]) zv).run Try.prog w = .ok (.bool (!tokB ⟨K, [], P, Q⟩ zeroTok)) w := run_neq_zero ⟨K, [], P, Q⟩
        have hqe : ∀ w, (binOp .eql 25 (.agg #[.int .i64 K, .string ⟨#[]⟩, .int .i64 P, .int .i64 Q]) zv).run Try.prog w = .ok (.bool (tokB ⟨K, [], P, Q⟩ zeroTok)) w := run_eql_zero ⟨K, [], P, Q⟩
        have hqs : ∀ w, (binOp .eql 25 (.agg #[.int .i64 K, .string ⟨#[]⟩, .int .i64 P, .int .i64 Q]) (.agg #[.int .i64 K, .string ⟨#[]⟩, .int .i64 P, .int .i64 Q])).run Try.prog w = .ok (.bool true) w := run_eql_self4 K [] P Q
        have hcut2 : Hid (∃ C2 : Int, tokens (bl (s.extract 0 F)) = ⟨T, O, F, O.kind == 0⟩ ∧ C2 = (if (O.kind == 0) then 0 else 11)) := ⟨_, hcut.out, rfl⟩
        obtain ⟨C2, hc1, hc2⟩ := hcut2.out
        replace hc1 := Lib.hid hc1
        clear hcut2
        rcases hway with ⟨h0, h1, h2, h3⟩ | ⟨h0, h1, h2, h3⟩
        · have hc3 : C2 = 0 := by rw [hc2, h0]; rfl
          subst hc3
          replace hc2 := Lib.hid hc2
          have htB : tokB ⟨K, [], P, Q⟩ zeroTok = true := by rw [h1, h2, h3]; rfl
          rw [htB] at hqn hqe
          replace h1 := Lib.hid h1
          replace h2 := Lib.hid h2
          replace h3 := Lib.hid h3
          replace h0 := Lib.hid h0
          clear htB
          go_wp2_with fail
          refine (lx_Tokens _ _ hxs.out).mono ?_
          rintro e w3 ⟨v3, he, own3, hb3⟩
          rw [hc1.out] at he own3
          simp only [] at he own3
          rw [← hc2.out] at he
          subst he
          obtain ⟨vb, cb, rfl, hvb⟩ := own_slice own3
          clear hvb
          have r3 := (TokRow.own own3).2
          have t3 := rtr.out.below hb3
          have bw3 := bwr.out.trans (hb3.mono bwr.out.size)
          have hOm3 := (hb3.block _ hmr).trans hO3.out
          have hm3 : m < w3.heap.size := Nat.lt_of_lt_of_le hmr hb3.size
          clear own3 hb3 a0 a1 a2 a3
          go_wp2_with (refine wpList_store_rowA rfl 25 (.tmp 15) (.tmp 162) rfl w3.heap.size (tokC O) rfl rfl 25 (tokCs 0 [] 0 0) (heap_alloc_new _ _) sizeTok rfl (tokCs_one _ _ _ _) ?_)
          intro w4 hg4 hgr4 hsz4
          have hb34 : Below w3.heap.size w3 w4 := ((Below.refl _ _).al _).grown hgr4 (by simp) (by intro k hk; injection hk with hk; omega)
          have r4 := Lib.hid (r3.below hb34)
          have t4 := Lib.hid (t3.below hb34)
          have bw4 := Lib.hid (bw3.trans (hb34.mono bw3.size))
          have hOm4 := (hb34.block _ hm3).trans hOm3
          have hg5 : w4.heap[w3.heap.size]? = some (.cells #[.int .i64 K, .string ⟨#[]⟩, .int .i64 P, .int .i64 Q] 25) := by rw [hg4.out, hOlit.out]; rfl
          clear hgr4 hsz4 hb34 r3 t3 bw3 hOm3 hg4
          have a0 : w4.cell? ⟨m, 0, none⟩ = some (.int .i64 K) := cell_of_row _ _ _ _ _ _ hOm4
          have a1 : w4.cell? ⟨m, 1, none⟩ = some (.string ⟨#[]⟩) := cell_of_row _ _ _ _ _ _ hOm4
          have a2 : w4.cell? ⟨m, 2, none⟩ = some (.int .i64 P) := cell_of_row _ _ _ _ _ _ hOm4
          have a3 : w4.cell? ⟨m, 3, none⟩ = some (.int .i64 Q) := cell_of_row _ _ _ _ _ _ hOm4
          have b0 : w4.cell? ⟨w3.heap.size, 0, none⟩ = some (.int .i64 K) := cell_of_row _ _ _ _ _ _ hg5
          have b1 : w4.cell? ⟨w3.heap.size, 1, none⟩ = some (.string ⟨#[]⟩) := cell_of_row _ _ _ _ _ _ hg5
          have b2 : w4.cell? ⟨w3.heap.size, 2, none⟩ = some (.int .i64 P) := cell_of_row _ _ _ _ _ _ hg5
          have b3 : w4.cell? ⟨w3.heap.size, 3, none⟩ = some (.int .i64 Q) := cell_of_row _ _ _ _ _ _ hg5
          clear hOm4 hg5
          go_wp2_with fail
          go_quiet ((first
            | (go_at_call 13; exact Calls.quiet_of_same (nm_q _ _))
            | (go_at_call 12; exact Calls.quiet_of (rx_Same _ _ _ _ T _ (r4.out.below (below_drewN (Below.refl _ _) _)) (t4.out.below (below_drewN (Below.refl _ _) _)) (by omega)))))
          go_wp2
          go_ret
          exact ⟨rfl, below_drewN bw4.out _⟩
        · have hk0 : (O.kind == 0) = false := by rw [h0]; rw [beq_eq_false_iff_ne]; exact h1
          have hc3 : C2 = 11 := by rw [hc2, hk0]; rfl
          subst hc3
          replace hc2 := Lib.hid hc2
          have htB : tokB ⟨K, [], P, Q⟩ zeroTok = false := by
            cases h : tokB ⟨K, [], P, Q⟩ zeroTok with
            | false => rfl
            | true => have := congrArg Tok.kind ((tokB_iff _ _).1 h); exact absurd this h1
          rw [htB] at hqn hqe
          have y1 : ¬ (P : Int) < (E : Int) := by omega
          have y2 : ((Q : Int) != (F : Int)) = false := by rw [h3]; simp
          replace h3 := Lib.hid h3
          replace h0 := Lib.hid h0
          clear htB hk0 h1
          go_wp2_with fail
          refine (lx_Tokens _ _ hxs.out).mono ?_
          rintro e w3 ⟨v3, he, own3, hb3⟩
          rw [hc1.out] at he own3
          simp only [] at he own3
          rw [← hc2.out] at he
          subst he
          obtain ⟨vb, cb, rfl, hvb⟩ := own_slice own3
          clear hvb
          have r3 := (TokRow.own own3).2
          have t3 := rtr.out.below hb3
          have bw3 := bwr.out.trans (hb3.mono bwr.out.size)
          have hOm3 := (hb3.block _ hmr).trans hO3.out
          have hm3 : m < w3.heap.size := Nat.lt_of_lt_of_le hmr hb3.size
          clear own3 hb3 a0 a1 a2 a3
          go_wp2_with (refine wpList_store_rowA rfl 25 (.tmp 15) (.tmp 162) rfl w3.heap.size (tokC O) rfl rfl 25 (tokCs 0 [] 0 0) (heap_alloc_new _ _) sizeTok rfl (tokCs_one _ _ _ _) ?_)
          intro w4 hg4 hgr4 hsz4
          have hb34 : Below w3.heap.size w3 w4 := ((Below.refl _ _).al _).grown hgr4 (by simp) (by intro k hk; injection hk with hk; omega)
          have r4 := Lib.hid (r3.below hb34)
          have t4 := Lib.hid (t3.below hb34)
          have bw4 := Lib.hid (bw3.trans (hb34.mono bw3.size))
          have hOm4 := (hb34.block _ hm3).trans hOm3
          have hg5 : w4.heap[w3.heap.size]? = some (.cells #[.int .i64 K, .string ⟨#[]⟩, .int .i64 P, .int .i64 Q] 25) := by rw [hg4.out, hOlit.out]; rfl
          clear hgr4 hsz4 hb34 r3 t3 bw3 hOm3 hg4
          have a0 : w4.cell? ⟨m, 0, none⟩ = some (.int .i64 K) := cell_of_row _ _ _ _ _ _ hOm4
          have a1 : w4.cell? ⟨m, 1, none⟩ = some (.string ⟨#[]⟩) := cell_of_row _ _ _ _ _ _ hOm4
          have a2 : w4.cell? ⟨m, 2, none⟩ = some (.int .i64 P) := cell_of_row _ _ _ _ _ _ hOm4
          have a3 : w4.cell? ⟨m, 3, none⟩ = some (.int .i64 Q) := cell_of_row _ _ _ _ _ _ hOm4
          have b0 : w4.cell? ⟨w3.heap.size, 0, none⟩ = some (.int .i64 K) := cell_of_row _ _ _ _ _ _ hg5
          have b1 : w4.cell? ⟨w3.heap.size, 1, none⟩ = some (.string ⟨#[]⟩) := cell_of_row _ _ _ _ _ _ hg5
          have b2 : w4.cell? ⟨w3.heap.size, 2, none⟩ = some (.int .i64 P) := cell_of_row _ _ _ _ _ _ hg5
          have b3 : w4.cell? ⟨w3.heap.size, 3, none⟩ = some (.int .i64 Q) := cell_of_row _ _ _ _ _ _ hg5
          clear hOm4 hg5
          go_wp2_with fail
          go_quiet ((first
            | (go_at_call 13; exact Calls.quiet_of_same (nm_q _ _))
            | (go_at_call 12; exact Calls.quiet_of (rx_Same _ _ _ _ T _ (r4.out.below (below_drewN (Below.refl _ _) _)) (t4.out.below (below_drewN (Below.refl _ _) _)) (by omega)))))
          go_wp2
          go_ret
          exact ⟨rfl, below_drewN bw4.out _⟩
  · have hn3 : ((F : Int) != (s.size : Int)) = false := by rw [hFe]; simp
    have hqz2 : ∀ w, (binOp .neq 25 (tv O.kind O.text O.at_ O.end_) zv).run Try.prog w = .ok (.bool false) w := by
      intro w; rw [hqz, hOz, tokB_self]; rfl
    replace hFe := Lib.hid hFe
    replace hOz := Lib.hid hOz
    clear hqz
    go_wp2_with (go_at_call 13; refine (nm_any _ _).mono ?_; rintro e w' ⟨rfl, rfl⟩)
    clear hn3 hqz2
    have hqz := run_neq_zero O
    clear a0 a1 a2 a3 hn1 hn2
    go_loopw [7, 8] (fun at_ i wr => ∃ (k : Nat), k ≤ T.length ∧ i = .int .i64 k ∧ at_ = .int .i64 (ends 0 T k : Nat) ∧ Hid (Below W.heap.size W wr)) (fun _ i _ => T.length - (intOf i).toNat)
    case atStart => exact ⟨0, Nat.zero_le _, rfl, by cases T <;> rfl, Below.refl _ _⟩
    case round =>
      obtain ⟨k, hk, rfl, rfl, hb⟩ := hrel
      by_cases hlt : k < T.length
      · obtain ⟨g, rfl, p0, p1, p2, p3⟩ := (rt.out.below hb.out).at_ k hlt
        obtain ⟨o1, o2, o3, o4⟩ := hpiece.out k hlt
        have hends := ends_succ 0 T k hlt
        obtain ⟨E, hE⟩ : ∃ E, E = ends 0 T k := ⟨_, rfl⟩
        rw [← hE] at o1 ⊢
        generalize T[k] = t at p0 p1 p2 p3 o1 o2 o3 o4 hends
        replace hE := Lib.hid hE
        replace o4 := Lib.hid o4
        replace hends := Lib.hid hends
        have u1 : ¬ (t.at_ : Int) < (E : Int) := by omega
        have u2 : ¬ (t.end_ : Int) ≤ (t.at_ : Int) := by omega
        have u3 : ¬ (F : Int) < (t.end_ : Int) := by omega
        have x1 : (t.at_ : Int) ≤ (t.end_ : Int) := by omega
        have x2 : (t.end_ : Int) ≤ (s.size : Int) := by omega
        have hx : Hid ((s.extract t.at_ t.end_).size ≤ 4194304) := by show _ ≤ _; rw [ByteArray.size_extract]; omega
        go_wp2_with fail
        refine (lx_Tokens _ _ hx.out).mono ?_
        rintro e w3 ⟨v3, he, own3, hb3⟩
        rw [o4.out] at he own3
        simp only [] at he own3
        obtain ⟨vb, cb, rfl, hvb⟩ := own_slice own3
        clear hvb
        have re := Lib.hid (he.trans (show _ = Ending.returned (.tuple #[.slice vb 1 cb, .agg (tokC zeroTok), .int .i64 ((t.end_ - t.at_ : Nat) : Int), .int .i64 0]) from rfl))
        clear he
        have he := re.out
        subst he
        clear re
        have r3 := (TokRow.own own3).2
        have hsr : wr.heap.size < (wr.alloc (.cells #[.int .i64 t.kind, .string (mk t.text), .int .i64 t.at_, .int .i64 t.end_] 25)).heap.size := by simp
        have hw3 : w3.heap[wr.heap.size]? = some (.cells (tokC t) 25) := (hb3.block _ hsr).trans (heap_alloc_new _ _)
        have hb3' : Below W.heap.size W w3 := (hb.out.al _).trans (hb3.mono (by have := hb.out.size; simp; omega))
        have hs3 : wr.heap.size < w3.heap.size := Nat.lt_of_lt_of_le hsr hb3.size
        clear own3 hb3 hsr p0 p1 p2 p3
        go_wp2_with (refine wpList_store_rowA rfl 25 (.tmp 11) (.tmp 102) rfl w3.heap.size (tokC zeroTok) rfl rfl 25 (tokCs 0 [] 0 0) (heap_alloc_new _ _) sizeTok rfl (tokCs_one _ _ _ _) ?_)
        intro w4 hg4 hgr4 hsz4
        have hb34 : Below w3.heap.size w3 w4 := ((Below.refl _ _).al _).grown hgr4 (by simp) (by intro k hk; injection hk with hk; omega)
        have hb4 := Lib.hid (hb3'.trans (hb34.mono hb3'.size))
        obtain ⟨g3, hge, q0, q1, q2, q3⟩ := (r3.below hb34).at_ 0 (by simp)
        obtain ⟨p0, p1, p2, p3⟩ := row_cells ((hb34.block _ hs3).trans hw3)
        clear hg4 hgr4 hsz4 hb34 hb3' hw3 r3 hs3
        subst hge
        have v1 : IntKind.i64.wrap ((t.end_ : Int) - (t.at_ : Int)) = ((t.end_ - t.at_ : Nat) : Int) := by rw [IntWalk.i64_in _ (by omega)]; omega
        have hq := run_neq_self4 t.kind t.text 0 ((t.end_ - t.at_ : Nat) : Int)
        replace q0 : w4.cell? ⟨g3, 0, none⟩ = some (.int .i64 t.kind) := q0
        replace q1 : w4.cell? ⟨g3, 1, none⟩ = some (.string (mk t.text)) := q1
        replace q2 : w4.cell? ⟨g3, 2, none⟩ = some (.int .i64 0) := q2
        replace q3 : w4.cell? ⟨g3, 3, none⟩ = some (.int .i64 ((t.end_ - t.at_ : Nat) : Int)) := q3
        generalize ((t.end_ - t.at_ : Nat) : Int) = D at v1 hq q3 ⊢
        go_wp2_with fail
        go_quiet ((go_at_call 13; exact Calls.quiet_of_same (nm_q _ _)))
        go_wp2
        go_roundw
        case rel => exact ⟨k + 1, by omega, by go_num, by rw [hends.out], by (have h := hb4.out; exact below_drewN h _)⟩
        case measure => simp [intOf]; omega
      · have hkT : k = T.length := by omega
        subst hkT
        have rtr := Lib.hid (rt.out.below hb.out)
        have hOr := Lib.hid ((hb.out.block _ hsW).trans hg2.out)
        have hmr : m < wr.heap.size := Nat.lt_of_lt_of_le hsW hb.out.size
        have bwr := Lib.hid (bw.out.trans (hb.out.mono bw.out.size))
        obtain ⟨E, hE⟩ : ∃ E, E = ends 0 T T.length := ⟨_, rfl⟩
        rw [← hE] at hopn ⊢
        replace hE := Lib.hid hE
        have hxs : Hid ((s.extract 0 F).size ≤ 4194304) := by show _ ≤ _; rw [ByteArray.size_extract]; omega
        have x2 : (F : Int) ≤ (s.size : Int) := by omega
        clear hb hqz
        obtain ⟨K, hK⟩ : ∃ K, K = O.kind := ⟨_, rfl⟩
        obtain ⟨P, hP⟩ : ∃ P, P = O.at_ := ⟨_, rfl⟩
        obtain ⟨Q, hQ⟩ : ∃ Q, Q = O.end_ := ⟨_, rfl⟩
        have hway : (O = zeroTok ∧ K = 0 ∧ P = 0 ∧ Q = 0) ∨ (O = ⟨K, [], P, Q⟩ ∧ K ≠ 0 ∧ E ≤ P ∧ Q = F) := by
          by_cases h : O.kind = 0
          · left; have := hzero.out h; rw [hK, hP, hQ, this]; exact ⟨rfl, rfl, rfl, rfl⟩
          · right
            have := hopn.out h
            refine ⟨?_, by rw [hK]; exact h, by rw [hP]; exact this.1, by rw [hQ]; exact this.2.1⟩
            rw [hK, hP, hQ, ← this.2.2]
        have hOlit : O = ⟨K, [], P, Q⟩ := by
          rcases hway with ⟨h, h1, h2, h3⟩ | ⟨h, _⟩
          · rw [h, h1, h2, h3]; rfl
          · exact h
        replace hK := Lib.hid hK
        replace hP := Lib.hid hP
        replace hQ := Lib.hid hQ
        replace hOlit := Lib.hid hOlit
        have hO3 : wr.heap[m]? = some (.cells #[.int .i64 K, .string ⟨#[]⟩, .int .i64 P, .int .i64 Q] 25) := by rw [hOr.out, hOlit.out]; rfl
        have a0 : wr.cell? ⟨m, 0, none⟩ = some (.int .i64 K) := cell_of_row _ _ _ _ _ _ hO3
        have a1 : wr.cell? ⟨m, 1, none⟩ = some (.string ⟨#[]⟩) := cell_of_row _ _ _ _ _ _ hO3
        have a2 : wr.cell? ⟨m, 2, none⟩ = some (.int .i64 P) := cell_of_row _ _ _ _ _ _ hO3
        have a3 : wr.cell? ⟨m, 3, none⟩ = some (.int .i64 Q) := cell_of_row _ _ _ _ _ _ hO3
        replace hO3 := Lib.hid hO3
        have hqn : ∀ w, (binOp .neq 25 (.agg #[.int .i64 K, .string ⟨#[]⟩, .int .i64 P, .int .i64 Q]) zv).run Try.prog w = .ok (.bool (!tokB ⟨K, [], P, Q⟩ zeroTok)) w := run_neq_zero ⟨K, [], P, Q⟩
        have hqe : ∀ w, (binOp .eql 25 (.agg #[.int .i64 K, .string ⟨#[]⟩, .int .i64 P, .int .i64 Q]) zv).run Try.prog w = .ok (.bool (tokB ⟨K, [], P, Q⟩ zeroTok)) w := run_eql_zero ⟨K, [], P, Q⟩
        have hqs : ∀ w, (binOp .eql 25 (.agg #[.int .i64 K, .string ⟨#[]⟩, .int .i64 P, .int .i64 Q]) (.agg #[.int .i64 K, .string ⟨#[]⟩, .int .i64 P, .int .i64 Q])).run Try.prog w = .ok (.bool true) w := run_eql_self4 K [] P Q
        have hcut2 : Hid (∃ C2 : Int, tokens (bl (s.extract 0 F)) = ⟨T, O, F, O.kind == 0⟩ ∧ C2 = (if (O.kind == 0) then 0 else 11)) := ⟨_, hcut.out, rfl⟩
        obtain ⟨C2, hc1, hc2⟩ := hcut2.out
        replace hc1 := Lib.hid hc1
        clear hcut2
        rcases hway with ⟨h0, h1, h2, h3⟩ | ⟨h0, h1, h2, h3⟩
        · have hc3 : C2 = 0 := by rw [hc2, h0]; rfl
          subst hc3
          replace hc2 := Lib.hid hc2
          have htB : tokB ⟨K, [], P, Q⟩ zeroTok = true := by rw [h1, h2, h3]; rfl
          rw [htB] at hqn hqe
          replace h1 := Lib.hid h1
          replace h2 := Lib.hid h2
          replace h3 := Lib.hid h3
          replace h0 := Lib.hid h0
          clear htB
          go_wp2_with fail
          refine (lx_Tokens _ _ hxs.out).mono ?_
          rintro e w3 ⟨v3, he, own3, hb3⟩
          rw [hc1.out] at he own3
          simp only [] at he own3
          rw [← hc2.out] at he
          subst he
          obtain ⟨vb, cb, rfl, hvb⟩ := own_slice own3
          clear hvb
          have r3 := (TokRow.own own3).2
          have t3 := rtr.out.below hb3
          have bw3 := bwr.out.trans (hb3.mono bwr.out.size)
          have hOm3 := (hb3.block _ hmr).trans hO3.out
          have hm3 : m < w3.heap.size := Nat.lt_of_lt_of_le hmr hb3.size
          clear own3 hb3 a0 a1 a2 a3
          go_wp2_with (refine wpList_store_rowA rfl 25 (.tmp 15) (.tmp 162) rfl w3.heap.size (tokC O) rfl rfl 25 (tokCs 0 [] 0 0) (heap_alloc_new _ _) sizeTok rfl (tokCs_one _ _ _ _) ?_)
          intro w4 hg4 hgr4 hsz4
          have hb34 : Below w3.heap.size w3 w4 := ((Below.refl _ _).al _).grown hgr4 (by simp) (by intro k hk; injection hk with hk; omega)
          have r4 := Lib.hid (r3.below hb34)
          have t4 := Lib.hid (t3.below hb34)
          have bw4 := Lib.hid (bw3.trans (hb34.mono bw3.size))
          have hOm4 := (hb34.block _ hm3).trans hOm3
          have hg5 : w4.heap[w3.heap.size]? = some (.cells #[.int .i64 K, .string ⟨#[]⟩, .int .i64 P, .int .i64 Q] 25) := by rw [hg4.out, hOlit.out]; rfl
          clear hgr4 hsz4 hb34 r3 t3 bw3 hOm3 hg4
          have a0 : w4.cell? ⟨m, 0, none⟩ = some (.int .i64 K) := cell_of_row _ _ _ _ _ _ hOm4
          have a1 : w4.cell? ⟨m, 1, none⟩ = some (.string ⟨#[]⟩) := cell_of_row _ _ _ _ _ _ hOm4
          have a2 : w4.cell? ⟨m, 2, none⟩ = some (.int .i64 P) := cell_of_row _ _ _ _ _ _ hOm4
          have a3 : w4.cell? ⟨m, 3, none⟩ = some (.int .i64 Q) := cell_of_row _ _ _ _ _ _ hOm4
          have b0 : w4.cell? ⟨w3.heap.size, 0, none⟩ = some (.int .i64 K) := cell_of_row _ _ _ _ _ _ hg5
          have b1 : w4.cell? ⟨w3.heap.size, 1, none⟩ = some (.string ⟨#[]⟩) := cell_of_row _ _ _ _ _ _ hg5
          have b2 : w4.cell? ⟨w3.heap.size, 2, none⟩ = some (.int .i64 P) := cell_of_row _ _ _ _ _ _ hg5
          have b3 : w4.cell? ⟨w3.heap.size, 3, none⟩ = some (.int .i64 Q) := cell_of_row _ _ _ _ _ _ hg5
          clear hOm4 hg5
          go_wp2_with fail
          go_quiet ((first
            | (go_at_call 13; exact Calls.quiet_of_same (nm_q _ _))
            | (go_at_call 12; exact Calls.quiet_of (rx_Same _ _ _ _ T _ (r4.out.below (below_drewN (Below.refl _ _) _)) (t4.out.below (below_drewN (Below.refl _ _) _)) (by omega)))))
          go_wp2
          go_ret
          exact ⟨rfl, below_drewN bw4.out _⟩
        · have hk0 : (O.kind == 0) = false := by rw [h0]; rw [beq_eq_false_iff_ne]; exact h1
          have hc3 : C2 = 11 := by rw [hc2, hk0]; rfl
          subst hc3
          replace hc2 := Lib.hid hc2
          have htB : tokB ⟨K, [], P, Q⟩ zeroTok = false := by
            cases h : tokB ⟨K, [], P, Q⟩ zeroTok with
            | false => rfl
            | true => have := congrArg Tok.kind ((tokB_iff _ _).1 h); exact absurd this h1
          rw [htB] at hqn hqe
          have y1 : ¬ (P : Int) < (E : Int) := by omega
          have y2 : ((Q : Int) != (F : Int)) = false := by rw [h3]; simp
          replace h3 := Lib.hid h3
          replace h0 := Lib.hid h0
          clear htB hk0 h1
          go_wp2_with fail
          refine (lx_Tokens _ _ hxs.out).mono ?_
          rintro e w3 ⟨v3, he, own3, hb3⟩
          rw [hc1.out] at he own3
          simp only [] at he own3
          rw [← hc2.out] at he
          subst he
          obtain ⟨vb, cb, rfl, hvb⟩ := own_slice own3
          clear hvb
          have r3 := (TokRow.own own3).2
          have t3 := rtr.out.below hb3
          have bw3 := bwr.out.trans (hb3.mono bwr.out.size)
          have hOm3 := (hb3.block _ hmr).trans hO3.out
          have hm3 : m < w3.heap.size := Nat.lt_of_lt_of_le hmr hb3.size
          clear own3 hb3 a0 a1 a2 a3
          go_wp2_with (refine wpList_store_rowA rfl 25 (.tmp 15) (.tmp 162) rfl w3.heap.size (tokC O) rfl rfl 25 (tokCs 0 [] 0 0) (heap_alloc_new _ _) sizeTok rfl (tokCs_one _ _ _ _) ?_)
          intro w4 hg4 hgr4 hsz4
          have hb34 : Below w3.heap.size w3 w4 := ((Below.refl _ _).al _).grown hgr4 (by simp) (by intro k hk; injection hk with hk; omega)
          have r4 := Lib.hid (r3.below hb34)
          have t4 := Lib.hid (t3.below hb34)
          have bw4 := Lib.hid (bw3.trans (hb34.mono bw3.size))
          have hOm4 := (hb34.block _ hm3).trans hOm3
          have hg5 : w4.heap[w3.heap.size]? = some (.cells #[.int .i64 K, .string ⟨#[]⟩, .int .i64 P, .int .i64 Q] 25) := by rw [hg4.out, hOlit.out]; rfl
          clear hgr4 hsz4 hb34 r3 t3 bw3 hOm3 hg4
          have a0 : w4.cell? ⟨m, 0, none⟩ = some (.int .i64 K) := cell_of_row _ _ _ _ _ _ hOm4
          have a1 : w4.cell? ⟨m, 1, none⟩ = some (.string ⟨#[]⟩) := cell_of_row _ _ _ _ _ _ hOm4
          have a2 : w4.cell? ⟨m, 2, none⟩ = some (.int .i64 P) := cell_of_row _ _ _ _ _ _ hOm4
          have a3 : w4.cell? ⟨m, 3, none⟩ = some (.int .i64 Q) := cell_of_row _ _ _ _ _ _ hOm4
          have b0 : w4.cell? ⟨w3.heap.size, 0, none⟩ = some (.int .i64 K) := cell_of_row _ _ _ _ _ _ hg5
          have b1 : w4.cell? ⟨w3.heap.size, 1, none⟩ = some (.string ⟨#[]⟩) := cell_of_row _ _ _ _ _ _ hg5
          have b2 : w4.cell? ⟨w3.heap.size, 2, none⟩ = some (.int .i64 P) := cell_of_row _ _ _ _ _ _ hg5
          have b3 : w4.cell? ⟨w3.heap.size, 3, none⟩ = some (.int .i64 Q) := cell_of_row _ _ _ _ _ _ hg5
          clear hOm4 hg5
          go_wp2_with fail
          go_quiet ((first
            | (go_at_call 13; exact Calls.quiet_of_same (nm_q _ _))
            | (go_at_call 12; exact Calls.quiet_of (rx_Same _ _ _ _ T _ (r4.out.below (below_drewN (Below.refl _ _) _)) (t4.out.below (below_drewN (Below.refl _ _) _)) (by omega)))))
          go_wp2
          go_ret
          exact ⟨rfl, below_drewN bw4.out _⟩

end Go.Proofs.Ytefgipoegnacjaa
