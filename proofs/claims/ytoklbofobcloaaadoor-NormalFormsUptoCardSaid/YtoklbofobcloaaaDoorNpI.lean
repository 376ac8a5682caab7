/- Normal: the document's Rename. -/
import Derived.Test.YtoklbofobcloaaaDoorNpH
import Derived.Test.YtoklbofobcloaaaDoorQaB
namespace Go.Proofs.YtoklbofobcloaaaDoor
open Go.RowKit Go.Sort Go.Shelf
set_option linter.unusedVariables false
theorem Rl.mono {w : World} {lo hi lo' hi' : Nat} {va vb : Value} {r : Rul} (h : Rl w lo hi va vb r) (h1 : lo' ≤ lo) (h2 : hi ≤ hi') : Rl w lo' hi' va vb r :=
  let ⟨a, c, b, d, e1, e2, h3⟩ := h; ⟨a, c, b, d, e1, e2, fun W hW => h3 W fun k hk1 hk2 => hW k (Nat.le_trans h1 hk1) (Nat.lt_of_lt_of_le hk2 h2)⟩
theorem Rl.form {w : World} {lo hi : Nat} {va vb : Value} {r : Rul} (h : Rl w lo hi va vb r) : ∃ a c b d, va = .slice a r.a.length c ∧ vb = .slice b r.b.length d ∧ Terms w a r.a ∧ Lits w b r.b :=
  let ⟨a, c, b, d, e1, e2, h3⟩ := h; ⟨a, c, b, d, e1, e2, h3 w (Stay.refl _ _ _)⟩
theorem rn_PutR (r : Rul) (a b : Option Addr) (c d : Nat) (names : List ByteArray) (terms : List Tm) (na ta : Option Addr) (nc tc : Nat) (w : World) (ha : Terms w a r.a) (hb : Lits w b r.b) (hn : Txts w na names) (ht : Terms w ta terms) :
    Calls Tryd.prog 17 #[.agg #[.string r.h, .slice a r.a.length c, .slice b r.b.length d], .slice na names.length nc, .slice ta terms.length tc] w fun e w' => ∃ va vb, e = .returned (.agg #[.string r.h, va, vb]) ∧ Rl w' w.heap.size w'.heap.size va vb (putR names terms r) ∧ Below w.heap.size w w' := by
  refine (rn_Put r a b c d names terms na ta nc tc w ha hb hn ht).mono ?_
  rintro e w' ⟨g, gc, B, cB, L, rfl, hc, hm, ⟨h1, h2⟩, hbb⟩
  refine ⟨_, _, rfl, ?_, hbb⟩
  have h3 := copied_rl (h := r.h) hc.t hc.b h1 h2 (fun y hy => Nat.le_of_lt (Nat.lt_of_le_of_lt h1 (hc.up y hy))) hm
  rw [List.length_map, List.length_map] at h3
  exact h3
theorem vTerms_succ (k : Nat) : vTerms (k + 1) = vTerms k ++ [(true, vName k)] := by simp [vTerms, List.range_succ]
theorem vTerms_len (k : Nat) : (vTerms k).length = k := by simp [vTerms]
theorem vName_dgs (i : Nat) : (⟨#[86]⟩ : ByteArray) ++ ⟨(decB i).toArray⟩ = vName i := by
  unfold vName
  apply ba_ext
  show ((⟨#[86]⟩ : ByteArray) ++ ⟨(decB i).toArray⟩).data.toList = _
  simp
set_option maxHeartbeats 4000000 in
set_option maxRecDepth 100000 in
theorem rn_Rename (r : Rul) (a b : Option Addr) (c d : Nat) (w : World) (ha : Terms w a r.a) (hb : Lits w b r.b) (hnv : (everyR r).length ≤ 1048576) :
    Calls Tryd.prog 16 #[.agg #[.string r.h, .slice a r.a.length c, .slice b r.b.length d]] w fun e w' => ∃ va vb, e = .returned (.agg #[.string r.h, va, vb]) ∧ Rl w' w.heap.size w'.heap.size va vb (renR r) ∧ Below w.heap.size w w' := by
  obtain ⟨it, hit, hz0, hz1, hz2⟩ := info_parts pr_infoTerm
  have hvl : (varsR r).length ≤ 1048576 := Nat.le_trans (varsOf_len _) hnv
  have hvs : Hid (∀ x ∈ varsR r, x.size ≤ 1048576) := Lib.hid fun x hx => every_size ha hb _ ((mem_varsOf _ _).1 hx)
  have hVars := fun W ha hb => rn_Vars r a b c d W ha hb hnv
  have hPut := fun na nc ta tc W ha hb hn ht => rn_PutR r a b c d (varsR r) (vTerms (varsR r).length) na ta nc tc W ha hb hn ht
  obtain ⟨n, hn⟩ : ∃ n, (varsR r).length = n := ⟨_, rfl⟩
  have hsp : Hid (putR (varsR r) (vTerms n) r = renR r) := Lib.hid (by rw [← hn]; rfl)
  rw [hn] at hvl hPut hVars
  rw [vTerms_len] at hPut
  replace ha := Lib.hid ha
  replace hb := Lib.hid hb
  replace hPut := Lib.hid hPut
  replace hVars := Lib.hid hVars
  replace hn := Lib.hid hn
  obtain ⟨W0, hW0⟩ : ∃ W0, W0 = (w.alloc (.cells #[.string r.h, .slice a r.a.length c, .slice b r.b.length d] 27)).alloc (.cells #[.string ⟨#[]⟩, .slice none 0 0, .slice none 0 0] 27) := ⟨_, rfl⟩
  have hkp : Hid (∀ w', Below W0.heap.size W0 w' → w'.heap[w.heap.size]? = some (.cells #[.string r.h, .slice a r.a.length c, .slice b r.b.length d] 27) ∧ w'.heap[w.heap.size + 1]? = some (.cells #[.string ⟨#[]⟩, .slice none 0 0, .slice none 0 0] 27) ∧ Below w.heap.size w w') := Lib.hid (by
    subst hW0; intro w' hb; obtain ⟨h1, h2, h3⟩ := two_cells hb; exact ⟨h2, h3, h1⟩)
  have hB0 := (hkp.out W0 (Below.refl _ _)).2.2
  have hB1 : Hid (w.heap.size + 1 < W0.heap.size) := Lib.hid (Array.getElem?_eq_some_iff.1 (hkp.out W0 (Below.refl _ _)).2.1).1
  have h0 := hkp.out W0 (Below.refl _ _)
  have q0 : W0.cell? ⟨w.heap.size, 0, none⟩ = some (.string r.h) := by simp [World.cell?, h0.1]
  have q1 : W0.cell? ⟨w.heap.size, 1, none⟩ = some (.slice a r.a.length c) := by simp [World.cell?, h0.1]
  have q2 : W0.cell? ⟨w.heap.size, 2, none⟩ = some (.slice b r.b.length d) := by simp [World.cell?, h0.1]
  clear h0
  go_enter Tryd.func16, Tryd.ntmps16
  go_upto_region 1 with fail
  rw [← hW0]
  clear hW0
  go_wp2_with (go_at_call 11
               go_loud (refine (hVars.out W0 (ha.out.below hB0) (hb.out.below hB0)).mono ?_)
               rintro e w1 ⟨v, rfl, hown, hbb⟩
               obtain ⟨na, nc, rfl, -⟩ := own_slice hown
               have hV := Lib.hid hown
               have hb1 := Lib.hid hbb
               clear hown hbb)
  clear q0 q1 q2
  go_loopw [4, 5] (fun v i wr => ∃ k : Nat, k ≤ n ∧ i = .int .i64 k ∧ Hid (wr.ownsRow w1.heap.size 33 2 v k (flatT (vTerms k))) ∧ Hid (Below w1.heap.size w1 wr)) (fun _ i _ => n - (intOf i).toNat)
  case atStart => exact ⟨0, Nat.zero_le _, rfl, Lib.hid (World.ownsRow_nil _ _ _ _), Lib.hid (Below.refl _ _)⟩
  case round =>
    obtain ⟨k, hk, rfl, hown, hbr⟩ := hrel
    have hq0 : (0 : Int) ≤ (k : Int) := Int.natCast_nonneg _
    obtain ⟨xa, xc, rfl, -⟩ := own_slice hown.out
    by_cases hlt : k < n
    · have hq1 : (k : Int) < (n : Int) := by omega
      have hvn := vName_dgs k
      have hvsz := vName_size k (by omega)
      have hsz1 : ¬ (9223372036854775807 < (⟨#[86]⟩ : ByteArray).size + (⟨(decB k).toArray⟩ : ByteArray).size) := by
        rw [← hvn, ByteArray.size_append] at hvsz
        omega
      have hdg := fun W => rn_digits k (by omega) W
      generalize (⟨(decB k).toArray⟩ : ByteArray) = S at hdg hvn hsz1
      generalize hvN : vName k = vn at hvn hvsz
      replace hdg := Lib.hid hdg
      replace hvN := Lib.hid hvN
      go_wp2_with (first
        | (go_at_call 46
           go_loud (refine (hdg.out _).mono ?_)
           rintro e w3 ⟨rfl, hbb⟩
           have hb3 := Lib.hid (hbr.out.trans (hbb.mono hbr.out.size))
           have hown3 := Lib.hid (own_below hown.out hbb)
           have hs3 := hb3.out.size
           clear hbb)
        | (at_builtin; go_loud (refine wpList_append_own _ rfl (.tmp 14) (.tmp 19) 22 rfl w1.heap.size 33 it (.agg #[.bool false, .string ⟨#[]⟩]) 2 24 Tryd.underlying22 hit hz0 hz1 hz2 rfl (by decide) _ k (flatT (vTerms k)) rfl (hown3.out.alloc _) ⟨w3.heap.size, 0, none⟩ 1 1 (flatT [(true, vn)]) rfl rfl (own_cells_row rfl rfl) (flatT_one _) (by unfold maxLen; omega) (by omega) (by rw [World.size_alloc]; omega) ?_)))
      intro v4 w4 hown4 hgr4 _
      have hb4 := Lib.hid ((hb3.out.al (.cells #[.bool true, .string vn] 33)).grown hgr4 (by rw [World.size_alloc]; omega) (own_ge hown3.out))
      have hown5 : Hid (w4.ownsRow w1.heap.size 33 2 v4 (k + 1) (flatT (vTerms (k + 1)))) := Lib.hid (by
        rw [vTerms_succ, hvN.out, show flatT (vTerms k ++ [(true, vn)]) = flatT (vTerms k) ++ flatT [(true, vn)] by simp [flatT]]
        exact hown4)
      clear hgr4 hown4 hown hown3
      go_wp2
      go_roundw
      case rel => exact ⟨k + 1, by omega, by go_num, hown5, hb4⟩
      case measure => simp [intOf]; omega
    · have hq1 : ¬ (k : Int) < (n : Int) := by omega
      have hke : k = n := by omega
      have hb2 := Lib.hid (hb1.out.trans (hbr.out.mono hb1.out.size))
      have hW := Lib.hid (hkp.out wr hb2.out)
      have hTx : Hid (Txts wr na (varsR r)) := Lib.hid (own_txts (own_below (by rw [hn.out]; exact hV.out) hbr.out) (by rw [hn.out]; exact hvl) hvs.out)
      have hTm : Hid (Terms wr xa (vTerms n)) := Lib.hid (by
        rw [← hke]
        obtain ⟨ta, tc, e, h1, -⟩ := (TRow.mk (by rw [vTerms_len]; exact hown.out) (by rw [vTerms_len]; omega) (fun x hx => by
          obtain ⟨i, hi, rfl⟩ := List.mem_map.1 hx
          have := vName_size i (by rw [List.mem_range] at hi; omega)
          show (vName i).size ≤ 1048576
          omega) : TRow wr w1.heap.size (.slice xa k xc) (vTerms k)).form
        injection e with e
        subst e
        exact h1)
      have q0 : wr.cell? ⟨w.heap.size, 0, none⟩ = some (.string r.h) := by simp [World.cell?, hW.out.1]
      have q1 : wr.cell? ⟨w.heap.size, 1, none⟩ = some (.slice a r.a.length c) := by simp [World.cell?, hW.out.1]
      have q2 : wr.cell? ⟨w.heap.size, 2, none⟩ = some (.slice b r.b.length d) := by simp [World.cell?, hW.out.1]
      have hPut2 := Lib.hid (hPut.out na nc xa xc wr (ha.out.below hW.out.2.2) (hb.out.below hW.out.2.2) hTx.out hTm.out)
      rw [hsp.out] at hPut2
      subst hke
      clear hown hTx hTm hPut hVars
      go_wp2_with (go_at_call 17
                   go_loud (refine hPut2.out.mono ?_)
                   rintro e w5 ⟨va, vb, rfl, hR0, hbb⟩
                   obtain ⟨za, zc, zb, zd, rfl, rfl, -, -⟩ := hR0.form
                   have hb5 := Lib.hid (hb2.out.trans (hbb.mono hb2.out.size))
                   have hR := Lib.hid hR0
                   have hx := (hkp.out _ hb5.out).2.1
                   obtain ⟨x0, x1, x2⟩ := box_cells hx
                   have g0 : w5.frozen? ⟨w.heap.size + 1, 0, none⟩ = false := by simp [World.frozen?, hx]
                   have g1 : w5.frozen? ⟨w.heap.size + 1, 1, none⟩ = false := by simp [World.frozen?, hx]
                   have g2 : w5.frozen? ⟨w.heap.size + 1, 2, none⟩ = false := by simp [World.frozen?, hx]
                   replace hx := Lib.hid hx
                   clear hR0 hbb)
      obtain ⟨V, hV, hVb, hVg, hVw⟩ := rule_stored hx.out (.string r.h) (.slice za (renR r).a.length zc) (.slice zb (renR r).b.length zd) (Nat.le_refl w.heap.size) (Nat.le_succ _) (hkp.out _ hb5.out).2.2
      rw [← hV]
      refine bodyPost_ret (v := .agg #[.string r.h, .slice za (renR r).a.length zc, .slice zb (renR r).b.length zd]) (results_cell_row rfl _ _ (w.heap.size + 1) 27 _ (0, 0) _ rfl hVb Tryd.underlying27 rfl pr_sizeRule) rfl ?_
      have hs2 := hb2.out.size
      exact ⟨_, _, rfl, ((hR.out.stay (fun j h1 h2 => hVg.block j h2 (fun e => by injection e with e; have := hB1.out; omega))).mono (Nat.le_trans hW.out.2.2.size (Nat.le_refl _)) hVg.size), hVw⟩
end Go.Proofs.YtoklbofobcloaaaDoor
