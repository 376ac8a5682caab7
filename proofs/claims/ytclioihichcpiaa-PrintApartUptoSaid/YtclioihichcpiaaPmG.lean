/- Parse: the rule of a text. -/
import Derived.Test.YtclioihichcpiaaPmF
namespace Go.Proofs.Ytclioihichcpiaa
open Go.RowKit Lx
namespace Lx
def psRuleTop (P : Ps) (tl : Nat) : Except Int PRule :=
  match P.take 0 [1] with
  | .error e => .error e
  | .ok (t, j) => match psRule P j (mk t.text) with
    | .error e => .error e
    | .ok (r, k) => if k < P.ts.length ∨ P.far < tl ∨ P.op.kind ≠ 0 then .error (P.stop k []) else .ok r
end Lx
/-- all below lo stays but two blocks -/
structure Frm2 (lo b r : Nat) (w w' : World) : Prop where
  os : w'.os = w.os
  tape : w'.tape = w.tape
  output : w'.output = w.output
  size : w.heap.size ≤ w'.heap.size
  block : ∀ k, k < lo → k ≠ b → k ≠ r → w'.heap[k]? = w.heap[k]?
theorem Frm2.trans {lo b r : Nat} {w w1 w2 : World} (h : Frm2 lo b r w w1) (h2 : Frm2 lo b r w1 w2) : Frm2 lo b r w w2 :=
  ⟨h2.os.trans h.os, h2.tape.trans h.tape, h2.output.trans h.output, Nat.le_trans h.size h2.size, fun k hk hb hr => (h2.block k hk hb hr).trans (h.block k hk hb hr)⟩
theorem Frm2.of_mvd {lo b r : Nat} {w w' : World} (h : Mvd b w w') (hlo : lo ≤ w.heap.size) : Frm2 lo b r w w' :=
  ⟨h.os, h.tape, h.output, h.size, fun k hk hb _ => h.block k (Nat.lt_of_lt_of_le hk hlo) (fun e => by injection e with e; exact hb e)⟩
theorem Frm2.of_mvd' {lo b r : Nat} {w w' : World} (h : Mvd r w w') (hlo : lo ≤ w.heap.size) : Frm2 lo b r w w' :=
  ⟨h.os, h.tape, h.output, h.size, fun k hk _ hb => h.block k (Nat.lt_of_lt_of_le hk hlo) (fun e => by injection e with e; exact hb e)⟩
theorem RuleIn.mvd2 {w w' : World} {lo b : Nat} {av bv : Value} {r : PRule} {cs : Array Value} {fr : Nat × Nat} (h : RuleIn w lo av bv r) (hm : Mvd b w w') (hg : w.heap[b]? = some (.cells cs 27 fr)) : RuleIn w' lo av bv r := by
  obtain ⟨h1, L, h2, h3, h4⟩ := h
  exact ⟨own_stays h1 hm fun k hk e => own_apart h1 hg typesTR (by rw [hk]; exact e.symm), L, h2, h3.rule hm hg, h4⟩
theorem ints_none {w : World} : Ints .i64 w none [] := ⟨by decide, fun i hi => absurd hi (by simp), fun i hi => absurd hi (by simp)⟩
def R1Post (b rb : Nat) (w0 : World) (R : Except Int PRule) (e : Ending) (w' : World) : Prop :=
  match R with
  | .ok r => ∃ av bv, e = .returned (.tuple #[]) ∧ Frm2 w0.heap.size b rb w0 w' ∧ w'.heap[rb]? = some (.cells #[.string r.p, av, bv] 27) ∧ RuleIn w' w0.heap.size av bv r
  | .error x => e = thrown x ∧ Frm2 w0.heap.size b rb w0 w'
set_option maxHeartbeats 8000000 in
set_option maxRecDepth 100000 in
theorem pa_rule1 (w : World) (b : Nat) (P : Ps) (tx : ByteArray) (ta : Option Addr) (tc : Nat) (R0 R1 R2 R3 R4 R5 : Value) (h : PSt w b P tx ta tc 0 R0 R1 R2 R3 R4 R5)
    (pp tt rb : Nat) (s : ByteArray) (hp : w.cell? ⟨pp, 0, none⟩ = some (.pointer (some ⟨b, 0, none⟩))) (ht : w.cell? ⟨tt, 0, none⟩ = some (.string s)) (hr : w.heap[rb]? = some (.cells #[.string ⟨#[]⟩, .slice none 0 0, .slice none 0 0] 27)) (hpb : pp ≠ b) (htb : tt ≠ b) (hrb : rb ≠ b) (hpr : pp ≠ rb) (htr : tt ≠ rb) (htar : 0 < P.ts.length → ∀ x, ta = some x → x.block ≠ rb) :
    Calls Try.prog 52 #[.pointer (some ⟨pp, 0, none⟩), .pointer (some ⟨rb, 0, none⟩), .pointer (some ⟨tt, 0, none⟩)] w (R1Post b rb w (psRuleTop P s.size)) := by
  have hbl := h.lt
  have hlen := h.len
  have hpl : pp < w.heap.size := cell_lt hp
  have htl : tt < w.heap.size := cell_lt ht
  have hrl : rb < w.heap.size := (Array.getElem?_eq_some_iff.1 hr).1
  have hfld := run_tok_text
  have hkp : Hid (∀ w', Mvd b w w' → w'.cell? ⟨pp, 0, none⟩ = some (.pointer (some ⟨b, 0, none⟩)) ∧ w'.cell? ⟨tt, 0, none⟩ = some (.string s) ∧ w'.heap[rb]? = some (.cells #[.string ⟨#[]⟩, .slice none 0 0, .slice none 0 0] 27)) := Lib.hid fun w' hf =>
    ⟨mvd_cell hf hp hpb, mvd_cell hf ht htb, (hf.block _ hrl (fun e => by injection e with e; exact hrb e)).trans hr⟩
  replace h := Lib.hid h
  rcases take_cases P 0 [1] (by decide) with ⟨t, ht1, htt, hc, hlt⟩ | ⟨x, ht1, hxs, hc⟩
  · have htk := Lib.hid fun w h wa hw => pa_take_ok w b P tx ta tc 0 R0 R1 R2 R3 R4 R5 h wa [1] 1 hw (by decide) hc hlt
    have hru := fun w h => pa_rule w b P tx ta tc (0 + 1) R0 R1 R2 R3 R4 R5 h (mk (P.tok 0).text)
    have hL : Hid (psRuleTop P s.size = match psRule P (0 + 1) (mk (P.tok 0).text) with | .error e => .error e | .ok (r, k) => if k < P.ts.length ∨ P.far < s.size ∨ P.op.kind ≠ 0 then .error (P.stop k []) else .ok r) := Lib.hid (by
      unfold psRuleTop; rw [ht1]; dsimp only; rw [htt])
    clear ht1 htt hc
    generalize psRule P (0 + 1) (mk (P.tok 0).text) = RR at hru hL
    generalize mk (P.tok 0).text = tx1 at htk hru
    generalize ((P.tok 0).at_ : Int) = f3 at htk
    generalize ((P.tok 0).end_ : Int) = f4 at htk
    generalize P.kind 0 = f5 at htk
    cases RR with
    | error x =>
      have hP : Hid (psRuleTop P s.size = .error x) := Lib.hid (by rw [hL.out])
      replace hru := Lib.hid hru
      unfold RulePost thrown at hru
      dsimp only at hru
      clear hL
      go_enter Try.func52, Try.ntmps52
      go_wp2_with fail
      have hq0 := (hkp.out _ (Mvd.refl b w)).1
      refine wp_region_T (fun w' => w'.cell? ⟨pp, 0, none⟩ = some (.pointer (some ⟨b, 0, none⟩))) [0, 1] (by kernel_rfl) hq0 (fun hHeld => ?_)
      refine wpAnyT_take (i := 0) (oi := _) (v := ?_) rfl rfl (by kernel_rfl) (by kernel_rfl) (by kernel_rfl) (fun _ _ _ h => h) (Or.inl ⟨by rfl, ?_⟩) (by assumption) ?_
      rotate_left
      · intro w hSw
        try dsimp only at hSw
        go_simp
        try with_reducible rfl
      refine wpAnyT_take (i := 1) (oi := _) (v := ?_) rfl rfl (by kernel_rfl) (by kernel_rfl) (by kernel_rfl) (fun _ _ _ h => h) (Or.inl ⟨by rfl, ?_⟩) (by assumption) ?_
      rotate_left
      · intro w hSw
        try dsimp only at hSw
        go_simp
        try with_reducible rfl
      refine wpAnyT_one (i := 2) (o := _) (by kernel_rfl) rfl (fun K hK => ?_)
      go_simp
      refine hK.out _ _ ((hkp.out _ (Mvd.of ((Below.refl w.heap.size w).al (.cells #[.int .i64 1] 95)).drew)).1) ?_
      clear hK K
      refine wpAnyT_one (i := 3) (o := _) (by kernel_rfl) rfl (fun K hK => ?_)
      go_simp
      go_wp2_with (go_at_call 54; refine (htk.out _ (h.out.below ((Below.refl _ _).al _).drew) _ ((kinds_lit w _ [1] _ rfl (by decide) rfl).below (Below.refl _ _).drew)).mono ?_; rintro e w3 ⟨rfl, hs30, hm30⟩
                   have hs3 := Lib.hid hs30
                   have hm3 := Lib.hid ((Mvd.of (b := b) ((Below.refl w.heap.size w).al (.cells #[.int .i64 1] 95)).drew).trans hm30)
                   clear hs30 hm30)
      refine hK.out _ _ ((hkp.out _ hm3.out).1) ?_
      clear hK K
      refine wpAnyT_one (i := 4) (o := _) (by kernel_rfl) rfl (fun K hK => ?_)
      go_simp
      refine hK.out _ _ ((hkp.out _ hm3.out).1) ?_
      clear hK K
      refine wpAnyT_one (i := 5) (o := _) (by kernel_rfl) rfl (fun K hK => ?_)
      go_simp
      go_wp2_with (go_at_call 53; refine (hru.out _ hs3.out).mono ?_; rintro e w4 ⟨rfl, hm4⟩; have hmv := Lib.hid (Frm2.of_mvd (r := rb) (hm3.out.trans hm4) (Nat.le_refl _)); exact ⟨rfl, by rw [hP.out]; exact ⟨rfl, hmv.out⟩⟩)
    | ok r =>
      obtain ⟨⟨rp, ra, rbo⟩, k⟩ := r
      replace hru := Lib.hid hru
      unfold RulePost at hru
      dsimp only at hru
      dsimp only at hL
      go_enter Try.func52, Try.ntmps52
      go_wp2_with fail
      have hq0 := (hkp.out _ (Mvd.refl b w)).1
      refine wp_region_T (fun w' => w'.cell? ⟨pp, 0, none⟩ = some (.pointer (some ⟨b, 0, none⟩))) [0, 1] (by kernel_rfl) hq0 (fun hHeld => ?_)
      refine wpAnyT_take (i := 0) (oi := _) (v := ?_) rfl rfl (by kernel_rfl) (by kernel_rfl) (by kernel_rfl) (fun _ _ _ h => h) (Or.inl ⟨by rfl, ?_⟩) (by assumption) ?_
      rotate_left
      · intro w hSw
        try dsimp only at hSw
        go_simp
        try with_reducible rfl
      refine wpAnyT_take (i := 1) (oi := _) (v := ?_) rfl rfl (by kernel_rfl) (by kernel_rfl) (by kernel_rfl) (fun _ _ _ h => h) (Or.inl ⟨by rfl, ?_⟩) (by assumption) ?_
      rotate_left
      · intro w hSw
        try dsimp only at hSw
        go_simp
        try with_reducible rfl
      refine wpAnyT_one (i := 2) (o := _) (by kernel_rfl) rfl (fun K hK => ?_)
      go_simp
      refine hK.out _ _ ((hkp.out _ (Mvd.of ((Below.refl w.heap.size w).al (.cells #[.int .i64 1] 95)).drew)).1) ?_
      clear hK K
      refine wpAnyT_one (i := 3) (o := _) (by kernel_rfl) rfl (fun K hK => ?_)
      go_simp
      go_wp2_with (go_at_call 54; refine (htk.out _ (h.out.below ((Below.refl _ _).al _).drew) _ ((kinds_lit w _ [1] _ rfl (by decide) rfl).below (Below.refl _ _).drew)).mono ?_; rintro e w3 ⟨rfl, hs30, hm30⟩
                   have hs3 := Lib.hid hs30
                   have hm3 := Lib.hid ((Mvd.of (b := b) ((Below.refl w.heap.size w).al (.cells #[.int .i64 1] 95)).drew).trans hm30)
                   clear hs30 hm30)
      refine hK.out _ _ ((hkp.out _ hm3.out).1) ?_
      clear hK K
      refine wpAnyT_one (i := 4) (o := _) (by kernel_rfl) rfl (fun K hK => ?_)
      go_simp
      refine hK.out _ _ ((hkp.out _ hm3.out).1) ?_
      clear hK K
      refine wpAnyT_one (i := 5) (o := _) (by kernel_rfl) rfl (fun K hK => ?_)
      go_simp
      go_wp2_with (go_at_call 53; refine (hru.out _ hs3.out).mono ?_; rintro e w4 ⟨av, bv, rfl, hs40, hm40, hri0⟩
                   have hs4 := Lib.hid hs40
                   have hm4 := Lib.hid (hm3.out.trans hm40)
                   have hri4 := Lib.hid (hri0.base (lo' := w.heap.size) hm3.out.size)
                   obtain ⟨xa, xn, xc, ya, yn, yc, rfl, rfl⟩ := hri0.form
                   have hr4 := Lib.hid (hkp.out _ hm4.out).2.2
                   clear hs40 hm40 hri0)
      refine hK.out _ _ ((hkp.out _ hm4.out).1) ?_
      clear hK K
      refine wpAnyT_free (i := 6) (o := _) (by kernel_rfl) rfl (by kernel_rfl) (fun K hK => ?_)
      with_reducible refine step_store_row ?gA 27 (.tmp 1) (.tmp 8) ?oA rb #[.string rp, .slice xa xn xc, .slice ya yn yc] ?xA ?yA 27 #[.string ⟨#[]⟩, .slice none 0 0, .slice none 0 0] hr4.out ?sA ?dA ?nA ?rA
      case gA => rfl
      case oA => rfl
      case xA => kernel_rfl
      case yA => kernel_rfl
      case sA => exact sizeRule
      case dA => kernel_rfl
      case nA => simp [Value.oneCell']
      intro w5 hr5 hgr5 hsz5
      have hri5 := Lib.hid (hri4.out.mvd2 hgr5 hr4.out)
      have hs5 := Lib.hid (hs4.out.mvd hgr5 (Ne.symm hrb) (htar hlt))
      have hf5 := Lib.hid ((Frm2.of_mvd (lo := w.heap.size) (r := rb) hm4.out (Nat.le_refl _)).trans (Frm2.of_mvd' hgr5 hm4.out.size))
      have hk5 := Lib.hid (And.intro (mvd_cell hgr5 (hkp.out _ hm4.out).1 hpr) (mvd_cell hgr5 (hkp.out _ hm4.out).2.1 htr))
      clear hgr5 hsz5
      refine hK.out _ _ ?_
      clear hK K
      refine wpAnyT_done (by kernel_rfl) ?_ _
      clear hHeld hq0 hs3 hm3 hs4 hm4 hri4 hr4 hkp h htk hru
      try refine ‹∀ (a : Act) (w : World), Code.wp _ _ _ a w → _› _ _ ?_
      obtain ⟨k1, k2⟩ := hk5.out
      obtain ⟨c1, c2, c4, c6, c7, -⟩ := hs5.out.cells
      have hpos := hs5.out.pos
      have hstop := fun w h wa hw => pa_stop w b P tx ta tc k R0 R1 R2 R3 R4 R5 h wa [] 0 hw (by decide)
      by_cases hc : k < P.ts.length ∨ P.far < s.size ∨ P.op.kind ≠ 0
      · have hP : Hid (psRuleTop P s.size = .error (P.stop k [])) := Lib.hid (by rw [hL.out, if_pos hc])
        generalize P.stop k [] = x at hstop hP
        unfold thrown at hstop
        clear hL
        by_cases hk : k < P.ts.length
        · have hq1 : (k : Int) < (P.ts.length : Int) := by omega
          clear hc
          go_wp2_with fail
          go_quiet (fail)
          have hs6 := Lib.hid (hs5.out.drawn ⟨nq, rfl⟩)
          have hf6 : Hid (Frm2 w.heap.size b rb w (w5.drewN nq)) := Lib.hid (hf5.out.trans (Frm2.of_mvd (Mvd.of (Drawn.below ⟨nq, rfl⟩ _)) hf5.out.size))
          have hk6 : (w5.drewN nq).cell? ⟨pp, 0, none⟩ = some (.pointer (some ⟨b, 0, none⟩)) := hk5.out.1
          generalize w5.drewN nq = w6 at hs6 hf6 hk6 ⊢
          clear k1 k2 c1 c2 c4 c6 c7
          go_wp2_with (go_at_call 55; refine (hstop _ hs6.out none ints_none).mono ?_; rintro e w7 ⟨rfl, hb7⟩; have hf7 := Lib.hid (hf6.out.trans (Frm2.of_mvd (Mvd.of hb7) hf6.out.size)); clear hb7)
          exact ⟨rfl, by rw [hP.out]; exact ⟨rfl, hf7.out⟩⟩
        · have hq1 : (P.ts.length : Int) ≤ (k : Int) := by omega
          by_cases hfs : P.far < s.size
          · have hq2 : (P.far : Int) < (s.size : Int) := by omega
            clear hc
            go_wp2_with fail
            go_quiet (fail)
            have hs6 := Lib.hid (hs5.out.drawn ⟨nq, rfl⟩)
            have hf6 : Hid (Frm2 w.heap.size b rb w (w5.drewN nq)) := Lib.hid (hf5.out.trans (Frm2.of_mvd (Mvd.of (Drawn.below ⟨nq, rfl⟩ _)) hf5.out.size))
            have hk6 : (w5.drewN nq).cell? ⟨pp, 0, none⟩ = some (.pointer (some ⟨b, 0, none⟩)) := hk5.out.1
            generalize w5.drewN nq = w6 at hs6 hf6 hk6 ⊢
            clear k1 k2 c1 c2 c4 c6 c7
            go_wp2_with (go_at_call 55; refine (hstop _ hs6.out none ints_none).mono ?_; rintro e w7 ⟨rfl, hb7⟩; have hf7 := Lib.hid (hf6.out.trans (Frm2.of_mvd (Mvd.of hb7) hf6.out.size)); clear hb7)
            exact ⟨rfl, by rw [hP.out]; exact ⟨rfl, hf7.out⟩⟩
          · have hq2 : (s.size : Int) ≤ (P.far : Int) := by omega
            have hkk : (P.op.kind != 0) = true := by rw [bne_iff_ne]; exact (hc.resolve_left hk).resolve_left hfs
            clear hc
            go_wp2_with fail
            go_quiet (fail)
            have hs6 := Lib.hid (hs5.out.drawn ⟨nq, rfl⟩)
            have hf6 : Hid (Frm2 w.heap.size b rb w (w5.drewN nq)) := Lib.hid (hf5.out.trans (Frm2.of_mvd (Mvd.of (Drawn.below ⟨nq, rfl⟩ _)) hf5.out.size))
            have hk6 : (w5.drewN nq).cell? ⟨pp, 0, none⟩ = some (.pointer (some ⟨b, 0, none⟩)) := hk5.out.1
            generalize w5.drewN nq = w6 at hs6 hf6 hk6 ⊢
            clear k1 k2 c1 c2 c4 c6 c7
            go_wp2_with (go_at_call 55; refine (hstop _ hs6.out none ints_none).mono ?_; rintro e w7 ⟨rfl, hb7⟩; have hf7 := Lib.hid (hf6.out.trans (Frm2.of_mvd (Mvd.of hb7) hf6.out.size)); clear hb7)
            exact ⟨rfl, by rw [hP.out]; exact ⟨rfl, hf7.out⟩⟩
      · have hP : Hid (psRuleTop P s.size = .ok ⟨rp, ra, rbo⟩) := Lib.hid (by rw [hL.out, if_neg hc])
        have hk : ¬ k < P.ts.length := fun h => hc (.inl h)
        have hfs : ¬ P.far < s.size := fun h => hc (.inr (.inl h))
        have hkk : (P.op.kind != 0) = false := by
          rw [bne_eq_false_iff_eq]
          exact Classical.byContradiction fun h => hc (.inr (.inr h))
        have hq1 : (P.ts.length : Int) ≤ (k : Int) := by omega
        have hq2 : (s.size : Int) ≤ (P.far : Int) := by omega
        clear hc hL
        go_wp2_with fail
        go_quiet (fail)
        have hf6 : Hid (Frm2 w.heap.size b rb w (w5.drewN nq)) := Lib.hid (hf5.out.trans (Frm2.of_mvd (Mvd.of (Drawn.below ⟨nq, rfl⟩ _)) hf5.out.size))
        have hr6 : Hid ((w5.drewN nq).heap[rb]? = some (.cells #[.string rp, .slice xa xn xc, .slice ya yn yc] 27)) := Lib.hid hr5.out
        have hri6 : Hid (RuleIn (w5.drewN nq) w.heap.size (.slice xa xn xc) (.slice ya yn yc) ⟨rp, ra, rbo⟩) := Lib.hid (hri5.out.mvd (b := b) (Mvd.of (Drawn.below ⟨nq, rfl⟩ _)) hbl)
        generalize w5.drewN nq = w6 at hf6 hr6 hri6 ⊢
        go_wp2_with fail
        go_end0
        rw [hP.out]
        exact ⟨_, _, rfl, hf6.out, hr6.out, hri6.out⟩
  · have hP : Hid (psRuleTop P s.size = .error x) := Lib.hid (by unfold psRuleTop; rw [ht1])
    have htk := Lib.hid fun w h wa hw => pa_take_err w b P tx ta tc 0 R0 R1 R2 R3 R4 R5 h wa [1] 1 hw (by decide) hc
    rw [← hxs] at htk
    unfold thrown at htk
    clear ht1 hxs hc
    go_enter Try.func52, Try.ntmps52
    go_wp2_with fail
    have hq0 := (hkp.out _ (Mvd.refl b w)).1
    refine wp_region_T (fun w' => w'.cell? ⟨pp, 0, none⟩ = some (.pointer (some ⟨b, 0, none⟩))) [0, 1] (by kernel_rfl) hq0 (fun hHeld => ?_)
    refine wpAnyT_take (i := 0) (oi := _) (v := ?_) rfl rfl (by kernel_rfl) (by kernel_rfl) (by kernel_rfl) (fun _ _ _ h => h) (Or.inl ⟨by rfl, ?_⟩) (by assumption) ?_
    rotate_left
    · intro w hSw
      try dsimp only at hSw
      go_simp
      try with_reducible rfl
    refine wpAnyT_take (i := 1) (oi := _) (v := ?_) rfl rfl (by kernel_rfl) (by kernel_rfl) (by kernel_rfl) (fun _ _ _ h => h) (Or.inl ⟨by rfl, ?_⟩) (by assumption) ?_
    rotate_left
    · intro w hSw
      try dsimp only at hSw
      go_simp
      try with_reducible rfl
    refine wpAnyT_one (i := 2) (o := _) (by kernel_rfl) rfl (fun K hK => ?_)
    go_simp
    refine hK.out _ _ ((hkp.out _ (Mvd.of ((Below.refl w.heap.size w).al (.cells #[.int .i64 1] 95)).drew)).1) ?_
    clear hK K
    refine wpAnyT_one (i := 3) (o := _) (by kernel_rfl) rfl (fun K hK => ?_)
    go_simp
    go_wp2_with (go_at_call 54; refine (htk.out _ (h.out.below ((Below.refl _ _).al _).drew) _ ((kinds_lit w _ [1] _ rfl (by decide) rfl).below (Below.refl _ _).drew)).mono ?_; rintro e w3 ⟨rfl, hb3⟩; have hmv := Lib.hid (Frm2.of_mvd (r := rb) ((Mvd.of (b := b) ((Below.refl w.heap.size w).al (.cells #[.int .i64 1] 95)).drew).trans (Mvd.of hb3)) (Nat.le_refl _)); exact ⟨rfl, by rw [hP.out]; exact ⟨rfl, hmv.out⟩⟩)
end Go.Proofs.Ytclioihichcpiaa


/- Parse: Rule, Begins. -/
namespace Go.Proofs.Ytclioihichcpiaa
open Go.RowKit Lx
theorem Frm2.low {lo lo' b r : Nat} {w w' : World} (h : Frm2 lo b r w w') (hl : lo' ≤ lo) : Frm2 lo' b r w w' := ⟨h.os, h.tape, h.output, h.size, fun k hk hb hr => h.block k (by omega) hb hr⟩
theorem Frm2.below {lo B b r : Nat} {w w' : World} (h : Frm2 lo b r w w') (hB : B ≤ lo) (hb : B ≤ b) (hr : B ≤ r) : Below B w w' :=
  ⟨h.os, h.tape, h.output, h.size, fun k hk => h.block k (by omega) (by omega) (by omega)⟩
def Run2Post (b rb : Nat) (w0 : World) (R : Except Int PRule) (e : Ending) (w' : World) : Prop :=
  match R with
  | .ok r => ∃ av bv, e = .returned (.tuple #[.int .i64 0, .int .i64 0]) ∧ Frm2 w0.heap.size b rb w0 w' ∧ w'.heap[rb]? = some (.cells #[.string r.p, av, bv] 27) ∧ RuleIn w' w0.heap.size av bv r
  | .error x => e = .returned (.tuple #[.int .i64 x, .int .i64 11]) ∧ Frm2 w0.heap.size b rb w0 w'
theorem pa_run2 (w : World) (b : Nat) (P : Ps) (tx : ByteArray) (ta : Option Addr) (tc : Nat) (R0 R1 R2 R3 R4 R5 : Value) (h : PSt w b P tx ta tc 0 R0 R1 R2 R3 R4 R5)
    (pp tt rb : Nat) (s : ByteArray) (hp : w.cell? ⟨pp, 0, none⟩ = some (.pointer (some ⟨b, 0, none⟩))) (ht : w.cell? ⟨tt, 0, none⟩ = some (.string s)) (hr : w.heap[rb]? = some (.cells #[.string ⟨#[]⟩, .slice none 0 0, .slice none 0 0] 27)) (hpb : pp ≠ b) (htb : tt ≠ b) (hrb : rb ≠ b) (hpr : pp ≠ rb) (htr : tt ≠ rb) (htar : 0 < P.ts.length → ∀ x, ta = some x → x.block ≠ rb) :
    Calls Try.prog 51 #[.func (.func 52) #[] #[.pointer (some ⟨pp, 0, none⟩), .pointer (some ⟨rb, 0, none⟩), .pointer (some ⟨tt, 0, none⟩)]] w (Run2Post b rb w (psRuleTop P s.size)) := by
  have hbl := h.lt
  have hrl : rb < w.heap.size := (Array.getElem?_eq_some_iff.1 hr).1
  have hb2 : Below w.heap.size w ((w.alloc (.cells #[.int .i64 0] 3)).alloc (.cells #[.int .i64 0] 29)) := ((Below.refl _ _).al _).al _
  have hsz2 : ((w.alloc (.cells #[.int .i64 0] 3)).alloc (.cells #[.int .i64 0] 29)).heap.size = w.heap.size + 2 := by rw [World.size_alloc, World.size_alloc]
  have hn0 : ((w.alloc (.cells #[.int .i64 0] 3)).alloc (.cells #[.int .i64 0] 29)).heap[w.heap.size]? = some (.cells #[.int .i64 0] 3) := by
    rw [heap_alloc_old _ _ (by rw [World.size_alloc]; omega)]; exact heap_alloc_new _ _
  have hn1 : ((w.alloc (.cells #[.int .i64 0] 3)).alloc (.cells #[.int .i64 0] 29)).heap[w.heap.size + 1]? = some (.cells #[.int .i64 0] 29) := by
    have := heap_alloc_new (w.alloc (.cells #[.int .i64 0] 3)) (.cells #[.int .i64 0] 29)
    rw [World.size_alloc] at this; exact this
  have hp1 := pa_rule1 _ b P tx ta tc R0 R1 R2 R3 R4 R5 (h.below hb2) pp tt rb s (cell_below hb2 rfl hp) (cell_below hb2 rfl ht) ((hb2.block _ hrl).trans hr) hpb htb hrb hpr htr htar
  have hset : ∀ (w1 : World) (x y : Value), w1.heap.size ≥ w.heap.size + 2 → Frm2 w.heap.size b rb w1 ((w1.setCell ⟨w.heap.size, 0, none⟩ x).setCell ⟨w.heap.size + 1, 0, none⟩ y) := fun w1 x y hw1 =>
    ⟨rfl, rfl, rfl, by simp, fun k hk _ _ => (heap_setCell_other _ _ _ _ (by show k ≠ w.heap.size + 1; omega)).trans (heap_setCell_other _ _ _ _ (by show k ≠ w.heap.size; omega))⟩
  have hfw : Frm2 w.heap.size b rb w ((w.alloc (.cells #[.int .i64 0] 3)).alloc (.cells #[.int .i64 0] 29)) := Frm2.of_mvd (Mvd.of hb2) (Nat.le_refl _)
  cases hR : psRuleTop P s.size with
  | ok r =>
    rw [hR] at hp1
    refine (pa_caught_rule_ok _ w (fun w' => ∃ av bv, Frm2 (w.heap.size + 2) b rb ((w.alloc (.cells #[.int .i64 0] 3)).alloc (.cells #[.int .i64 0] 29)) w' ∧ w'.heap[rb]? = some (.cells #[.string r.p, av, bv] 27) ∧ RuleIn w' (w.heap.size + 2) av bv r) fun w2 hw2 => ?_).mono ?_
    · subst hw2
      refine hp1.mono fun e w' h => ?_
      obtain ⟨av, bv, h1, h2, h3, h4⟩ := h
      rw [hsz2] at h2 h4
      exact ⟨h1, ⟨av, bv, h2, h3, h4⟩, (h2.block _ (by omega) (by omega) (by omega)).trans hn0, (h2.block _ (by omega) (by omega) (by omega)).trans hn1⟩
    · rintro e w' ⟨rfl, w1, ⟨av, bv, hf1, hrr, hri⟩, rfl⟩
      have hs1 : w1.heap.size ≥ w.heap.size + 2 := by have := hf1.size; omega
      have hf2 := hset w1 (.int .i64 0) (.int .i64 0) hs1
      have hm0 : Mvd w.heap.size w1 (w1.setCell ⟨w.heap.size, 0, none⟩ (.int .i64 0)) := (Mvd.refl _ _).set _ _
      have hm1 : Mvd (w.heap.size + 1) (w1.setCell ⟨w.heap.size, 0, none⟩ (.int .i64 0)) ((w1.setCell ⟨w.heap.size, 0, none⟩ (.int .i64 0)).setCell ⟨w.heap.size + 1, 0, none⟩ (.int .i64 0)) := (Mvd.refl _ _).set _ _
      refine ⟨av, bv, rfl, (hfw.trans (hf1.low (by omega))).trans hf2, ?_, ((hri.mvd hm0 (by omega)).mvd hm1 (by omega)).base (by omega)⟩
      exact ((heap_setCell_other _ _ _ _ (by show rb ≠ w.heap.size + 1; omega)).trans (heap_setCell_other _ _ _ _ (by show rb ≠ w.heap.size; omega))).trans hrr
  | error x =>
    rw [hR] at hp1
    refine (pa_caught_rule_err _ x w (fun w' => Frm2 (w.heap.size + 2) b rb ((w.alloc (.cells #[.int .i64 0] 3)).alloc (.cells #[.int .i64 0] 29)) w') fun w2 hw2 => ?_).mono ?_
    · subst hw2
      refine hp1.mono fun e w' h => ?_
      obtain ⟨h1, h2⟩ := h
      rw [hsz2] at h2
      exact ⟨h1, h2, (h2.block _ (by omega) (by omega) (by omega)).trans hn0, (h2.block _ (by omega) (by omega) (by omega)).trans hn1⟩
    · rintro e w' ⟨rfl, w1, hf1, rfl⟩
      have hs1 : w1.heap.size ≥ w.heap.size + 2 := by have := hf1.size; omega
      have hfa : Frm2 w.heap.size b rb w1 (w1.alloc (.cells #[.int .i64 x] 117)) := Frm2.of_mvd (Mvd.of ((Below.refl _ _).al _)) (by omega)
      exact ⟨rfl, ((hfw.trans (hf1.low (by omega))).trans hfa).trans (hset _ _ _ (by rw [World.size_alloc]; omega))⟩
/-- a rule that was read, in memory; or where it goes on no more -/
def RlPost (w0 : World) (R : Except Int PRule) (e : Ending) (w' : World) : Prop :=
  match R with
  | .ok r => ∃ av bv, e = .returned (.tuple #[.agg #[.string r.p, av, bv], .int .i64 0, .int .i64 0]) ∧ Below w0.heap.size w0 w' ∧ RuleIn w' w0.heap.size av bv r
  | .error x => e = .returned (.tuple #[.agg #[.string ⟨#[]⟩, .slice none 0 0, .slice none 0 0], .int .i64 x, .int .i64 11]) ∧ Below w0.heap.size w0 w'
def psRuleText (s : ByteArray) : Except Int PRule := psRuleTop (psOf s) s.size
/-- three results, the first in memory -/
theorem results_cellA3 {P : Program} {fn : Func} {p u v : Tmp} {ty : TypeId} (h : fn.results = #[.cell p ty, .tmp u, .tmp v]) (tmps : Array Value) (w : World) (g : Nat) (t : TypeId) (cs : Array Value) (fr : Nat × Nat) (d : TypeDesc)
    (hp : tmps.getD p undef = .pointer (some ⟨g, 0, none⟩)) (hg : w.heap[g]? = some (.cells cs t fr)) (hu : P.underlying ty = some d)
    (hd : (match d, hu with | .struct _, _ => true | .array _ _, _ => true | _, _ => false) = true) (hi : (P.info? ty).map (fun x => x.size) = some cs.size) (a b : Value) (ha : tmps.getD u undef = a) (hb : tmps.getD v undef = b) :
    (results fn tmps).run P w = .ok (.tuple #[.agg cs, a, b]) w := by
  have hl := run_loadVar_row (P := P) w g t ty cs fr d hg hu hd hi
  subst ha hb
  have hp2 : tmps[p]?.getD undef = .pointer (some ⟨g, 0, none⟩) := by simpa using hp
  simp only [results, h]
  simp [hp2, asAddr, hl]
set_option maxHeartbeats 1000000 in
set_option maxRecDepth 100000 in
theorem pa_Rule (s : ByteArray) (w : World) (hs : s.size ≤ 4194304) :
    Calls Try.prog 25 #[.string s] w (RlPost w (psRuleText s)) := by
  have hbg := fun w => pa_begin s w hs
  have hmf : ∀ (fn : Fn) (first cap : Array Value) (w : World), (Instr.makeFunc fn first cap).run Try.prog w = .ok (.func fn first cap) w := fun _ _ _ _ => rfl
  obtain ⟨R, hR⟩ : ∃ R, R = psRuleText s := ⟨_, rfl⟩
  rw [← hR]
  replace hR := Lib.hid hR
  go_enter Try.func25, Try.ntmps25
  go_wp2_with (first
    | (go_at_call 50
       refine (hbg _).mono ?_
       rintro e w4 ⟨b, ta, tc, rfl, hst0, hb0, hbl0⟩))
  have hx : ∃ W3 : World, W3.heap.size ≤ b ∧ Below W3.heap.size W3 w4 ∧ W3.heap.size = w.heap.size + 2 ∧ Below w.heap.size w W3 ∧ W3.heap[w.heap.size]? = some (.cells #[.string s] 9) ∧ W3.heap[w.heap.size + 1]? = some (.cells #[.string ⟨#[]⟩, .slice none 0 0, .slice none 0 0] 27) := by
    refine ⟨_, hb0, hbl0, by simp only [World.size_alloc], ((Below.refl _ _).al _).al _, ?_, ?_⟩
    · rw [heap_alloc_old _ _ (by simp only [World.size_alloc]; omega)]; exact heap_alloc_new _ _
    · have := heap_alloc_new (w.alloc (.cells #[.string s] 9)) (.cells #[.string ⟨#[]⟩, .slice none 0 0, .slice none 0 0] 27)
      rw [World.size_alloc] at this; exact this
  clear hb0 hbl0
  obtain ⟨W3, hb3, hbl3, hz3, hbw3, hs3, hp3⟩ := hx
  have hb4 := hbl3.size
  have hst4 := hst0.lt
  have hbb : Below w4.heap.size w4 ((w4.alloc (.cells #[.pointer (some ⟨b, 0, none⟩)] 90)).alloc (.cells #[.string ⟨#[]⟩, .slice none 0 0, .slice none 0 0] 27)) := ((Below.refl _ _).al _).al _
  have hst5 := hst0.below hbb
  have hs5 : ((w4.alloc (.cells #[.pointer (some ⟨b, 0, none⟩)] 90)).alloc (.cells #[.string ⟨#[]⟩, .slice none 0 0, .slice none 0 0] 27)).heap[w.heap.size]? = some (.cells #[.string s] 9) := by
    rw [hbb.block _ (by omega), hbl3.block _ (by omega)]; exact hs3
  have hp5 : ((w4.alloc (.cells #[.pointer (some ⟨b, 0, none⟩)] 90)).alloc (.cells #[.string ⟨#[]⟩, .slice none 0 0, .slice none 0 0] 27)).heap[w.heap.size + 1]? = some (.cells #[.string ⟨#[]⟩, .slice none 0 0, .slice none 0 0] 27) := by
    rw [hbb.block _ (by omega), hbl3.block _ (by omega)]; exact hp3
  have ht5 : ((w4.alloc (.cells #[.pointer (some ⟨b, 0, none⟩)] 90)).alloc (.cells #[.string ⟨#[]⟩, .slice none 0 0, .slice none 0 0] 27)).heap[w4.heap.size]? = some (.cells #[.pointer (some ⟨b, 0, none⟩)] 90) := by
    rw [heap_alloc_old _ _ (by rw [World.size_alloc]; omega)]; exact heap_alloc_new _ _
  have hr5 : ((w4.alloc (.cells #[.pointer (some ⟨b, 0, none⟩)] 90)).alloc (.cells #[.string ⟨#[]⟩, .slice none 0 0, .slice none 0 0] 27)).heap[w4.heap.size + 1]? = some (.cells #[.string ⟨#[]⟩, .slice none 0 0, .slice none 0 0] 27) := by
    have := heap_alloc_new (w4.alloc (.cells #[.pointer (some ⟨b, 0, none⟩)] 90)) (.cells #[.string ⟨#[]⟩, .slice none 0 0, .slice none 0 0] 27)
    rw [World.size_alloc] at this; exact this
  have hsz5 : ((w4.alloc (.cells #[.pointer (some ⟨b, 0, none⟩)] 90)).alloc (.cells #[.string ⟨#[]⟩, .slice none 0 0, .slice none 0 0] 27)).heap.size = w4.heap.size + 2 := by rw [World.size_alloc, World.size_alloc]
  have hrun := pa_run2 ((w4.alloc (.cells #[.pointer (some ⟨b, 0, none⟩)] 90)).alloc (.cells #[.string ⟨#[]⟩, .slice none 0 0, .slice none 0 0] 27)) b (psOf s) s ta tc _ _ _ _ _ _ hst5 w4.heap.size w.heap.size (w4.heap.size + 1) s ((cell_of_row _ _ _ _ _ _ ht5).trans rfl) ((cell_of_row _ _ _ _ _ _ hs5).trans rfl) hr5 (by omega) (by omega) (by omega) (by omega) (by omega) (fun h0 x hx => by
    subst hx
    obtain ⟨tb, e1, g1, _⟩ := pst_tok hst0 0 h0
    cases e1
    have hg := cell_lt g1
    have hg' : tb < w4.heap.size := hg
    show tb ≠ _
    omega)
  have hR' : psRuleTop (psOf s) s.size = R := hR.out.symm
  rw [hR'] at hrun
  refine hrun.mono ?_
  clear hrun hR' hR
  cases R with
  | error x =>
    rintro e w6 ⟨rfl, hf6⟩
    have hp6 : Hid (w6.heap[w.heap.size + 1]? = some (.cells #[.string ⟨#[]⟩, .slice none 0 0, .slice none 0 0] 27)) := Lib.hid (by
      rw [hf6.block _ (by omega) (by omega) (by omega)]; exact hp5)
    have hfb : Hid (Below w.heap.size w w6) := Lib.hid (((hbw3.trans (hbl3.mono (by omega))).trans (hbb.mono (by omega))).trans (hf6.below (by omega) (by omega) (by omega)))
    clear hf6 hp3 hs3 hs5 hst5 hst0 hbl3 hbw3 hz3 hb4 hb3 hst4 hbb hp5 ht5 hr5 hsz5
    go_wp2_with (refine wpList_store_rowA rfl 27 (.tmp 2) (.tmp 18) rfl (w.heap.size + 1) #[.string ⟨#[]⟩, .slice none 0 0, .slice none 0 0] rfl rfl 27 #[.string ⟨#[]⟩, .slice none 0 0, .slice none 0 0] hp6.out sizeRule rfl (by simp [Value.oneCell']) ?_)
    intro w7 hp7 hgr7 hsz7
    have hfb7 := Lib.hid (hfb.out.trans (Below.of_grown hgr7 (by omega) hfb.out.size))
    clear hgr7 hsz7
    go_wp2_with fail
    refine bodyPost_ret (v := .tuple #[.agg #[.string ⟨#[]⟩, .slice none 0 0, .slice none 0 0], .int .i64 x, .int .i64 11]) (results_cellA3 rfl _ _ (w.heap.size + 1) 27 _ (0, 0) _ rfl hp7.out Try.underlying27 rfl sizeRule _ _ rfl rfl) rfl ?_
    exact ⟨rfl, hfb7.out⟩
  | ok r =>
    rintro e w6 ⟨av, bv, rfl, hf6, hrr6, hri6⟩
    obtain ⟨rp, ra, rbo⟩ := r
    obtain ⟨xa, xn, xc, ya, yn, yc, rfl, rfl⟩ := hri6.form
    have hp6 : Hid (w6.heap[w.heap.size + 1]? = some (.cells #[.string ⟨#[]⟩, .slice none 0 0, .slice none 0 0] 27)) := Lib.hid (by
      rw [hf6.block _ (by omega) (by omega) (by omega)]; exact hp5)
    have hrr : Hid (w6.heap[w4.heap.size + 1]? = some (.cells #[.string rp, .slice xa xn xc, .slice ya yn yc] 27)) := Lib.hid hrr6
    have hfb : Hid (Below w.heap.size w w6) := Lib.hid (((hbw3.trans (hbl3.mono (by omega))).trans (hbb.mono (by omega))).trans (hf6.below (by omega) (by omega) (by omega)))
    have hri : Hid (RuleIn w6 w.heap.size (.slice xa xn xc) (.slice ya yn yc) ⟨rp, ra, rbo⟩) := Lib.hid (hri6.base (by omega))
    have q0 : w6.cell? ⟨w4.heap.size + 1, 0, none⟩ = some (.string rp) := (cell_of_row _ _ _ _ _ _ hrr6).trans rfl
    have q1 : w6.cell? ⟨w4.heap.size + 1, 1, none⟩ = some (.slice xa xn xc) := (cell_of_row _ _ _ _ _ _ hrr6).trans rfl
    have q2 : w6.cell? ⟨w4.heap.size + 1, 2, none⟩ = some (.slice ya yn yc) := (cell_of_row _ _ _ _ _ _ hrr6).trans rfl
    clear hf6 hp3 hs3 hs5 hst5 hst0 hbl3 hbw3 hz3 hb4 hb3 hst4 hbb hp5 ht5 hr5 hsz5 hrr6 hri6
    go_wp2_with (refine wpList_store_rowA rfl 27 (.tmp 2) (.tmp 21) rfl (w.heap.size + 1) #[.string rp, .slice xa xn xc, .slice ya yn yc] rfl rfl 27 #[.string ⟨#[]⟩, .slice none 0 0, .slice none 0 0] hp6.out sizeRule rfl (by simp [Value.oneCell']) ?_)
    intro w7 hp7 hgr7 hsz7
    have hfb7 := Lib.hid (hfb.out.trans (Below.of_grown hgr7 (by omega) hfb.out.size))
    have hri7 := Lib.hid (hri.out.mvd2 hgr7 hp6.out)
    clear hgr7 hsz7
    go_wp2_with fail
    refine bodyPost_ret (v := .tuple #[.agg #[.string rp, .slice xa xn xc, .slice ya yn yc], .int .i64 0, .int .i64 0]) (results_cellA3 rfl _ _ (w.heap.size + 1) 27 _ (0, 0) _ rfl hp7.out Try.underlying27 rfl sizeRule _ _ rfl rfl) rfl ?_
    exact ⟨_, _, rfl, hfb7.out, hri7.out⟩
end Go.Proofs.Ytclioihichcpiaa
