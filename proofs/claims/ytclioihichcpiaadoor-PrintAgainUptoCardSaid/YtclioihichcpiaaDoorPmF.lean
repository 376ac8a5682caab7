/- Parse: the statements of a text, one behind the other. -/
import Derived.Test.YtclioihichcpiaaDoorPmE
namespace Go.Proofs.YtclioihichcpiaaDoor
open Go.RowKit Lx
theorem inps_le (l : List Stmt) : (inpsOf l).length ≤ l.length ∧ (outsOf l).length ≤ l.length ∧ (rulesOf l).length ≤ l.length ∧ (inAts l).length ≤ l.length ∧ (outAts l).length ≤ l.length ∧ (ruAts l).length ≤ l.length :=
  ⟨List.length_filterMap_le _ _, List.length_filterMap_le _ _, List.length_filterMap_le _ _, List.length_filterMap_le _ _, List.length_filterMap_le _ _, List.length_filterMap_le _ _⟩
theorem inps_app (l m : List Stmt) : inpsOf (l ++ m) = inpsOf l ++ inpsOf m ∧ outsOf (l ++ m) = outsOf l ++ outsOf m ∧ rulesOf (l ++ m) = rulesOf l ++ rulesOf m ∧ inAts (l ++ m) = inAts l ++ inAts m ∧ outAts (l ++ m) = outAts l ++ outAts m ∧ ruAts (l ++ m) = ruAts l ++ ruAts m :=
  ⟨List.filterMap_append, List.filterMap_append, List.filterMap_append, List.filterMap_append, List.filterMap_append, List.filterMap_append⟩
theorem PrgS.push {w : World} {lo : Nat} {R0 R1 R2 R3 R4 R5 : Value} {l : List Stmt} {s : Stmt} (h : Prg w lo R0 R1 R2 R3 R4 R5 (inpsOf l ++ inpsOf [s]) (outsOf l ++ outsOf [s]) (rulesOf l ++ rulesOf [s]) (inAts l ++ inAts [s]) (outAts l ++ outAts [s]) (ruAts l ++ ruAts [s])) : PrgS w lo R0 R1 R2 R3 R4 R5 (l ++ [s]) := by
  obtain ⟨h1, h2, h3, h4, h5, h6⟩ := inps_app l [s]
  unfold PrgS
  rw [h1, h2, h3, h4, h5, h6]; exact h
/-- where the parser in the block b stands -/
def posIn (w : World) (b : Nat) : Nat := match w.cell? ⟨b, 7, none⟩ with
  | some (.int _ n) => n.toNat
  | _ => 0
theorem PSt.posIn {w : World} {b : Nat} {P : Ps} {tx : ByteArray} {ta : Option Addr} {tc i : Nat} {R0 R1 R2 R3 R4 R5 : Value} (h : PSt w b P tx ta tc i R0 R1 R2 R3 R4 R5) : posIn w b = i := by
  obtain ⟨-, -, -, -, c7, -⟩ := h.cells
  unfold Go.Proofs.YtclioihichcpiaaDoor.posIn
  rw [c7]; simp
def Pg1Post (lo b : Nat) (P : Ps) (tx : ByteArray) (ta : Option Addr) (tc : Nat) (w0 : World) (R : Except Int (List Stmt)) (e : Ending) (w' : World) : Prop :=
  match R with
  | .ok l => e = .returned (.tuple #[]) ∧ Frm lo b w0 w' ∧ ∃ k R0 R1 R2 R3 R4 R5, PSt w' b P tx ta tc k R0 R1 R2 R3 R4 R5 ∧ PrgS w' lo R0 R1 R2 R3 R4 R5 l
  | .error x => e = thrown x ∧ Frm lo b w0 w'
set_option maxHeartbeats 4000000 in
set_option maxRecDepth 100000 in
theorem pa_prog1 (w : World) (b : Nat) (P : Ps) (tx : ByteArray) (ta : Option Addr) (tc : Nat) (h : PSt w b P tx ta tc 0 (.slice none 0 0) (.slice none 0 0) (.slice none 0 0) (.slice none 0 0) (.slice none 0 0) (.slice none 0 0)) (hsz : ∀ j, (P.tok j).text.length ≤ 4194304) (hat : ∀ j, (P.tok j).at_ ≤ 4194304)
    (pp tt : Nat) (s : ByteArray) (hp : w.cell? ⟨pp, 0, none⟩ = some (.pointer (some ⟨b, 0, none⟩))) (ht : w.cell? ⟨tt, 0, none⟩ = some (.string s)) (hpb : pp ≠ b) (htb : tt ≠ b) (hs : s.size ≤ 4194304) :
    Calls Tryd.prog 32 #[.pointer (some ⟨pp, 0, none⟩), .pointer (some ⟨tt, 0, none⟩)] w (Pg1Post w.heap.size b P tx ta tc w (psProg P s.size)) := by
  have hbl := h.lt
  have hlen := h.len
  have htlo : 0 < P.ts.length → ∀ x, ta = some x → x.block < w.heap.size := fun h0 x hx => by
    subst hx
    obtain ⟨tb, e1, g1, _⟩ := pst_tok h 0 h0
    cases e1
    have hg := cell_lt g1
    exact hg
  have hpl : pp < w.heap.size := cell_lt hp
  have htl : tt < w.heap.size := cell_lt ht
  obtain ⟨R, hR⟩ : ∃ R, R = psProg P s.size := ⟨_, rfl⟩
  rw [← hR]
  have hkp : Hid (∀ w', Frm w.heap.size b w w' → w'.cell? ⟨pp, 0, none⟩ = some (.pointer (some ⟨b, 0, none⟩)) ∧ w'.cell? ⟨tt, 0, none⟩ = some (.string s)) := Lib.hid fun w' hf =>
    ⟨by rw [World.cell?_of_block (hf.block _ hpl hpb)]; exact hp, by rw [World.cell?_of_block (hf.block _ htl htb)]; exact ht⟩
  have hst0 : Hid (∃ i R0 R1 R2 R3 R4 R5 l, PSt w b P tx ta tc i R0 R1 R2 R3 R4 R5 ∧ PrgS w w.heap.size R0 R1 R2 R3 R4 R5 l ∧ Frm w.heap.size b w w ∧ l.length ≤ i ∧ psProgN P s.size (P.ts.length + 1 - i) i l = R) :=
    Lib.hid ⟨0, _, _, _, _, _, _, [], h, Prg.nil _ _ (Nat.le_refl _), Frm.refl _ _ _, Nat.le_refl _, by rw [hR]; rfl⟩
  clear hp ht h hR
  go_enter Tryd.func32, Tryd.ntmps32
  go_wp2_with fail
  go_loopw [2] (fun _ wr => Hid (∃ i R0 R1 R2 R3 R4 R5 l, PSt wr b P tx ta tc i R0 R1 R2 R3 R4 R5 ∧ PrgS wr w.heap.size R0 R1 R2 R3 R4 R5 l ∧ Frm w.heap.size b w wr ∧ l.length ≤ i ∧ psProgN P s.size (P.ts.length + 1 - i) i l = R)) (fun _ wr => P.ts.length - posIn wr b)
  case atStart => exact hst0
  case round =>
    obtain ⟨i, R0, R1, R2, R3, R4, R5, l, hst, hpg, hfr, hli, hrun⟩ := hrel.out
    have hps := Lib.hid hst.posIn
    obtain ⟨k1, k2⟩ := hkp.out _ hfr
    obtain ⟨c1, c2, c4, c6, c7, -⟩ := hst.cells
    have hpos := hst.pos
    by_cases hlt : i < P.ts.length
    · have hq1 : (i : Int) < (P.ts.length : Int) := by omega
      obtain ⟨f, hf⟩ : ∃ f, P.ts.length + 1 - i = f + 1 := ⟨P.ts.length - i, by omega⟩
      rw [hf] at hrun
      unfold psProgN at hrun
      rw [if_pos hlt] at hrun
      replace hpg := Lib.hid hpg
      replace hfr := Lib.hid hfr
      replace hrun := Lib.hid hrun
      clear hrel hst0
      replace hst := Lib.hid hst
      go_wp2_with fail
      go_quiet (fail)
      have hst2 := hst.out.drawn ⟨nq, rfl⟩
      have hpg2 : PrgS (wr.drewN nq) w.heap.size R0 R1 R2 R3 R4 R5 l := Prg.below hpg.out (Drawn.below ⟨nq, rfl⟩ _) (by omega)
      have hfr2 : Frm w.heap.size b w (wr.drewN nq) := hfr.out.trans (Frm.of_below (Drawn.below ⟨nq, rfl⟩ _) hfr.out.size)
      generalize wr.drewN nq = w2 at hst2 hpg2 hfr2 ⊢
      clear k1 k2 c1 c2 c4 c6 c7
      obtain ⟨k1, k2⟩ := hkp.out _ hfr2
      obtain ⟨g1, g2, g3, g4, g5, g6⟩ := inps_le l
      have hsm := pa_stmt w2 b P tx ta tc i R0 R1 R2 R3 R4 R5 hst2 w.heap.size (inpsOf l) (outsOf l) (rulesOf l) (inAts l) (outAts l) (ruAts l) hpg2 hbl hfr2.size (htlo (by omega)) (by omega) (by omega) (by omega) (by omega) (by omega) (by omega) hsz hat
      clear g1 g2 g3 g4 g5 g6 hst2 hpg2 hst hpg hfr
      replace hfr2 := Lib.hid hfr2
      cases hx : psStmt P i with
      | error x =>
        rw [hx] at hsm
        have hR : Hid (R = .error x) := Lib.hid (by rw [← hrun.out, hx])
        unfold StPost thrown at hsm
        dsimp only at hsm
        clear hx hrun
        go_wp2_with (go_at_call 33; refine hsm.mono ?_; rintro e w3 ⟨rfl, hf3⟩; have hf4 := Lib.hid (hfr2.out.trans hf3); clear hf3)
        exact ⟨rfl, by rw [hR.out]; exact ⟨rfl, hf4.out⟩⟩
      | ok r =>
        obtain ⟨s2, j⟩ := r
        rw [hx] at hsm
        have hon := psStmt_on hx
        have hR : Hid (psProgN P s.size (P.ts.length + 1 - j) j (l ++ [s2]) = R) := Lib.hid (by
          rw [← hrun.out, hx]
          exact psProgN_fuel _ _ _ _ (by omega) (by omega) hon.2)
        unfold StPost at hsm
        dsimp only at hsm
        clear hx hrun
        go_wp2_with (go_at_call 33; refine hsm.mono ?_; rintro e w3 ⟨rfl, hf3, Q0, Q1, Q2, Q3, Q4, Q5, hst3, hpg3⟩; have hf4 := Lib.hid (hfr2.out.trans hf3); replace hst3 := Lib.hid hst3; replace hpg3 := Lib.hid hpg3; clear hf3)
        refine ⟨Lib.hid ⟨j, Q0, Q1, Q2, Q3, Q4, Q5, l ++ [s2], hst3.out, PrgS.push hpg3.out, hf4.out, by rw [List.length_append]; simp; omega, hR.out⟩, ?_⟩
        rw [hst3.out.posIn, hps.out]; omega
    · have hie : i = P.ts.length := by omega
      obtain ⟨f, hf⟩ : ∃ f, P.ts.length + 1 - i = f + 1 := ⟨P.ts.length - i, by omega⟩
      rw [hf] at hrun
      unfold psProgN at hrun
      rw [if_neg hlt] at hrun
      subst hie
      replace hpg := Lib.hid hpg
      replace hfr := Lib.hid hfr
      clear hrel hst0 hf
      replace hst := Lib.hid hst
      go_wp2_with fail
      go_quiet (fail)
      have hst2 := Lib.hid (hst.out.drawn ⟨nq, rfl⟩)
      have hpg2 : Hid (PrgS (wr.drewN nq) w.heap.size R0 R1 R2 R3 R4 R5 l) := Lib.hid (Prg.below hpg.out (Drawn.below ⟨nq, rfl⟩ _) (by omega))
      have hfr2 : Hid (Frm w.heap.size b w (wr.drewN nq)) := Lib.hid (hfr.out.trans (Frm.of_below (Drawn.below ⟨nq, rfl⟩ _) hfr.out.size))
      generalize wr.drewN nq = w2 at hst2 hpg2 hfr2 ⊢
      clear k1 k2 c1 c2 c4 c6 c7 hst hpg hfr
      obtain ⟨k1, k2⟩ := hkp.out _ hfr2.out
      obtain ⟨c1, c2, c4, c6, c7, -⟩ := hst2.out.cells
      have hss : s.size ≤ 9223372036854775807 := by omega
      by_cases hc : P.far < s.size ∨ P.op.kind ≠ 0
      · rw [if_pos hc] at hrun
        have hstop := fun w h wa hw => pa_stop w b P tx ta tc P.ts.length R0 R1 R2 R3 R4 R5 h wa [1, 5, 6] 3 hw (by decide)
        generalize P.stop P.ts.length [1, 5, 6] = x at hstop hrun
        unfold thrown at hstop
        have hR : Hid (R = .error x) := Lib.hid hrun.symm
        clear hrun
        by_cases hfs : P.far < s.size
        · have hq2 : (P.far : Int) < (s.size : Int) := by omega
          clear hc
          go_wp2_with fail
          go_quiet (fail)
          have hst3 := Lib.hid (hst2.out.drawn ⟨nq, rfl⟩)
          have hfr3 : Hid (Frm w.heap.size b w (w2.drewN nq)) := Lib.hid (hfr2.out.trans (Frm.of_below (Drawn.below ⟨nq, rfl⟩ _) hfr2.out.size))
          generalize w2.drewN nq = w3 at hst3 hfr3 ⊢
          clear k1 k2 c1 c2 c4 c6 c7
          obtain ⟨k1, k2⟩ := hkp.out _ hfr3.out
          go_wp2_with (go_at_call 34; refine (hstop _ (hst3.out.below ((Below.refl _ _).al _)) _ (kinds_lit _ _ [1, 5, 6] _ rfl (by decide) rfl)).mono ?_; rintro e w4 ⟨rfl, hb4⟩; have hf4 := Lib.hid (hfr3.out.trans (Frm.of_mvd ((Mvd.of (b := b) ((Below.refl w3.heap.size w3).al _)).trans (Mvd.of hb4)) hfr3.out.size)); clear hb4)
          exact ⟨rfl, by rw [hR.out]; exact ⟨rfl, hf4.out⟩⟩
        · have hq2 : (s.size : Int) ≤ (P.far : Int) := by omega
          have hk : (P.op.kind != 0) = true := by rw [bne_iff_ne]; exact (hc.resolve_left hfs)
          clear hc
          go_wp2_with fail
          go_quiet (fail)
          have hst3 := Lib.hid (hst2.out.drawn ⟨nq, rfl⟩)
          have hfr3 : Hid (Frm w.heap.size b w (w2.drewN nq)) := Lib.hid (hfr2.out.trans (Frm.of_below (Drawn.below ⟨nq, rfl⟩ _) hfr2.out.size))
          generalize w2.drewN nq = w3 at hst3 hfr3 ⊢
          clear k1 k2 c1 c2 c4 c6 c7
          obtain ⟨k1, k2⟩ := hkp.out _ hfr3.out
          go_wp2_with (go_at_call 34; refine (hstop _ (hst3.out.below ((Below.refl _ _).al _)) _ (kinds_lit _ _ [1, 5, 6] _ rfl (by decide) rfl)).mono ?_; rintro e w4 ⟨rfl, hb4⟩; have hf4 := Lib.hid (hfr3.out.trans (Frm.of_mvd ((Mvd.of (b := b) ((Below.refl w3.heap.size w3).al _)).trans (Mvd.of hb4)) hfr3.out.size)); clear hb4)
          exact ⟨rfl, by rw [hR.out]; exact ⟨rfl, hf4.out⟩⟩
      · rw [if_neg hc] at hrun
        have hq2 : (s.size : Int) ≤ (P.far : Int) := by omega
        have hk : (P.op.kind != 0) = false := by
          rw [bne_eq_false_iff_eq]
          exact Classical.byContradiction fun h => hc (.inr h)
        have hR : Hid (R = .ok l) := Lib.hid hrun.symm
        have hfs : ¬ P.far < s.size := fun h => hc (.inl h)
        clear hrun hc
        go_wp2_with fail
        go_quiet (fail)
        have hst3 := Lib.hid (hst2.out.drawn ⟨nq, rfl⟩)
        have hpg3 : Hid (PrgS (w2.drewN nq) w.heap.size R0 R1 R2 R3 R4 R5 l) := Lib.hid (Prg.below hpg2.out (Drawn.below ⟨nq, rfl⟩ _) (by omega))
        have hfr3 : Hid (Frm w.heap.size b w (w2.drewN nq)) := Lib.hid (hfr2.out.trans (Frm.of_below (Drawn.below ⟨nq, rfl⟩ _) hfr2.out.size))
        generalize w2.drewN nq = w3 at hst3 hpg3 hfr3 ⊢
        go_wp2_with fail
        go_end0
        rw [hR.out]
        exact ⟨rfl, hfr3.out, _, _, _, _, _, _, _, hst3.out, hpg3.out⟩
end Go.Proofs.YtclioihichcpiaaDoor


/- Parse: a text's statements, a fault caught. -/
namespace Go.Proofs.YtclioihichcpiaaDoor
open Go.RowKit Lx
namespace Lx
theorem next_text {l : Bs} {a : Nat} {t : Tok} (hl : l ≠ []) (h : nextT l a = (t, true)) : t.text.length ≤ 1024 := by
  have hx := Next.of l a hl
  rw [h] at hx
  generalize hy : (t, true) = y at hx
  cases hx with
  | str c r h34 =>
    injection hy with h1 h2; subst h1
    have := quo_len r 0 (by decide)
    show (ite _ _ _ : Bs).length ≤ _
    split
    · omega
    · exact Nat.zero_le _
  | sign1 c r k h34 hs hk => injection hy with h1 h2; subst h1; exact Nat.zero_le _
  | sign2 c x r k h34 hs hk => injection hy with h1 h2; subst h1; exact Nat.zero_le _
  | half c r k d h34 hs hk hd => injection hy with h1 h2; cases h2
  | no c r h34 hs hk => injection hy with h1 h2; cases h2
  | word c r h34 hsg hk =>
    injection hy with h1 h2; subst h1
    have := (wordN_le (c :: r)).2
    show (ite _ _ _ : Bs).length ≤ _
    split
    · exact Nat.zero_le _
    · rw [List.length_take]; omega
theorem toks_ne {l : Bs} {a : Nat} {j : Bool} {t : Tok} (ht : t ∈ (tk l a j).toks) : l.drop (t.at_ - a) ≠ [] := by
  obtain ⟨h1, h2, h3, h4⟩ := toks_are l a j t ht
  intro he
  have := congrArg List.length he
  rw [List.length_drop] at this
  simp at this
  omega
end Lx
theorem psOf_tok (s : ByteArray) (j : Nat) : (psOf s).tok j = zeroTok ∨ (psOf s).tok j ∈ (tokens (bl s)).toks := by
  unfold Ps.tok
  rw [List.getD_eq_getElem?_getD]
  cases h : (psOf s).ts[j]? with
  | none => exact .inl rfl
  | some t => exact .inr (List.mem_of_getElem? h)
theorem psOf_size (s : ByteArray) (hs : s.size ≤ 4194304) (j : Nat) : ((psOf s).tok j).text.length ≤ 4194304 ∧ ((psOf s).tok j).at_ ≤ 4194304 := by
  rcases psOf_tok s j with h | h
  · rw [h]; exact ⟨Nat.zero_le _, Nat.zero_le _⟩
  · rw [tokens_tk] at h
    obtain ⟨h1, h2, h3, h4⟩ := toks_are _ _ _ _ h
    rw [bl_length] at h3
    have := next_text (toks_ne h) h4
    exact ⟨by omega, by omega⟩
theorem Prg.base {w : World} {lo lo' : Nat} {R0 R1 R2 R3 R4 R5 : Value} {A : List (ByteArray × Int × ByteArray)} {B : List (ByteArray × Int)} {C : List PRule} {a1 a2 a3 : List Nat} (h : Prg w lo R0 R1 R2 R3 R4 R5 A B C a1 a2 a3) (hb : lo' ≤ lo) : Prg w lo' R0 R1 R2 R3 R4 R5 A B C a1 a2 a3 := by
  obtain ⟨L, hL, h2, h3⟩ := h.r2
  exact ⟨own_baseP h.r0 hb, own_baseP h.r1 hb, ⟨L, hL, own_baseP h2 hb, h3.base hb⟩, own_baseP h.r3 hb, own_baseP h.r4 hb, own_baseP h.r5 hb, h.d34, h.d35, h.d45⟩
theorem Frm.low {lo lo' b : Nat} {w w' : World} (h : Frm lo b w w') (hl : lo' ≤ lo) : Frm lo' b w w' := ⟨h.os, h.tape, h.output, h.size, fun k hk hb => h.block k (by omega) hb⟩
def RunPost (b : Nat) (P : Ps) (tx : ByteArray) (ta : Option Addr) (tc : Nat) (w0 : World) (R : Except Int (List Stmt)) (e : Ending) (w' : World) : Prop :=
  match R with
  | .ok l => e = .returned (.tuple #[.int .i64 0, .int .i64 0]) ∧ Frm w0.heap.size b w0 w' ∧ ∃ k R0 R1 R2 R3 R4 R5, PSt w' b P tx ta tc k R0 R1 R2 R3 R4 R5 ∧ PrgS w' w0.heap.size R0 R1 R2 R3 R4 R5 l
  | .error x => e = .returned (.tuple #[.int .i64 x, .int .i64 11]) ∧ Frm w0.heap.size b w0 w'
theorem pa_run (w : World) (b : Nat) (P : Ps) (tx : ByteArray) (ta : Option Addr) (tc : Nat) (h : PSt w b P tx ta tc 0 (.slice none 0 0) (.slice none 0 0) (.slice none 0 0) (.slice none 0 0) (.slice none 0 0) (.slice none 0 0)) (hsz : ∀ j, (P.tok j).text.length ≤ 4194304) (hat : ∀ j, (P.tok j).at_ ≤ 4194304)
    (pp tt : Nat) (s : ByteArray) (hp : w.cell? ⟨pp, 0, none⟩ = some (.pointer (some ⟨b, 0, none⟩))) (ht : w.cell? ⟨tt, 0, none⟩ = some (.string s)) (hpb : pp ≠ b) (htb : tt ≠ b) (hs : s.size ≤ 4194304) :
    Calls Tryd.prog 31 #[.func (.func 32) #[] #[.pointer (some ⟨pp, 0, none⟩), .pointer (some ⟨tt, 0, none⟩)]] w (RunPost b P tx ta tc w (psProg P s.size)) := by
  have hbl := h.lt
  have hb2 : Below w.heap.size w ((w.alloc (.cells #[.int .i64 0] 3)).alloc (.cells #[.int .i64 0] 30)) := ((Below.refl _ _).al _).al _
  have hsz2 : ((w.alloc (.cells #[.int .i64 0] 3)).alloc (.cells #[.int .i64 0] 30)).heap.size = w.heap.size + 2 := by rw [World.size_alloc, World.size_alloc]
  have hn0 : ((w.alloc (.cells #[.int .i64 0] 3)).alloc (.cells #[.int .i64 0] 30)).heap[w.heap.size]? = some (.cells #[.int .i64 0] 3) := by
    rw [heap_alloc_old _ _ (by rw [World.size_alloc]; omega)]; exact heap_alloc_new _ _
  have hn1 : ((w.alloc (.cells #[.int .i64 0] 3)).alloc (.cells #[.int .i64 0] 30)).heap[w.heap.size + 1]? = some (.cells #[.int .i64 0] 30) := by
    have := heap_alloc_new (w.alloc (.cells #[.int .i64 0] 3)) (.cells #[.int .i64 0] 30)
    rw [World.size_alloc] at this; exact this
  have hp1 := pa_prog1 _ b P tx ta tc (h.below hb2) hsz hat pp tt s (cell_below hb2 rfl hp) (cell_below hb2 rfl ht) hpb htb hs
  have hset : ∀ (w1 : World) (x y : Value), w1.heap.size ≥ w.heap.size + 2 → Frm w.heap.size b w1 ((w1.setCell ⟨w.heap.size, 0, none⟩ x).setCell ⟨w.heap.size + 1, 0, none⟩ y) := fun w1 x y hw1 =>
    ⟨rfl, rfl, rfl, by simp, fun k hk _ => (heap_setCell_other _ _ _ _ (by show k ≠ w.heap.size + 1; omega)).trans (heap_setCell_other _ _ _ _ (by show k ≠ w.heap.size; omega))⟩
  have hfw : Frm w.heap.size b w ((w.alloc (.cells #[.int .i64 0] 3)).alloc (.cells #[.int .i64 0] 30)) := Frm.of_below hb2 (Nat.le_refl _)
  cases hR : psProg P s.size with
  | ok l =>
    rw [hR] at hp1
    refine (pa_caught_prog_ok _ w (fun w' => Frm (w.heap.size + 2) b ((w.alloc (.cells #[.int .i64 0] 3)).alloc (.cells #[.int .i64 0] 30)) w' ∧ ∃ k R0 R1 R2 R3 R4 R5, PSt w' b P tx ta tc k R0 R1 R2 R3 R4 R5 ∧ PrgS w' (w.heap.size + 2) R0 R1 R2 R3 R4 R5 l) fun w2 hw2 => ?_).mono ?_
    · subst hw2
      rw [hsz2] at hp1
      refine hp1.mono fun e w' ⟨h1, h2, h3⟩ => ⟨h1, ⟨h2, h3⟩, (h2.block _ (by omega) (by omega)).trans hn0, (h2.block _ (by omega) (by omega)).trans hn1⟩
    · rintro e w' ⟨rfl, w1, ⟨hf1, k, R0, R1, R2, R3, R4, R5, hst, hpg⟩, rfl⟩
      have hs1 : w1.heap.size ≥ w.heap.size + 2 := by have := hf1.size; omega
      have hf2 := hset w1 (.int .i64 0) (.int .i64 0) hs1
      refine ⟨rfl, (hfw.trans (hf1.low (by omega))).trans hf2, k, R0, R1, R2, R3, R4, R5, ?_, ?_⟩
      · have hne : ∀ k, k = w.heap.size ∨ k = w.heap.size + 1 → 0 < P.ts.length → ∀ x, ta = some x → x.block ≠ k := fun k hk h0 x hx e => by
          subst hx
          obtain ⟨tb, e1, g1, _⟩ := pst_tok h 0 h0
          cases e1
          have hg := cell_lt g1
          have hg' : tb < w.heap.size := hg
          have e' : tb = k := e
          omega
        refine ⟨((heap_setCell_other _ _ _ _ (by show b ≠ w.heap.size + 1; omega)).trans (heap_setCell_other _ _ _ _ (by show b ≠ w.heap.size; omega))).trans hst.blk, fun j t hj => ?_, hst.len, hst.pos⟩
        obtain ⟨tb, g1, g2, g3, g4, g5⟩ := hst.toks j t hj
        have hlen0 : 0 < P.ts.length := by have := (List.getElem?_eq_some_iff.1 hj).1; omega
        have n0 : tb ≠ w.heap.size := fun e => hne _ (.inl rfl) hlen0 _ g1 e
        have n1 : tb ≠ w.heap.size + 1 := fun e => hne _ (.inr rfl) hlen0 _ g1 e
        have hc : ∀ n v, w1.cell? ⟨tb, n, none⟩ = some v → ((w1.setCell ⟨w.heap.size, 0, none⟩ (.int .i64 0)).setCell ⟨w.heap.size + 1, 0, none⟩ (.int .i64 0)).cell? ⟨tb, n, none⟩ = some v := fun n v hv => by
          rw [World.cell?_of_block ((heap_setCell_other _ _ _ _ n1).trans (heap_setCell_other _ _ _ _ n0))]; exact hv
        exact ⟨tb, g1, hc _ _ g2, hc _ _ g3, hc _ _ g4, hc _ _ g5⟩
      · have hm0 : Mvd w.heap.size w1 (w1.setCell ⟨w.heap.size, 0, none⟩ (.int .i64 0)) := (Mvd.refl _ _).set _ _
        have hm1 : Mvd (w.heap.size + 1) (w1.setCell ⟨w.heap.size, 0, none⟩ (.int .i64 0)) ((w1.setCell ⟨w.heap.size, 0, none⟩ (.int .i64 0)).setCell ⟨w.heap.size + 1, 0, none⟩ (.int .i64 0)) := (Mvd.refl _ _).set _ _
        exact Prg.base ((Prg.mvd hpg hm0 (by omega)).mvd hm1 (by omega)) (by omega)
  | error x =>
    rw [hR] at hp1
    refine (pa_caught_prog_err _ x w (fun w' => Frm (w.heap.size + 2) b ((w.alloc (.cells #[.int .i64 0] 3)).alloc (.cells #[.int .i64 0] 30)) w') fun w2 hw2 => ?_).mono ?_
    · subst hw2
      rw [hsz2] at hp1
      refine hp1.mono fun e w' ⟨h1, h2⟩ => ⟨h1, h2, (h2.block _ (by omega) (by omega)).trans hn0, (h2.block _ (by omega) (by omega)).trans hn1⟩
    · rintro e w' ⟨rfl, w1, hf1, rfl⟩
      have hs1 : w1.heap.size ≥ w.heap.size + 2 := by have := hf1.size; omega
      have hfa : Frm w.heap.size b w1 (w1.alloc (.cells #[.int .i64 x] 114)) := Frm.of_below ((Below.refl _ _).al _) (by omega)
      exact ⟨rfl, ((hfw.trans (hf1.low (by omega))).trans hfa).trans (hset _ _ _ (by rw [World.size_alloc]; omega))⟩
end Go.Proofs.YtclioihichcpiaaDoor


/- Parse: Program. -/
namespace Go.Proofs.YtclioihichcpiaaDoor
open Go.RowKit Lx
theorem sizeProg : (Tryd.prog.info? 26).map (fun i => i.size) = some 3 := by kernel_rfl
theorem sizePlaces : (Tryd.prog.info? 38).map (fun i => i.size) = some 3 := by kernel_rfl
theorem Frm.below {lo B b : Nat} {w w' : World} (h : Frm lo b w w') (hB : B ≤ lo) (hb : B ≤ b) : Below B w w' :=
  ⟨h.os, h.tape, h.output, h.size, fun k hk => h.block k (by omega) (by omega)⟩
theorem Below.of_grown {B g : Nat} {w w' : World} (h : w.grownBy w' (some g)) (hB : B ≤ g) (hs : B ≤ w.heap.size) : Below B w w' :=
  ⟨h.os, h.tape, h.output, h.size, fun k hk => h.block k (by omega) (fun e => by injection e with e; omega)⟩
theorem step_store_row {P : Program} {ops : Array Oper} {o : Oper} {a : Act} {w : World} {K : Act → World → Prop} {Q : Exit → Act → World → Prop} {E : Prop} (hgd : o.guard = none) (ty : TypeId) (x y : Operand)
    (ho : o.op = .store ty x y) (g : Nat) (cells : Array Value) (hx : a.eval x = .pointer (some ⟨g, 0, none⟩)) (hy : a.eval y = .agg cells) (t : TypeId)
    (old : Array Value) (hg : w.heap[g]? = some (.cells old t)) (hi : (P.info? ty).map (fun x => x.size) = some cells.size) (hold : old.size = cells.size)
    (h1 : (cells.all fun x => x.oneCell') = true)
    (h : ∀ w', Hid (w'.heap[g]? = some (.cells cells t)) → w.grownBy w' (some g) → Hid (w'.heap.size = w.heap.size) → K (a.put o.dst undef) w') :
    if Region.wanted o (yielded ops a.tmps) = true then Oper.wp P o a w K Q else E := by
  have hw : Region.wanted o (yielded ops a.tmps) = true := by simp [Region.wanted, hgd]
  rw [if_pos hw]
  exact wp_store_row ty x y ho g cells hx hy t old hg hi hold h1 (h _ (setRow_heap _ _ _ _ _ _ hg)
    ⟨setRow_os _ _ _, setRow_tape _ _ _, setRow_output _ _ _, by rw [setRow_size]; exact Nat.le_refl _, fun k _ hk => setRow_other _ _ _ _ (fun e => hk (by rw [e]))⟩ (setRow_size _ _ _))
/-- four results, the first two in memory -/
theorem results_cellA4 {P : Program} {fn : Func} {p q u v : Tmp} {ty ty2 : TypeId} (h : fn.results = #[.cell p ty, .cell q ty2, .tmp u, .tmp v]) (tmps : Array Value) (w : World) (g g2 : Nat) (t t2 : TypeId) (cs cs2 : Array Value) (fr fr2 : Nat × Nat) (d d2 : TypeDesc)
    (hp : tmps.getD p undef = .pointer (some ⟨g, 0, none⟩)) (hq : tmps.getD q undef = .pointer (some ⟨g2, 0, none⟩)) (hg : w.heap[g]? = some (.cells cs t fr)) (hg2 : w.heap[g2]? = some (.cells cs2 t2 fr2)) (hu : P.underlying ty = some d) (hu2 : P.underlying ty2 = some d2)
    (hd : (match d, hu with | .struct _, _ => true | .array _ _, _ => true | _, _ => false) = true) (hd2 : (match d2, hu2 with | .struct _, _ => true | .array _ _, _ => true | _, _ => false) = true) (hi : (P.info? ty).map (fun x => x.size) = some cs.size) (hi2 : (P.info? ty2).map (fun x => x.size) = some cs2.size) (a b : Value) (ha : tmps.getD u undef = a) (hb : tmps.getD v undef = b) :
    (results fn tmps).run P w = .ok (.tuple #[.agg cs, .agg cs2, a, b]) w := by
  have hl := run_loadVar_row (P := P) w g t ty cs fr d hg hu hd hi
  have hl2 := run_loadVar_row (P := P) w g2 t2 ty2 cs2 fr2 d2 hg2 hu2 hd2 hi2
  subst ha hb
  have hp2 : tmps[p]?.getD undef = .pointer (some ⟨g, 0, none⟩) := by simpa using hp
  have hq2 : tmps[q]?.getD undef = .pointer (some ⟨g2, 0, none⟩) := by simpa using hq
  simp only [results, h]
  simp [hp2, hq2, asAddr, hl, hl2]
/-- a program that was read, in memory; or where it goes on no more -/
def PgPost (w0 : World) (R : Except Int (List Stmt)) (e : Ending) (w' : World) : Prop :=
  match R with
  | .ok l => ∃ R0 R1 R2 R3 R4 R5, e = .returned (.tuple #[.agg #[R0, R1, R2], .agg #[R3, R4, R5], .int .i64 0, .int .i64 0]) ∧ Below w0.heap.size w0 w' ∧ PrgS w' w0.heap.size R0 R1 R2 R3 R4 R5 l
  | .error x => e = .returned (.tuple #[.agg #[.slice none 0 0, .slice none 0 0, .slice none 0 0], .agg #[.slice none 0 0, .slice none 0 0, .slice none 0 0], .int .i64 x, .int .i64 11]) ∧ Below w0.heap.size w0 w'
def psText (s : ByteArray) : Except Int (List Stmt) := psProg (psOf s) s.size
set_option maxHeartbeats 1000000 in
set_option maxRecDepth 100000 in
theorem pa_Program (s : ByteArray) (w : World) (hs : s.size ≤ 4194304) :
    Calls Tryd.prog 12 #[.string s] w (PgPost w (psText s)) := by
  have hbg := fun w => pa_begin s w hs
  have hmf : ∀ (fn : Fn) (first cap : Array Value) (w : World), (Instr.makeFunc fn first cap).run Tryd.prog w = .ok (.func fn first cap) w := fun _ _ _ _ => rfl
  obtain ⟨R, hR⟩ : ∃ R, R = psText s := ⟨_, rfl⟩
  rw [← hR]
  replace hR := Lib.hid hR
  go_enter Tryd.func12, Tryd.ntmps12
  go_wp2_with (first
    | (go_at_call 30
       refine (hbg _).mono ?_
       rintro e w4 ⟨b, ta, tc, rfl, hst0, hb0, hbl0⟩))
  have hx : ∃ W3 : World, W3.heap.size ≤ b ∧ Below W3.heap.size W3 w4 ∧ W3.heap.size = w.heap.size + 3 ∧ Below w.heap.size w W3 ∧ W3.heap[w.heap.size]? = some (.cells #[.string s] 9) ∧ W3.heap[w.heap.size + 1]? = some (.cells #[.slice none 0 0, .slice none 0 0, .slice none 0 0] 26) ∧ W3.heap[w.heap.size + 1 + 1]? = some (.cells #[.slice none 0 0, .slice none 0 0, .slice none 0 0] 38) := by
    refine ⟨_, hb0, hbl0, by simp only [World.size_alloc], (((Below.refl _ _).al _).al _).al _, ?_, ?_, ?_⟩
    · rw [heap_alloc_old _ _ (by simp only [World.size_alloc]; omega), heap_alloc_old _ _ (by simp only [World.size_alloc]; omega)]; exact heap_alloc_new _ _
    · rw [heap_alloc_old _ _ (by simp only [World.size_alloc]; omega)]
      have := heap_alloc_new (w.alloc (.cells #[.string s] 9)) (.cells #[.slice none 0 0, .slice none 0 0, .slice none 0 0] 26)
      rw [World.size_alloc] at this; exact this
    · have := heap_alloc_new ((w.alloc (.cells #[.string s] 9)).alloc (.cells #[.slice none 0 0, .slice none 0 0, .slice none 0 0] 26)) (.cells #[.slice none 0 0, .slice none 0 0, .slice none 0 0] 38)
      rw [World.size_alloc, World.size_alloc] at this; exact this
  clear hb0 hbl0
  obtain ⟨W3, hb3, hbl3, hz3, hbw3, hs3, hp3, hq3⟩ := hx
  have hb4 := hbl3.size
  have hst5 := hst0.below ((Below.refl w4.heap.size w4).al (.cells #[.pointer (some ⟨b, 0, none⟩)] 85))
  have hs5 : (w4.alloc (.cells #[.pointer (some ⟨b, 0, none⟩)] 85)).heap[w.heap.size]? = some (.cells #[.string s] 9) := by
    rw [heap_alloc_old _ _ (by omega), hbl3.block _ (by omega)]; exact hs3
  have hrun := pa_run (w4.alloc (.cells #[.pointer (some ⟨b, 0, none⟩)] 85)) b (psOf s) s ta tc hst5 (fun j => (psOf_size s hs j).1) (fun j => (psOf_size s hs j).2) w4.heap.size w.heap.size s ((cell_of_row _ _ _ _ _ _ (heap_alloc_new w4 _)).trans rfl) ((cell_of_row _ _ _ _ _ _ hs5).trans rfl) (by have := hst0.lt; omega) (by omega) hs
  have hR' : psProg (psOf s) s.size = R := hR.out.symm
  rw [hR'] at hrun
  refine hrun.mono ?_
  clear hrun hR' hR
  cases R with
  | error x =>
    rintro e w6 ⟨rfl, hf6⟩
    have hp6 : Hid (w6.heap[w.heap.size + 1]? = some (.cells #[.slice none 0 0, .slice none 0 0, .slice none 0 0] 26)) := Lib.hid (by
      rw [hf6.block _ (by rw [World.size_alloc]; omega) (by omega), heap_alloc_old _ _ (by omega), hbl3.block _ (by omega)]; exact hp3)
    have hq6 : Hid (w6.heap[w.heap.size + 1 + 1]? = some (.cells #[.slice none 0 0, .slice none 0 0, .slice none 0 0] 38)) := Lib.hid (by
      rw [hf6.block _ (by rw [World.size_alloc]; omega) (by omega), heap_alloc_old _ _ (by omega), hbl3.block _ (by omega)]; exact hq3)
    have hfb : Hid (Below w.heap.size w w6) := Lib.hid (((hbw3.trans (hbl3.mono (by omega))).trans (((Below.refl w4.heap.size w4).al _).mono (by omega))).trans (hf6.below (by rw [World.size_alloc]; omega) (by omega)))
    clear hf6 hp3 hq3 hs3 hs5 hst5 hst0 hbl3 hbw3 hz3 hb4 hb3
    go_wp2_with (refine wpList_store_rowA rfl 26 (.tmp 2) (.tmp 18) rfl (w.heap.size + 1) #[.slice none 0 0, .slice none 0 0, .slice none 0 0] rfl rfl 26 #[.slice none 0 0, .slice none 0 0, .slice none 0 0] hp6.out sizeProg rfl (by simp [Value.oneCell']) ?_)
    intro w7 hp7 hgr7 hsz7
    have hq7 : Hid (w7.heap[w.heap.size + 1 + 1]? = some (.cells #[.slice none 0 0, .slice none 0 0, .slice none 0 0] 38)) := Lib.hid ((hgr7.block _ (Array.getElem?_eq_some_iff.1 hq6.out).1 (fun e => by injection e with e; omega)).trans hq6.out)
    have hfb7 := Lib.hid (hfb.out.trans (Below.of_grown hgr7 (by omega) hfb.out.size))
    clear hgr7 hsz7
    go_wp2_with (refine wpList_store_rowA rfl 38 (.tmp 3) (.tmp 19) rfl (w.heap.size + 1 + 1) #[.slice none 0 0, .slice none 0 0, .slice none 0 0] rfl rfl 38 #[.slice none 0 0, .slice none 0 0, .slice none 0 0] hq7.out sizePlaces rfl (by simp [Value.oneCell']) ?_)
    intro w8 hq8 hgr8 hsz8
    have hp8 : Hid (w8.heap[w.heap.size + 1]? = some (.cells #[.slice none 0 0, .slice none 0 0, .slice none 0 0] 26)) := Lib.hid ((hgr8.block _ (Array.getElem?_eq_some_iff.1 hp7.out).1 (fun e => by injection e with e; omega)).trans hp7.out)
    have hfb8 := Lib.hid (hfb7.out.trans (Below.of_grown hgr8 (by omega) hfb7.out.size))
    clear hgr8 hsz8
    go_wp2_with fail
    refine bodyPost_ret (v := .tuple #[.agg #[.slice none 0 0, .slice none 0 0, .slice none 0 0], .agg #[.slice none 0 0, .slice none 0 0, .slice none 0 0], .int .i64 x, .int .i64 11]) (results_cellA4 rfl _ _ (w.heap.size + 1) (w.heap.size + 1 + 1) 26 38 _ _ (0, 0) (0, 0) _ _ rfl rfl hp8.out hq8.out Tryd.underlying26 Tryd.underlying38 rfl rfl sizeProg sizePlaces _ _ rfl rfl) rfl ?_
    exact ⟨rfl, hfb8.out⟩
  | ok l =>
    rintro e w6 ⟨rfl, hf6, k, R0, R1, R2, R3, R4, R5, hst6, hpg6⟩
    have hp60 : w6.heap[w.heap.size + 1]? = some (.cells #[.slice none 0 0, .slice none 0 0, .slice none 0 0] 26) := by
      rw [hf6.block _ (by rw [World.size_alloc]; omega) (by omega), heap_alloc_old _ _ (by omega), hbl3.block _ (by omega)]; exact hp3
    have hq60 : w6.heap[w.heap.size + 1 + 1]? = some (.cells #[.slice none 0 0, .slice none 0 0, .slice none 0 0] 38) := by
      rw [hf6.block _ (by rw [World.size_alloc]; omega) (by omega), heap_alloc_old _ _ (by omega), hbl3.block _ (by omega)]; exact hq3
    have ht60 : w6.heap[w4.heap.size]? = some (.cells #[.pointer (some ⟨b, 0, none⟩)] 85) := by
      rw [hf6.block _ (by rw [World.size_alloc]; omega) (by have := hst0.lt; omega)]; exact heap_alloc_new _ _
    have hfb0 : Below w.heap.size w w6 := ((hbw3.trans (hbl3.mono (by omega))).trans (((Below.refl w4.heap.size w4).al _).mono (by omega))).trans (hf6.below (by rw [World.size_alloc]; omega) (by omega))
    obtain ⟨v0, c0, e0⟩ := Prg.form0 hpg6
    obtain ⟨v1, c1, e1⟩ := Prg.form1 hpg6
    obtain ⟨v2, c2, e2⟩ := Prg.form2 hpg6
    obtain ⟨v3, c3, e3⟩ := Prg.form3 hpg6
    obtain ⟨v4, c4, e4⟩ := Prg.form4 hpg6
    obtain ⟨v5, c5, e5⟩ := Prg.form5 hpg6
    generalize (inpsOf l).length = n0 at e0
    generalize (outsOf l).length = n1 at e1
    generalize (rulesOf l).length = n2 at e2
    generalize (inAts l).length = n3 at e3
    generalize (outAts l).length = n4 at e4
    generalize (ruAts l).length = n5 at e5
    subst e0 e1 e2 e3 e4 e5
    have hbk := hst6.blk
    have hS : (fun w' => w'.cell? ⟨w4.heap.size, 0, none⟩ = some (.pointer (some ⟨b, 0, none⟩)) ∧ w'.cell? ⟨b, 8, none⟩ = some (.slice v0 n0 c0) ∧ w'.cell? ⟨b, 9, none⟩ = some (.slice v1 n1 c1) ∧ w'.cell? ⟨b, 10, none⟩ = some (.slice v2 n2 c2) ∧ w'.cell? ⟨b, 11, none⟩ = some (.slice v3 n3 c3) ∧ w'.cell? ⟨b, 12, none⟩ = some (.slice v4 n4 c4) ∧ w'.cell? ⟨b, 13, none⟩ = some (.slice v5 n5 c5)) w6 := ⟨(cell_of_row _ _ _ _ _ _ ht60).trans rfl, (cell_of_row _ _ _ _ _ _ hbk).trans rfl, (cell_of_row _ _ _ _ _ _ hbk).trans rfl, (cell_of_row _ _ _ _ _ _ hbk).trans rfl, (cell_of_row _ _ _ _ _ _ hbk).trans rfl, (cell_of_row _ _ _ _ _ _ hbk).trans rfl, (cell_of_row _ _ _ _ _ _ hbk).trans rfl⟩
    have hw4l : Hid (w.heap.size + 3 ≤ w4.heap.size) := Lib.hid (by omega)
    have hbl : Hid (w.heap.size + 3 ≤ b) := Lib.hid (by omega)
    have hpgb : Prg w6 (w.heap.size + 3) _ _ _ _ _ _ _ _ _ _ _ _ := Prg.base hpg6 (by rw [World.size_alloc]; omega)
    clear hf6 hp3 hq3 hs3 hs5 hst5 hst0 hbl3 hbw3 hz3 hb4 hb3 hst6 hbk hpg6
    try dsimp only at hS
    obtain ⟨s1, s2, s3, s4, s5, s6, s7⟩ := hS
    go_wp2_with fail
    have hw6 : ∃ w6d, w6d = w6.drew := ⟨_, rfl⟩
    have hd6 : Below w6.heap.size w6 w6.drew := (Below.refl _ _).drew
    have hp6 : Hid (w6.drew.heap[w.heap.size + 1]? = some (.cells #[.slice none 0 0, .slice none 0 0, .slice none 0 0] 26)) := Lib.hid hp60
    have hq6 : Hid (w6.drew.heap[w.heap.size + 1 + 1]? = some (.cells #[.slice none 0 0, .slice none 0 0, .slice none 0 0] 38)) := Lib.hid hq60
    have hfb : Hid (Below w.heap.size w w6.drew) := Lib.hid hfb0.drew
    have hpg6 := Lib.hid (hpgb.below hd6 (by omega))
    have hkeep : Hid (∀ w', w6.drew.grownBy w' (some (w.heap.size + 1)) → (fun w' => w'.cell? ⟨w4.heap.size, 0, none⟩ = some (.pointer (some ⟨b, 0, none⟩)) ∧ w'.cell? ⟨b, 8, none⟩ = some (.slice v0 n0 c0) ∧ w'.cell? ⟨b, 9, none⟩ = some (.slice v1 n1 c1) ∧ w'.cell? ⟨b, 10, none⟩ = some (.slice v2 n2 c2) ∧ w'.cell? ⟨b, 11, none⟩ = some (.slice v3 n3 c3) ∧ w'.cell? ⟨b, 12, none⟩ = some (.slice v4 n4 c4) ∧ w'.cell? ⟨b, 13, none⟩ = some (.slice v5 n5 c5)) w') := Lib.hid fun w' hg => by
      have h1 : ∀ k n v, k ≠ w.heap.size + 1 → w6.cell? ⟨k, n, none⟩ = some v → w'.cell? ⟨k, n, none⟩ = some v := fun k n v hk hc => by
        rw [World.cell?_of_block (hg.block k (cell_lt hc) (fun e => by injection e with e; exact hk e))]; exact hc
      have hw4l' := hw4l.out
      have hbl' := hbl.out
      exact ⟨h1 _ _ _ (by omega) s1, h1 _ _ _ (by omega) s2, h1 _ _ _ (by omega) s3, h1 _ _ _ (by omega) s4, h1 _ _ _ (by omega) s5, h1 _ _ _ (by omega) s6, h1 _ _ _ (by omega) s7⟩
    clear hp60 hq60 hfb0 hpgb hd6 ht60 hw6
    refine wp_region_T (fun w' => w'.cell? ⟨w4.heap.size, 0, none⟩ = some (.pointer (some ⟨b, 0, none⟩)) ∧ w'.cell? ⟨b, 8, none⟩ = some (.slice v0 n0 c0) ∧ w'.cell? ⟨b, 9, none⟩ = some (.slice v1 n1 c1) ∧ w'.cell? ⟨b, 10, none⟩ = some (.slice v2 n2 c2) ∧ w'.cell? ⟨b, 11, none⟩ = some (.slice v3 n3 c3) ∧ w'.cell? ⟨b, 12, none⟩ = some (.slice v4 n4 c4) ∧ w'.cell? ⟨b, 13, none⟩ = some (.slice v5 n5 c5)) [0, 1, 2, 3, 4, 5, 6, 7] (by kernel_rfl) ⟨s1, s2, s3, s4, s5, s6, s7⟩ (fun hHeld => ?_)
    refine wpAnyT_take (i := 0) (oi := _) (v := ?_) rfl rfl (by kernel_rfl) (by kernel_rfl) (by kernel_rfl) (fun _ _ _ h => h) (Or.inl ⟨by rfl, ?_⟩) (by assumption) ?_
    rotate_left
    · intro w hSw
      try dsimp only at hSw
      go_simp
      try with_reducible rfl
    refine wpAnyT_take (i := 1) (oi := _) (v := ?_) rfl rfl (by kernel_rfl) (by kernel_rfl) (by kernel_rfl) (fun _ _ _ h => h) (Or.inl ⟨by rfl, ?_⟩) (by assumption) ?_
    rotate_left
    · intro w hSw
      try dsimp only at hSw
      go_simp
      try with_reducible rfl
    refine wpAnyT_take (i := 2) (oi := _) (v := ?_) rfl rfl (by kernel_rfl) (by kernel_rfl) (by kernel_rfl) (fun _ _ _ h => h) (Or.inl ⟨by rfl, ?_⟩) (by assumption) ?_
    rotate_left
    · intro w hSw
      try dsimp only at hSw
      go_simp
      try with_reducible rfl
    refine wpAnyT_take (i := 3) (oi := _) (v := ?_) rfl rfl (by kernel_rfl) (by kernel_rfl) (by kernel_rfl) (fun _ _ _ h => h) (Or.inl ⟨by rfl, ?_⟩) (by assumption) ?_
    rotate_left
    · intro w hSw
      try dsimp only at hSw
      go_simp
      try with_reducible rfl
    refine wpAnyT_take (i := 4) (oi := _) (v := ?_) rfl rfl (by kernel_rfl) (by kernel_rfl) (by kernel_rfl) (fun _ _ _ h => h) (Or.inl ⟨by rfl, ?_⟩) (by assumption) ?_
    rotate_left
    · intro w hSw
      try dsimp only at hSw
      go_simp
      try with_reducible rfl
    refine wpAnyT_take (i := 5) (oi := _) (v := ?_) rfl rfl (by kernel_rfl) (by kernel_rfl) (by kernel_rfl) (fun _ _ _ h => h) (Or.inl ⟨by rfl, ?_⟩) (by assumption) ?_
    rotate_left
    · intro w hSw
      try dsimp only at hSw
      go_simp
      try with_reducible rfl
    refine wpAnyT_take (i := 6) (oi := _) (v := ?_) rfl rfl (by kernel_rfl) (by kernel_rfl) (by kernel_rfl) (fun _ _ _ h => h) (Or.inl ⟨by rfl, ?_⟩) (by assumption) ?_
    rotate_left
    · intro w hSw
      try dsimp only at hSw
      go_simp
      try with_reducible rfl
    refine wpAnyT_take (i := 7) (oi := _) (v := ?_) rfl rfl (by kernel_rfl) (by kernel_rfl) (by kernel_rfl) (fun _ _ _ h => h) (Or.inl ⟨by rfl, ?_⟩) (by assumption) ?_
    rotate_left
    · intro w hSw
      try dsimp only at hSw
      go_simp
      try with_reducible rfl
    refine wpAnyT_one (i := 8) (o := _) (by kernel_rfl) rfl (fun K hK => ?_)
    with_reducible refine step_store_row ?gA8 26 (.tmp 2) (.tmp 25) ?oA8 (w.heap.size + 1) #[.slice v0 n0 c0, .slice v1 n1 c1, .slice v2 n2 c2] ?xA8 ?yA8 26 #[.slice none 0 0, .slice none 0 0, .slice none 0 0] hp6.out ?sA8 ?dA8 ?nA8 ?rA8
    case gA8 => rfl
    case oA8 => rfl
    case xA8 => kernel_rfl
    case yA8 => kernel_rfl
    case sA8 => exact sizeProg
    case dA8 => kernel_rfl
    case nA8 => simp [Value.oneCell']
    intro w7 hp7 hgr7 hsz7
    have hq7 : Hid (w7.heap[w.heap.size + 1 + 1]? = some (.cells #[.slice none 0 0, .slice none 0 0, .slice none 0 0] 38)) := Lib.hid ((hgr7.block _ (Array.getElem?_eq_some_iff.1 hq6.out).1 (fun e => by injection e with e; omega)).trans hq6.out)
    have hfb7 := Lib.hid (hfb.out.trans (Below.of_grown hgr7 (by omega) hfb.out.size))
    have hpg7 := Lib.hid (hpg6.out.mvd hgr7 (by omega))
    have hk7 := hkeep.out _ hgr7
    clear hgr7 hsz7
    refine hK.out _ _ hk7 ?_
    clear hK K
    refine wpAnyT_free (i := 9) (o := _) (by kernel_rfl) rfl (by kernel_rfl) (fun K hK => ?_)
    with_reducible refine step_store_row ?gA9 38 (.tmp 3) (.tmp 29) ?oA9 (w.heap.size + 1 + 1) #[.slice v3 n3 c3, .slice v4 n4 c4, .slice v5 n5 c5] ?xA9 ?yA9 38 #[.slice none 0 0, .slice none 0 0, .slice none 0 0] hq7.out ?sA9 ?dA9 ?nA9 ?rA9
    case gA9 => rfl
    case oA9 => rfl
    case xA9 => kernel_rfl
    case yA9 => kernel_rfl
    case sA9 => exact sizePlaces
    case dA9 => kernel_rfl
    case nA9 => simp [Value.oneCell']
    intro w8 hq8 hgr8 hsz8
    have hp8 : Hid (w8.heap[w.heap.size + 1]? = some (.cells #[.slice v0 n0 c0, .slice v1 n1 c1, .slice v2 n2 c2] 26)) := Lib.hid ((hgr8.block _ (Array.getElem?_eq_some_iff.1 hp7.out).1 (fun e => by injection e with e; omega)).trans hp7.out)
    have hfb8 := Lib.hid (hfb7.out.trans (Below.of_grown hgr8 (by omega) hfb7.out.size))
    have hpg8 := Lib.hid (hpg7.out.mvd hgr8 (by omega))
    clear hgr8 hsz8
    refine hK.out _ _ ?_
    clear hK K
    refine wpAnyT_free (i := 10) (o := _) (by kernel_rfl) rfl (by kernel_rfl) (fun K hK => ?_)
    go_simp
    refine hK.out _ _ ?_
    clear hK K
    refine wpAnyT_free (i := 11) (o := _) (by kernel_rfl) rfl (by kernel_rfl) (fun K hK => ?_)
    go_simp
    refine hK.out _ _ ?_
    clear hK K
    refine wpAnyT_done (by kernel_rfl) ?_ _
    clear hHeld s1 s2 s3 s4 s5 s6 s7 hkeep hpg6 hpg7 hq6 hp6 hp7 hq7 hfb hfb7
    refine ‹∀ (a : Act) (w : World), Code.wp _ _ _ a w → _› _ _ ?_
    go_wp2_with fail
    refine bodyPost_ret (v := .tuple #[.agg #[.slice v0 n0 c0, .slice v1 n1 c1, .slice v2 n2 c2], .agg #[.slice v3 n3 c3, .slice v4 n4 c4, .slice v5 n5 c5], .int .i64 0, .int .i64 0]) (results_cellA4 rfl _ _ (w.heap.size + 1) (w.heap.size + 1 + 1) 26 38 _ _ (0, 0) (0, 0) _ _ rfl rfl hp8.out hq8.out Tryd.underlying26 Tryd.underlying38 rfl rfl sizeProg sizePlaces _ _ rfl rfl) rfl ?_
    exact ⟨_, _, _, _, _, _, rfl, hfb8.out, Prg.base hpg8.out (by omega)⟩
end Go.Proofs.YtclioihichcpiaaDoor
