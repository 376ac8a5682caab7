/- Index: the step that puts a table aside and goes on with its clone. -/
import Derived.Test.YtjeeljolhcoeoaaMxP
namespace Go.Proofs.Ytjeeljolhcoeoaa
open Go.RowKit Go.Shelf
theorem infoTP : (Try.prog.info? 43).map (fun i => (i.zero, i.size, i.bytes)) = some (some (.pointer none), 1, 8) := by kernel_rfl
theorem infoRP : (Try.prog.info? 63).map (fun i => (i.zero, i.size, i.bytes)) = some (some (.pointer none), 1, 8) := by kernel_rfl
theorem allL_core {es ds : List Ent} (h : ds.map coreE = es.map coreE) : allL ds = allL es := by
  have e : ∀ l : List Ent, allL l = (l.map coreE).map fun c => (c.1, c.2.1) := fun l => by simp [allL, coreE]
  rw [e, e, h]
/-- what the step leaves that puts a table aside -/
structure CPost (w w' : World) (way : Int) (n : Nat) (x : JTab) (B Tc : Nat) (old ref : Value) : Prop where
  cl : ∃ Pc ds plc, w.heap.size ≤ Tc ∧ w.heap.size ≤ Pc ∧ (∀ d, d ∈ ds → w.heap.size ≤ d.b) ∧ TS w' Tc Pc x.hb x.sb way x.sz ds plc ∧ ds.map coreE = x.es.map coreE
  kept : KeptR (WBB B old ref) w w'
/-- what is put aside, if there is room -/
def CEnd (w w6 : World) (way : Int) (x : JTab) (B R0 R1 : Nat) (os rs : List Nat) (T0' T1' : Nat) (old' ref' : Value) : Prop :=
  (¬ os.length < 20 ∧ WB w6 B T0' T1' R0 R1 old' ref' os rs) ∨ (os.length < 20 ∧ ∃ Rc vc, w.heap.size ≤ Rc ∧ (∀ b, vc.ownBlock = some b → w.heap.size ≤ b) ∧ RF w6 0 Rc way x.sz vc (allL x.es) ∧ WB w6 B T0' T1' R0 R1 old' ref' (os ++ [x.T]) (rs ++ [Rc]))
def SCl (w w6 : World) (way : Int) (n : Nat) (x : JTab) (B T0 T1 R0 R1 : Nat) (old ref : Value) (os rs : List Nat) (k : Int) : Prop :=
  ∃ Tc T0' T1' old' ref', (k = 0 ∧ T0' = Tc ∧ T1' = T1 ∨ k = 1 ∧ T0' = T0 ∧ T1' = Tc) ∧ CPost w w6 way n x B Tc old ref ∧ (∀ b, old'.ownBlock = some b → old.ownBlock = some b ∨ w.heap.size ≤ b) ∧ (∀ b, ref'.ownBlock = some b → ref.ownBlock = some b ∨ w.heap.size ≤ b) ∧
    CEnd w w6 way x B R0 R1 os rs T0' T1' old' ref'
theorem sc_fin {w wv : World} {way : Int} {n : Nat} {x : JTab} {B T0 T1 R0 R1 : Nat} {old ref old' ref' : Value} {os rs os' rs' : List Nat} {k : Int} (hKv : KeptR (WBB B old ref) w wv) (hWv : WB wv B T0 T1 R0 R1 old' ref' os' rs')
    (ho : ∀ b, old'.ownBlock = some b → old.ownBlock = some b ∨ w.heap.size ≤ b) (hr : ∀ b, ref'.ownBlock = some b → ref.ownBlock = some b ∨ w.heap.size ≤ b)
    (hend : ∀ w5 i u T0' T1', Below wv.heap.size wv w5 → WB (w5.setCell ⟨B, i, none⟩ u) B T0' T1' R0 R1 old' ref' os' rs' → CEnd w (w5.setCell ⟨B, i, none⟩ u) way x B R0 R1 os rs T0' T1' old' ref')
    {w5 : World} {Tc Pc : Nat} {ds : List Ent} {plc : Nat → Option Nat} (g1 : wv.drew.heap.size ≤ Tc) (g2 : wv.drew.heap.size ≤ Pc) (g3 : ∀ d, d ∈ ds → wv.drew.heap.size ≤ d.b) (g4 : TS w5 Tc Pc x.hb x.sb way x.sz ds plc) (g5 : ds.map coreE = x.es.map coreE) (g6 : Below wv.drew.heap.size wv.drew w5) :
    (k = 0 → SCl w (w5.setCell ⟨B, 0, none⟩ (ptrV Tc)) way n x B T0 T1 R0 R1 old ref os rs k) ∧ (k = 1 → SCl w (w5.setCell ⟨B, 1, none⟩ (ptrV Tc)) way n x B T0 T1 R0 R1 old ref os rs k) := by
  have hb : Below wv.heap.size wv w5 := (below_drewN (Below.refl _ wv) 1).trans g6
  have hW5 := hWv.below hb
  have hs : w.heap.size ≤ wv.drew.heap.size := hKv.size
  have hk5 : ∀ i u, KeptR (WBB B old ref) w (w5.setCell ⟨B, i, none⟩ u) := fun i u => kr_setB (kr_trans hKv (below_kept hb)) i u
  have hk6 : ∀ i u, KeptR (WBB B old' ref') w5 (w5.setCell ⟨B, i, none⟩ u) := fun i u => kr_setB (KeptR.refl _ _) i u
  have hcp : ∀ i u, CPost w (w5.setCell ⟨B, i, none⟩ u) way n x B Tc old ref := fun i u => ⟨⟨Pc, ds, plc, Nat.le_trans hs g1, Nat.le_trans hs g2, fun d hd => Nat.le_trans hs (g3 d hd), g4.keptW hW5 (hk6 i u), g5⟩, hk5 i u⟩
  refine ⟨fun h0 => ⟨Tc, Tc, T1, old', ref', .inl ⟨h0, rfl, rfl⟩, hcp _ _, ho, hr, hend w5 _ _ _ _ hb (hW5.set0 Tc)⟩, fun h1 => ⟨Tc, T0, Tc, old', ref', .inr ⟨h1, rfl, rfl⟩, hcp _ _, ho, hr, hend w5 _ _ _ _ hb (hW5.set1 Tc)⟩⟩
set_option maxHeartbeats 8000000 in
set_option maxRecDepth 100000 in
theorem st_clone {w : World} {way : Int} {n : Nat} {x : JTab} (h : JT w way n x) (hn : n ≤ 2000000) {B T0 T1 R0 R1 : Nat} {old ref : Value} {os rs : List Nat} (hW : WB w B T0 T1 R0 R1 old ref os rs) (hol : os.length ≤ 20) (hrl : rs.length ≤ 20)
    (On key value leave : Int) (hx : On % 2 = 0 ∧ x.T = T0 ∧ x.Rt = R0 ∨ On % 2 = 1 ∧ x.T = T1 ∧ x.Rt = R1) :
    Calls Try.prog 30 #[.pointer (some ⟨B, 0, none⟩), .agg #[.int .i64 8, .int .i64 On, .int .i64 key, .int .i64 value, .int .i64 leave]] w fun e w' => e = .returned (.bool true) ∧
      SCl w w' way n x B T0 T1 R0 R1 old ref os rs (On % 2) := by
  obtain ⟨it, hit, tz0, tz1, tz2⟩ := info_parts infoTP
  obtain ⟨ir, hir, rz0, rz1, rz2⟩ := info_parts infoRP
  obtain ⟨a1, c1, rfl, -⟩ := own_sliceI hW.o1
  obtain ⟨a2, c2, rfl, -⟩ := own_sliceI hW.o2
  obtain ⟨b3, hb3⟩ : ∃ b, w.heap.size = b := ⟨_, rfl⟩
  have hw1 := (Below.refl w.heap.size w).al (.cells #[.int .i64 8, .int .i64 On, .int .i64 key, .int .i64 value, .int .i64 leave] 72)
  obtain ⟨k, hk⟩ : ∃ k, On % 2 = k := ⟨_, rfl⟩
  rw [hk] at hx ⊢
  replace h := Lib.hid h
  have cs0 : (w.alloc (.cells #[.int .i64 8, .int .i64 On, .int .i64 key, .int .i64 value, .int .i64 leave] 72)).cell? ⟨b3, 0, none⟩ = some (.int .i64 8) := by
    rw [← hb3]; exact cell_of_row _ _ _ _ _ _ (heap_alloc_new w _)
  replace hb3 := Lib.hid hb3
  go_enter Try.func30, Try.ntmps30
  go_upto_region 2 with (go_at_call 53; refine (ix_round2 _ _).mono ?_; rintro e w' ⟨rfl, rfl⟩; rw [hk]; replace hk := Lib.hid trivial)
  generalize w.alloc (.cells #[.int .i64 8, .int .i64 On, .int .i64 key, .int .i64 value, .int .i64 leave] 72) = W1 at hw1 cs0 ⊢
  rw [hb3.out] at hw1 ⊢
  have hw1' : Below w.heap.size w W1 := by rw [hb3.out]; exact hw1
  have hWW := Lib.hid (hW.below hw1')
  have p0 : W1.cell? ⟨B, 0, none⟩ = some (.pointer (some ⟨T0, 0, none⟩)) := cell_of_row _ _ _ _ _ _ hWW.out.hB
  have p1 : W1.cell? ⟨B, 1, none⟩ = some (.pointer (some ⟨T1, 0, none⟩)) := cell_of_row _ _ _ _ _ _ hWW.out.hB
  have p2 : W1.cell? ⟨B, 2, none⟩ = some (.pointer (some ⟨R0, 0, none⟩)) := cell_of_row _ _ _ _ _ _ hWW.out.hB
  have p3 : W1.cell? ⟨B, 3, none⟩ = some (.pointer (some ⟨R1, 0, none⟩)) := cell_of_row _ _ _ _ _ _ hWW.out.hB
  replace hw1 := Lib.hid hw1'
  clear hw1'
  replace hW := Lib.hid hW
  have hWW1 := hWW
  go_cut [6, 7] from 30 to 41 (fun v6 v7 wx => v6 = .pointer (some ⟨x.T, 0, none⟩) ∧ v7 = .pointer (some ⟨x.Rt, 0, none⟩) ∧ Hid (Below w.heap.size w wx) ∧ wx.cell? ⟨b3, 0, none⟩ = some (.int .i64 8) ∧ Hid (k = 0 ∧ x.T = T0 ∧ x.Rt = R0 ∨ k = 1 ∧ x.T = T1 ∧ x.Rt = R1))
  case first =>
    have hfinA : Hid (∀ m, Hid (Below w.heap.size w (W1.drewN m)) ∧ (W1.drewN m).cell? ⟨b3, 0, none⟩ = some (.int .i64 8)) := Lib.hid fun m => ⟨Lib.hid (below_drewN hw1.out m), cs0⟩
    have hx2 := Lib.hid hx
    rcases hx with ⟨ho, h2, h3⟩ | ⟨ho, h2, h3⟩
    · subst ho
      rw [← h2] at p0
      rw [← h3] at p2
      clear h2 h3
      go_wp2_with fail
      go_quiet (fail)
      go_wp2_with fail
      go_meet
      exact ⟨rfl, rfl, (hfinA.out _).1, (hfinA.out _).2, hx2⟩
    · subst ho
      rw [← h2] at p1
      rw [← h3] at p3
      clear h2 h3
      go_wp2_with fail
      go_quiet (fail)
      go_wp2_with fail
      go_meet
      exact ⟨rfl, rfl, (hfinA.out _).1, (hfinA.out _).2, hx2⟩
  case rest =>
  obtain ⟨rfl, rfl, hbw, cs0c, hx3⟩ := hcut
  clear p0 p1 p2 p3 hw1 hWW hWW1 cs0 hx
  have hWc := Lib.hid (hW.out.below hbw.out)
  have hJ := Lib.hid (h.out.below hbw.out)
  have q4 : wc.cell? ⟨B, 4, none⟩ = some (.slice a1 os.length c1) := cell_of_row _ _ _ _ _ _ hWc.out.hB
  by_cases hlt : os.length < 20
  · have hltb : decide ((os.length : Int) < 20) = true := decide_eq_true (by omega)
    go_wp2_with (first | (at_builtin; refine wpList_append_own_at _ rfl (.tmp 223) (.tmp 225) 65 rfl 0 43 it _ 1 8 Try.underlying65 hit tz0 tz1 tz2 rfl (by decide) _ os.length _ rfl (hWc.out.o1.alloc _) ⟨wc.heap.size, 0, none⟩ 1 1 [.pointer (some ⟨x.T, 0, none⟩)] rfl rfl own_cells_one (by intro u hu; simp at hu; subst hu; rfl) (by unfold maxLen; omega) (by omega) (Nat.zero_le _) ?_))
    intro v1 w1 hown hg _ hat
    obtain ⟨hm1, hm2, hm3, hm4⟩ := hWc.out.more1 hown hg (by rw [World.size_alloc]; exact hat)
    obtain ⟨g1, d1, rfl, -⟩ := own_sliceI hown
    have fB4 := fz_row hm1 4
    have cB4 : w1.cell? ⟨B, 4, none⟩ = some (.slice a1 os.length c1) := cell_of_row _ _ _ _ _ _ hm1
    replace hm1 := Lib.hid hm1
    replace hm2 := Lib.hid hm2
    replace hm3 := Lib.hid hm3
    replace hm4 := Lib.hid hm4
    replace hown := Lib.hid hown
    replace hg := Lib.hid hg
    replace hat := Lib.hid hat
    go_wp2_with fail
    clear fB4 cB4 hown hg hat hm1
    generalize w1.setCell ⟨B, 4, none⟩ (.slice g1 (os.length + 1) d1) = w2 at hm2 hm3 ⊢
    have hJ2 : Hid (JT w2 way n x) := Lib.hid (hJ.out.keptW hWc.out hm3.out)
    have hJ2d : Hid (JT w2.drew way n x) := Lib.hid (hJ2.out.below (below_drewN (Below.refl _ _) 1))
    have hW2d := Lib.hid (hm2.out.below (below_drewN (Below.refl _ w2) 1))
    have c5 : w2.cell? ⟨B, 5, none⟩ = some (.slice a2 rs.length c2) := cell_of_row _ _ _ _ _ _ hm2.out.hB
    have hlen : (allL x.es).length ≤ 8388608 := by rw [allL_length]; have := h.out.ln; omega
    go_region_law (first
      | (refine step_append_lies _ rfl (.tmp 233) (.tmp 236) 66 rfl 0 63 ir _ 1 8 Try.underlying66 hir rz0 rz1 rz2 rfl (by decide) _ rs.length _ rfl (hW3.out.o2.alloc _) ⟨w3.heap.size, 0, none⟩ 1 1 [.pointer (some ⟨Rc, 0, none⟩)] rfl rfl own_cells_one (by simp [Value.oneCell']) (by decide) (by unfold maxLen; omega) (by omega) (Nat.zero_le _) _ rfl ?_; intro g3 c3 w4 hown1 hgrow hat1 hlt1; obtain ⟨n1, n2, n3, n4⟩ := hW3.out.more2 hown1 hgrow (hat1.imp (fun e => Eq.symm e) (fun e => congrArg some e)); have fB5 := fz_row n1 5; have cB5 : w4.cell? ⟨B, 5, none⟩ = some (.slice a2 rs.length c2) := cell_of_row _ _ _ _ _ _ n1; replace n1 := Lib.hid n1; replace n2 := Lib.hid n2; replace n3 := Lib.hid n3; replace n4 := Lib.hid n4)
      | (go_simp; go_at_call 58; refine (rf_Copy hJ2d.out.rf hlen).mono ?_; rintro e w3 ⟨Rc, vc, rfl, gR, hRc, hb3⟩; have hW3 := Lib.hid (hW2d.out.below hb3); have c5x : w3.cell? ⟨B, 5, none⟩ = some (.slice a2 rs.length c2) := cell_of_row _ _ _ _ _ _ hW3.out.hB; have c5a : (w3.alloc (.cells #[.pointer (some ⟨Rc, 0, none⟩)] 63)).cell? ⟨B, 5, none⟩ = some (.slice a2 rs.length c2) := cell_below ((Below.refl _ w3).al _) rfl c5x))
    all_goals
      have hk3 : Hid (KeptR (WBB B (.slice g1 (os.length + 1) d1) (.slice a2 rs.length c2)) w2 (w4.setCell ⟨B, 5, none⟩ (.slice (some ⟨g3, 0, none⟩) (rs.length + 1) c3))) := Lib.hid (kr_trans (below_kept ((below_drewN (Below.refl _ w2) 1).trans hb3)) n3.out)
      have hRF : Hid (RF (w4.setCell ⟨B, 5, none⟩ (.slice (some ⟨g3, 0, none⟩) (rs.length + 1) c3)) 0 Rc way x.sz vc (allL x.es)) := Lib.hid ((hRc.low (Nat.zero_le _)).keptW hW3.out n3.out)
      have hge : Hid (w.heap.size ≤ w2.heap.size) := Lib.hid (Nat.le_trans hbw.out.size hm3.out.size)
      have hge3 : Hid (w2.heap.size ≤ w3.heap.size) := Lib.hid hb3.size
      have hRge : Hid (w.heap.size ≤ Rc ∧ ∀ b, vc.ownBlock = some b → w.heap.size ≤ b) := Lib.hid ⟨Nat.le_trans hge.out gR, fun b hb => Nat.le_trans hge.out (own_ge hRc.row b hb)⟩
      have hJ3 := Lib.hid (hJ2.out.keptW hm2.out hk3.out)
      have hKv : Hid (KeptR (WBB B (.slice a1 os.length c1) (.slice a2 rs.length c2)) w (w4.setCell ⟨B, 5, none⟩ (.slice (some ⟨g3, 0, none⟩) (rs.length + 1) c3))) := Lib.hid (kr_trans (below_kept hbw.out) (kr_chain hm3.out hk3.out hm4.out))
      have hoo : Hid (∀ b, (Value.slice g1 (os.length + 1) d1).ownBlock = some b → (Value.slice a1 os.length c1).ownBlock = some b ∨ w.heap.size ≤ b) := Lib.hid fun b hb => (hm4.out b hb).imp id fun h => Nat.le_trans hbw.out.size h
      have hrr : Hid (∀ b, (Value.slice (some ⟨g3, 0, none⟩) (rs.length + 1) c3).ownBlock = some b → (Value.slice a2 rs.length c2).ownBlock = some b ∨ w.heap.size ≤ b) := Lib.hid fun b hb => (n4.out b hb).imp id fun h => Nat.le_trans hge.out (Nat.le_trans hge3.out h)
      clear fB5 cB5 hown1 hgrow hat1 hlt1 n1 n3 n4 hb3 hRc gR hW3 c5x c5a c5 hJ2 hJ2d hW2d hm2 hm3 hm4
      generalize w4.setCell ⟨B, 5, none⟩ (.slice (some ⟨g3, 0, none⟩) (rs.length + 1) c3) = wv at *
      have hWv := n2
      have hJv := hJ3
      have hfinT : Hid (∀ w5 Tc Pc ds plc, wv.drew.heap.size ≤ Tc → wv.drew.heap.size ≤ Pc → (∀ d, d ∈ ds → wv.drew.heap.size ≤ d.b) → TS w5 Tc Pc x.hb x.sb way x.sz ds plc → ds.map coreE = x.es.map coreE → Below wv.drew.heap.size wv.drew w5 →
          (k = 0 → SCl w (w5.setCell ⟨B, 0, none⟩ (ptrV Tc)) way n x B T0 T1 R0 R1 (.slice a1 os.length c1) (.slice a2 rs.length c2) os rs k) ∧ (k = 1 → SCl w (w5.setCell ⟨B, 1, none⟩ (ptrV Tc)) way n x B T0 T1 R0 R1 (.slice a1 os.length c1) (.slice a2 rs.length c2) os rs k)) := Lib.hid fun w5 Tc Pc ds plc g1 g2 g3 g4 g5 g6 =>
        sc_fin hKv.out hWv.out hoo.out hrr.out (fun w5 i u T0' T1' hb hW6 => .inr ⟨hlt, Rc, vc, hRge.out.1, hRge.out.2, ((hRF.out.below hb).keptW (hWv.out.below hb) (kr_setB (KeptR.refl _ _) i u)), hW6⟩) g1 g2 g3 g4 g5 g6
      clear hk3 hRF hge hge3 hRge hJ3 hKv hoo hrr n2
      have hJd : Hid (JT wv.drew way n x) := Lib.hid (hJv.out.below (below_drewN (Below.refl _ _) 1))
      have hWd := Lib.hid (hWv.out.below (below_drewN (Below.refl _ wv) 1))
      clear hJv hWv hWc hJ h hW
      rcases hx3.out with ⟨hk0, -, -⟩ | ⟨hk0, -, -⟩
      · subst hk0
        go_wp2_with fail
        go_region_with ((go_at_call 59; (with_reducible refine (ix_clone hJd.out.ts).mono ?_); rintro e w5 ⟨Tc, Pc, ds, plc, rfl, g1, g2, g3, g4, g5, g6⟩; have hW5 := hWd.out.below g6; have f5 := fz_row hW5.hB 0; have v5 : w5.cell? ⟨B, 0, none⟩ = some (.pointer (some ⟨T0, 0, none⟩)) := cell_of_row _ _ _ _ _ _ hW5.hB; have hf := Lib.hid ((hfinT.out w5 Tc Pc ds plc g1 g2 g3 g4 g5 g6).1 (by trivial)); clear g1 g2 g3 g4 g5 g6 hW5))
        all_goals
          go_wp2_with fail
          go_ret
          exact ⟨rfl, hf.out⟩
      · subst hk0
        go_wp2_with fail
        go_region_with ((go_at_call 59; (with_reducible refine (ix_clone hJd.out.ts).mono ?_); rintro e w5 ⟨Tc, Pc, ds, plc, rfl, g1, g2, g3, g4, g5, g6⟩; have hW5 := hWd.out.below g6; have f5 := fz_row hW5.hB 1; have v5 : w5.cell? ⟨B, 1, none⟩ = some (.pointer (some ⟨T1, 0, none⟩)) := cell_of_row _ _ _ _ _ _ hW5.hB; have hf := Lib.hid ((hfinT.out w5 Tc Pc ds plc g1 g2 g3 g4 g5 g6).2 (by trivial)); clear g1 g2 g3 g4 g5 g6 hW5))
        all_goals
          go_wp2_with fail
          go_ret
          exact ⟨rfl, hf.out⟩
  · have hltb : decide ((os.length : Int) < 20) = false := decide_eq_false (by omega)
    have hKv : Hid (KeptR (WBB B (.slice a1 os.length c1) (.slice a2 rs.length c2)) w wc) := Lib.hid (below_kept hbw.out)
    have hfinT : Hid (∀ w5 Tc Pc ds plc, wc.drew.heap.size ≤ Tc → wc.drew.heap.size ≤ Pc → (∀ d, d ∈ ds → wc.drew.heap.size ≤ d.b) → TS w5 Tc Pc x.hb x.sb way x.sz ds plc → ds.map coreE = x.es.map coreE → Below wc.drew.heap.size wc.drew w5 →
        (k = 0 → SCl w (w5.setCell ⟨B, 0, none⟩ (ptrV Tc)) way n x B T0 T1 R0 R1 (.slice a1 os.length c1) (.slice a2 rs.length c2) os rs k) ∧ (k = 1 → SCl w (w5.setCell ⟨B, 1, none⟩ (ptrV Tc)) way n x B T0 T1 R0 R1 (.slice a1 os.length c1) (.slice a2 rs.length c2) os rs k)) := Lib.hid fun w5 Tc Pc ds plc g1 g2 g3 g4 g5 g6 =>
      sc_fin hKv.out hWc.out (fun b h => .inl h) (fun b h => .inl h) (fun w5 i u T0' T1' hb hW6 => .inl ⟨hlt, hW6⟩) g1 g2 g3 g4 g5 g6
    have hJd : Hid (JT wc.drew way n x) := Lib.hid (hJ.out.below (below_drewN (Below.refl _ _) 1))
    have hWd := Lib.hid (hWc.out.below (below_drewN (Below.refl _ wc) 1))
    clear hKv hWc hJ h hW hbw hlt
    rcases hx3.out with ⟨hk0, -, -⟩ | ⟨hk0, -, -⟩
    · subst hk0
      go_wp2_with fail
      go_region_with ((go_at_call 59; (with_reducible refine (ix_clone hJd.out.ts).mono ?_); rintro e w5 ⟨Tc, Pc, ds, plc, rfl, g1, g2, g3, g4, g5, g6⟩; have hW5 := hWd.out.below g6; have f5 := fz_row hW5.hB 0; have v5 : w5.cell? ⟨B, 0, none⟩ = some (.pointer (some ⟨T0, 0, none⟩)) := cell_of_row _ _ _ _ _ _ hW5.hB; have hf := Lib.hid ((hfinT.out w5 Tc Pc ds plc g1 g2 g3 g4 g5 g6).1 (by trivial)); clear g1 g2 g3 g4 g5 g6 hW5))
      all_goals
        go_wp2_with fail
        go_ret
        exact ⟨rfl, hf.out⟩
    · subst hk0
      go_wp2_with fail
      go_region_with ((go_at_call 59; (with_reducible refine (ix_clone hJd.out.ts).mono ?_); rintro e w5 ⟨Tc, Pc, ds, plc, rfl, g1, g2, g3, g4, g5, g6⟩; have hW5 := hWd.out.below g6; have f5 := fz_row hW5.hB 1; have v5 : w5.cell? ⟨B, 1, none⟩ = some (.pointer (some ⟨T1, 0, none⟩)) := cell_of_row _ _ _ _ _ _ hW5.hB; have hf := Lib.hid ((hfinT.out w5 Tc Pc ds plc g1 g2 g3 g4 g5 g6).2 (by trivial)); clear g1 g2 g3 g4 g5 g6 hW5))
      all_goals
        go_wp2_with fail
        go_ret
        exact ⟨rfl, hf.out⟩
end Go.Proofs.Ytjeeljolhcoeoaa
