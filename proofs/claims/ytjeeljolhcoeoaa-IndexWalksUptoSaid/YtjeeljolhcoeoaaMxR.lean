/- Index: all the tables of a play, and what a step does to them. -/
import Derived.Test.YtjeeljolhcoeoaaMxQ
namespace Go.Proofs.Ytjeeljolhcoeoaa
open Go.RowKit Go.Shelf

def Dis (x y : JTab) : Prop := ∀ b, JB x b → ¬ JB y b
theorem Dis.symm {x y : JTab} (h : Dis x y) : Dis y x := fun b h1 h2 => h b h2 h1
theorem mem_mid {l1 l2 : List JTab} {y z : JTab} (h : z ∈ l1 ++ y :: l2) : z = y ∨ z ∈ l1 ++ l2 := by
  simp only [List.mem_append, List.mem_cons] at h ⊢
  rcases h with h | h | h <;> simp [h]
theorem mid_mem {l1 l2 : List JTab} {y z : JTab} (h : z ∈ l1 ++ l2) : z ∈ l1 ++ y :: l2 := by
  simp only [List.mem_append, List.mem_cons] at h ⊢
  rcases h with h | h <;> simp [h]
theorem pw_set {l1 l2 : List JTab} {x y : JTab} (h : (l1 ++ x :: l2).Pairwise Dis) (hy : ∀ z, z ∈ l1 ++ l2 → Dis y z) : (l1 ++ y :: l2).Pairwise Dis := by
  rw [List.pairwise_append] at h ⊢
  obtain ⟨h1, h2, h3⟩ := h
  rw [List.pairwise_cons] at h2 ⊢
  refine ⟨h1, ⟨fun z hz => hy z (List.mem_append_right _ hz), h2.2⟩, fun a ha b hb => ?_⟩
  rcases List.mem_cons.1 hb with rfl | hb
  · exact (hy a (List.mem_append_left _ ha)).symm
  · exact h3 a ha b (List.mem_cons_of_mem _ hb)
theorem pw_off {l1 l2 : List JTab} {x : JTab} (h : (l1 ++ x :: l2).Pairwise Dis) (z : JTab) (hz : z ∈ l1 ++ l2) : Dis x z := by
  rw [List.pairwise_append, List.pairwise_cons] at h
  obtain ⟨h1, h2, h3⟩ := h
  rcases List.mem_append.1 hz with hz | hz
  · exact (h3 z hz x (List.mem_cons_self ..)).symm
  · exact h2.1 z hz
/-- tables side by side, each with the document's one -/
structure AJ (lo : Nat) (W : World) (way : Int) (n : Nat) (L : List JTab) : Prop where
  jt : ∀ x, x ∈ L → JT W way n x
  dis : L.Pairwise Dis
  ge : ∀ x, x ∈ L → ∀ b, JB x b → lo ≤ b
section
variable {lo n : Nat} {W W' : World} {way : Int} {L l1 l2 : List JTab} {x y : JTab} {B T0 T1 R0 R1 : Nat} {old ref : Value} {os rs : List Nat}
theorem AJ.below (h : AJ lo W way n L) (hb : Below W.heap.size W W') : AJ lo W' way n L := ⟨fun x hx => (h.jt x hx).below hb, h.dis, h.ge⟩
theorem AJ.more {m : Nat} (h : AJ lo W way n L) (hm : n ≤ m) : AJ lo W way m L := ⟨fun x hx => (h.jt x hx).more hm, h.dis, h.ge⟩
theorem AJ.off (h : AJ lo W way n (l1 ++ x :: l2)) {z : JTab} (hz : z ∈ l1 ++ l2) : JT W way n z := h.jt z (mid_mem hz)
theorem AJ.mid (h : AJ lo W way n (l1 ++ x :: l2)) : JT W way n x := h.jt x (by simp)
theorem AJ.step (h : AJ lo W way n (l1 ++ x :: l2)) (hp : JPost W W' way n x y) (hlo : lo ≤ W.heap.size) : AJ lo W' way (n + 1) (l1 ++ y :: l2) := by
  have hx := h.mid
  have hoff := pw_off h.dis
  refine ⟨fun z hz => ?_, pw_set h.dis fun z hz b hb hzb => ?_, fun z hz b hb => ?_⟩
  · rcases mem_mid hz with rfl | hz
    · exact hp.jt
    · have hzj := h.off hz
      exact (hzj.kept hp.kept (fun b hb e => hoff z hz b e hb) (hx.box (bx_ty hzj.ts.tab.hH) (by decide) (by decide) (by decide) (by decide) (by decide)) (hx.box (bx_ty hzj.ts.tab.hS) (by decide) (by decide) (by decide) (by decide) (by decide))).more (Nat.le_succ n)
  · rcases hp.new b hb with e | e
    · exact hoff z hz b e hzb
    · have := (h.off hz).lt hzb; omega
  · rcases mem_mid hz with rfl | hz
    · rcases hp.new b hb with e | e
      · exact h.ge x (by simp) b e
      · omega
    · exact h.ge z (mid_mem hz) b hb
theorem AJ.app (h : AJ lo W way n L) (hx : JT W way n x) (hd : ∀ z, z ∈ L → Dis z x) (hg : ∀ b, JB x b → lo ≤ b) : AJ lo W way n (L ++ [x]) := by
  refine ⟨fun z hz => ?_, ?_, fun z hz b hb => ?_⟩
  · rcases List.mem_append.1 hz with hz | hz
    · exact h.jt z hz
    · rw [List.mem_singleton.1 hz]; exact hx
  · rw [List.pairwise_append]
    refine ⟨h.dis, List.pairwise_singleton _ _, fun a ha b hb => ?_⟩
    rw [List.mem_singleton.1 hb]; exact hd a ha
  · rcases List.mem_append.1 hz with hz | hz
    · exact h.ge z hz b hb
    · rw [List.mem_singleton.1 hz] at hb; exact hg b hb
theorem AJ.clone {Tc : Nat} (h : AJ lo W way n (l1 ++ x :: l2)) (hw : WB W B T0 T1 R0 R1 old ref os rs) (hc : CPost W W' way n x B Tc old ref) (hlo : lo ≤ W.heap.size) :
    ∃ z, z.T = Tc ∧ z.Rt = x.Rt ∧ AJ lo W' way n (l1 ++ z :: l2) ∧ ∀ Rc vc, W.heap.size ≤ Rc → (∀ b, vc.ownBlock = some b → W.heap.size ≤ b) → RF W' 0 Rc way x.sz vc (allL x.es) → ∃ x', x'.T = x.T ∧ x'.Rt = Rc ∧ AJ lo W' way n (l1 ++ z :: (l2 ++ [x'])) := by
  obtain ⟨⟨Pc, ds, plc, g1, g2, g3, g4, g5⟩, hk⟩ := hc
  have hx := h.mid
  have hoff := pw_off h.dis
  have hx' := hx.keptW hw hk
  have hal := allL_core g5
  have hlen : ds.length = x.es.length := by have := congrArg List.length g5; simpa using this
  have hzj : JT W' way n ⟨Tc, Pc, x.hb, x.sb, x.sz, ds, plc, x.Rt, x.v⟩ := ⟨g4, by show RF W' 0 x.Rt way x.sz x.v (allL ds); rw [hal]; exact hx'.rf, by show ds.length ≤ n; rw [hlen]; exact hx.ln, hx.sz⟩
  have hzb : ∀ b, JB ⟨Tc, Pc, x.hb, x.sb, x.sz, ds, plc, x.Rt, x.v⟩ b → rfB x.Rt x.v b ∨ W.heap.size ≤ b := by
    rintro b (hb | hb)
    · rcases hb with rfl | rfl | ⟨e, he, rfl⟩
      · exact .inr g1
      · exact .inr g2
      · exact .inr (g3 e he)
    · exact .inl hb
  have hA : AJ lo W' way n (l1 ++ ⟨Tc, Pc, x.hb, x.sb, x.sz, ds, plc, x.Rt, x.v⟩ :: l2) := by
    refine ⟨fun z hz => ?_, pw_set h.dis fun z hz b hb hz2 => ?_, fun z hz b hb => ?_⟩
    · rcases mem_mid hz with rfl | hz
      · exact hzj
      · exact (h.off hz).keptW hw hk
    · rcases hzb b hb with e | e
      · exact hoff z hz b (.inr e) hz2
      · have := (h.off hz).lt hz2; omega
    · rcases mem_mid hz with rfl | hz
      · rcases hzb b hb with e | e
        · exact h.ge x (by simp) b (.inr e)
        · omega
      · exact h.ge z (mid_mem hz) b hb
  refine ⟨⟨Tc, Pc, x.hb, x.sb, x.sz, ds, plc, x.Rt, x.v⟩, rfl, rfl, hA, fun Rc vc r1 r2 r3 => ⟨⟨x.T, x.P, x.hb, x.sb, x.sz, x.es, x.pl, Rc, vc⟩, rfl, rfl, ?_⟩⟩
  have hxb : ∀ b, JB ⟨x.T, x.P, x.hb, x.sb, x.sz, x.es, x.pl, Rc, vc⟩ b → tabB x.T x.P x.es b ∨ W.heap.size ≤ b := by
    rintro b (hb | hb)
    · exact .inl hb
    · rcases hb with rfl | hb
      · exact .inr r1
      · exact .inr (r2 b hb)
  have := hA.app (x := ⟨x.T, x.P, x.hb, x.sb, x.sz, x.es, x.pl, Rc, vc⟩) ⟨hx'.ts, r3, hx.ln, hx.sz⟩ (fun z hz b hb hb2 => ?_) (fun b hb => ?_)
  · simpa using this
  · rcases mem_mid hz with rfl | hz
    · rcases hb with hb | hb
      · rcases hb2 with hb2 | hb2
        · rcases hzb b (.inl hb) with e | e
          · exact tab_rf hx.ts.tab hx.rf hb2 e
          · have := hx.lt (.inl hb2); omega
        · exact tab_rf g4.tab r3 hb hb2
      · rcases hb2 with hb2 | hb2
        · exact tab_rf hx.ts.tab hx.rf hb2 hb
        · have := hx.lt (.inr hb)
          rcases hb2 with e | e
          · have e : b = Rc := e
            omega
          · have := r2 b e; omega
    · rcases hxb b hb2 with e | e
      · exact hoff z hz b (.inl e) hb
      · have := (h.off hz).lt hb; omega
  · rcases hxb b hb with e | e
    · exact h.ge x (by simp) b (.inl e)
    · omega
end
/-- the whole of a play -/
structure PS (w0 W : World) (B : Nat) (way : Int) (n : Nat) (x0 x1 : JTab) (xs : List JTab) (old ref : Value) : Prop where
  aj : AJ w0.heap.size W way n (x0 :: x1 :: xs)
  wb : WB W B x0.T x1.T x0.Rt x1.Rt old ref (xs.map JTab.T) (xs.map JTab.Rt)
  ge : ∀ b, WBB B old ref b → w0.heap.size ≤ b
  bel : Below w0.heap.size w0 W
section
variable {w0 W W' : World} {B n : Nat} {way : Int} {x0 x1 y : JTab} {xs : List JTab} {old ref : Value}
theorem PS.below (h : PS w0 W B way n x0 x1 xs old ref) (hb : Below W.heap.size W W') : PS w0 W' B way n x0 x1 xs old ref := ⟨h.aj.below hb, h.wb.below hb, h.ge, h.bel.trans (hb.mono h.bel.size)⟩
theorem PS.more {m : Nat} (h : PS w0 W B way n x0 x1 xs old ref) (hm : n ≤ m) : PS w0 W B way m x0 x1 xs old ref := ⟨h.aj.more hm, h.wb, h.ge, h.bel⟩
theorem PS.j0 (h : PS w0 W B way n x0 x1 xs old ref) : JT W way n x0 := h.aj.jt x0 (by simp)
theorem PS.j1 (h : PS w0 W B way n x0 x1 xs old ref) : JT W way n x1 := h.aj.jt x1 (by simp)
theorem PS.step0 (h : PS w0 W B way n x0 x1 xs old ref) (hp : JPost W W' way n x0 y) : PS w0 W' B way (n + 1) y x1 xs old ref :=
  ⟨h.aj.step (l1 := []) hp h.bel.size, by rw [hp.hT, hp.hR]; exact h.wb.kept hp.kept fun b hb e => h.j0.wb h.wb e hb, h.ge, keptR_belowK h.bel hp.kept (h.aj.ge x0 (by simp)) h.bel.size⟩
theorem PS.step1 (h : PS w0 W B way n x0 x1 xs old ref) (hp : JPost W W' way n x1 y) : PS w0 W' B way (n + 1) x0 y xs old ref :=
  ⟨h.aj.step (l1 := [x0]) hp h.bel.size, by rw [hp.hT, hp.hR]; exact h.wb.kept hp.kept fun b hb e => h.j1.wb h.wb e hb, h.ge, keptR_belowK h.bel hp.kept (h.aj.ge x1 (by simp)) h.bel.size⟩
theorem wbb_new {old2 ref2 : Value} (h : PS w0 W B way n x0 x1 xs old ref) (ho : ∀ b, old2.ownBlock = some b → old.ownBlock = some b ∨ W.heap.size ≤ b) (hr : ∀ b, ref2.ownBlock = some b → ref.ownBlock = some b ∨ W.heap.size ≤ b) (b : Nat) (hb : WBB B old2 ref2 b) : w0.heap.size ≤ b := by
  have hs := h.bel.size
  rcases hb with e | e | e
  · exact h.ge b (.inl e)
  · rcases ho b e with e | e
    · exact h.ge b (.inr (.inl e))
    · omega
  · rcases hr b e with e | e
    · exact h.ge b (.inr (.inr e))
    · omega
/-- what a step leaves of the whole -/
def PSN (w0 W : World) (B : Nat) (way : Int) (n : Nat) : Prop := ∃ y0 y1 ys old ref, PS w0 W B way n y0 y1 ys old ref ∧ ys.length ≤ 20
theorem PS.clone0 (h : PS w0 W B way n x0 x1 xs old ref) (hl : xs.length ≤ 20) (hs : SCl W W' way n x0 B x0.T x1.T x0.Rt x1.Rt old ref (xs.map JTab.T) (xs.map JTab.Rt) 0) : PSN w0 W' B way n := by
  obtain ⟨Tc, T0', T1', old', ref', hk, hc, ho, hr, hend⟩ := hs
  obtain ⟨rfl, rfl⟩ : T0' = Tc ∧ T1' = x1.T := by
    rcases hk with ⟨_, h1, h2⟩ | ⟨h0, _⟩
    · exact ⟨h1, h2⟩
    · exact absurd h0 (by decide)
  obtain ⟨z, rfl, hz2, hA, hA2⟩ := h.aj.clone (l1 := []) h.wb hc h.bel.size
  have hbel := keptR_belowK h.bel hc.kept h.ge h.bel.size
  rcases hend with ⟨_, hW⟩ | ⟨hlt, Rc, vc, r1, r2, r3, hW⟩
  · exact ⟨z, x1, xs, old', ref', ⟨hA, by rw [hz2]; exact hW, wbb_new h ho hr, hbel⟩, hl⟩
  · obtain ⟨x', e1, e2, hA3⟩ := hA2 Rc vc r1 r2 r3
    refine ⟨z, x1, xs ++ [x'], old', ref', ⟨hA3, ?_, wbb_new h ho hr, hbel⟩, ?_⟩
    · rw [hz2, List.map_append, List.map_append, List.map_singleton, List.map_singleton, e1, e2]; exact hW
    · rw [List.length_map] at hlt; rw [List.length_append, List.length_singleton]; omega
theorem PS.clone1 (h : PS w0 W B way n x0 x1 xs old ref) (hl : xs.length ≤ 20) (hs : SCl W W' way n x1 B x0.T x1.T x0.Rt x1.Rt old ref (xs.map JTab.T) (xs.map JTab.Rt) 1) : PSN w0 W' B way n := by
  obtain ⟨Tc, T0', T1', old', ref', hk, hc, ho, hr, hend⟩ := hs
  obtain ⟨rfl, rfl⟩ : T0' = x0.T ∧ T1' = Tc := by
    rcases hk with ⟨h0, _⟩ | ⟨_, h1, h2⟩
    · exact absurd h0 (by decide)
    · exact ⟨h1, h2⟩
  obtain ⟨z, rfl, hz2, hA, hA2⟩ := h.aj.clone (l1 := [x0]) h.wb hc h.bel.size
  have hbel := keptR_belowK h.bel hc.kept h.ge h.bel.size
  rcases hend with ⟨_, hW⟩ | ⟨hlt, Rc, vc, r1, r2, r3, hW⟩
  · exact ⟨x0, z, xs, old', ref', ⟨hA, by rw [hz2]; exact hW, wbb_new h ho hr, hbel⟩, hl⟩
  · obtain ⟨x', e1, e2, hA3⟩ := hA2 Rc vc r1 r2 r3
    refine ⟨x0, z, xs ++ [x'], old', ref', ⟨hA3, ?_, wbb_new h ho hr, hbel⟩, ?_⟩
    · rw [hz2, List.map_append, List.map_append, List.map_singleton, List.map_singleton, e1, e2]; exact hW
    · rw [List.length_map] at hlt; rw [List.length_append, List.length_singleton]; omega
theorem ps_step (h : PS w0 W B way n x0 x1 xs old ref) (hn : n ≤ 2000000) (hl : xs.length ≤ 20) (K On key value leave : Int) :
    Calls Try.prog 30 #[.pointer (some ⟨B, 0, none⟩), .agg #[.int .i64 K, .int .i64 On, .int .i64 key, .int .i64 value, .int .i64 leave]] W fun e w' => e = .returned (.bool true) ∧ PSN w0 w' B way (n + 1) := by
  have h2 : On % 2 = 0 ∨ On % 2 = 1 := by omega
  by_cases hK : K = 8
  · subst hK
    rcases h2 with h2 | h2
    · refine (st_clone h.j0 hn h.wb (by rw [List.length_map]; exact hl) (by rw [List.length_map]; exact hl) On key value leave (.inl ⟨h2, rfl, rfl⟩)).mono ?_
      rintro e w' ⟨rfl, hs⟩
      rw [h2] at hs
      obtain ⟨y0, y1, ys, o, r, hp, hl2⟩ := h.clone0 hl hs
      exact ⟨rfl, y0, y1, ys, o, r, hp.more (Nat.le_succ n), hl2⟩
    · refine (st_clone h.j1 hn h.wb (by rw [List.length_map]; exact hl) (by rw [List.length_map]; exact hl) On key value leave (.inr ⟨h2, rfl, rfl⟩)).mono ?_
      rintro e w' ⟨rfl, hs⟩
      rw [h2] at hs
      obtain ⟨y0, y1, ys, o, r, hp, hl2⟩ := h.clone1 hl hs
      exact ⟨rfl, y0, y1, ys, o, r, hp.more (Nat.le_succ n), hl2⟩
  · rcases h2 with h2 | h2
    · refine (st_small h.j0 hn h.wb.hB K On key value leave hK (.inl ⟨h2, rfl, rfl⟩)).mono ?_
      rintro e w' ⟨rfl, y, hp⟩
      exact ⟨rfl, y, x1, xs, old, ref, h.step0 hp, hl⟩
    · refine (st_small h.j1 hn h.wb.hB K On key value leave hK (.inr ⟨h2, rfl, rfl⟩)).mono ?_
      rintro e w' ⟨rfl, y, hp⟩
      exact ⟨rfl, x0, y, xs, old, ref, h.step1 hp, hl⟩
end
end Go.Proofs.Ytjeeljolhcoeoaa
