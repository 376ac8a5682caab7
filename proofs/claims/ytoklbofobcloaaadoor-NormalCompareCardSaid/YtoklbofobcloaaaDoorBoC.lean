/- NormalCompare: the law walked. (gen_noc.py) -/
import Derived.Test.YtoklbofobcloaaaDoorNoB
import Derived.Test.YtoklbofobcloaaaDoorBmH
import Derived.Test.YtoklbofobcloaaaDoorInv
import Derived.Deep.CutRange
import Derived.Lib.QuietBelow
namespace Go.Proofs.YtoklbofobcloaaaDoor.Big
open Go.RowKit Go.Sort Go.Shelf
set_option linter.unusedVariables false
/-- a rule's copy in memory -/
def Copied (p : ByteArray) (l : List Tm) (b : List Lit) (s : ByteArray) (va vb : Value) (w : World) : Prop :=
  ∃ g c G C L, s = p ∧ va = .slice (some ⟨g, 0, none⟩) l.length c ∧ vb = .slice (some ⟨G, 0, none⟩) b.length C ∧ TermsM w g l c ∧ LitsM w G L C ∧ L.map (·.1) = b
theorem copied_stays (p : ByteArray) (l : List Tm) (b : List Lit) : Stays (Copied p l b) where
  below := fun s va vb w w' ⟨g, c, G, C, L, e1, e2, e3, h1, h2, h3⟩ hb => ⟨g, c, G, C, L, e1, e2, e3, h1.below hb, h2.below hb, h3⟩
  put := fun s va vb w A s' x y p q r ⟨g, c, G, C, L, e1, e2, e3, h1, h2, h3⟩ hA => by
    have ht : ∀ {g c : Nat} {l : List Tm}, TermsM w g l c → g ≠ A := fun {g c l} h e => by
      subst e
      have h0 : ∃ v, (flatT l ++ flatT marks)[0]? = some (.bool v) := by
        cases l with
        | nil => exact ⟨_, rfl⟩
        | cons x l => exact ⟨_, rfl⟩
      obtain ⟨v, h0⟩ := h0
      have := h.cells 0 _ h0
      simp [World.cell?, hA] at this
    have hG : G ≠ A := fun e => by
      subst e
      have h0 : ∃ v, (flatL L ++ (mark77 ++ mark77))[0]? = some (.int .i64 v) := by
        cases L with
        | nil => exact ⟨_, rfl⟩
        | cons x l => exact ⟨_, rfl⟩
      obtain ⟨v, h0⟩ := h0
      have := h2.cells 0 _ h0
      simp [World.cell?, hA] at this
    exact ⟨g, c, G, C, L, e1, e2, e3, h1.same (put3_other _ _ _ _ (ht h1)), h2.same (put3_other _ _ _ _ hG) fun y hy => put3_other _ _ _ _ (ht (h2.inner y hy)), h3⟩
theorem reg_of {P : Program} {f : FuncId} {args : Array Value} {wc : World} {v : Value} (h : ∀ W, Below wc.heap.size wc W → Calls P f args W fun e w' => e = .returned v ∧ Below W.heap.size W w') :
    ∀ d os, Calls P f args (grow (redrawn wc d) os) fun e w'' => e = .returned v ∧ ∃ p : Regrown, w'' = grow (redrawn wc p.d) p.os :=
  fun d os => Calls.regrown_of (h _ (below_regrown wc d os))
/-- the two rules' boxes and their copies' -/
structure CX (w : World) (u v : Array Value) (A B : Nat) (s t : Array Value) (W : World) : Prop where
  bel : Below w.heap.size w W
  lt : w.heap.size + 1 < W.heap.size
  b0 : W.heap[w.heap.size]? = some (.cells u 27)
  b1 : W.heap[w.heap.size + 1]? = some (.cells v 27)
  bA : W.heap[A]? = some (.cells s 27)
  bB : W.heap[B]? = some (.cells t 27)
theorem CX.below {w : World} {u v : Array Value} {A B : Nat} {s t : Array Value} {W W' : World} (h : CX w u v A B s t W) (hb : Below W.heap.size W W') : CX w u v A B s t W' :=
  ⟨h.bel.trans (hb.mono h.bel.size), Nat.lt_of_lt_of_le h.lt hb.size, bl_keep hb h.b0, bl_keep hb h.b1, bl_keep hb h.bA, bl_keep hb h.bB⟩
def CR (w : World) (v5 v6 : Value) (p0 : ByteArray) (a0 : Option Addr) (l0 : List Tm) (c0 : Nat) (ba0 : Option Addr) (b0 : List Lit) (bc0 : Nat) (p1 : ByteArray) (a1 : Option Addr) (l1 : List Tm) (c1 : Nat) (ba1 : Option Addr) (b1 : List Lit) (bc1 : Nat) (W : World) : Prop :=
  ∃ A B va vb va' vb', v5 = .pointer (some ⟨A, 0, none⟩) ∧ v6 = .pointer (some ⟨B, 0, none⟩) ∧ CX w #[.string p0, .slice a0 l0.length c0, .slice ba0 b0.length bc0] #[.string p1, .slice a1 l1.length c1, .slice ba1 b1.length bc1] A B #[.string p0, va, vb] #[.string p1, va', vb'] W ∧ Copied p0 l0 b0 p0 va vb W ∧ Copied p1 l1 b1 p1 va' vb' W
set_option maxHeartbeats 8000000 in
set_option maxRecDepth 100000 in
theorem law_Compare (p0 : ByteArray) (a0 : Option Addr) (l0 : List Tm) (c0 : Nat) (ba0 : Option Addr) (b0 : List Lit) (bc0 : Nat) (p1 : ByteArray) (a1 : Option Addr) (l1 : List Tm) (c1 : Nat) (ba1 : Option Addr) (b1 : List Lit) (bc1 : Nat) (w : World) (T0 : Terms w a0 l0) (L0 : Lits w ba0 b0) (T1 : Terms w a1 l1) (L1 : Lits w ba1 b1) (htab : Lib.TabIs Tryd.prog w "internal/strconv.uint64pow10" .u64 Lib.pow10Tab) :
    Calls Tryd.prog 4 #[.agg #[.string p0, .slice a0 l0.length c0, .slice ba0 b0.length bc0], .agg #[.string p1, .slice a1 l1.length c1, .slice ba1 b1.length bc1]] w fun e w' => e = .returned (.bool true) ∧ Below w.heap.size w w' := by
  obtain ⟨W0, hW0⟩ : ∃ W0, W0 = (w.alloc (.cells #[.string p0, .slice a0 l0.length c0, .slice ba0 b0.length bc0] 27)).alloc (.cells #[.string p1, .slice a1 l1.length c1, .slice ba1 b1.length bc1] 27) := ⟨_, rfl⟩
  have hkp : Hid (∀ w', Below W0.heap.size W0 w' → w'.heap[w.heap.size]? = some (.cells #[.string p0, .slice a0 l0.length c0, .slice ba0 b0.length bc0] 27) ∧ w'.heap[w.heap.size + 1]? = some (.cells #[.string p1, .slice a1 l1.length c1, .slice ba1 b1.length bc1] 27) ∧ Below w.heap.size w w') := Lib.hid (by
    subst hW0; intro w' hb; obtain ⟨h1, h2, h3⟩ := k_two hb; exact ⟨h2, h3, h1⟩)
  have hW0s : Hid (W0.heap.size = w.heap.size + 2) := Lib.hid (by rw [hW0, World.size_alloc, World.size_alloc])
  have hB0 := (hkp.out W0 (Below.refl _ _)).2.2
  have hT := Lib.hid (And.intro T0 (And.intro L0 (And.intro T1 L1)))
  replace T0 := T0.below hB0
  replace T1 := T1.below hB0
  replace L0 := L0.below hB0
  replace L1 := L1.below hB0
  have cp0 : Hid (∀ W, Below W0.heap.size W0 W → Calls Tryd.prog 9 #[.agg #[.string p0, .slice a0 l0.length c0, .slice ba0 b0.length bc0]] W fun e w' => ∃ v, e = .returned v ∧ Told (Copied p0 l0 b0) v w' ∧ Below W.heap.size W w') := Lib.hid (fun W hW => (cq_rule p0 a0 l0 c0 ba0 b0 bc0 W (T0.below hW) (L0.below hW)).mono fun e w' ⟨g, c, G, C, L, h1, h2, h3, h4, _, h6⟩ => ⟨_, h1, ⟨_, _, _, rfl, ⟨_, _, _, _, _, _, rfl, rfl⟩, g, c, G, C, L, rfl, rfl, rfl, h2, h3, h4⟩, h6⟩)
  have cp1 : Hid (∀ W, Below W0.heap.size W0 W → Calls Tryd.prog 9 #[.agg #[.string p1, .slice a1 l1.length c1, .slice ba1 b1.length bc1]] W fun e w' => ∃ v, e = .returned v ∧ Told (Copied p1 l1 b1) v w' ∧ Below W.heap.size W w') := Lib.hid (fun W hW => (cq_rule p1 a1 l1 c1 ba1 b1 bc1 W (T1.below hW) (L1.below hW)).mono fun e w' ⟨g, c, G, C, L, h1, h2, h3, h4, _, h6⟩ => ⟨_, h1, ⟨_, _, _, rfl, ⟨_, _, _, _, _, _, rfl, rfl⟩, g, c, G, C, L, rfl, rfl, rfl, h2, h3, h4⟩, h6⟩)
  have hcl : Hid (∀ w', Below W0.heap.size W0 w' → w'.cell? ⟨w.heap.size, 0, none⟩ = some (.string p0) ∧ w'.cell? ⟨w.heap.size, 1, none⟩ = some (.slice a0 l0.length c0) ∧ w'.cell? ⟨w.heap.size, 2, none⟩ = some (.slice ba0 b0.length bc0) ∧ w'.cell? ⟨w.heap.size + 1, 0, none⟩ = some (.string p1) ∧ w'.cell? ⟨w.heap.size + 1, 1, none⟩ = some (.slice a1 l1.length c1) ∧ w'.cell? ⟨w.heap.size + 1, 2, none⟩ = some (.slice ba1 b1.length bc1)) := Lib.hid (fun w' hb => by
    obtain ⟨h1, h2, -⟩ := hkp.out w' hb
    exact ⟨by simp [World.cell?, h1], by simp [World.cell?, h1], by simp [World.cell?, h1], by simp [World.cell?, h2], by simp [World.cell?, h2], by simp [World.cell?, h2]⟩)
  replace T0 := Lib.hid T0
  replace T1 := Lib.hid T1
  replace L0 := Lib.hid L0
  replace L1 := Lib.hid L1
  replace htab := Lib.hid htab
  replace hB0 := Lib.hid hB0
  go_enter Tryd.func4, Tryd.ntmps4
  go_upto_region 1 with fail
  rw [← hW0]
  clear hW0
  go_cut [5, 6] from 9 to 12 (fun v5 v6 wx => Hid (CR w v5 v6 p0 a0 l0 c0 ba0 b0 bc0 p1 a1 l1 c1 ba1 b1 bc1 wx))
  case first =>
    rename_i J K' hJ hK'
    replace hJ := Lib.hid hJ
    replace hK' := Lib.hid hK'
    refine name_frame ?_
    intro tm htm
    refine wp_two (fun u5 u6 u9 u10 u11 u12 => { tmps := ((((((tm.setIfInBounds 5 u5).setIfInBounds 6 u6).setIfInBounds 9 u9).setIfInBounds 10 u10).setIfInBounds 11 u11).setIfInBounds 12 u12), defers := [] }) (TwoS W0 (.agg #[.string p0, .slice a0 l0.length c0, .slice ba0 b0.length bc0]) (.agg #[.string p1, .slice a1 l1.length c1, .slice ba1 b1.length bc1]) (Copied p0 l0 b0) (Copied p1 l1 b1)) (by kernel_rfl) (by kernel_rfl) rfl undef undef undef undef undef undef (by rw [htm]; rfl) (TwoS.start W0) ?_ ?_ ?_ ?_ ?_ ?_ ?_ ?_ ?_
    all_goals (subst htm; simp only [List.setIfInBounds_toArray, List.set_cons_succ, List.set_cons_zero])
    · intro i1 i2 i3 i4 i5 i6 i7 u5 u6 u9 u10 u11 u12 w' hS
      refine wpOp_shut (o := _) rfl (fun K hK => ?_)
      obtain ⟨q0, q1, q2, q3, q4, q5⟩ := hcl.out _ hS.bel
      replace hS := Lib.hid hS
      go_simp
      exact hK.out _ _ ⟨_, _, _, _, _, _, rfl, hS.out.s0⟩
    · intro i2 i3 i4 i5 i6 i7 u5 u6 u9 u10 u11 u12 w' hS
      obtain rfl := hS.k0 rfl
      have hb0 := hS.bel
      replace hS := Lib.hid hS
      refine wpOp_shut (o := _) rfl (fun K hK => ?_)
      go_simp
      go_wp2_with (go_at_call 9; go_loud (refine (cp0.out _ hb0).mono ?_); rintro e w2 ⟨v, rfl, ht, hb⟩)
      exact hK.out _ _ ⟨_, _, _, _, _, _, rfl, hS.out.s1 (copied_stays p1 l1 b1) hb ht⟩
    · intro i0 i1 i3 i4 i5 i6 i7 u5 u6 u9 u10 u11 u12 w' hS
      refine wpOp_shut (o := _) rfl (fun K hK => ?_)
      obtain ⟨q0, q1, q2, q3, q4, q5⟩ := hcl.out _ hS.bel
      replace hS := Lib.hid hS
      go_simp
      exact hK.out _ _ ⟨_, _, _, _, _, _, rfl, hS.out.s2⟩
    · intro i0 i1 i4 i5 i6 i7 u5 u6 u9 u10 u11 u12 w' hS
      obtain rfl := hS.k2 rfl
      have hb0 := hS.bel
      replace hS := Lib.hid hS
      refine wpOp_shut (o := _) rfl (fun K hK => ?_)
      go_simp
      go_wp2_with (go_at_call 9; go_loud (refine (cp1.out _ hb0).mono ?_); rintro e w2 ⟨v, rfl, ht, hb⟩)
      exact hK.out _ _ ⟨_, _, _, _, _, _, rfl, hS.out.s3 (copied_stays p0 l0 b0) hb ht⟩
    · intro i0 i1 i2 i3 i5 i6 i7 u5 u6 u9 u10 u11 u12 w' hS
      replace hS := Lib.hid hS
      refine wpOp_shut (o := _) rfl (fun K hK => ?_)
      go_simp
      exact hK.out _ _ ⟨_, _, _, _, _, _, rfl, hS.out.s4 (copied_stays p0 l0 b0) (copied_stays p1 l1 b1)⟩
    · intro i0 i1 i2 i3 i4 i6 i7 u5 u6 u9 u10 u11 u12 w' hS
      replace hS := Lib.hid hS
      refine wpOp_shut (o := _) rfl (fun K hK => ?_)
      go_simp
      exact hK.out _ _ ⟨_, _, _, _, _, _, rfl, hS.out.s5 (copied_stays p0 l0 b0) (copied_stays p1 l1 b1)⟩
    · intro i0 i2 i7 u5 u6 u9 u10 u11 u12 w' hS
      obtain ⟨A, s, a, b, x, y, z, rfl, rfl, ⟨x1, x2, x3, x4, x5, x6, rfl, rfl⟩, hA, hS2⟩ := hS.s6 (copied_stays p0 l0 b0) (copied_stays p1 l1 b1)
      clear hS
      obtain ⟨e0, e1, e2, e3, e4, e5⟩ := box_all hA
      have hA1 := Go.heap_setCell_same _ _ 0 _ _ (.string s) hA
      have hA2 := Go.heap_setCell_same _ _ 1 _ _ (.slice x1 x2 x3) hA1
      obtain ⟨f0, f1, f2, f3, f4, f5⟩ := box_all hA1
      obtain ⟨g0, g1, g2, g3, g4, g5⟩ := box_all hA2
      clear hA1 hA2
      replace hS2 := Lib.hid hS2
      clear hA
      refine wpOp_shut (o := _) rfl (fun K hK => ?_)
      go_simp
      exact hK.out _ _ ⟨_, _, _, _, _, _, rfl, hS2.out⟩
    · intro i0 i2 i6 u5 u6 u9 u10 u11 u12 w' hS
      obtain ⟨A, s, a, b, x, y, z, rfl, rfl, ⟨x1, x2, x3, x4, x5, x6, rfl, rfl⟩, hA, hS2⟩ := hS.s7 (copied_stays p0 l0 b0) (copied_stays p1 l1 b1)
      clear hS
      obtain ⟨e0, e1, e2, e3, e4, e5⟩ := box_all hA
      have hA1 := Go.heap_setCell_same _ _ 0 _ _ (.string s) hA
      have hA2 := Go.heap_setCell_same _ _ 1 _ _ (.slice x1 x2 x3) hA1
      obtain ⟨f0, f1, f2, f3, f4, f5⟩ := box_all hA1
      obtain ⟨g0, g1, g2, g3, g4, g5⟩ := box_all hA2
      clear hA1 hA2
      replace hS2 := Lib.hid hS2
      clear hA
      refine wpOp_shut (o := _) rfl (fun K hK => ?_)
      go_simp
      exact hK.out _ _ ⟨_, _, _, _, _, _, rfl, hS2.out⟩
    · intro u5 u6 u9 u10 u11 u12 w' hS
      obtain ⟨A, B, s, a, b, s', a', b', rfl, rfl, hAB, hA, hB, hh, hh', hR, hR', hbel⟩ := hS.fin
      obtain ⟨k1, k2, k3⟩ := hkp.out _ hbel
      have hcr : Hid (CR w (.pointer (some ⟨A, 0, none⟩)) (.pointer (some ⟨B, 0, none⟩)) p0 a0 l0 c0 ba0 b0 bc0 p1 a1 l1 c1 ba1 b1 bc1 w') := by
        obtain ⟨g, c, G, C, L, rfl, r2⟩ := hR
        obtain ⟨g', c', G', C', L', rfl, r2'⟩ := hR'
        exact Lib.hid ⟨A, B, a, b, a', b', rfl, rfl, ⟨k3, by have := hbel.size; have := hW0s.out; omega, k1, k2, hh, hh'⟩, ⟨g, c, G, C, L, rfl, r2⟩, ⟨g', c', G', C', L', rfl, r2'⟩⟩
      clear hS hh hh' hR hR' k1 k2 k3 hbel
      exact hK'.out _ _ (Met.intro (hJ.out _ _ ⟨_, _, _, _, _, _, hcr, rfl⟩))
  case rest =>
    obtain ⟨A, B, va, vb, va', vb', rfl, rfl, hX, ⟨g0, ca, G0, cb, M0, -, rfl, rfl, m1, m2, m3⟩, ⟨g1, cc, G1, cd, M1, -, rfl, rfl, m4, m5, m6⟩⟩ := hcut.out
    clear hcut cp0 cp1 hcl hkp
    obtain ⟨U0, V0, Y0, Z0⟩ := hT.out
    replace U0 := U0.below hX.bel
    replace V0 := V0.below hX.bel
    replace Y0 := Y0.below hX.bel
    replace Z0 := Z0.below hX.bel
    have n1 := m1.terms
    have n2 := m2.lits
    have n4 := m4.terms
    have n5 := m5.lits
    rw [m3] at n2
    rw [m6] at n5
    have e3 : M0.length = b0.length := by rw [← m3, List.length_map]
    have e6 : M1.length = b1.length := by rw [← m6, List.length_map]
    have hk0 := fun W (hW : Below wc.heap.size wc W) => kp_rule p0 g0 ca l0 G0 cb M0 a0 ba0 c0 bc0 W (m1.below hW) (U0.below hW) (m2.below hW) (by rw [m3]; exact V0.below hW)
    have hk1 := fun W (hW : Below wc.heap.size wc W) => kp_rule p1 g1 cc l1 G1 cd M1 a1 ba1 c1 bc1 W (m4.below hW) (Y0.below hW) (m5.below hW) (by rw [m6]; exact Z0.below hW)
    rw [e3] at hk0
    rw [e6] at hk1
    clear m1 m2 m3 m4 m5 m6 e3 e6
    obtain ⟨qa, hqa⟩ : ∃ q : Addr, (⟨g0, 0, none⟩ : Addr) = q := ⟨_, rfl⟩
    obtain ⟨qb, hqb⟩ : ∃ q : Addr, (⟨G0, 0, none⟩ : Addr) = q := ⟨_, rfl⟩
    obtain ⟨qc, hqc⟩ : ∃ q : Addr, (⟨g1, 0, none⟩ : Addr) = q := ⟨_, rfl⟩
    obtain ⟨qd, hqd⟩ : ∃ q : Addr, (⟨G1, 0, none⟩ : Addr) = q := ⟨_, rfl⟩
    rw [hqa] at n1
    rw [hqb] at n2
    rw [hqc] at n4
    rw [hqd] at n5
    simp only [hqa, hqb, hqc, hqd] at hX hk0 hk1
    clear hqa hqb hqc hqd
    have hbx : Hid (∀ W, Below wc.heap.size wc W → W.cell? ⟨w.heap.size, 0, none⟩ = some (.string p0) ∧ W.cell? ⟨w.heap.size, 1, none⟩ = some (.slice a0 l0.length c0) ∧ W.cell? ⟨w.heap.size, 2, none⟩ = some (.slice ba0 b0.length bc0) ∧ W.cell? ⟨w.heap.size + 1, 0, none⟩ = some (.string p1) ∧ W.cell? ⟨w.heap.size + 1, 1, none⟩ = some (.slice a1 l1.length c1) ∧ W.cell? ⟨w.heap.size + 1, 2, none⟩ = some (.slice ba1 b1.length bc1) ∧
        W.cell? ⟨A, 0, none⟩ = some (.string p0) ∧ W.cell? ⟨A, 1, none⟩ = some (.slice (some qa) l0.length ca) ∧ W.cell? ⟨A, 2, none⟩ = some (.slice (some qb) b0.length cb) ∧ W.cell? ⟨B, 0, none⟩ = some (.string p1) ∧ W.cell? ⟨B, 1, none⟩ = some (.slice (some qc) l1.length cc) ∧ W.cell? ⟨B, 2, none⟩ = some (.slice (some qd) b1.length cd)) := Lib.hid (fun W hW => by
      have h := hX.below hW
      obtain ⟨x0, x1, x2, -⟩ := box_all h.b0
      obtain ⟨x3, x4, x5, -⟩ := box_all h.b1
      obtain ⟨x6, x7, x8, -⟩ := box_all h.bA
      obtain ⟨x9, x10, x11, -⟩ := box_all h.bB
      exact ⟨x0, x1, x2, x3, x4, x5, x6, x7, x8, x9, x10, x11⟩)
    have hz : cmpR ⟨p0, l0, b0⟩ ⟨p0, l0, b0⟩ = 0 := (cmpR_ord.eq _ _).2 rfl
    have k1 : Hid (∀ W, Below wc.heap.size wc W → Calls Tryd.prog 23 #[.agg #[.string p0, .slice (some qa) l0.length ca, .slice (some qb) b0.length cb], .agg #[.string p1, .slice (some qc) l1.length cc, .slice (some qd) b1.length cd]] W fun e w' => e = .returned (.int .i64 (cmpR ⟨p0, l0, b0⟩ ⟨p1, l1, b1⟩)) ∧ Below W.heap.size W w') := Lib.hid (fun W hW => (nm_CompareRules ⟨p0, l0, b0⟩ ⟨p1, l1, b1⟩ _ _ _ _ _ _ _ _ W (n1.below hW) (n4.below hW) (n2.below hW) (n5.below hW)).mono fun e w' h => ⟨h.1, h.2.below⟩)
    have k2 : Hid (∀ W, Below wc.heap.size wc W → Calls Tryd.prog 23 #[.agg #[.string p1, .slice (some qc) l1.length cc, .slice (some qd) b1.length cd], .agg #[.string p0, .slice (some qa) l0.length ca, .slice (some qb) b0.length cb]] W fun e w' => e = .returned (.int .i64 (cmpR ⟨p1, l1, b1⟩ ⟨p0, l0, b0⟩)) ∧ Below W.heap.size W w') := Lib.hid (fun W hW => (nm_CompareRules ⟨p1, l1, b1⟩ ⟨p0, l0, b0⟩ _ _ _ _ _ _ _ _ W (n4.below hW) (n1.below hW) (n5.below hW) (n2.below hW)).mono fun e w' h => ⟨h.1, h.2.below⟩)
    have k3 : Hid (∀ W, Below wc.heap.size wc W → Calls Tryd.prog 23 #[.agg #[.string p0, .slice (some qa) l0.length ca, .slice (some qb) b0.length cb], .agg #[.string p0, .slice (some qa) l0.length ca, .slice (some qb) b0.length cb]] W fun e w' => e = .returned (.int .i64 0) ∧ Below W.heap.size W w') := Lib.hid (fun W hW => by rw [← hz]; exact (nm_CompareRules ⟨p0, l0, b0⟩ ⟨p0, l0, b0⟩ _ _ _ _ _ _ _ _ W (n1.below hW) (n1.below hW) (n2.below hW) (n2.below hW)).mono fun e w' h => ⟨h.1, h.2.below⟩)
    have k4 : Hid (∀ W, Below wc.heap.size wc W → Calls Tryd.prog 24 #[.agg #[.string p0, .slice a0 l0.length c0, .slice ba0 b0.length bc0], .agg #[.string p1, .slice a1 l1.length c1, .slice ba1 b1.length bc1]] W fun e w' => e = .returned (.int .i64 (cmpR ⟨p0, l0, b0⟩ ⟨p1, l1, b1⟩)) ∧ Below W.heap.size W w') := Lib.hid (fun W hW => (rn_CompareRules _ _ _ _ _ _ _ _ _ _ _ _ _ _ W (U0.below hW) (Y0.below hW) (V0.below hW) (Z0.below hW)).mono fun e w' h => ⟨h.1, h.2.below⟩)
    have k5 : Hid (∀ W, Below wc.heap.size wc W → Calls Tryd.prog 24 #[.agg #[.string p1, .slice a1 l1.length c1, .slice ba1 b1.length bc1], .agg #[.string p0, .slice a0 l0.length c0, .slice ba0 b0.length bc0]] W fun e w' => e = .returned (.int .i64 (cmpR ⟨p1, l1, b1⟩ ⟨p0, l0, b0⟩)) ∧ Below W.heap.size W w') := Lib.hid (fun W hW => (rn_CompareRules _ _ _ _ _ _ _ _ _ _ _ _ _ _ W (Y0.below hW) (U0.below hW) (Z0.below hW) (V0.below hW)).mono fun e w' h => ⟨h.1, h.2.below⟩)
    have k6 : Hid (∀ W, Below wc.heap.size wc W → Calls Tryd.prog 22 #[.agg #[.string p0, .slice (some qa) l0.length ca, .slice (some qb) b0.length cb], .agg #[.string p0, .slice a0 l0.length c0, .slice ba0 b0.length bc0]] W fun e w' => e = .returned (.bool true) ∧ Below W.heap.size W w') := Lib.hid (fun W hW => hk0 W hW)
    have k7 : Hid (∀ W, Below wc.heap.size wc W → Calls Tryd.prog 22 #[.agg #[.string p1, .slice (some qc) l1.length cc, .slice (some qd) b1.length cd], .agg #[.string p1, .slice a1 l1.length c1, .slice ba1 b1.length bc1]] W fun e w' => e = .returned (.bool true) ∧ Below W.heap.size W w') := Lib.hid (fun W hW => hk1 W hW)
    have k8 : Hid (∀ W, Below wc.heap.size wc W → Calls Tryd.prog 8 #[] W fun e w' => e = .returned (.bool true) ∧ Below W.heap.size W w') := Lib.hid (fun W hW => nm_known W (Go.Joins.tab_stays (g := 0) (by kernel_rfl) htab.out (hX.bel.trans (hW.mono hX.bel.size)) (Nat.le_refl _)))
    have hXb := Lib.hid hX.bel
    replace V0 := Lib.hid V0
    replace Z0 := Lib.hid Z0
    replace n2 := Lib.hid n2
    replace n5 := Lib.hid n5
    have hL0 := V0.out.len
    have hL1 := Z0.out.len
    clear U0 Y0 n1 n4 hk0 hk1 hX hz hT hB0 hW0s T0 T1 L0 L1
    generalize cmpR ⟨p0, l0, b0⟩ ⟨p1, l1, b1⟩ = z1 at k1 k4
    generalize cmpR ⟨p1, l1, b1⟩ ⟨p0, l0, b0⟩ = z2 at k2 k5
    obtain ⟨d0, d1, d2, d3, d4, d5, d6, d7, d8, d9, d10, d11⟩ := hbx.out _ (Below.refl _ _)
    have r0 := fun d os => cell_regrown d0 d os
    have r1 := fun d os => cell_regrown d1 d os
    have r2 := fun d os => cell_regrown d2 d os
    have r3 := fun d os => cell_regrown d3 d os
    have r4 := fun d os => cell_regrown d4 d os
    have r5 := fun d os => cell_regrown d5 d os
    have r6 := fun d os => cell_regrown d6 d os
    have r7 := fun d os => cell_regrown d7 d os
    have r8 := fun d os => cell_regrown d8 d os
    have r9 := fun d os => cell_regrown d9 d os
    have r10 := fun d os => cell_regrown d10 d os
    have r11 := fun d os => cell_regrown d11 d os
    clear d0 d1 d2 d3 d4 d5 d6 d7 d8 d9 d10 d11
    have ct1 := reg_of (wc := wc) (fun W' h => k1.out W' (h))
    have ct2 := reg_of (wc := wc) (fun W' h => k4.out W' (h))
    have ct3 := reg_of (wc := wc) (fun W' h => k2.out W' (h))
    have ct4 := reg_of (wc := wc) (fun W' h => k5.out W' (h))
    have ct5 := reg_of (wc := wc) (fun W' h => k3.out W' (h))
    go_upto_region 2 with fail
    refine wp_region_quiet_below (by kernel_rfl) (by kernel_rfl) ?_
    quiet_step (fail)
    quiet_step (fail)
    quiet_step (exact ct1 _ _)
    quiet_step (fail)
    quiet_step (fail)
    quiet_step (exact ct2 _ _)
    quiet_step (fail)
    quiet_step (fail)
    quiet_step (fail)
    quiet_step (fail)
    quiet_step (exact ct3 _ _)
    quiet_step (fail)
    quiet_step (fail)
    quiet_step (exact ct4 _ _)
    quiet_step (fail)
    quiet_step (fail)
    quiet_step (fail)
    quiet_step (fail)
    quiet_step (fail)
    quiet_step (exact ct5 _ _)
    quiet_step (fail)
    quiet_step (fail)
    refine wpQuiet_nil ?_
    intro wd hw'
    obtain ⟨⟨dq, osq⟩, hw''⟩ := hw'
    have wdb := below_regrown wc dq osq
    rw [← hw''] at wdb
    clear hw'' dq osq
    clear r0 r1 r2 r3 r4 r5 r6 r7 r8 r9 r10 r11 ct1 ct2 ct3 ct4 ct5 k1 k2 k3 k4 k5
    replace wdb := Lib.hid wdb
    go_wp2
    go_loopw [7] (fun s7 wr => ∃ i : Nat, s7 = .int .i64 i ∧ i ≤ b0.length ∧ i ≤ 30 ∧ Hid (Below wc.heap.size wc wr)) (fun s7 wr => 30 - (intOf s7).toNat)
    case atStart => exact ⟨0, rfl, Nat.zero_le _, by omega, wdb⟩
    case round =>
      obtain ⟨i, rfl, hi1, hi2, hbr⟩ := hrel
      obtain ⟨d0, d1, d2, d3, d4, d5, d6, d7, d8, d9, d10, d11⟩ := hbx.out _ hbr.out
      by_cases hl : i < b0.length
      · by_cases h30 : i < 30
        · have hq0 : (0 : Int) ≤ (i : Int) := Int.natCast_nonneg _
          have hq1 : (i : Int) < (b0.length : Int) := by omega
          have hq2 : (i : Int) < 30 := by omega
          go_wp2
          go_loopw [8] (fun s8 wi => ∃ j : Nat, s8 = .int .i64 j ∧ j ≤ b1.length ∧ j ≤ 30 ∧ Hid (Below wc.heap.size wc wi)) (fun s8 wi => 30 - (intOf s8).toNat)
          case atStart => exact ⟨0, rfl, Nat.zero_le _, by omega, hbr⟩
          case round =>
            obtain ⟨j, rfl, hj1, hj2, hbi⟩ := hrel
            clear d0 d1 d2 d3 d4 d5 d6 d7 d8 d9 d10 d11
            obtain ⟨d0, d1, d2, d3, d4, d5, d6, d7, d8, d9, d10, d11⟩ := hbx.out _ hbi.out
            have hp0 : (0 : Int) ≤ (j : Int) := Int.natCast_nonneg _
            by_cases hl2 : j < b1.length
            · by_cases h302 : j < 30
              · have hp1 : (j : Int) < (b1.length : Int) := by omega
                have hp2 : (j : Int) < 30 := by omega
                obtain ⟨x, ex⟩ : ∃ x, b0[i]? = some x := ⟨_, List.getElem?_eq_getElem hl⟩
                obtain ⟨y, ey⟩ : ∃ y, b1[j]? = some y := ⟨_, List.getElem?_eq_getElem hl2⟩
                obtain ⟨pa, xa1, xa1c, rfl, ha1, ha2, ha3, ha4, ha5, ha6, ha7, hat⟩ := (V0.out.below hbi.out).cells i _ ex
                obtain ⟨pb, ya1, ya1c, rfl, hb1, hb2, hb3, hb4, hb5, hb6, hb7, hbt⟩ := (Z0.out.below hbi.out).cells j _ ey
                obtain ⟨pc, xa2, xa2c, hpc, hc1, hc2, hc3, hc4, hc5, hc6, hc7, hct⟩ := (n2.out.below hbi.out).cells i _ ex
                obtain ⟨pd, ya2, ya2c, hpd, hd1, hd2, hd3, hd4, hd5, hd6, hd7, hdt⟩ := (n5.out.below hbi.out).cells j _ ey
                obtain rfl : qb = pc := by injection hpc
                obtain rfl : qd = pd := by injection hpd
                clear hpc hpd ex ey
                obtain ⟨xk, xp, xa, ⟨xlv, xlt⟩, ⟨xrv, xrt⟩⟩ := x
                obtain ⟨yk, yp, ya, ⟨ylv, ylt⟩, ⟨yrv, yrt⟩⟩ := y
                have cm1 := fun (W : World) (hW : Below wr.heap.size wr W) => (nm_Compare ⟨xk, xp, xa, (xlv, xlt), (xrv, xrt)⟩ ⟨yk, yp, ya, (ylv, ylt), (yrv, yrt)⟩ xa2 ya2 xa2c ya2c W (hct.below hW) (hdt.below hW)).mono fun e w' h => (⟨h.1, h.2.below⟩ : _ ∧ Below W.heap.size W w')
                have cm2 := fun (W : World) (hW : Below wr.heap.size wr W) => (rn_Compare ⟨xk, xp, xa, (xlv, xlt), (xrv, xrt)⟩ ⟨yk, yp, ya, (ylv, ylt), (yrv, yrt)⟩ xa1 ya1 xa1c ya1c W (hat.below hW) (hbt.below hW)).mono fun e w' h => (⟨h.1, h.2.below⟩ : _ ∧ Below W.heap.size W w')
                have cm3 := fun (W : World) (hW : Below wr.heap.size wr W) => (nm_Compare ⟨yk, yp, ya, (ylv, ylt), (yrv, yrt)⟩ ⟨xk, xp, xa, (xlv, xlt), (xrv, xrt)⟩ ya2 xa2 ya2c xa2c W (hdt.below hW) (hct.below hW)).mono fun e w' h => (⟨h.1, h.2.below⟩ : _ ∧ Below W.heap.size W w')
                have cm4 := fun (W : World) (hW : Below wr.heap.size wr W) => (rn_Compare ⟨yk, yp, ya, (ylv, ylt), (yrv, yrt)⟩ ⟨xk, xp, xa, (xlv, xlt), (xrv, xrt)⟩ ya1 xa1 ya1c xa1c W (hbt.below hW) (hat.below hW)).mono fun e w' h => (⟨h.1, h.2.below⟩ : _ ∧ Below W.heap.size W w')
                unfold litV at cm1 cm2 cm3 cm4
                dsimp only at cm1 cm2 cm3 cm4 ha1 ha2 ha3 ha4 ha5 ha6 ha7 hb1 hb2 hb3 hb4 hb5 hb6 hb7 hc1 hc2 hc3 hc4 hc5 hc6 hc7 hd1 hd2 hd3 hd4 hd5 hd6 hd7
                generalize cmpL ⟨xk, xp, xa, (xlv, xlt), (xrv, xrt)⟩ ⟨yk, yp, ya, (ylv, ylt), (yrv, yrt)⟩ = z1 at cm1 cm2
                generalize cmpL ⟨yk, yp, ya, (ylv, ylt), (yrv, yrt)⟩ ⟨xk, xp, xa, (xlv, xlt), (xrv, xrt)⟩ = z2 at cm3 cm4
                replace cm1 := reg_of cm1
                replace cm2 := reg_of cm2
                replace cm3 := reg_of cm3
                replace cm4 := reg_of cm4
                have ha1r := fun d os => cell_regrown ha1 d os
                have ha2r := fun d os => cell_regrown ha2 d os
                have ha3r := fun d os => cell_regrown ha3 d os
                have ha4r := fun d os => cell_regrown ha4 d os
                have ha5r := fun d os => cell_regrown ha5 d os
                have ha6r := fun d os => cell_regrown ha6 d os
                have ha7r := fun d os => cell_regrown ha7 d os
                have hb1r := fun d os => cell_regrown hb1 d os
                have hb2r := fun d os => cell_regrown hb2 d os
                have hb3r := fun d os => cell_regrown hb3 d os
                have hb4r := fun d os => cell_regrown hb4 d os
                have hb5r := fun d os => cell_regrown hb5 d os
                have hb6r := fun d os => cell_regrown hb6 d os
                have hb7r := fun d os => cell_regrown hb7 d os
                have hc1r := fun d os => cell_regrown hc1 d os
                have hc2r := fun d os => cell_regrown hc2 d os
                have hc3r := fun d os => cell_regrown hc3 d os
                have hc4r := fun d os => cell_regrown hc4 d os
                have hc5r := fun d os => cell_regrown hc5 d os
                have hc6r := fun d os => cell_regrown hc6 d os
                have hc7r := fun d os => cell_regrown hc7 d os
                have hd1r := fun d os => cell_regrown hd1 d os
                have hd2r := fun d os => cell_regrown hd2 d os
                have hd3r := fun d os => cell_regrown hd3 d os
                have hd4r := fun d os => cell_regrown hd4 d os
                have hd5r := fun d os => cell_regrown hd5 d os
                have hd6r := fun d os => cell_regrown hd6 d os
                have hd7r := fun d os => cell_regrown hd7 d os
                clear hat hbt hct hdt ha1 ha2 ha3 ha4 ha5 ha6 ha7 hb1 hb2 hb3 hb4 hb5 hb6 hb7 hc1 hc2 hc3 hc4 hc5 hc6 hc7 hd1 hd2 hd3 hd4 hd5 hd6 hd7
                have r0 := fun d os => cell_regrown d0 d os
                have r1 := fun d os => cell_regrown d1 d os
                have r2 := fun d os => cell_regrown d2 d os
                have r3 := fun d os => cell_regrown d3 d os
                have r4 := fun d os => cell_regrown d4 d os
                have r5 := fun d os => cell_regrown d5 d os
                have r6 := fun d os => cell_regrown d6 d os
                have r7 := fun d os => cell_regrown d7 d os
                have r8 := fun d os => cell_regrown d8 d os
                have r9 := fun d os => cell_regrown d9 d os
                have r10 := fun d os => cell_regrown d10 d os
                have r11 := fun d os => cell_regrown d11 d os
                go_upto_region 10 with fail
                refine wp_region_quiet_below (by kernel_rfl) (by kernel_rfl) ?_
                quiet_step (fail)
                quiet_step (fail)
                quiet_step (fail)
                quiet_step (fail)
                quiet_step (fail)
                quiet_step (fail)
                quiet_step (fail)
                quiet_step (fail)
                quiet_step (fail)
                quiet_step (fail)
                quiet_step (exact cm1 _ _)
                quiet_step (fail)
                quiet_step (fail)
                quiet_step (fail)
                quiet_step (fail)
                quiet_step (fail)
                quiet_step (fail)
                quiet_step (fail)
                quiet_step (fail)
                quiet_step (fail)
                quiet_step (fail)
                quiet_step (exact cm2 _ _)
                quiet_step (fail)
                quiet_step (fail)
                quiet_step (fail)
                quiet_step (fail)
                quiet_step (fail)
                quiet_step (fail)
                quiet_step (fail)
                quiet_step (fail)
                quiet_step (fail)
                quiet_step (fail)
                quiet_step (fail)
                quiet_step (fail)
                quiet_step (exact cm3 _ _)
                quiet_step (fail)
                quiet_step (fail)
                quiet_step (fail)
                quiet_step (fail)
                quiet_step (fail)
                quiet_step (fail)
                quiet_step (fail)
                quiet_step (fail)
                quiet_step (fail)
                quiet_step (fail)
                quiet_step (exact cm4 _ _)
                quiet_step (fail)
                quiet_step (fail)
                refine wpQuiet_nil ?_
                intro wj hw'
                obtain ⟨⟨dq, osq⟩, hw''⟩ := hw'
                have wjb := below_regrown wr dq osq
                rw [← hw''] at wjb
                clear hw'' dq osq
                have hbj : Hid (Below wc.heap.size wc wj) := Lib.hid (bl_al hbi.out wjb)
                clear wjb cm1 cm2 cm3 cm4 r0 r1 r2 r3 r4 r5 r6 r7 r8 r9 r10 r11 ha1r ha2r ha3r ha4r ha5r ha6r ha7r hb1r hb2r hb3r hb4r hb5r hb6r hb7r hc1r hc2r hc3r hc4r hc5r hc6r hc7r hd1r hd2r hd3r hd4r hd5r hd6r hd7r
                go_wp2
                go_roundw
                case rel => exact ⟨j + 1, by go_num, by omega, by omega, hbj⟩
                case measure => simp [intOf]; omega
              · have hp1 : (j : Int) < (b1.length : Int) := by omega
                have hp2 : ¬ (j : Int) < 30 := by omega
                go_wp2
                go_roundw
                case rel => exact ⟨i + 1, by go_num, by omega, by omega, hbi⟩
                case measure => simp [intOf]; omega
            · have hp1 : ¬ (j : Int) < (b1.length : Int) := by omega
              go_wp2
              go_roundw
              case rel => exact ⟨i + 1, by go_num, by omega, by omega, hbi⟩
              case measure => simp [intOf]; omega
        · have hq1 : (i : Int) < (b0.length : Int) := by omega
          have hq2 : ¬ (i : Int) < 30 := by omega
          go_wp2_with (first
            | (go_at_call 8; go_loud (refine (k8.out w2 h2b.out).mono ?_); rintro e w3 ⟨rfl, hb⟩; have h3b := Lib.hid (bl_al h2b.out hb); clear hb)
            | (have hg := h1b.out; clear hg; go_at_call 22; go_loud (refine (k7.out w1 h1b.out).mono ?_); rintro e w2 ⟨rfl, hb⟩; have h2b := Lib.hid (bl_al h1b.out hb); clear hb)
            | (go_at_call 22; go_loud (refine (k6.out wr hbr.out).mono ?_); rintro e w1 ⟨rfl, hb⟩; have h1b := Lib.hid (bl_al hbr.out hb); clear hb; obtain ⟨d0, d1, d2, d3, d4, d5, d6, d7, d8, d9, d10, d11⟩ := hbx.out _ h1b.out))
          go_ret
          exact ⟨rfl, hXb.out.trans (h3b.out.mono hXb.out.size)⟩
      · have hq1 : ¬ (i : Int) < (b0.length : Int) := by omega
        go_wp2_with (first
          | (go_at_call 8; go_loud (refine (k8.out w2 h2b.out).mono ?_); rintro e w3 ⟨rfl, hb⟩; have h3b := Lib.hid (bl_al h2b.out hb); clear hb)
          | (have hg := h1b.out; clear hg; go_at_call 22; go_loud (refine (k7.out w1 h1b.out).mono ?_); rintro e w2 ⟨rfl, hb⟩; have h2b := Lib.hid (bl_al h1b.out hb); clear hb)
          | (go_at_call 22; go_loud (refine (k6.out wr hbr.out).mono ?_); rintro e w1 ⟨rfl, hb⟩; have h1b := Lib.hid (bl_al hbr.out hb); clear hb; obtain ⟨d0, d1, d2, d3, d4, d5, d6, d7, d8, d9, d10, d11⟩ := hbx.out _ h1b.out))
        go_ret
        exact ⟨rfl, hXb.out.trans (h3b.out.mono hXb.out.size)⟩
end Go.Proofs.YtoklbofobcloaaaDoor.Big
