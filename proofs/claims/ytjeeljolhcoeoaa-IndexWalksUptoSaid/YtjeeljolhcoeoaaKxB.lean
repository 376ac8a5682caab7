/- IndexLies: what lies where; the first region. -/
import Derived.Test.YtjeeljolhcoeoaaKxA
import Derived.Test.YtjeeljolhcoeoaaIxH
import Derived.Deep.Cut
import Derived.Deep.RegionWith
import Derived.Deep.RegionHeld3
import Derived.BigRegion
import Derived.ControlIn
import Derived.BigQuiet
namespace Go.Proofs.Ytjeeljolhcoeoaa
open Go.RowKit Go.Shelf
attribute [local go_sem] Oper.semAt_some eql_fn_h eql_nn_h eql_fn_s eql_nn_s eql_fn_i eql_nn_i

def RL (s0 Bt hb sb b : Nat) : Prop := s0 + 2 ≤ b ∧ b ≠ Bt ∧ b ≠ hb ∧ b ≠ sb
/-- while keys are put and taken -/
structure OL (w0 w : World) (s0 Bt hb sb T P : Nat) (way : Int) (sz : Nat) (es : List Ent) (pl : Nat → Option Nat) (a1 a2 : Option Addr) (xs1 xs2 : List Int) : Prop where
  tt : TU (RL s0 Bt hb sb) w T P hb sb way sz es pl
  bW : Boxed w s0 3 (.int .i64 way)
  bR : Boxed w (s0 + 1) 4 (.bool false)
  bT : Boxed w Bt 43 (.pointer (some ⟨T, 0, none⟩))
  i1 : Ints .i64 w a1 xs1
  i2 : Ints .i64 w a2 xs2
  lo1 : ∀ ad, a1 = some ad → xs1 ≠ [] → ad.block < s0
  lo2 : ∀ ad, a2 = some ad → xs2 ≠ [] → ad.block < s0
  bel : Below s0 w0 w
  hs : s0 + 2 ≤ w.heap.size
  ord : s0 + 2 ≤ Bt ∧ s0 + 2 ≤ hb ∧ s0 + 2 ≤ sb
section
variable {w0 w w' : World} {s0 Bt hb sb T P P' : Nat} {way : Int} {sz sz' : Nat} {es es' : List Ent} {pl pl' : Nat → Option Nat} {a1 a2 : Option Addr} {xs1 xs2 : List Int}
theorem OL.below (h : OL w0 w s0 Bt hb sb T P way sz es pl a1 a2 xs1 xs2) (hb2 : Below w.heap.size w w') : OL w0 w' s0 Bt hb sb T P way sz es pl a1 a2 xs1 xs2 :=
  ⟨h.tt.below hb2, bx_below h.bW hb2, bx_below h.bR hb2, bx_below h.bT hb2, h.i1.below hb2, h.i2.below hb2, h.lo1, h.lo2, h.bel.trans (hb2.mono (by have := h.hs; omega)), Nat.le_trans h.hs hb2.size, h.ord⟩
theorem OL.kept (h : OL w0 w s0 Bt hb sb T P way sz es pl a1 a2 xs1 xs2) (hk : KeptR (RL s0 Bt hb sb) w w') (ht : TU (RL s0 Bt hb sb) w' T P' hb sb way sz' es' pl') : OL w0 w' s0 Bt hb sb T P' way sz' es' pl' a1 a2 xs1 xs2 := by
  refine ⟨ht, bx_kept h.bW hk ?_, bx_kept h.bR hk ?_, bx_kept h.bT hk ?_, h.i1.keptR hk ?_, h.i2.keptR hk ?_, h.lo1, h.lo2, keptR_belowK h.bel hk ?_ (by have := h.hs; omega), Nat.le_trans h.hs hk.size, h.ord⟩
  · unfold RL; omega
  · unfold RL; omega
  · unfold RL; omega
  · intro ad e hne; have := h.lo1 ad e hne; unfold RL; omega
  · intro ad e hne; have := h.lo2 ad e hne; unfold RL; omega
  · intro b hb; unfold RL at hb; omega
theorem OL.new (h : OL w0 w s0 Bt hb sb T P way sz es pl a1 a2 xs1 xs2) : ∀ b, w.heap.size ≤ b → RL s0 Bt hb sb b := fun b hb2 => by
  have h1 := h.hs
  have h2 := h.bT.lt
  have h3 := h.tt.ts.tab.hH.lt
  have h4 := h.tt.ts.tab.hS.lt
  unfold RL; omega
end

/-- nothing old has turned -/
def Gr (X Y : World) : Prop := Below X.heap.size X Y
theorem Gr.refl (X : World) : Gr X X := Below.refl _ _
theorem Gr.trans {X Y Z : World} (h : Gr X Y) (g : Gr Y Z) : Gr X Z := Below.trans h (Below.mono g (Below.size h))
theorem Gr.al {X Y : World} (h : Gr X Y) (o : Obj) : Gr X (Y.alloc o) := Below.al h o
theorem Gr.drew {X Y : World} (h : Gr X Y) : Gr X Y.drew := below_drewN h 1
theorem Gr.set {X Y : World} (h : Gr X Y) (b : Nat) (u : Value) (hb : X.heap.size ≤ b) : Gr X (Y.setCell ⟨b, 0, none⟩ u) := Below.setCell (p := ⟨b, 0, none⟩) h hb u
theorem ko_gr {A B : World} (h : Gr A B) : KeepsOthers A B := ⟨Below.size h, fun j _ e _ => (Below.block h j (Array.getElem?_eq_some_iff.1 e).1).trans e⟩
theorem bx_gr {X Y : World} {b : Nat} {t : TypeId} {v : Value} (h : Boxed X b t v) (g : Gr X Y) : Boxed Y b t v := bx_below h g
theorem wpIn_region_noPanic {F : Fence} {n : Nat} {P : Program} {id : Nat} {ops : Array Oper} {b : Bool} {Q : Exit → Act → World → Prop} {a : Act} {w : World} (h : (Code.region id ops b).wpIn F n P (NoPanic Q) a w) : (Code.region id ops b).wpIn F n P Q a w :=
  wpIn_mono h NoPanic.imp
/-! ### a region that draws its order, in a round: walked by the plain rules -/
/-- the post that knows of a plain end alone -/
def NP (Q : Exit → Act → World → Prop) : Exit → Act → World → Prop
  | .normal, a, w => Q .normal a w
  | _, _, _ => False
theorem NP.normal {Q : Exit → Act → World → Prop} {a : Act} {w : World} (h : Q .normal a w) : NP Q .normal a w := h
theorem np_out {Q : Exit → Act → World → Prop} : ¬ LetsOut (NP Q) := fun ⟨_, _, h⟩ => h
theorem op_np {P : Program} {l0 n : Nat} {o : Oper} {a : Act} {w : World} {K K' : Act → World → Prop} {Q : Exit → Act → World → Prop} (hdf : ∀ c, o.op ≠ .defer c) (hK : ∀ a w, K a w → K' a w) (h : o.wp P a w K (NP Q)) :
    o.wpIn (Fence.wide.inRound l0) n P a w K' Q := by
  refine ⟨fun _ _ => trivial, ?_⟩
  rw [Fence.inRound_round, Oper.semAt_some l0 _ _ hdf]
  unfold Oper.wp at h
  generalize (execOp a.eval o).run P w = r at h
  cases r with
  | ok nx w' =>
    cases nx with
    | value v => exact hK _ _ h
    | skip => exact hK _ _ h
    | defer d => exact hK _ _ h
    | enter f args =>
      refine ⟨fun h => (by cases h), CallsIn.inRound l0 (callsIn_wide.2 ?_)⟩
      refine Calls.mono h ?_
      intro e w'' he
      cases e with
      | returned v => exact hK _ _ he
      | panicked ch => exact False.elim he
      | outgrown => exact absurd he np_out
    | row row args => exact ⟨fun h => (by cases h), rows_round (Rows.mono h fun v w'' he => hK _ _ he)⟩
    | round l f tmps assign body => exact absurd h (by intro h; exact h)
    | _ => exact absurd h (by intro h; exact h)
  | halt x w' =>
    cases x with
    | panic v => exact False.elim h
    | _ => exact absurd h (by intro h; exact h)
theorem ops_np {P : Program} {l0 n : Nat} {ops : Array Oper} {Q : Exit → Act → World → Prop} (hdf : ∀ (i : Nat) (o : Oper), ops[i]? = some o → ∀ c, o.op ≠ .defer c) :
    ∀ (l : List Nat) (a : Act) (w : World), wpOps P ops (NP Q) l a w → wpOpsIn (Fence.wide.inRound l0) n P ops Q l a w
  | [], _, _, h => h
  | i :: rest, a, w, h => by
    unfold wpOps at h
    unfold wpOpsIn
    cases ho : ops[i]? with
    | none => simp only [ho] at h ⊢; exact ops_np hdf rest a w h
    | some o =>
      simp only [ho] at h ⊢
      split
      · rename_i hw
        rw [if_pos hw] at h
        rcases h with h | ⟨_, h⟩
        · exact op_np (hdf i o ho) (fun a w => ops_np hdf rest a w) h
        · exact absurd h np_out
      · rename_i hw
        rw [if_neg hw] at h
        exact ⟨fun _ _ => trivial, ops_np hdf rest _ w h⟩
theorem region_round {P : Program} {l0 n id : Nat} {Q : Exit → Act → World → Prop} {a : Act} {w : World} {ops : Array Oper} (hm : P.follows .mixedOrders = true) (hd : noDefer ops.toList = true)
    (h : wpAny P .any ops (NP Q) ops.size (Array.replicate ops.size false) a w.drew) : (Code.region id ops true).wpIn (Fence.wide.inRound l0) n P Q a w := by
  refine wpIn_region_draw fun t => ?_
  refine ops_np ?_ _ _ _ ?_
  · intro i o ho c he
    have hmem : o ∈ ops.toList := by
      have h1 : ops.toList[i]? = some o := by simpa using ho
      exact List.mem_of_getElem? h1
    have := List.all_eq_true.1 hd o hmem
    rw [he] at this
    cases this
  · simp only [Region.schedule, hm, Bool.true_or, if_true]
    exact wpAny_sound _ t _ a _ h

theorem ix_hashesB (way : Int) (w : World) : Calls Try.prog 18 #[.int .i64 way] w fun e w' => ∃ b, e = .returned (hashV b) ∧ w.heap.size ≤ b ∧ Boxed w' b 3 (.int .i64 way) ∧ Gr w w' := by
  refine (ix_hashes way w).mono ?_
  rintro e w' ⟨rfl, rfl⟩
  exact ⟨_, rfl, Nat.le_refl _, Boxed.new _ _ _, (Gr.refl _).al _⟩
theorem ix_hashesC (way : Int) (w : World) : Calls Try.prog 18 #[.int .i64 way] w fun e w' => ∃ b, e = .returned (.func (.func 42) #[] #[.pointer (some ⟨b, 0, none⟩)]) ∧ Boxed w' b 3 (.int .i64 way) ∧ Gr w w' := by
  refine (ix_hashes way w).mono ?_
  rintro e w' ⟨rfl, rfl⟩
  exact ⟨_, rfl, Boxed.new _ _ _, (Gr.refl _).al _⟩
theorem ix_samesB (way : Int) (w : World) : Calls Try.prog 19 #[.int .i64 way] w fun e w' => ∃ b, e = .returned (sameV b) ∧ w.heap.size ≤ b ∧ Boxed w' b 3 (.int .i64 way) ∧ Gr w w' := by
  refine (ix_sames way w).mono ?_
  rintro e w' ⟨rfl, rfl⟩
  exact ⟨_, rfl, Nat.le_refl _, Boxed.new _ _ _, (Gr.refl _).al _⟩
theorem box_tab {w : World} {B T P hb sb : Nat} {way : Int} {sz : Nat} {es : List Ent} {pl : Nat → Option Nat} {v : Value} (h : Tab w T P hb sb way sz es pl) (hB : Boxed w B 43 v) : B ≠ T ∧ B ≠ P ∧ B ≠ hb ∧ B ≠ sb := by
  unfold Boxed at hB
  refine ⟨?_, ?_, ?_, ?_⟩
  · rintro rfl; rw [h.hT] at hB; injection hB with hB; injection hB with _ hB _; exact absurd hB (by decide)
  · rintro rfl; rw [h.hP] at hB; injection hB with hB; injection hB with _ hB _; exact absurd hB (by decide)
  · rintro rfl; rw [show w.heap[B]? = _ from h.hH] at hB; injection hB with hB; injection hB with _ hB _; exact absurd hB (by decide)
  · rintro rfl; rw [show w.heap[B]? = _ from h.hS] at hB; injection hB with hB; injection hB with _ hB _; exact absurd hB (by decide)
theorem tab_int {w : World} {B T P hb sb : Nat} {way : Int} {sz : Nat} {es : List Ent} {pl : Nat → Option Nat} {v : Value} (h : Tab w T P hb sb way sz es pl) (hB : Boxed w B 3 v) : T ≠ B ∧ P ≠ B := by
  unfold Boxed at hB
  refine ⟨?_, ?_⟩
  · rintro rfl; rw [h.hT] at hB; injection hB with hB; injection hB with _ hB _; exact absurd hB (by decide)
  · rintro rfl; rw [h.hP] at hB; injection hB with hB; injection hB with _ hB _; exact absurd hB (by decide)
theorem OL.start {w0 W0 W : World} {hb sb T P Bt : Nat} {way : Int} {a1 a2 : Option Addr} {xs1 xs2 : List Int} (hb0 : Below w0.heap.size w0 W0) (hs0 : W0.heap.size = w0.heap.size + 2) (bW : Boxed W0 w0.heap.size 3 (.int .i64 way)) (bR : Boxed W0 (w0.heap.size + 1) 4 (.bool false)) (hx1 : Ints .i64 w0 a1 xs1) (hx2 : Ints .i64 w0 a2 xs2)
    (g : Gr W0 W) (gh : W0.heap.size ≤ hb) (gs : W0.heap.size ≤ sb) (gT : W0.heap.size ≤ T) (gP : W0.heap.size ≤ P) (gB : W0.heap.size ≤ Bt) (tt : Tab W T P hb sb way 8 [] (fun _ => none)) (bT : Boxed W Bt 43 (.pointer (some ⟨T, 0, none⟩))) : OL w0 W w0.heap.size Bt hb sb T P way 8 [] (fun _ => none) a1 a2 xs1 xs2 := by
  obtain ⟨n1, n2, n3, n4⟩ := box_tab tt bT
  obtain ⟨n5, n6⟩ := tab_int tt tt.hH
  obtain ⟨n7, n8⟩ := tab_int tt tt.hS
  have hb1 : Below w0.heap.size w0 W := hb0.trans (Below.mono g (by omega))
  exact ⟨⟨⟨tt, Can.nil 8, fun i _ hi => by simp at hi, by simp, 0, rfl⟩, ⟨by omega, Ne.symm n1, n5, n7⟩, ⟨by omega, Ne.symm n2, n6, n8⟩, fun e he => by cases he⟩, bx_gr bW g, bx_gr bR g, bT, hx1.below hb1, hx2.below hb1, hx1.lo, hx2.lo, hb1, by have := Below.size g; omega, by omega, by omega, by omega⟩

theorem tab_kept {R : Nat → Prop} {w w' : World} {T P hb sb : Nat} {way : Int} {sz : Nat} {pl : Nat → Option Nat} (h : Tab w T P hb sb way sz [] pl) (hk : KeptR R w w') (hT : ¬ R T) (hP : ¬ R P) (hh : ¬ R hb) (hs : ¬ R sb) : Tab w' T P hb sb way sz [] pl :=
  ⟨(hk.block _ (Array.getElem?_eq_some_iff.1 h.hT).1 hT).trans h.hT, (hk.block _ (Array.getElem?_eq_some_iff.1 h.hP).1 hP).trans h.hP, bx_kept h.hH hk hh, bx_kept h.hS hk hs, fun i hi => by simp at hi, h.hpl, h.hsz, h.hN, h.hh⟩
theorem OL.fin {w0 W0 X : World} {hb sb T P Bt : Nat} {way : Int} {a1 a2 : Option Addr} {xs1 xs2 : List Int} {v : Value} (hb0 : Below w0.heap.size w0 W0) (hs0 : W0.heap.size = w0.heap.size + 2) (bW : Boxed W0 w0.heap.size 3 (.int .i64 way)) (bR : Boxed W0 (w0.heap.size + 1) 4 (.bool false)) (hx1 : Ints .i64 w0 a1 xs1) (hx2 : Ints .i64 w0 a2 xs2)
    (g : Gr W0 X) (gh : W0.heap.size ≤ hb) (gs : W0.heap.size ≤ sb) (gT : W0.heap.size ≤ T) (gP : W0.heap.size ≤ P) (gB : W0.heap.size ≤ Bt) (tt : Tab X T P hb sb way 8 [] (fun _ => none)) (bA : Boxed X Bt 43 v) :
    OL w0 (X.setCell ⟨Bt, 0, none⟩ (.pointer (some ⟨T, 0, none⟩))) w0.heap.size Bt hb sb T P way 8 [] (fun _ => none) a1 a2 xs1 xs2 := by
  obtain ⟨n1, n2, n3, n4⟩ := box_tab tt bA
  exact OL.start hb0 hs0 bW bR hx1 hx2 (g.set _ _ gB) gh gs gT gP gB (tab_kept (R := fun b => b = Bt) tt ((KeptR.refl _ X).set (.inl rfl)) (Ne.symm n1) (Ne.symm n2) (Ne.symm n3) (Ne.symm n4)) (bA.set _)

theorem tu_put2 {w : World} {T P hb sb : Nat} {way : Int} {sz : Nat} {es : List Ent} {pl : Nat → Option Nat} {R : Nat → Prop} (h : TU R w T P hb sb way sz es pl) (hR : ∀ b, w.heap.size ≤ b → R b) (key value : Int) (hbig : es.length ≤ 13194139533312) :
    Calls Try.prog 20 #[.pointer (some ⟨T, 0, none⟩), .int .i64 key, .int .i64 value] w fun e w' =>
      (∃ x1 x2 x3, e = .returned (.tuple #[.int .i64 x1, .bool x2, .int .i64 x3])) ∧ ∃ P' sz' es' pl', TU R w' T P' hb sb way sz' es' pl' ∧ KeptR R w w' ∧ es'.length ≤ es.length + 1 ∧ (sz' = sz ∨ 3 * sz' < 8 * (es.length + 1)) := by
  refine (tu_put h hR key value hbig).mono ?_
  rintro e w' (⟨i, hi, hm, rfl, h1, h2, _, _, _⟩ | ⟨hno, rfl, b, P', pl', hb2, h1, h2, _, _, _⟩)
  · exact ⟨⟨_, _, _, rfl⟩, _, _, _, _, h1, h2, by rw [List.length_set]; omega, .inl rfl⟩
  · refine ⟨⟨_, _, _, rfl⟩, _, _, _, _, h1, h2, by rw [List.length_append]; simp, ?_⟩
    split <;> omega

theorem pow_and {sz : Nat} (h : ∃ n, sz = 8 * 2 ^ n) (hz : sz ≤ 4194304) : bits .and .i64 (sz : Int) ((sz : Int) - 1) = 0 := by
  obtain ⟨n, rfl⟩ := h
  have h1 : (8 * 2 ^ n : Nat) = 2 ^ (n + 3) := by rw [Nat.pow_add]; omega
  rw [h1] at hz ⊢
  have h2 : 0 < 2 ^ (n + 3) := Nat.pow_pos (by decide)
  have h3 : ((2 ^ (n + 3) : Nat) : Int) - 1 = ((2 ^ (n + 3) - 1 : Nat) : Int) := by omega
  rw [h3]
  show IntKind.i64.wrap ((BitVec.ofInt 64 ((2 ^ (n + 3) : Nat) : Int) &&& BitVec.ofInt 64 ((2 ^ (n + 3) - 1 : Nat) : Int)).toNat : Int) = 0
  rw [BitVec.toNat_and, BitVec.ofInt_natCast, BitVec.ofInt_natCast, BitVec.toNat_ofNat, BitVec.toNat_ofNat, Nat.mod_eq_of_lt (by omega), Nat.mod_eq_of_lt (by omega), Nat.and_two_pow_sub_one_eq_mod, Nat.mod_self]
  rfl

/-! ### the second part: what the walks over the layout write -/
theorem infoBool : (Try.prog.info? 4).map (fun i => (i.zero, i.size, i.bytes)) = some (some (.bool false), 1, 1) := by kernel_rfl
theorem made_bools (n : Nat) : (madeCells (Value.bool false).cells (n * 1)).toList = (List.replicate n false).map Value.bool := by
  rw [show (Value.bool false).cells = #[Value.bool false] from rfl, Nat.mul_one, toList_madeCells_one, List.map_replicate]
structure IL (V W : World) (T Bf F Bl Bn sz n : Nat) (fl : List Bool) : Prop where
  bel : Gr V W
  bF : Boxed W Bf 23 (.slice (some ⟨F, 0, none⟩) sz sz)
  bL : Boxed W Bl 43 (.pointer (some ⟨T, 0, none⟩))
  bN : Boxed W Bn 3 (.int .i64 n)
  row : W.ownsRow V.heap.size 4 1 (.slice (some ⟨F, 0, none⟩) sz sz) sz (fl.map Value.bool)
  ord : V.heap.size ≤ Bf ∧ V.heap.size ≤ Bl ∧ V.heap.size ≤ Bn ∧ V.heap.size ≤ F
section
variable {V W W' : World} {T Bf F Bl Bn sz n : Nat} {fl : List Bool}
theorem IL.below (h : IL V W T Bf F Bl Bn sz n fl) (hb : Gr W W') : IL V W' T Bf F Bl Bn sz n fl :=
  ⟨h.bel.trans hb, bx_gr h.bF hb, bx_gr h.bL hb, bx_gr h.bN hb, own_below h.row hb, h.ord⟩
theorem IL.own {A B : World} {row : Option Nat} {m : Nat} (h : IL V A T Bf F Bl Bn sz n fl) (hn : V.heap.size ≤ m) (hg : A.grownBy B row) (hr : ∀ r, row = some r → m ≤ r ∧ ∃ o : Obj, A.heap[r]? = some o ∧ o.isCells = false) : IL V B T Bf F Bl Bn sz n fl := by
  have hr2 := fun r e => (hr r e).2
  exact ⟨Below.grown h.bel hg (Below.size h.bel) (fun k e => Nat.le_trans hn (hr k e).1), bx_own h.bF hg hr2, bx_own h.bL hg hr2, bx_own h.bN hg hr2, own_cells h.row hg hr2, h.ord⟩
theorem box_ne {W : World} {A B : Nat} {t u : TypeId} {v x : Value} (h : Boxed W A t v) (g : Boxed W B u x) (htu : t ≠ u) : A ≠ B := by
  rintro rfl
  unfold Boxed at h g
  rw [h] at g
  injection g with g
  injection g with _ g _
  exact htu g
theorem IL.fne (h : IL V W T Bf F Bl Bn sz n fl) : Bf ≠ F ∧ Bl ≠ F ∧ Bn ≠ F := by
  refine ⟨fun e => ?_, fun e => ?_, fun e => ?_⟩
  · exact (h.bF.not_row (by decide) h.row) (by rw [e]; rfl)
  · exact (h.bL.not_row (by decide) h.row) (by rw [e]; rfl)
  · exact (h.bN.not_row (by decide) h.row) (by rw [e]; rfl)
theorem IL.setN (h : IL V W T Bf F Bl Bn sz n fl) (m : Nat) : IL V (W.setCell ⟨Bn, 0, none⟩ (.int .i64 m)) T Bf F Bl Bn sz m fl := by
  obtain ⟨f1, f2, f3⟩ := h.fne
  exact ⟨h.bel.set _ _ h.ord.2.2.1, h.bF.other (box_ne h.bF h.bN (by decide)) _, h.bL.other (box_ne h.bL h.bN (by decide)) _, h.bN.set _, own_setOther h.row (by intro e; injection e with e; exact f3 e.symm), h.ord⟩
theorem gr_cell {X Y : World} (h : Gr X Y) (b i : Nat) (u : Value) (hb : X.heap.size ≤ b) : Gr X (Y.setCell ⟨b, i, none⟩ u) := Below.setCell (p := ⟨b, i, none⟩) h hb u
theorem IL.setF (h : IL V W T Bf F Bl Bn sz n fl) (j : Nat) (b : Bool) : IL V (W.setCell ⟨F, j, none⟩ (.bool b)) T Bf F Bl Bn sz n (fl.set j b) := by
  obtain ⟨f1, f2, f3⟩ := h.fne
  refine ⟨gr_cell h.bel _ _ _ h.ord.2.2.2, ?_, ?_, ?_, by rw [List.map_set]; exact own_putI h.row, h.ord⟩
  · unfold Boxed; rw [heap_setCell_other _ _ _ _ f1]; exact h.bF
  · unfold Boxed; rw [heap_setCell_other _ _ _ _ f2]; exact h.bL
  · unfold Boxed; rw [heap_setCell_other _ _ _ _ f3]; exact h.bN
theorem IL.cell (h : IL V W T Bf F Bl Bn sz n fl) {j : Nat} {b : Bool} (hj : fl[j]? = some b) : W.cell? ⟨F, j, none⟩ = some (.bool b) := by
  have := h.row.cells (g := F) rfl j (Value.bool b) (by rw [List.getElem?_map, hj]; rfl)
  simpa [addr_add] using this
theorem IL.frow (h : IL V W T Bf F Bl Bn sz n fl) : ∃ c fr, W.heap[F]? = some (.cells c 4 fr) := by
  rcases h.row.2 with ⟨hv, _⟩ | ⟨g, cap, cur, hv, hg1, hh, _⟩
  · cases hv
  · injection hv with hv _ _; injection hv with hv; injection hv with hv _ _; subst hv
    exact ⟨_, _, hh⟩
theorem KeptR.setI {B : Nat → Prop} {w w1 : World} {g i : Nat} {u : Value} (h : KeptR B w w1) (hg : B g) : KeptR B w (w1.setCell ⟨g, i, none⟩ u) := h.set (.inl hg)
/-- what a turn of the first walk keeps -/
theorem IL.kpl {es : List Ent} (h : IL V W T Bf F Bl Bn sz n fl) (hk : KeptR (fun b => b = F ∨ b = Bn) W W') (hT : T < V.heap.size) (hE : ∀ e, e ∈ es → e.b < V.heap.size) : KpL T es W W' := by
  refine kpl_of (R := fun b => b = F ∨ b = Bn) (B1 := V.heap.size) hT hE ⟨hk.os, hk.tape, hk.output, hk.size, fun b hb => ?_⟩ hk ?_
  · refine hk.block b (Nat.lt_of_lt_of_le hb (Below.size h.bel)) ?_
    obtain ⟨o1, o2, o3, o4⟩ := h.ord
    rintro (rfl | rfl) <;> omega
  · rintro b (rfl | rfl)
    · obtain ⟨c, fr, e⟩ := h.frow
      exact ⟨_, _, _, e, by decide⟩
    · exact ⟨_, _, _, h.bN, by decide⟩
end

end Go.Proofs.Ytjeeljolhcoeoaa
