/- Index: Take, walked. -/
import Derived.Test.YtjeeljolhcoeoaaSxY
namespace Go.Proofs.Ytjeeljolhcoeoaa.Str
open Go.RowKit
attribute [local go_sem] eql_fn_h eql_nn_h eql_fn_s eql_nn_s eql_fn_i eql_nn_i

theorem kr_trans {B : Nat → Prop} {w w1 w2 : World} (h : KeptR B w w1) (h2 : KeptR B w1 w2) : KeptR B w w2 :=
  ⟨h2.os.trans h.os, h2.tape.trans h.tape, h2.output.trans h.output, Nat.le_trans h.size h2.size, fun b hb hn => (h2.block b (Nat.lt_of_lt_of_le hb h.size) hn).trans (h.block b hb hn)⟩
theorem kr_mono {B B' : Nat → Prop} {w w1 : World} (h : KeptR B w w1) (hm : ∀ b, B b → B' b) : KeptR B' w w1 :=
  ⟨h.os, h.tape, h.output, h.size, fun b hb hn => h.block b hb (fun hB => hn (hm b hB))⟩
theorem set_cellO {w : World} {g i b j : Nat} {v : Value} (h : ¬ (b = g ∧ j = i)) : (w.setCell ⟨g, i, none⟩ v).cell? ⟨b, j, none⟩ = w.cell? ⟨b, j, none⟩ :=
  World.cell?_setCell_other (w := w) (a := ⟨g, i, none⟩) (b := ⟨b, j, none⟩) (v := v) (h := by intro e; injection e with e1 e2; exact h ⟨e1.symm, e2.symm⟩)
theorem ul_cell (T : Nat) (pv nx : Option Nat) (w : World) (b j : Nat) (h3 : j ≠ 3) (h4 : j ≠ 4) : (ulB T pv nx (ulF T pv nx w)).cell? ⟨b, j, none⟩ = w.cell? ⟨b, j, none⟩ := by
  have hF : (ulF T pv nx w).cell? ⟨b, j, none⟩ = w.cell? ⟨b, j, none⟩ := by
    cases pv <;> (unfold ulF; exact set_cellO (by omega))
  cases nx <;> (unfold ulB; exact (set_cellO (by omega)).trans hF)
theorem ul_heap (T : Nat) (pv nx : Option Nat) (w : World) (b : Nat) (h1 : b ≠ T) (h2 : pv ≠ some b) (h3 : nx ≠ some b) : (ulB T pv nx (ulF T pv nx w)).heap[b]? = w.heap[b]? := by
  have hF : (ulF T pv nx w).heap[b]? = w.heap[b]? := by
    cases pv with
    | none => exact set_ne _ h1
    | some p => exact set_ne _ (fun e => h2 (by rw [e]))
  cases nx with
  | none => exact (set_ne _ h1).trans hF
  | some p => exact (set_ne _ (fun e => h3 (by rw [e]))).trans hF
theorem ul_frozen (T : Nat) (pv nx : Option Nat) (w : World) (a : Addr) : (ulB T pv nx (ulF T pv nx w)).frozen? a = w.frozen? a := by
  cases pv <;> cases nx <;> simp [ulF, ulB]
theorem ul_kept {B : Nat → Prop} {w w1 : World} {T : Nat} {pv nx : Option Nat} (h : KeptR B w w1) (hT : B T) (hp : ∀ b, pv = some b → B b) (hn : ∀ b, nx = some b → B b) : KeptR B w (ulB T pv nx (ulF T pv nx w1)) := by
  have hF : KeptR B w (ulF T pv nx w1) := by
    cases pv with
    | none => exact h.set (.inl hT)
    | some p => exact h.set (.inl (hp p rfl))
  cases nx with
  | none => exact hF.set (.inl hT)
  | some p => exact hF.set (.inl (hn p rfl))

section
variable {w : World} {T P hb sb : Nat} {way : Int} {sz : Nat} {es : List Ent} {pl : Nat → Option Nat}
theorem prevs {ie b : Nat} (hie : ie < es.length) (hb2 : prevB es ie = some b) : ∃ k, ∃ hk : k < es.length, es[k].b = b ∧ k + 1 = ie := by
  by_cases h0 : ie = 0
  · rw [h0] at hb2; cases hb2
  · rw [prev_at (by omega) (by omega)] at hb2
    injection hb2 with hb2
    exact ⟨ie - 1, by omega, hb2, by omega⟩
theorem nexts {ie b : Nat} (hb2 : nextB es ie = some b) : ∃ k, ∃ hk : k < es.length, es[k].b = b ∧ k = ie + 1 := by
  rcases Nat.lt_or_ge (ie + 1) es.length with h1 | h1
  · rw [next_at h1] at hb2
    injection hb2 with hb2
    exact ⟨ie + 1, h1, hb2, rfl⟩
  · rw [next_end h1] at hb2; cases hb2

set_option maxRecDepth 100000 in
set_option maxHeartbeats 4000000 in
theorem ix_take_hit (h : Tab w T P hb sb way sz es pl) (hc : Can sz es pl) (key : ByteArray) {ie at_ seen : Nat} (hie : ie < es.length) (hfree : ∃ q, q < sz ∧ pl q = none) (hR : fnd pl (mtch es way key (hashF way key)) sz sz (homeN (hashF way key) sz) 1 = (at_, seen, true))
    (hlt : at_ < sz) (hat : pl at_ = some es[ie].b) (hlen : es.length ≤ 35184372088832) :
    Calls Try.prog 12 #[.pointer (some ⟨T, 0, none⟩), .string key] w fun e w' => e = .returned (.tuple #[.slice es[ie].val.a es[ie].val.n es[ie].val.c, .bool true]) ∧
      ∃ pl', Tab w' T P hb sb way sz (es.eraseIdx ie) pl' ∧ Can sz (es.eraseIdx ie) pl' ∧ KeptR (tabB T P (es.eraseIdx ie)) w w' := by
  have t0 := h.t0
  unfold hashV at t0
  have ch := Lib.hid (ix_hash way key w)
  have hr := hashF_range way key
  have cf := Lib.hid (ix_find h key (hashF way key) hr.1 hr.2 hfree hR)
  clear hR
  go_enter Try.func12, Try.ntmps12
  go_upto_region 5 with (first
    | (go_at_call 36; refine (ix_none h).mono ?_; rintro e w' ⟨rfl, rfl⟩)
    | (go_at_call 10; refine ch.out.mono ?_; rintro e w' ⟨rfl, rfl⟩)
    | (go_at_call 37; refine cf.out.mono ?_; rintro e wq ⟨rfl, hd⟩))
  have hq := h.below (hd.below _)
  have hkq : KeptR (tabB T P (es.eraseIdx ie)) w wq := by obtain ⟨n, rfl⟩ := hd; exact (KeptR.refl _ w).drewN n
  clear ch cf t0 hd
  have t2 := hq.t2
  have cp := hq.place at_ hlt
  rw [hat] at cp
  change wq.cell? _ = some (Value.pointer (some ⟨es[ie].b, 0, none⟩)) at cp
  have c3 : wq.cell? ⟨es[ie].b, 3, none⟩ = some (.pointer (ptr (prevB es ie))) := cell_of_row _ _ _ _ _ _ (hq.hE ie hie)
  have c4 : wq.cell? ⟨es[ie].b, 4, none⟩ = some (.pointer (ptr (nextB es ie))) := cell_of_row _ _ _ _ _ _ (hq.hE ie hie)
  have c1 := hq.e1 ie hie
  have t5 := hq.t5
  have heT := hq.neTE ie hie
  have heP := hq.nePE ie hie
  have hul := Lib.hid (ix_unlink c3 c4 hq.hT rfl heT
    (fun b hb2 => by
      obtain ⟨k, hk, rfl, hki⟩ := prevs hie hb2
      refine ⟨fun e => by have := hq.nd k ie hk hie e; omega, hq.neTE k hk, fun e => ?_, _, hq.hE k hk, rfl⟩
      obtain ⟨k2, hk2, e2, hki2⟩ := nexts e
      have := hq.nd k2 k hk2 hk e2
      omega)
    (fun b hb2 => by
      obtain ⟨k, hk, rfl, hki⟩ := nexts hb2
      refine ⟨fun e => by have := hq.nd k ie hk hie e; omega, hq.neTE k hk, fun e => ?_, _, hq.hE k hk, rfl⟩
      obtain ⟨k2, hk2, e2, hki2⟩ := prevs hie e
      have := hq.nd k2 k hk2 hk e2
      omega))
  have hpv : ∀ b, prevB es ie = some b → tabB T P (es.eraseIdx ie) b := fun b hb2 => by
    obtain ⟨k, hk, e, _⟩ := prevs hie hb2
    exact .inr (.inr ⟨es[k], List.mem_eraseIdx_iff_getElem.2 ⟨k, hk, by omega, rfl⟩, e⟩)
  have hnx : ∀ b, nextB es ie = some b → tabB T P (es.eraseIdx ie) b := fun b hb2 => by
    obtain ⟨k, hk, e, _⟩ := nexts hb2
    exact .inr (.inr ⟨es[k], List.mem_eraseIdx_iff_getElem.2 ⟨k, hk, by omega, rfl⟩, e⟩)
  have hPv : prevB es ie ≠ some P := fun e => by obtain ⟨k, hk, e2, _⟩ := prevs hie e; exact hq.nePE k hk e2
  have hPx : nextB es ie ≠ some P := fun e => by obtain ⟨k, hk, e2, _⟩ := nexts e; exact hq.nePE k hk e2
  obtain ⟨EB, hEB⟩ : ∃ EB, es[ie].b = EB := ⟨_, rfl⟩
  obtain ⟨EV, hEV⟩ : ∃ EV, es[ie].val = EV := ⟨_, rfl⟩
  rw [hEV] at c1
  replace hEV := Lib.hid hEV
  rw [hEB] at cp c3 c4 c1 heT heP hul
  have wl : IntKind.i64.wrap ((es.length : Int) - 1) = (es.length : Int) - 1 := IntWalk.i64_in _ (by omega)
  go_wp2_with fail
  refine hul.out.mono ?_
  rintro e w2 ⟨rfl, n, hw2⟩
  -- the world behind unlink
  obtain ⟨U, hU⟩ : ∃ U, U = ulB T (prevB es ie) (nextB es ie) (ulF T (prevB es ie) (nextB es ie) wq) := ⟨_, rfl⟩
  rw [← hU] at hw2
  have uE := Lib.hid fun k (hk : k < (es.eraseIdx ie).length) => ul_ents hq hie hk
  have uT := Lib.hid (ul_tab hq hie)
  have uC := Lib.hid fun b j h3 h4 => ul_cell T (prevB es ie) (nextB es ie) wq b j h3 h4
  have uH := Lib.hid fun b h1 h2 h3 => ul_heap T (prevB es ie) (nextB es ie) wq b h1 h2 h3
  have uF := Lib.hid fun a => ul_frozen T (prevB es ie) (nextB es ie) wq a
  have uK := Lib.hid (ul_kept hkq (.inl rfl) hpv hnx)
  rw [← hU] at uE uT uC uH uF uK
  have kU : KeptR (tabB T P (es.eraseIdx ie)) w w2 := by rw [hw2]; exact uK.out.drewN n
  have d2 : w2.cell? ⟨T, 2, none⟩ = some (.slice (some ⟨P, 0, none⟩) sz sz) := by rw [hw2]; exact (uC.out T 2 (by decide) (by decide)).trans t2
  have d5 : w2.cell? ⟨T, 5, none⟩ = some (.int .i64 es.length) := by rw [hw2]; exact (uC.out T 5 (by decide) (by decide)).trans t5
  have f5 : w2.frozen? ⟨T, 5, none⟩ = false := by rw [hw2]; exact (uF.out _).trans (frozen_of hq.hT 5)
  have dP : w2.heap[P]? = some (.cells (plCs sz pl) 89) := by rw [hw2]; exact (uH.out P (Ne.symm hq.neTP) hPv hPx).trans hq.hP
  have d1 : w2.cell? ⟨EB, 1, none⟩ = some (.slice EV.a EV.n EV.c) := by rw [hw2]; exact (uC.out EB 1 (by decide) (by decide)).trans c1
  have dT : (w2.setCell ⟨T, 5, none⟩ (.int .i64 ((es.length : Int) - 1))).heap[T]? = some (.cells (tabCs P hb sb sz (es.eraseIdx ie)) 91) := by rw [hw2]; exact uT.out
  have dE : ∀ k (hk : k < (es.eraseIdx ie).length), w2.heap[(es.eraseIdx ie)[k].b]? = some (.cells (entCs (es.eraseIdx ie) k (es.eraseIdx ie)[k]) 97) := fun k hk => by rw [hw2]; exact uE.out k hk
  have d2h : ∀ e, EE es ie e → w2.cell? ⟨e.b, 2, none⟩ = some (.int .u64 e.hash) := by
    rintro e ⟨k, hk, _, rfl⟩
    rw [hw2]; exact (uC.out _ 2 (by decide) (by decide)).trans (hq.e2 k hk)
  clear hw2 hU uE uT uC uH uF uK hul c3 c4 c1 t2 t5 cp
  have hTP := hq.neTP
  go_upto_region 10 with fail
  have k3 : KeptR (tabB T P (es.eraseIdx ie)) w (w2.setCell ⟨T, 5, none⟩ (.int .i64 ((es.length : Int) - 1))) := kU.set (.inl (.inl rfl))
  have s2 : (w2.setCell ⟨T, 5, none⟩ (.int .i64 ((es.length : Int) - 1))).cell? ⟨T, 2, none⟩ = some (.slice (some ⟨P, 0, none⟩) sz sz) := (set_cellO (by omega)).trans d2
  have sP : (w2.setCell ⟨T, 5, none⟩ (.int .i64 ((es.length : Int) - 1))).heap[P]? = some (.cells (plCs sz pl) 89) := (set_ne _ (Ne.symm hTP)).trans dP
  have s1 : (w2.setCell ⟨T, 5, none⟩ (.int .i64 ((es.length : Int) - 1))).cell? ⟨EB, 1, none⟩ = some (.slice EV.a EV.n EV.c) := (set_cellO (by omega)).trans d1
  have sh : ∀ e, EE es ie e → (w2.setCell ⟨T, 5, none⟩ (.int .i64 ((es.length : Int) - 1))).cell? ⟨e.b, 2, none⟩ = some (.int .u64 e.hash) ∧ 0 ≤ e.hash ∧ e.hash < 18446744073709551616 ∧ e.b ≠ P := by
    intro e hE
    have h2 := d2h e hE
    obtain ⟨k, hk, _, rfl⟩ := hE
    have hhr := hashF_range way es[k].key
    rw [← hq.hh _ (List.getElem_mem hk)] at hhr
    exact ⟨(set_cellO (by omega)).trans h2, hhr.1, hhr.2, hq.nePE k hk⟩
  have sE : ∀ k (hk : k < (es.eraseIdx ie).length), (w2.setCell ⟨T, 5, none⟩ (.int .i64 ((es.length : Int) - 1))).heap[(es.eraseIdx ie)[k].b]? = some (.cells (entCs (es.eraseIdx ie) k (es.eraseIdx ie)[k]) 97) ∧ (es.eraseIdx ie)[k].b ≠ P := fun k hk => by
    have h2 := dE k hk
    obtain ⟨hs, he⟩ := erase_at hie hk
    have hneT : (es.eraseIdx ie)[k].b ≠ T := by rw [he]; exact hq.neTE _ hs
    exact ⟨(set_ne _ hneT).trans h2, by rw [he]; exact hq.nePE _ hs⟩
  clear d2 d5 f5 dP d1 dE d2h kU
  generalize w2.setCell ⟨T, 5, none⟩ (.int .i64 ((es.length : Int) - 1)) = w3 at dT k3 s2 sP s1 sh sE ⊢
  obtain ⟨z, hz, hzn⟩ := hfree
  have hzp : z ≠ at_ := by intro e; rw [e, hat] at hzn; cases hzn
  have hcl := Lib.hid (ix_close s2 h.hsz hTP sP sh hlt hz hzp hzn (ci_start hc hie hlt hat))
  replace sE := Lib.hid sE
  replace sh := Lib.hid sh
  replace k3 := Lib.hid k3
  go_wp2_with fail
  refine hcl.out.mono ?_
  rintro e w4 ⟨rfl, pl', hh, a, ci, hen, hP4, k4⟩
  have c14 := k4.cell s1 heP
  have hcan := ci_end h.nd hie ci hen
  have hfin := Lib.hid (show ∃ pl', Tab w4 T P hb sb way sz (es.eraseIdx ie) pl' ∧ Can sz (es.eraseIdx ie) pl' ∧ KeptR (tabB T P (es.eraseIdx ie)) w w4 from by
    have bk : ∀ b, b < w3.heap.size → b ≠ P → w4.heap[b]? = w3.heap[b]? := fun b h1 h2 => k4.block b h1 h2
    refine ⟨pl', ⟨(bk T (Array.getElem?_eq_some_iff.1 dT).1 hTP).trans dT, hP4, trivial, trivial, fun i hi => ?_, hcan.only, h.hsz, fun i j hi hj he => ?_, fun e he => h.hh e (List.mem_of_mem_eraseIdx he)⟩, hcan, kr_trans k3.out (kr_mono k4 fun b e => .inr (.inl e))⟩
    · obtain ⟨h1, h2⟩ := sE.out i hi
      exact (bk _ (Array.getElem?_eq_some_iff.1 h1).1 h2).trans h1
    · rw [List.getElem?_eq_getElem hi, List.getElem?_eq_getElem hj] at he
      simp only [Option.map_some, Option.some.injEq] at he
      exact hcan.nodup i j hi hj he)
  clear dT s2 sP s1 hcl ci hen hP4 k4 hcan
  go_wp2
  go_ret2
  exact ⟨by rw [hEV.out]; rfl, hfin.out⟩
end
end Go.Proofs.Ytjeeljolhcoeoaa.Str
