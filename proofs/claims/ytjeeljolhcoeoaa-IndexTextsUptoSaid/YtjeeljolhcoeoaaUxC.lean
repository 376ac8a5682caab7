/- Index: Put of a key that is not there, the table laid anew. -/
import Derived.Test.YtjeeljolhcoeoaaUxB
namespace Go.Proofs.Ytjeeljolhcoeoaa.Str
open Go.RowKit
attribute [local go_sem] eql_fn_h eql_nn_h eql_fn_s eql_nn_s eql_fn_i eql_nn_i

section
variable {w : World} {T P0 hb sb : Nat} {way : Int} {sz0 : Nat} {es : List Ent} {pl0 : Nat → Option Nat}

set_option maxRecDepth 100000 in
set_option maxHeartbeats 4000000 in
theorem ix_put_grow (h : Tab w T P0 hb sb way sz0 es pl0) (key : ByteArray) (value : SlV) (hfree : ∃ q, q < sz0 ∧ pl0 q = none) {q1 q2 : Nat} (hR : fnd pl0 (mtch es way key (hashF way key)) sz0 sz0 (homeN (hashF way key) sz0) 1 = (q1, q2, false))
    (hno : ∀ i (hi : i < es.length), mtch es way key (hashF way key) es[i].b = false) (hlen : es.length < sz0) (hroom : 3 * sz0 < 4 * (es.length + 1)) (hbig : 2 * sz0 ≤ 35184372088832) :
    Calls Try.prog 13 #[.pointer (some ⟨T, 0, none⟩), .string key, .slice value.a value.n value.c] w fun e w' => e = .returned (.tuple #[.slice none 0 0, .bool false, .int .i64 0]) ∧
      ∃ b P pl, w.heap.size ≤ b ∧ w.heap.size ≤ P ∧ Tab w' T P hb sb way (2 * sz0) (es ++ [⟨b, key, value, hashF way key⟩]) pl ∧ Can (2 * sz0) (es ++ [⟨b, key, value, hashF way key⟩]) pl ∧ KeptR (tabB T P0 es) w w' := by
  obtain ⟨z1, z2⟩ := h.hsz
  have t0 := h.t0
  unfold hashV at t0
  have t2 := h.t2
  have t5 := h.t5
  have hr := hashF_range way key
  obtain ⟨H, hH⟩ : ∃ H, hashF way key = H := ⟨_, rfl⟩
  rw [hH] at hR hr hno ⊢
  have ch := ix_hash way key w
  rw [hH] at ch
  replace ch := Lib.hid ch
  replace hH := Lib.hid hH
  have cf := Lib.hid (ix_find h key H hr.1 hr.2 hfree hR)
  clear hR hfree
  have w1 : IntKind.i64.wrap ((es.length : Int) + 1) = (es.length : Int) + 1 := IntWalk.i64_in _ (by omega)
  have w2 : IntKind.i64.wrap (4 * ((es.length : Int) + 1)) = 4 * ((es.length : Int) + 1) := IntWalk.i64_in _ (by omega)
  have w3 : IntKind.i64.wrap (3 * (sz0 : Int)) = 3 * (sz0 : Int) := IntWalk.i64_in _ (by omega)
  have w4 : IntKind.i64.wrap (2 * (sz0 : Int)) = 2 * (sz0 : Int) := IntWalk.i64_in _ (by omega)
  have g1 : decide (3 * (sz0 : Int) < 4 * ((es.length : Int) + 1)) = true := decide_eq_true (by omega)
  go_enter Try.func13, Try.ntmps13
  go_wp2_with (first
    | (go_at_call 36; refine (ix_none h).mono ?_; rintro e w' ⟨rfl, rfl⟩)
    | (go_at_call 10; refine ch.out.mono ?_; rintro e w' ⟨rfl, rfl⟩)
    | (go_at_call 37; refine cf.out.mono ?_; rintro e wq ⟨rfl, hd⟩; replace t2 := cell_below (hd.below _) rfl t2; replace t5 := cell_below (hd.below _) rfl t5))
  go_quiet (fail)
  have hdq : Drawn w (wq.drewN nq) := hd.step nq
  have hv0 := h.below (hdq.below _)
  replace t2 := cell_below (below_drewN (Below.refl wq.heap.size wq) nq) rfl t2
  generalize wq.drewN nq = V0 at hdq hv0 t2 ⊢
  clear hd t0 t5 cf ch
  have hkV0 : KeptR (tabB T P0 es) w V0 := by obtain ⟨n, rfl⟩ := hdq; exact (KeptR.refl _ w).drewN n
  have hrng : ∀ e, e ∈ es → 0 ≤ e.hash ∧ e.hash < 18446744073709551616 := fun e he => by rw [h.hh e he]; exact hashF_range _ _
  have hlay := Lib.hid (ix_lay (sz := 2 * sz0) hv0.hT hv0.hE hv0.nd hrng (by omega) (by omega))
  have hcast : Hid (((2 * sz0 : Nat) : Int) = 2 * (sz0 : Int)) := Lib.hid (by omega)
  rw [hcast.out] at hlay
  clear hdq
  go_wp2_with fail
  refine hlay.out.mono ?_
  rintro e V1 ⟨rfl, P, pl, hPge, hT1, hP1, can1, hk1⟩
  have bk : ∀ b, b < V0.heap.size → b ≠ T → V1.heap[b]? = V0.heap[b]? := fun b h1 h2 => hk1.block b h1 h2
  have hv1 : Tab V1 T P hb sb way (2 * sz0) es pl := ⟨hT1, hP1, trivial, trivial, fun i hi => (bk _ (hv0.ltE i hi) (hv0.neTE i hi)).trans (hv0.hE i hi), can1.only, by omega, hv0.hN, hv0.hh⟩
  have hkV1 : KeptR (tabB T P0 es) w V1 := kr_trans hkV0 (kr_mono hk1 fun b e => .inl e)
  have hPw : w.heap.size ≤ P := Nat.le_trans hkV0.size hPge
  obtain ⟨D, hD, hDn, hDf, hfm⟩ := fnd_miss (pl := pl) (mt := mtch es way key H) (sz := 2 * sz0) (m := homeN H (2 * sz0)) (by omega) (Nat.mod_lt _ (by omega)) (can1.free (by omega)) (fun j hj b hb2 => by
    obtain ⟨i, hi, rfl⟩ := can1.only j hj b hb2
    exact hno i hi)
  have hcan : Hid (∀ nb, (∀ i (hi : i < es.length), es[i].b ≠ nb) → Can (2 * sz0) (es ++ [⟨nb, key, value, H⟩]) (updP pl ((homeN H (2 * sz0) + D) % (2 * sz0)) (some nb))) := Lib.hid fun nb hx => can1.push ⟨nb, key, value, H⟩ hD hDn hDf hx
  have cf := Lib.hid (ix_find hv1 key H hr.1 hr.2 (can1.free (by omega)) hfm)
  have hlt : (homeN H (2 * sz0) + D) % (2 * sz0) < 2 * sz0 := Nat.mod_lt _ (by omega)
  obtain ⟨r1, hr1⟩ : ∃ r1, (homeN H (2 * sz0) + D) % (2 * sz0) = r1 := ⟨_, rfl⟩
  rw [hr1] at hcan cf hlt
  clear hlay hv0 hkV0 hT1 hP1 can1 hk1 bk hDn hDf hfm hr1 t2
  clear hcast
  go_upto_region 13 with (first
    | (go_at_call 37; refine cf.out.mono ?_; rintro e V ⟨rfl, hdV⟩))
  have hv := hv1.below (hdV.below _)
  have hkV : KeptR (tabB T P0 es) w V := by obtain ⟨n, rfl⟩ := hdV; exact hkV1.drewN n
  clear cf hv1 hkV1 hdV
  have t4 := hv.t4
  go_upto_region 14 with fail
  have hk : KeptR (tabB T P0 es) w (V.alloc (.cells #[.string key, .slice value.a value.n value.c, .int .u64 H, .pointer (ptr (es.getLast?.map Ent.b)), .pointer none] 97)) := by
    exact hkV.al _
  have hvA := hv.below ((Below.refl V.heap.size V).alloc (Nat.le_refl _) (.cells #[.string key, .slice value.a value.n value.c, .int .u64 H, .pointer (ptr (es.getLast?.map Ent.b)), .pointer none] 97))
  have hnb := heap_alloc_new V (.cells #[.string key, .slice value.a value.n value.c, .int .u64 H, .pointer (ptr (es.getLast?.map Ent.b)), .pointer none] 97)
  have hwb : w.heap.size ≤ V.heap.size := hkV.size
  have hltT := hv.ltT
  have hltP := hv.ltP
  have hltE := Lib.hid hv.ltE
  generalize V.alloc (.cells #[.string key, .slice value.a value.n value.c, .int .u64 H, .pointer (ptr (es.getLast?.map Ent.b)), .pointer none] 97) = VA at hk hvA hnb ⊢
  generalize V.heap.size = nb at hnb hwb hltT hltP hltE ⊢
  clear hv t4 hkV
  have hTP := hvA.neTP
  have hPT := Ne.symm hTP
  have f := fun i => frozen_of hvA.hT i
  have f3 := f 3
  have f4 := f 4
  have f5 := f 5
  have fP := frozen_of hvA.hP r1
  have t2 := hvA.t2
  have t3 := hvA.t3
  have t4 := hvA.t4
  have t5 := hvA.t5
  have tp := hvA.place r1 hlt
  clear f
  rcases hcase : es.getLast? with _ | L
  · have hes : es = [] := by simpa using hcase
    subst hes
    change VA.cell? _ = some (Value.pointer none) at t4
    have hp := Lib.hid (push_nil (r1 := r1) hvA hH.out.symm hnb hltT hltP)
    have hk2 := Lib.hid ((((hk.set (g := T) (i := 3) (u := .pointer (some ⟨nb, 0, none⟩)) (.inl (.inl rfl))).set (g := T) (i := 4) (u := .pointer (some ⟨nb, 0, none⟩)) (.inl (.inl rfl))).set (g := P) (i := r1) (u := .pointer (some ⟨nb, 0, none⟩)) (.inr hPw)).set (g := T) (i := 5) (u := .int .i64 1) (.inl (.inl rfl)))
    go_wp2
    go_ret3
    exact ⟨rfl, nb, P, _, hwb, hPw, hp.out, hcan.out nb (fun i hi => Nat.ne_of_lt (hltE.out i hi)), hk2.out⟩
  · obtain ⟨n, hn⟩ : ∃ n, es.length = n + 1 := by
      cases es with
      | nil => simp at hcase
      | cons y r => exact ⟨r.length, rfl⟩
    have hLn : es[n]? = some L := by
      rw [List.getLast?_eq_getElem?] at hcase
      rw [← hcase, hn]; rfl
    have hLe : (es[n]'(by omega)).b = L.b := by
      rw [List.getElem?_eq_getElem (by omega)] at hLn
      injection hLn with hLn; rw [hLn]
    rw [hcase] at t4
    change VA.cell? _ = some (Value.pointer (some ⟨L.b, 0, none⟩)) at t4
    have hp := Lib.hid (push_more (r1 := r1) hvA hH.out.symm hn hnb hltT hltP hltE.out hLe)
    have hmem : ∃ e ∈ es, e.b = L.b := ⟨L, List.mem_of_getElem? hLn, rfl⟩
    have hk2 := Lib.hid ((((hk.set (g := L.b) (i := 4) (u := .pointer (some ⟨nb, 0, none⟩)) (.inl (.inr (.inr hmem)))).set (g := T) (i := 4) (u := .pointer (some ⟨nb, 0, none⟩)) (.inl (.inl rfl))).set (g := P) (i := r1) (u := .pointer (some ⟨nb, 0, none⟩)) (.inr hPw)).set (g := T) (i := 5) (u := .int .i64 ((es.length : Int) + 1)) (.inl (.inl rfl)))
    have hLT : ¬ L.b = T := by rw [← hLe]; exact hvA.neTE n (by omega)
    have hLP : ¬ L.b = P := by rw [← hLe]; exact hvA.nePE n (by omega)
    have hTL : ¬ T = L.b := Ne.symm hLT
    have hPL : ¬ P = L.b := Ne.symm hLP
    have e4 : ∃ v, VA.cell? ⟨L.b, 4, none⟩ = some v := ⟨_, by rw [← hLe]; exact cell_of_row _ _ _ _ _ _ (hvA.hE n (by omega))⟩
    obtain ⟨v4, e4⟩ := e4
    have f4L : VA.frozen? ⟨L.b, 4, none⟩ = false := by rw [← hLe]; exact frozen_of (hvA.hE n (by omega)) 4
    clear hcase hLn hLe hmem hn
    generalize L.b = LB at *
    go_wp2
    go_ret3
    exact ⟨rfl, nb, P, _, hwb, hPw, hp.out, hcan.out nb (fun i hi => Nat.ne_of_lt (hltE.out i hi)), hk2.out⟩
end
end Go.Proofs.Ytjeeljolhcoeoaa.Str
