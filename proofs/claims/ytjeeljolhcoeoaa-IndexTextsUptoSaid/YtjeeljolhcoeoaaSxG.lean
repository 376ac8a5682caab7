/- Index: Put of a key that is not there, where there is room: the walk. -/
import Derived.Test.YtjeeljolhcoeoaaSxF
import Derived.Deep.Cut
namespace Go.Proofs.Ytjeeljolhcoeoaa.Str
open Go.RowKit
attribute [local go_sem] eql_fn_h eql_nn_h eql_fn_s eql_nn_s eql_fn_i eql_nn_i

theorem frozen_of {w : World} {g : Nat} {cs : Array Value} {t : TypeId} (h : w.heap[g]? = some (.cells cs t)) (i : Nat) : w.frozen? ⟨g, i, none⟩ = false := by simp [World.frozen?, h]

section
variable {w : World} {T P hb sb : Nat} {way : Int} {sz : Nat} {es : List Ent} {pl : Nat → Option Nat}

set_option maxRecDepth 100000 in
set_option maxHeartbeats 4000000 in
theorem ix_put_new (h : Tab w T P hb sb way sz es pl) (key : ByteArray) (value : SlV) (hfree : ∃ q, q < sz ∧ pl q = none) {R : Nat × Nat × Bool} (hR : fnd pl (mtch es way key (hashF way key)) sz sz (homeN (hashF way key) sz) 1 = R)
    (hno : R.2.2 = false) (hlt : R.1 < sz) (hpn : pl R.1 = none) (hroom : 4 * (es.length + 1) ≤ 3 * sz) :
    Calls Try.prog 13 #[.pointer (some ⟨T, 0, none⟩), .string key, .slice value.a value.n value.c] w fun e w' => e = .returned (.tuple #[.slice none 0 0, .bool false, .int .i64 0]) ∧
      ∃ b, w.heap.size ≤ b ∧ Tab w' T P hb sb way sz (es ++ [⟨b, key, value, hashF way key⟩]) (updP pl R.1 (some b)) ∧ KeptR (tabB T P es) w w' := by
  obtain ⟨r1, r2, r3⟩ := R
  dsimp only at hno hlt hpn ⊢
  subst hno
  obtain ⟨z1, z2⟩ := h.hsz
  have t0 := h.t0
  unfold hashV at t0
  have t2 := h.t2
  have t5 := h.t5
  have hr := hashF_range way key
  obtain ⟨H, hH⟩ : ∃ H, hashF way key = H := ⟨_, rfl⟩
  rw [hH] at hR hr ⊢
  have ch := ix_hash way key w
  rw [hH] at ch
  replace ch := Lib.hid ch
  replace hH := Lib.hid hH
  have cf := Lib.hid (ix_find h key H hr.1 hr.2 hfree hR)
  clear hR hfree
  have w1 : IntKind.i64.wrap ((es.length : Int) + 1) = (es.length : Int) + 1 := IntWalk.i64_in _ (by omega)
  have w2 : IntKind.i64.wrap (4 * ((es.length : Int) + 1)) = 4 * ((es.length : Int) + 1) := IntWalk.i64_in _ (by omega)
  have w3 : IntKind.i64.wrap (3 * (sz : Int)) = 3 * (sz : Int) := IntWalk.i64_in _ (by omega)
  have g1 : decide (3 * (sz : Int) < 4 * ((es.length : Int) + 1)) = false := decide_eq_false (by omega)
  go_enter Try.func13, Try.ntmps13
  go_wp2_with (first
    | (go_at_call 36; refine (ix_none h).mono ?_; rintro e w' ⟨rfl, rfl⟩)
    | (go_at_call 10; refine ch.out.mono ?_; rintro e w' ⟨rfl, rfl⟩)
    | (go_at_call 37; refine cf.out.mono ?_; rintro e wq ⟨rfl, hd⟩; replace t2 := cell_below (hd.below _) rfl t2; replace t5 := cell_below (hd.below _) rfl t5))
  go_quiet (fail)
  have hdq : Drawn w (wq.drewN nq) := hd.step nq
  generalize wq.drewN nq = V at hdq ⊢
  clear hd t0 t2 t5 cf ch
  have hv := h.below (hdq.below _)
  have t4 := hv.t4
  go_upto_region 14 with fail
  have hk : KeptR (tabB T P es) w (V.alloc (.cells #[.string key, .slice value.a value.n value.c, .int .u64 H, .pointer (ptr (es.getLast?.map Ent.b)), .pointer none] 97)) := by
    obtain ⟨n, rfl⟩ := hdq
    exact ((KeptR.refl _ w).drewN n).al _
  have hvA := hv.below ((Below.refl V.heap.size V).alloc (Nat.le_refl _) (.cells #[.string key, .slice value.a value.n value.c, .int .u64 H, .pointer (ptr (es.getLast?.map Ent.b)), .pointer none] 97))
  have hnb := heap_alloc_new V (.cells #[.string key, .slice value.a value.n value.c, .int .u64 H, .pointer (ptr (es.getLast?.map Ent.b)), .pointer none] 97)
  have hwb : w.heap.size ≤ V.heap.size := (hdq.below w.heap.size).size
  have hltT := hv.ltT
  have hltP := hv.ltP
  have hltE := Lib.hid hv.ltE
  generalize V.alloc (.cells #[.string key, .slice value.a value.n value.c, .int .u64 H, .pointer (ptr (es.getLast?.map Ent.b)), .pointer none] 97) = VA at hk hvA hnb ⊢
  generalize V.heap.size = nb at hnb hwb hltT hltP hltE ⊢
  clear hv t4 hdq
  have hTP := hvA.neTP
  have hPT := Ne.symm hTP
  have f := fun i => frozen_of hvA.hT i
  have f3 := f 3
  have f4 := f 4
  have f5 := f 5
  have fP := frozen_of hvA.hP r1
  have t2 := hvA.t2
  have t3 := hvA.t3
  have t4 := hvA.t4
  have t5 := hvA.t5
  have tp := hvA.place r1 hlt
  clear f
  rcases hcase : es.getLast? with _ | L
  · have hes : es = [] := by simpa using hcase
    subst hes
    change VA.cell? _ = some (Value.pointer none) at t4
    have hp := Lib.hid (push_nil (r1 := r1) hvA hH.out.symm hnb hltT hltP)
    have hk2 := Lib.hid ((((hk.set (g := T) (i := 3) (u := .pointer (some ⟨nb, 0, none⟩)) (.inl (.inl rfl))).set (g := T) (i := 4) (u := .pointer (some ⟨nb, 0, none⟩)) (.inl (.inl rfl))).set (g := P) (i := r1) (u := .pointer (some ⟨nb, 0, none⟩)) (.inl (.inr (.inl rfl)))).set (g := T) (i := 5) (u := .int .i64 1) (.inl (.inl rfl)))
    go_wp2
    go_ret3
    exact ⟨rfl, nb, hwb, hp.out, hk2.out⟩
  · obtain ⟨n, hn⟩ : ∃ n, es.length = n + 1 := by
      cases es with
      | nil => simp at hcase
      | cons y r => exact ⟨r.length, rfl⟩
    have hLn : es[n]? = some L := by
      rw [List.getLast?_eq_getElem?] at hcase
      rw [← hcase, hn]; rfl
    have hLe : (es[n]'(by omega)).b = L.b := by
      rw [List.getElem?_eq_getElem (by omega)] at hLn
      injection hLn with hLn; rw [hLn]
    rw [hcase] at t4
    change VA.cell? _ = some (Value.pointer (some ⟨L.b, 0, none⟩)) at t4
    have hp := Lib.hid (push_more (r1 := r1) hvA hH.out.symm hn hnb hltT hltP hltE.out hLe)
    have hmem : ∃ e ∈ es, e.b = L.b := ⟨L, List.mem_of_getElem? hLn, rfl⟩
    have hk2 := Lib.hid ((((hk.set (g := L.b) (i := 4) (u := .pointer (some ⟨nb, 0, none⟩)) (.inl (.inr (.inr hmem)))).set (g := T) (i := 4) (u := .pointer (some ⟨nb, 0, none⟩)) (.inl (.inl rfl))).set (g := P) (i := r1) (u := .pointer (some ⟨nb, 0, none⟩)) (.inl (.inr (.inl rfl)))).set (g := T) (i := 5) (u := .int .i64 ((es.length : Int) + 1)) (.inl (.inl rfl)))
    have hLT : ¬ L.b = T := by rw [← hLe]; exact hvA.neTE n (by omega)
    have hLP : ¬ L.b = P := by rw [← hLe]; exact hvA.nePE n (by omega)
    have hTL : ¬ T = L.b := Ne.symm hLT
    have hPL : ¬ P = L.b := Ne.symm hLP
    have e4 : ∃ v, VA.cell? ⟨L.b, 4, none⟩ = some v := ⟨_, by rw [← hLe]; exact cell_of_row _ _ _ _ _ _ (hvA.hE n (by omega))⟩
    obtain ⟨v4, e4⟩ := e4
    have f4L : VA.frozen? ⟨L.b, 4, none⟩ = false := by rw [← hLe]; exact frozen_of (hvA.hE n (by omega)) 4
    clear hcase hLn hLe hmem hn
    generalize L.b = LB at *
    go_wp2
    go_ret3
    exact ⟨rfl, nb, hwb, hp.out, hk2.out⟩
end
end Go.Proofs.Ytjeeljolhcoeoaa.Str
