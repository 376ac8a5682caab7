/- Index: Clone. -/
import Derived.Test.YtjeeljolhcoeoaaMxJ
namespace Go.Proofs.Ytjeeljolhcoeoaa
open Go.RowKit Go.Shelf
attribute [local go_sem] eql_fn_h eql_nn_h eql_fn_s eql_nn_s eql_fn_i eql_nn_i

def coreE (e : Ent) : Int × Int × Int := (e.key, e.val, e.hash)
/-- a table that is being cloned: no places yet -/
structure CB (w : World) (Tc hb sb : Nat) (ds : List Ent) (wr : World) : Prop where
  hT : wr.heap[Tc]? = some (.cells #[hashV hb, sameV sb, .slice none 0 0, .pointer (ptr (ds.head?.map Ent.b)), .pointer (ptr (ds.getLast?.map Ent.b)), .int .i64 ds.length] 87)
  hE : ∀ i (h : i < ds.length), wr.heap[ds[i].b]? = some (.cells (entCs ds i ds[i]) 104)
  nd : ∀ i j (hi : i < ds.length) (hj : j < ds.length), ds[i].b = ds[j].b → i = j
  lo : ∀ i (h : i < ds.length), w.heap.size ≤ ds[i].b
  geT : w.heap.size ≤ Tc
  bel : Below w.heap.size w wr

section
variable {w wr VA : World} {Tc hb sb nb : Nat} {ds : List Ent} {key val hash : Int}
theorem CB.neE (h : CB w Tc hb sb ds wr) (i : Nat) (hi : i < ds.length) : ds[i].b ≠ Tc := by
  intro e; have h1 := h.hE i hi; rw [e, h.hT] at h1; simp at h1
theorem CB.ltE (h : CB w Tc hb sb ds wr) (i : Nat) (hi : i < ds.length) : ds[i].b < wr.heap.size := (Array.getElem?_eq_some_iff.1 (h.hE i hi)).1
theorem CB.ltT (h : CB w Tc hb sb ds wr) : Tc < wr.heap.size := (Array.getElem?_eq_some_iff.1 h.hT).1
theorem CB.below (h : CB w Tc hb sb ds wr) (hb2 : Below wr.heap.size wr VA) : CB w Tc hb sb ds VA :=
  ⟨(hb2.block _ h.ltT).trans h.hT, fun i hi => (hb2.block _ (h.ltE i hi)).trans (h.hE i hi), h.nd, h.lo, h.geT, h.bel.trans (hb2.mono h.bel.size)⟩
theorem CB.push (h : CB w Tc hb sb ds wr) {x : Ent} (hx : ∀ i (hi : i < ds.length), ds[i].b ≠ x.b) (hlo : w.heap.size ≤ x.b) {w' : World}
    (hT : w'.heap[Tc]? = some (.cells #[hashV hb, sameV sb, .slice none 0 0, .pointer (ptr ((ds ++ [x]).head?.map Ent.b)), .pointer (ptr ((ds ++ [x]).getLast?.map Ent.b)), .int .i64 (ds ++ [x]).length] 87))
    (hB : w'.heap[x.b]? = some (.cells (entCs (ds ++ [x]) ds.length x) 104)) (hE : ∀ i (hi : i < ds.length), w'.heap[ds[i].b]? = some (.cells (entCs (ds ++ [x]) i ds[i]) 104)) (hbel : Below w.heap.size w w') : CB w Tc hb sb (ds ++ [x]) w' := by
  refine ⟨hT, fun i hi => ?_, fun i j hi hj he => ?_, fun i hi => ?_, h.geT, hbel⟩
  · rw [List.length_append] at hi
    rcases Nat.lt_or_ge i ds.length with h1 | h1
    · rw [List.getElem_append_left h1]; exact hE i h1
    · have : i = ds.length := by simp at hi; omega
      subst this
      rw [List.getElem_append_right (Nat.le_refl _)]; simpa using hB
  · rw [List.length_append] at hi hj
    simp at hi hj
    rcases Nat.lt_or_ge i ds.length with h1 | h1 <;> rcases Nat.lt_or_ge j ds.length with h2 | h2
    · rw [List.getElem_append_left h1, List.getElem_append_left h2] at he; exact h.nd i j h1 h2 he
    · rw [List.getElem_append_left h1, List.getElem_append_right h2] at he
      simp at he; exact absurd he (hx i h1)
    · rw [List.getElem_append_left h2, List.getElem_append_right h1] at he
      simp at he; exact absurd he.symm (hx j h2)
    · omega
  · rw [List.length_append] at hi
    rcases Nat.lt_or_ge i ds.length with h1 | h1
    · rw [List.getElem_append_left h1]; exact h.lo i h1
    · rw [List.getElem_append_right h1]; simpa using hlo

theorem cl_nil (h : CB w Tc hb sb [] VA) (hnb : VA.heap[nb]? = some (.cells #[.int .i64 key, .int .i64 val, .int .u64 hash, .pointer none, .pointer none] 104)) (hT : Tc < nb) :
    CB w Tc hb sb ([] ++ [⟨nb, key, val, hash⟩]) (((VA.setCell ⟨Tc, 3, none⟩ (.pointer (some ⟨nb, 0, none⟩))).setCell ⟨Tc, 4, none⟩ (.pointer (some ⟨nb, 0, none⟩))).setCell ⟨Tc, 5, none⟩ (.int .i64 1)) := by
  have hg := h.geT
  refine h.push (x := ⟨nb, key, val, hash⟩) (fun i hi => absurd hi (by simp)) (by show _ ≤ nb; omega) ?_ ?_ (fun i hi => absurd hi (by simp)) ?_
  · exact set_same _ (set_same _ (set_same _ h.hT))
  · have q1 : nb ≠ Tc := by omega
    exact (set_ne _ q1).trans ((set_ne _ q1).trans ((set_ne _ q1).trans hnb))
  · exact ((h.bel.setCell (p := ⟨Tc, 3, none⟩) hg _).setCell (p := ⟨Tc, 4, none⟩) hg _).setCell (p := ⟨Tc, 5, none⟩) hg _
theorem cl_more (h : CB w Tc hb sb ds VA) {n : Nat} (hn : ds.length = n + 1) (hnb : VA.heap[nb]? = some (.cells #[.int .i64 key, .int .i64 val, .int .u64 hash, .pointer (ptr (ds.getLast?.map Ent.b)), .pointer none] 104)) (hT : Tc < nb) (hE : ∀ i (hi : i < ds.length), ds[i].b < nb)
    {L : Nat} (hL : (ds[n]'(by omega)).b = L) :
    CB w Tc hb sb (ds ++ [⟨nb, key, val, hash⟩]) (((VA.setCell ⟨L, 4, none⟩ (.pointer (some ⟨nb, 0, none⟩))).setCell ⟨Tc, 4, none⟩ (.pointer (some ⟨nb, 0, none⟩))).setCell ⟨Tc, 5, none⟩ (.int .i64 ((ds.length : Int) + 1))) := by
  have hg := h.geT
  have hes : ds ≠ [] := by intro e; rw [e] at hn; simp at hn
  have hLT : L ≠ Tc := by rw [← hL]; exact h.neE n (by omega)
  have hLn : L < nb := by rw [← hL]; exact hE n (by omega)
  have hLlo : w.heap.size ≤ L := by rw [← hL]; exact h.lo n (by omega)
  refine h.push (x := ⟨nb, key, val, hash⟩) (fun i hi => by have := hE i hi; show ds[i].b ≠ nb; omega) (by show _ ≤ nb; omega) ?_ ?_ (fun i hi => ?_) ?_
  · have h1 : (ds ++ [(⟨nb, key, val, hash⟩ : Ent)]).head? = ds.head? := by cases ds with | nil => exact absurd rfl hes | cons y r => rfl
    have h2 : (ds ++ [(⟨nb, key, val, hash⟩ : Ent)]).getLast? = some ⟨nb, key, val, hash⟩ := by simp
    rw [h1, h2, List.length_append]
    have := set_same (i := 5) (.int .i64 ((ds.length : Int) + 1)) (set_same (i := 4) (.pointer (some ⟨nb, 0, none⟩)) ((set_ne (i := 4) (.pointer (some ⟨nb, 0, none⟩)) (Ne.symm hLT)).trans h.hT))
    rw [this]
    simp [ptr]
  · rw [entCs_new]
    have q1 : nb ≠ Tc := by omega
    have q3 : nb ≠ L := by omega
    exact (set_ne _ q1).trans ((set_ne _ q1).trans ((set_ne _ q3).trans hnb))
  · rw [set_ne _ (h.neE i hi), set_ne _ (h.neE i hi)]
    by_cases e : i = n
    · subst e
      rw [entCs_last ds _ i _ (by omega), hL]
      exact set_same _ (by rw [← hL]; exact h.hE i hi)
    · rw [entCs_more ds _ i _ (by omega), set_ne _ (by
        intro he
        exact e (h.nd i n hi (by omega) (he.trans hL.symm)))]
      exact h.hE i hi
  · exact ((h.bel.setCell (p := ⟨L, 4, none⟩) hLlo _).setCell (p := ⟨Tc, 4, none⟩) hg _).setCell (p := ⟨Tc, 5, none⟩) hg _
end

section
variable {w : World} {T P hb sb : Nat} {way : Int} {sz : Nat} {es : List Ent} {pl : Nat → Option Nat}
set_option maxRecDepth 100000 in
set_option maxHeartbeats 8000000 in
theorem ix_clone (h : TS w T P hb sb way sz es pl) : Calls Try.prog 59 #[.pointer (some ⟨T, 0, none⟩)] w fun e w' =>
    ∃ Tc Pc ds plc, e = .returned (.pointer (some ⟨Tc, 0, none⟩)) ∧ w.heap.size ≤ Tc ∧ w.heap.size ≤ Pc ∧ (∀ d, d ∈ ds → w.heap.size ≤ d.b) ∧ TS w' Tc Pc hb sb way sz ds plc ∧ ds.map coreE = es.map coreE ∧ Below w.heap.size w w' := by
  have ht := h.tab
  obtain ⟨z1, z2⟩ := ht.hsz
  have t0 := ht.t0
  have t1 := ht.t1
  have t2 := ht.t2
  have t3 := ht.t3
  unfold hashV at t0
  unfold sameV at t1
  replace ht := Lib.hid ht
  go_enter Try.func59, Try.ntmps59
  go_upto_region 3 with (go_at_call 46; refine (ix_none ht.out).mono ?_; rintro e w' ⟨rfl, rfl⟩)
  go_cut [3] from 8 to 17 (fun v3 wx => v3 = .pointer (some ⟨w.heap.size, 0, none⟩) ∧ Hid (CB w w.heap.size hb sb [] wx))
  case first =>
    go_wp2_with fail
    go_region_with (fail)
    all_goals (go_wp2_with fail; go_meet)
    all_goals exact ⟨rfl, Lib.hid ⟨heap_alloc_new w.drew _, fun i hi => absurd hi (by simp), fun i j hi => absurd hi (by simp), fun i hi => absurd hi (by simp), Nat.le_refl _, (below_drewN (Below.refl _ w) 1).al _⟩⟩
  case rest =>
  obtain ⟨rfl, hC0⟩ := hcut
  obtain ⟨Tc, hTc⟩ : ∃ Tc, w.heap.size = Tc := ⟨_, rfl⟩
  rw [hTc]
  replace hC0 : Hid (CB w Tc hb sb [] wc) := by rw [← hTc]; exact hC0
  replace hTc := Lib.hid hTc
  replace t3 := (hC0.out.bel.cell (B := w.heap.size) (cell_lt t3)).trans t3
  replace t2 := Lib.hid t2
  clear t0 t1
  go_wp2_with fail
  go_loopw [4] (fun ev wr => ∃ (k : Nat) (ds : List Ent), k ≤ es.length ∧ ev = .pointer (ptr ((es[k]?).map Ent.b)) ∧ Hid (ds.map coreE = (es.take k).map coreE) ∧ Hid (CB w Tc hb sb ds wr)) (fun ev _ => rankV es ev)
  case atStart => exact ⟨0, [], Nat.zero_le _, by rw [List.head?_eq_getElem?], Lib.hid rfl, hC0⟩
  case round =>
    clear hC0 t3
    obtain ⟨k, ds, hk, rfl, hcore, hC⟩ := hrel
    have hlen : ds.length = k := by
      have := congrArg List.length hcore.out
      rw [List.length_map, List.length_map, List.length_take] at this; omega
    have hv := ht.out.below hC.out.bel
    by_cases hlt : k < es.length
    · rw [List.getElem?_eq_getElem hlt]
      have e0 := hv.e0 k hlt
      have e1 := hv.e1 k hlt
      have e2 := hv.e2 k hlt
      have e4 : wr.cell? ⟨es[k].b, 4, none⟩ = some (.pointer (ptr (nextB es k))) := cell_of_row _ _ _ _ _ _ (hv.hE k hlt)
      have hrk := rk_at (fun i j hi hj => h.tab.nd i j hi hj) k hlt
      obtain ⟨x, hx⟩ : ∃ x, es[k] = x := ⟨_, rfl⟩
      have htk : Hid (es.take (k + 1) = es.take k ++ [x]) := Lib.hid (by rw [List.take_succ_eq_append_getElem hlt, hx])
      rw [hx] at e0 e1 e2 e4 hrk ⊢
      rw [show ptr (Option.map Ent.b (some x)) = some ⟨x.b, 0, none⟩ from rfl]
      have hmeas : Hid (rankV es (.pointer (ptr (nextB es k))) < rankV es (.pointer (some ⟨x.b, 0, none⟩))) := Lib.hid (by
        have e1 : rankV es (.pointer (some ⟨x.b, 0, none⟩)) = es.length - k := by show es.length - rkE es x.b = _; rw [hrk]
        rw [e1]
        rcases Nat.lt_or_ge (k + 1) es.length with h1 | h1
        · rw [next_at h1]
          show es.length - rkE es es[k + 1].b < _
          rw [rk_at (fun i j hi hj => h.tab.nd i j hi hj) (k + 1) h1]; omega
        · rw [next_end h1]
          show 0 < _
          omega)
      have t4 : wr.cell? ⟨Tc, 4, none⟩ = some (.pointer (ptr (ds.getLast?.map Ent.b))) := cell_of_row _ _ _ _ _ _ hC.out.hT
      have hnext : Hid (Value.pointer (ptr (nextB es k)) = .pointer (ptr ((es[k + 1]?).map Ent.b))) := Lib.hid rfl
      obtain ⟨X, hX⟩ : ∃ X, x.key = X := ⟨_, rfl⟩
      obtain ⟨Y, hY⟩ : ∃ Y, x.val = Y := ⟨_, rfl⟩
      obtain ⟨Z, hZ⟩ : ∃ Z, x.hash = Z := ⟨_, rfl⟩
      have hcx : Hid (coreE x = (X, Y, Z)) := Lib.hid (by unfold coreE; rw [hX, hY, hZ])
      rw [hX] at e0
      rw [hY] at e1
      rw [hZ] at e2
      obtain ⟨XB, hXB⟩ : ∃ XB, x.b = XB := ⟨_, rfl⟩
      have hXl : Hid (XB < w.heap.size) := Lib.hid (by rw [← hXB, ← hx]; exact h.tab.ltE k hlt)
      rw [hXB] at e0 e1 e2 e4 hmeas ⊢
      have e4d : wr.drew.cell? ⟨XB, 4, none⟩ = some (.pointer (ptr (nextB es k))) := e4
      clear hv hrk hx hX hY hZ hXB
      replace hlen := Lib.hid hlen
      go_wp2_with fail
      go_cut [5] from 28 to 46 (fun v5 wx => ∃ nb, v5 = .pointer (some ⟨nb, 0, none⟩) ∧ Hid (nb = wr.heap.size) ∧ Hid (wx.heap[nb]? = some (.cells #[.int .i64 X, .int .i64 Y, .int .u64 Z, .pointer (ptr (ds.getLast?.map Ent.b)), .pointer none] 104)) ∧ Hid (CB w Tc hb sb ds wx) ∧ wx.cell? ⟨XB, 4, none⟩ = some (.pointer (ptr (nextB es k))))
      case first =>
        go_wp2_with fail
        go_region_with (fail)
        all_goals (go_wp2_with fail; go_meet)
        all_goals exact ⟨_, rfl, Lib.hid rfl, Lib.hid (heap_alloc_new wr.drew _), Lib.hid (hC.out.below ((below_drewN (Below.refl _ wr) 1).al _)), (((below_drewN (Below.refl _ wr) 1).al _).cell (cell_lt e4)).trans e4⟩
      case rest =>
      obtain ⟨nb, rfl, hnb, hB, hC1, e4c⟩ := hcut
      have hc1 := hC1.out
      have hgt : Tc < nb := by rw [hnb.out]; exact hC.out.ltT
      have hgE : Hid (∀ i (hi : i < ds.length), ds[i].b < nb) := Lib.hid (by rw [hnb.out]; exact hC.out.ltE)
      have hXw : Hid (XB < w.heap.size) := Lib.hid (hXl.out)
      have t4c : wc.cell? ⟨Tc, 4, none⟩ = some (.pointer (ptr (ds.getLast?.map Ent.b))) := cell_of_row _ _ _ _ _ _ hc1.hT
      have t3c : wc.cell? ⟨Tc, 3, none⟩ = some (.pointer (ptr (ds.head?.map Ent.b))) := cell_of_row _ _ _ _ _ _ hc1.hT
      have t5c : wc.cell? ⟨Tc, 5, none⟩ = some (.int .i64 ds.length) := cell_of_row _ _ _ _ _ _ hc1.hT
      have f := fun i => frozen_of hc1.hT i
      have f3 := f 3
      have f4 := f 4
      have f5 := f 5
      clear f e0 e1 e2 e4 t4 e4d
      have hXT : ¬ XB = Tc := by have := hXw.out; have := hc1.geT; omega
      have hfin : Hid (∀ W, CB w Tc hb sb (ds ++ [⟨nb, X, Y, Z⟩]) W → ∃ (k' : Nat) (ds' : List Ent), k' ≤ es.length ∧ Value.pointer (ptr (nextB es k)) = .pointer (ptr ((es[k']?).map Ent.b)) ∧ Hid (ds'.map coreE = (es.take k').map coreE) ∧ Hid (CB w Tc hb sb ds' W)) := Lib.hid (fun W hW =>
        ⟨k + 1, _, hlt, hnext.out, Lib.hid (by rw [htk.out, List.map_append, List.map_append, hcore.out, List.map_singleton, List.map_singleton, hcx.out]; rfl), Lib.hid hW⟩)
      clear hC
      rcases hcase : ds.getLast? with _ | L
      · have hes : ds = [] := by simpa using hcase
        subst hes
        change wc.cell? _ = some (Value.pointer none) at t4c
        have hp := Lib.hid (hfin.out _ (cl_nil hc1 hB.out hgt))
        clear hcase hB hC1 hc1 hgE hfin hcore htk
        go_wp2_with fail
        go_roundw
        case rel => exact hp.out
        case measure => exact hmeas.out
      · obtain ⟨n, hn⟩ : ∃ n, ds.length = n + 1 := by
          cases ds with
          | nil => simp at hcase
          | cons y r => exact ⟨r.length, rfl⟩
        have hLn : ds[n]? = some L := by
          rw [List.getLast?_eq_getElem?] at hcase
          rw [← hcase, hn]; rfl
        have hLe : (ds[n]'(by omega)).b = L.b := by
          rw [List.getElem?_eq_getElem (by omega)] at hLn
          injection hLn with hLn; rw [hLn]
        rw [hcase] at t4c
        change wc.cell? _ = some (Value.pointer (some ⟨L.b, 0, none⟩)) at t4c
        have hp := Lib.hid (hfin.out _ (cl_more hc1 hn hB.out hgt hgE.out hLe))
        have hLT : ¬ L.b = Tc := by rw [← hLe]; exact hc1.neE n (by omega)
        have hTL : ¬ Tc = L.b := Ne.symm hLT
        have hXL : ¬ XB = L.b := by have := hXw.out; have := hc1.lo n (by omega); rw [hLe] at this; omega
        have e4 : ∃ v, wc.cell? ⟨L.b, 4, none⟩ = some v := ⟨_, by rw [← hLe]; exact cell_of_row _ _ _ _ _ _ (hc1.hE n (by omega))⟩
        obtain ⟨v4, e4⟩ := e4
        have f4L : wc.frozen? ⟨L.b, 4, none⟩ = false := by rw [← hLe]; exact frozen_of (hc1.hE n (by omega)) 4
        have hw1 : IntKind.i64.wrap ((ds.length : Int) + 1) = (ds.length : Int) + 1 := IntWalk.i64_in _ (by have := hlen.out; have := h.lt; omega)
        clear hcase hLn hLe hn hB hC1 hc1 hgE hfin hcore htk
        generalize L.b = LB at *
        go_wp2_with fail
        go_roundw
        case rel => exact hp.out
        case measure => exact hmeas.out
    · obtain rfl : k = es.length := by omega
      rw [List.getElem?_eq_none (Nat.le_refl _)]
      have t2w := (hC.out.bel.cell (B := w.heap.size) (cell_lt t2.out)).trans t2.out
      have hce : ds.map coreE = es.map coreE := by have := hcore.out; rwa [List.take_of_length_le (Nat.le_refl _)] at this
      have hget : ∀ d, d ∈ ds → ∃ e, e ∈ es ∧ coreE e = coreE d := fun d hd => by
        have : coreE d ∈ es.map coreE := by rw [← hce]; exact List.mem_map_of_mem hd
        obtain ⟨e, he, h2⟩ := List.mem_map.1 this
        exact ⟨e, he, h2⟩
      have hhash : ∀ d, d ∈ ds → d.hash = hashF way d.key := fun d hd => by
        obtain ⟨e, he, h2⟩ := hget d hd
        have h3 := h.tab.hh e he
        unfold coreE at h2
        injection h2 with h2 h4
        injection h4 with h4 h5
        rw [← h5, ← h2, h3]
      have hkey : ∀ i (hi : i < ds.length), ds[i].key = (es[i]'(by omega)).key := fun i hi => by
        have h1 : (ds.map coreE)[i]'(by rw [List.length_map]; exact hi) = (es.map coreE)[i]'(by rw [List.length_map]; omega) := by simp only [hce]
        rw [List.getElem_map, List.getElem_map] at h1
        unfold coreE at h1
        injection h1
      have hlay := Lib.hid (ix_lay (sz := sz) hC.out.hT hC.out.hE hC.out.nd (fun d hd => by rw [hhash d hd]; exact hashF_range _ _) ⟨z1, z2⟩ (by rw [hlen]; exact h.lt))
      have hfin : Hid (∀ W P2 pl2, wr.heap.size ≤ P2 → W.heap[Tc]? = some (.cells #[hashV hb, sameV sb, .slice (some ⟨P2, 0, none⟩) sz sz, .pointer (ptr (ds.head?.map Ent.b)), .pointer (ptr (ds.getLast?.map Ent.b)), .int .i64 ds.length] 87) → W.heap[P2]? = some (.cells (plCs sz pl2) 85) →
          Can sz ds pl2 → KeptR (fun b => b = Tc) wr W → ∃ Tc' Pc ds plc, Value.pointer (some ⟨Tc, 0, none⟩) = .pointer (some ⟨Tc', 0, none⟩) ∧ w.heap.size ≤ Tc' ∧ w.heap.size ≤ Pc ∧ (∀ d, d ∈ ds → w.heap.size ≤ d.b) ∧ TS W Tc' Pc hb sb way sz ds plc ∧ ds.map coreE = es.map coreE ∧ Below w.heap.size w W) := Lib.hid (by
        intro W P2 pl2 hP2 hWT hWP hcan hkW
        have hC2 := hC.out
        have hTge := hC2.geT
        have hbel := hC2.bel
        have hbw : Below w.heap.size w W := hkW.below hbel (fun b e => by rw [e]; exact hTge)
        refine ⟨Tc, P2, ds, pl2, rfl, hTge, Nat.le_trans hbel.size hP2, fun d hd => ?_, ⟨⟨hWT, hWP, ?_, ?_, fun i hi => ?_, hcan.only, ⟨z1, z2⟩, fun i j hi hj he => ?_, hhash⟩, hcan, fun i j hi hj he => ?_, ?_, h.pow⟩, hce, hbw⟩
        · obtain ⟨i, hi, rfl⟩ := List.getElem_of_mem hd
          exact hC2.lo i hi
        · exact bx_below h.tab.hH hbw
        · exact bx_below h.tab.hS hbw
        · exact (hkW.block _ (hC2.ltE i hi) (hC2.neE i hi)).trans (hC2.hE i hi)
        · rw [List.getElem?_eq_getElem hi, List.getElem?_eq_getElem hj] at he
          simp only [Option.map_some] at he
          injection he with he
          exact hC2.nd i j hi hj he
        · rw [hkey i hi, hkey j hj] at he
          exact h.na i j (by omega) (by omega) he
        · rw [hlen]; exact h.room)
      clear hce hget hhash hkey hcore
      go_wp2_with (go_at_call 48; refine hlay.out.mono ?_; rintro e W ⟨rfl, P2, pl2, hP2, hWT, hWP, hcan, hkW⟩; replace hfin := Lib.hid (hfin.out W P2 pl2 hP2 hWT hWP hcan hkW); clear hP2 hWT hWP hcan hkW)
      go_ret
      obtain ⟨Tc', Pc, ds', plc, h1, h2⟩ := hfin.out
      exact ⟨Tc', Pc, ds', plc, congrArg Ending.returned h1, h2⟩
end
end Go.Proofs.Ytjeeljolhcoeoaa
