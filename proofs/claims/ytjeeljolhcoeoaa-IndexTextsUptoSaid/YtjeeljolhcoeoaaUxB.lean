/- Index: lay, walked. -/
import Derived.Test.YtjeeljolhcoeoaaUxA
import Derived.Test.YtjeeljolhcoeoaaSxH
namespace Go.Proofs.Ytjeeljolhcoeoaa.Str
open Go.RowKit
attribute [local go_sem] eql_fn_h eql_nn_h eql_fn_s eql_nn_s eql_fn_i eql_nn_i

theorem pigeon : ∀ (n m : Nat) (f : Nat → Nat), (∀ i, i < m → f i < n) → (∀ i j, i < m → j < m → f i = f j → i = j) → m ≤ n
  | 0, m, f, hf, _ => by
    cases m with
    | zero => exact Nat.le_refl _
    | succ m => exact absurd (hf 0 (by omega)) (Nat.not_lt_zero _)
  | n + 1, m, f, hf, hi => by
    by_cases hex : ∃ i0, i0 < m ∧ f i0 = n
    · obtain ⟨i0, h0, he⟩ := hex
      have hgl : ∀ i, i < m - 1 → sg i0 i < m ∧ sg i0 i ≠ i0 := by intro i h; unfold sg; split <;> omega
      have := pigeon n (m - 1) (fun i => f (sg i0 i)) (fun i h => by
        obtain ⟨h1, h2⟩ := hgl i h
        have h3 := hf _ h1
        have h4 : f (sg i0 i) ≠ n := fun e => h2 (hi _ _ h1 h0 (e.trans he.symm))
        show f (sg i0 i) < n
        omega) (fun i j h1 h2 e => sg_inj (hi _ _ (hgl i h1).1 (hgl j h2).1 e))
      omega
    · have := pigeon n m f (fun i h => by
        have h3 := hf i h
        have h4 : f i ≠ n := fun e => hex ⟨i, h, e⟩
        omega) hi
      omega
theorem Can.free {sz : Nat} {es : List Ent} {pl : Nat → Option Nat} (h : Can sz es pl) (hl : es.length < sz) : ∃ q, q < sz ∧ pl q = none := by
  refine Classical.byContradiction fun hno => ?_
  have hall : ∀ j, j < sz → ∃ i, ∃ hi : i < es.length, pl j = some es[i].b := by
    intro j hj
    cases hp : pl j with
    | none => exact absurd ⟨j, hj, hp⟩ hno
    | some b =>
      obtain ⟨i, hi, e⟩ := h.only j hj b hp
      exact ⟨i, hi, by rw [e]⟩
  have hch : ∃ f : Nat → Nat, ∀ j, j < sz → ∃ hi : f j < es.length, pl j = some (es[f j]'hi).b := by
    refine ⟨fun j => if hj : j < sz then Classical.choose (hall j hj) else 0, fun j hj => ?_⟩
    simp only [dif_pos hj]
    exact Classical.choose_spec (hall j hj)
  obtain ⟨f, hf⟩ := hch
  have := pigeon es.length sz f (fun i hi => (hf i hi).1) (fun i j hi hj e => by
    obtain ⟨h1, h2⟩ := hf i hi
    obtain ⟨h3, h4⟩ := hf j hj
    refine h.inj i j hi hj _ h2 ?_
    rw [h4]
    simp only [e])
  omega

theorem run_neqP_nil (b : Nat) : (some (⟨b, 0, none⟩ : Addr) != none) = true := rfl

/-- the loop of lay -/
structure LL (w : World) (T P sz : Nat) (csT : Array Value) (es : List Ent) (k : Nat) (pl : Nat → Option Nat) (wr : World) : Prop where
  hT : wr.heap[T]? = some (.cells csT 91)
  hP : wr.heap[P]? = some (.cells (plCs sz pl) 89)
  can : Can sz (es.take k) pl
  kept : KeptR (fun b => b = P) w wr
def rankV (es : List Ent) : Value → Nat
  | .pointer (some a) => es.length - rkE es a.block
  | _ => 0

set_option maxRecDepth 100000 in
set_option maxHeartbeats 8000000 in
theorem ix_lay {w : World} {T sz : Nat} {es : List Ent} {v0 v1 v2 v4 v5 : Value} (hT : w.heap[T]? = some (.cells #[v0, v1, v2, .pointer (ptr (es.head?.map Ent.b)), v4, v5] 91))
    (hE : ∀ i (hi : i < es.length), w.heap[es[i].b]? = some (.cells (entCs es i es[i]) 97)) (hnd : ∀ i j (hi : i < es.length) (hj : j < es.length), es[i].b = es[j].b → i = j)
    (hh : ∀ e, e ∈ es → 0 ≤ e.hash ∧ e.hash < 18446744073709551616) (hsz : 8 ≤ sz ∧ sz ≤ 35184372088832) (hlen : es.length < sz) :
    Calls Try.prog 40 #[.pointer (some ⟨T, 0, none⟩), .int .i64 sz] w fun e w' => e = .returned (.tuple #[]) ∧
      ∃ P pl, w.heap.size ≤ P ∧ w'.heap[T]? = some (.cells #[v0, v1, .slice (some ⟨P, 0, none⟩) sz sz, .pointer (ptr (es.head?.map Ent.b)), v4, v5] 91) ∧ w'.heap[P]? = some (.cells (plCs sz pl) 89) ∧
        Can sz es pl ∧ KeptR (fun b => b = T) w w' := by
  obtain ⟨z1, z2⟩ := hsz
  obtain ⟨i0, hi, hz0, hz1, hz2⟩ := info_parts infoP
  have hltT := (Array.getElem?_eq_some_iff.1 hT).1
  have hETn : ∀ i (hi : i < es.length), es[i].b ≠ T := fun i hi e => by have h1 := hE i hi; rw [e, hT] at h1; simp at h1
  go_enter Try.func40, Try.ntmps40
  go_upto_region 1 with (refine wpList_make_full _ rfl _ _ _ rfl w.heap.size 89 i0 _ 1 Try.underlying88 hi hz0 hz1 .i64 .i64 sz sz sz rfl rfl rfl rfl (by rw [hz2]; omega) (by unfold maxLen; omega) (Nat.le_refl _) ?_; intro w1 hown hgrow; have hT1 := (hgrow.block T hltT (by simp)).trans hT; have t2 : w1.cell? ⟨T, 2, none⟩ = some v2 := cell_of_row _ _ _ _ _ _ hT1; have f2 := frozen_of hT1 2)
  have hP1 := made_places hown
  have hk1 : KeptR (fun b => b = T) w w1 := (KeptR.refl _ w).grown hgrow (fun b e => by cases e)
  have hPT : w.heap.size ≠ T := by omega
  have hE1 : ∀ i (hi : i < es.length), w1.heap[es[i].b]? = some (.cells (entCs es i es[i]) 97) := fun i hi => (hgrow.block _ (Array.getElem?_eq_some_iff.1 (hE i hi)).1 (by simp)).trans (hE i hi)
  have hEPn : ∀ i (hi : i < es.length), es[i].b ≠ w.heap.size := fun i hi => by have := (Array.getElem?_eq_some_iff.1 (hE i hi)).1; omega
  have hT2 := set_same (i := 2) (.slice (some ⟨w.heap.size, 0, none⟩) sz sz) hT1
  have hT3 : (w1.setCell ⟨T, 2, none⟩ (.slice (some ⟨w.heap.size, 0, none⟩) sz sz)).heap[T]? = some (.cells #[v0, v1, .slice (some ⟨w.heap.size, 0, none⟩) sz sz, .pointer (ptr (es.head?.map Ent.b)), v4, v5] 91) := hT2
  have hP2 := (set_ne (i := 2) (.slice (some ⟨w.heap.size, 0, none⟩) sz sz) hPT).trans hP1
  have hE2 : ∀ i (hi : i < es.length), (w1.setCell ⟨T, 2, none⟩ (.slice (some ⟨w.heap.size, 0, none⟩) sz sz)).heap[es[i].b]? = some (.cells (entCs es i es[i]) 97) := fun i hi => (set_ne _ (hETn i hi)).trans (hE1 i hi)
  have hk2 : KeptR (fun b => b = T) w (w1.setCell ⟨T, 2, none⟩ (.slice (some ⟨w.heap.size, 0, none⟩) sz sz)) := hk1.set (.inl rfl)
  clear hE hE1 hT1 t2 f2 hP1 hk1 hT2 hT hown hgrow
  generalize w1.setCell ⟨T, 2, none⟩ (.slice (some ⟨w.heap.size, 0, none⟩) sz sz) = w2 at hT3 hP2 hE2 hk2 ⊢
  have hPw : w.heap.size ≤ w.heap.size := Nat.le_refl _
  have hbig : ∀ wz : World, KeptR (fun b => b = w.heap.size) w2 wz → KeptR (fun b => b = T) w wz := fun wz hz => by
    refine ⟨hz.os.trans hk2.os, hz.tape.trans hk2.tape, hz.output.trans hk2.output, Nat.le_trans hk2.size hz.size, fun b hb hn => ?_⟩
    exact (hz.block b (Nat.lt_of_lt_of_le hb hk2.size) (by omega)).trans (hk2.block b hb hn)
  replace hbig := Lib.hid hbig
  obtain ⟨P, hP⟩ : ∃ P, w.heap.size = P := ⟨_, rfl⟩
  rw [hP] at hT3 hP2 hEPn hPT hbig ⊢
  have t3 : w2.cell? ⟨T, 3, none⟩ = some (.pointer (ptr (es.head?.map Ent.b))) := cell_of_row _ _ _ _ _ _ hT3
  replace hnd := Lib.hid hnd
  replace hh := Lib.hid hh
  replace hE2 := Lib.hid hE2
  replace hETn := Lib.hid hETn
  replace hEPn := Lib.hid hEPn
  replace hT3 := Lib.hid hT3
  replace hP2 := Lib.hid hP2
  go_wp2
  go_loopw [4, 5] (fun ev _ wr => ∃ (k : Nat) (pl' : Nat → Option Nat), k ≤ es.length ∧ ev = .pointer (ptr ((es[k]?).map Ent.b)) ∧ Hid (LL w2 T P sz #[v0, v1, .slice (some ⟨P, 0, none⟩) sz sz, .pointer (ptr (es.head?.map Ent.b)), v4, v5] es k pl' wr)) (fun ev _ _ => rankV es ev)
  case atStart => exact ⟨0, fun _ => none, Nat.zero_le _, by rw [List.head?_eq_getElem?], Lib.hid ⟨hT3.out, hP2.out, by rw [List.take_zero]; exact Can.nil sz, KeptR.refl _ _⟩⟩
  case round =>
    clear hT3 hP2 t3
    obtain ⟨k, pl', hk, rfl, hL⟩ := hrel
    by_cases hlt : k < es.length
    · rw [List.getElem?_eq_getElem hlt]
      obtain ⟨x, hx⟩ : ∃ x, es[k] = x := ⟨_, rfl⟩
      have hEk := hE2.out k hlt
      have hxT := hETn.out k hlt
      have hxP := hEPn.out k hlt
      have hrk := rk_at hnd.out k hlt
      have hxh := hh.out es[k] (List.getElem_mem hlt)
      have hxn : ∀ i (hi : i < (es.take k).length), (es.take k)[i].b ≠ x.b := fun i hi e => by
        rw [List.length_take] at hi
        rw [List.getElem_take, ← hx] at e
        have := hnd.out i k (by omega) hlt e
        omega
      have htk : es.take (k + 1) = es.take k ++ [x] := by rw [List.take_succ_eq_append_getElem hlt, hx]
      rw [hx] at hEk hxT hxP hrk hxh ⊢
      rw [show ptr (Option.map Ent.b (some x)) = some ⟨x.b, 0, none⟩ from rfl]
      have e2 : w2.cell? ⟨x.b, 2, none⟩ = some (.int .u64 x.hash) := cell_of_row _ _ _ _ _ _ hEk
      have e4 : w2.cell? ⟨x.b, 4, none⟩ = some (.pointer (ptr (nextB es k))) := cell_of_row _ _ _ _ _ _ hEk
      have c2 := hL.out.kept.cell e2 hxP
      have c4 := hL.out.kept.cell e4 hxP
      have t2r : wr.cell? ⟨T, 2, none⟩ = some (.slice (some ⟨P, 0, none⟩) sz sz) := cell_of_row _ _ _ _ _ _ hL.out.hT
      have chm := Lib.hid (ix_home2 t2r ⟨z1, z2⟩ x.hash hxh.1 hxh.2)
      have hms : homeN x.hash sz < sz := Nat.mod_lt _ (by omega)
      have hfr := hL.out.can.free (by rw [List.length_take]; omega)
      obtain ⟨D, hD, hDn, hDf, _⟩ := fnd_miss (mt := fun _ => false) (m := homeN x.hash sz) (by omega) hms hfr (fun _ _ _ _ => rfl)
      have hpush := Lib.hid (hL.out.can.push x hD hDn hDf hxn)
      rw [← htk] at hpush
      obtain ⟨M, hM⟩ : ∃ M, homeN x.hash sz = M := ⟨_, rfl⟩
      rw [hM] at chm hms hDn hDf hpush
      obtain ⟨z, hz⟩ : ∃ z, (M + D) % sz = z := ⟨_, rfl⟩
      rw [hz] at hDn hpush
      have hzs : z < sz := by rw [← hz]; exact Nat.mod_lt _ (by omega)
      have hmeas : Hid (rankV es (.pointer (ptr (nextB es k))) < rankV es (.pointer (some ⟨x.b, 0, none⟩))) := Lib.hid (by
        have e1 : rankV es (.pointer (some ⟨x.b, 0, none⟩)) = es.length - k := by show es.length - rkE es x.b = _; rw [hrk]
        rw [e1]
        rcases Nat.lt_or_ge (k + 1) es.length with h1 | h1
        · rw [next_at h1]
          show es.length - rkE es es[k + 1].b < _
          rw [rk_at hnd.out (k + 1) h1]; omega
        · rw [next_end h1]
          show 0 < _
          omega)
      have place : ∀ j, j < sz → wr.cell? ⟨P, j, none⟩ = some (.pointer (ptr (pl' j))) := fun j hj => by unfold World.cell?; rw [hL.out.hP]; simp [plCs, hj]
      have fz := frozen_of hL.out.hP z
      have hpz := place z hzs
      rw [hDn] at hpz
      change wr.cell? _ = some (Value.pointer none) at hpz
      have hend := Lib.hid (show LL w2 T P sz #[v0, v1, .slice (some ⟨P, 0, none⟩) sz sz, .pointer (ptr (es.head?.map Ent.b)), v4, v5] es (k + 1) (updP pl' z (some x.b)) (wr.setCell ⟨P, z, none⟩ (.pointer (some ⟨x.b, 0, none⟩))) from
        ⟨(set_ne _ (Ne.symm hPT)).trans hL.out.hT, by rw [← plCs_set]; exact set_same _ hL.out.hP, hpush.out, hL.out.kept.set (.inl rfl)⟩)
      have hbP : ¬ x.b = P := hxP
      have hTP : ¬ T = P := Ne.symm hPT
      replace place := Lib.hid place
      replace hDf := Lib.hid hDf
      replace hM := Lib.hid hM
      replace hx := Lib.hid hx
      replace hz := Lib.hid hz
      clear hL hfr hxn htk hEk hrk hxh e2 e4 hpush hxT
      have hnext : Hid (Value.pointer (ptr (nextB es k)) = .pointer (ptr ((es[k + 1]?).map Ent.b))) := Lib.hid rfl
      go_wp2_with (go_at_call 62; refine chm.out.mono ?_; rintro e w' ⟨rfl, rfl⟩)
      go_loopw [5] (fun av wr2 => ∃ t, t ≤ D ∧ av = .int .i64 (((M + t) % sz : Nat)) ∧ wr2 = wr) (fun av _ => (z + sz - (intOf av).toNat) % sz)
      case atStart => exact ⟨0, Nat.zero_le _, by rw [Nat.add_zero, Nat.mod_eq_of_lt hms], rfl⟩
      case round =>
        obtain ⟨t, ht, rfl, rfl⟩ := hrel
        have hAs : (M + t) % sz < sz := Nat.mod_lt _ (by omega)
        by_cases htD : t < D
        · have hpA := place.out _ hAs
          have hne := hDf.out t htD
          have hnx : Hid ((M + (t + 1)) % sz = ((M + t) % sz + 1) % sz) := Lib.hid (by rw [Nat.mod_add_mod, Nat.add_assoc])
          obtain ⟨A, hA⟩ : ∃ A, (M + t) % sz = A := ⟨_, rfl⟩
          rw [hA] at hpA hne hnx hAs ⊢
          have hAz : A ≠ z := by intro e; rw [e] at hne; exact hne hDn
          have hmz := Lib.hid (next_less hAs hzs hAz)
          have hwA : IntKind.i64.wrap ((A : Int) + 1) = (A : Int) + 1 := IntWalk.i64_in _ (by omega)
          have hszn : ¬ (sz : Int) = 0 := by omega
          have hnum : Hid (((A : Int) + 1) % (sz : Int) = (((A + 1) % sz : Nat) : Int)) := Lib.hid rfl
          cases hpa : pl' A with
          | none => exact absurd hpa hne
          | some b =>
            rw [hpa] at hpA
            change _ = some (Value.pointer (some ⟨b, 0, none⟩)) at hpA
            clear hA hpa hne
            go_wp2
            go_roundw
            case rel => exact ⟨t + 1, by omega, by rw [hnx.out]; rfl, by first | rfl | trivial⟩
            case measure => rw [hnum.out]; simp [intOf]; exact hmz.out
        · obtain rfl : t = D := by omega
          rw [hz.out]
          go_wp2
          go_roundw
          case rel => exact ⟨k + 1, _, by omega, hnext.out, hend⟩
          case measure => exact hmeas.out
    · obtain rfl : k = es.length := by omega
      have hfin := Lib.hid (show ∃ P pl, w.heap.size ≤ P ∧ wr.heap[T]? = some (.cells #[v0, v1, .slice (some ⟨P, 0, none⟩) sz sz, .pointer (ptr (es.head?.map Ent.b)), v4, v5] 91) ∧ wr.heap[P]? = some (.cells (plCs sz pl) 89) ∧ Can sz es pl ∧ KeptR (fun b => b = T) w wr from
        ⟨P, pl', by omega, hL.out.hT, hL.out.hP, by have := hL.out.can; rwa [List.take_length] at this, hbig.out wr hL.out.kept⟩)
      clear hL
      rw [List.getElem?_eq_none (Nat.le_refl _)]
      go_wp2
      go_end0
      exact ⟨rfl, hfin.out⟩
end Go.Proofs.Ytjeeljolhcoeoaa.Str
