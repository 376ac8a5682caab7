/- Index: close, walked. -/
import Derived.Test.YtjeeljolhcoeoaaSxV
import Derived.Test.YtjeeljolhcoeoaaSxG
import Derived.StillTailTactics
import Derived.Deep.Cut
namespace Go.Proofs.Ytjeeljolhcoeoaa.Str
open Go.RowKit
attribute [local go_sem] eql_fn_h eql_nn_h eql_fn_s eql_nn_s eql_fn_i eql_nn_i

theorem ix_home2 {w : World} {T P sz : Nat} (t2 : w.cell? ⟨T, 2, none⟩ = some (.slice (some ⟨P, 0, none⟩) sz sz)) (hsz : 8 ≤ sz ∧ sz ≤ 35184372088832) (hash : Int) (h0 : 0 ≤ hash) (h1 : hash < 18446744073709551616) : Calls Try.prog 62 #[.pointer (some ⟨T, 0, none⟩), .int .u64 hash] w fun e w' => e = .returned (.int .i64 (homeN hash sz : Nat)) ∧ w = w' := by
  obtain ⟨z1, z2⟩ := hsz
  have hws : IntKind.u64.wrap (sz : Int) = sz := by rw [wrap_u64_eq]; omega
  have hne : ¬ (sz : Int) = 0 := by omega
  have hm0 := Int.emod_nonneg hash (b := (sz : Int)) (by omega)
  have hm1 := Int.emod_lt_of_pos hash (b := (sz : Int)) (by omega)
  have hw2 : IntKind.i64.wrap (hash % (sz : Int)) = hash % (sz : Int) := IntWalk.i64_in _ (by omega)
  have hr : Hid (hash % (sz : Int) = (homeN hash sz : Nat)) := Lib.hid (by obtain ⟨n, rfl⟩ := Int.eq_ofNat_of_zero_le h0; rfl)
  go_enter Try.func62, Try.ntmps62
  go_wp2
  go_ret
  exact ⟨ret_int hr.out, rfl⟩

theorem way_of {sz m D p : Nat} (hm : m < sz) (hD : D < sz) (hp : (m + D) % sz = p) : ((p : Int) - m + sz).tmod sz = D := by
  have h0 : (0 : Int) ≤ (p : Int) - m + sz := by omega
  rw [Int.tmod_eq_emod_of_nonneg h0]
  rcases Nat.lt_or_ge (m + D) sz with h1 | h1
  · rw [Nat.mod_eq_of_lt h1] at hp
    rw [show (p : Int) - m + sz = D + sz from by omega, Int.add_emod_right]
    exact Int.emod_eq_of_lt (by omega) (by omega)
  · rw [Nat.mod_eq_sub_mod h1, Nat.mod_eq_of_lt (by omega)] at hp
    rw [show (p : Int) - m + sz = D from by omega]
    exact Int.emod_eq_of_lt (by omega) (by omega)

theorem next_less {sz A z : Nat} (hA : A < sz) (hz : z < sz) (hne : A ≠ z) : (z + sz - (A + 1) % sz) % sz < (z + sz - A) % sz := by
  rcases Nat.lt_or_ge A z with h | h
  · rw [Nat.mod_eq_of_lt (show A + 1 < sz by omega), show z + sz - A = (z - A) + sz from by omega, show z + sz - (A + 1) = (z - A - 1) + sz from by omega, Nat.add_mod_right, Nat.add_mod_right, Nat.mod_eq_of_lt (show z - A < sz by omega), Nat.mod_eq_of_lt (show z - A - 1 < sz by omega)]
    omega
  · rw [Nat.mod_eq_of_lt (show z + sz - A < sz by omega)]
    rcases Nat.lt_or_ge (A + 1) sz with h1 | h1
    · rw [Nat.mod_eq_of_lt h1, Nat.mod_eq_of_lt (show z + sz - (A + 1) < sz by omega)]; omega
    · rw [show A + 1 = sz from by omega, Nat.mod_self, Nat.sub_zero, Nat.add_mod_right, Nat.mod_eq_of_lt hz]; omega
/-- the loop of close -/
structure CL (w : World) (T P sz : Nat) (E : Ent → Prop) (rk : Nat → Nat) (z : Nat) (h a : Nat) (pl : Nat → Option Nat) (wr : World) : Prop where
  ci : CI sz E rk pl h a
  hP : wr.heap[P]? = some (.cells (plCs sz pl) 89)
  kept : KeptR (fun b => b = P) w wr
  free : pl z = none
  zh : z ≠ h

set_option maxRecDepth 100000 in
set_option maxHeartbeats 8000000 in
theorem ix_close {w : World} {T P sz p z : Nat} {E : Ent → Prop} {rk : Nat → Nat} {pl : Nat → Option Nat} (t2 : w.cell? ⟨T, 2, none⟩ = some (.slice (some ⟨P, 0, none⟩) sz sz)) (hsz : 8 ≤ sz ∧ sz ≤ 35184372088832) (hTP : T ≠ P)
    (hP : w.heap[P]? = some (.cells (plCs sz pl) 89)) (hE : ∀ e, E e → w.cell? ⟨e.b, 2, none⟩ = some (.int .u64 e.hash) ∧ 0 ≤ e.hash ∧ e.hash < 18446744073709551616 ∧ e.b ≠ P)
    (hp : p < sz) (hz : z < sz) (hzp : z ≠ p) (hzn : pl z = none) (c0 : CI sz E rk (updP pl p none) p 1) :
    Calls Try.prog 39 #[.pointer (some ⟨T, 0, none⟩), .int .i64 p] w fun e w' => e = .returned (.tuple #[]) ∧
      ∃ pl' h a, CI sz E rk pl' h a ∧ pl' ((h + a) % sz) = none ∧ w'.heap[P]? = some (.cells (plCs sz pl') 89) ∧ KeptR (fun b => b = P) w w' := by
  obtain ⟨z1, z2⟩ := hsz
  have hne : ¬ (sz : Int) = 0 := by omega
  have hwp : IntKind.i64.wrap ((p : Int) + 1) = (p : Int) + 1 := IntWalk.i64_in _ (by omega)
  have fP := frozen_of hP p
  have cP : w.cell? ⟨P, p, none⟩ = some (.pointer (ptr (pl p))) := by unfold World.cell?; rw [hP]; simp [plCs, hp]
  have hP1 := Lib.hid (set_same (i := p) (.pointer none) hP)
  have hTP' : ¬ T = P := hTP
  have hPT : ¬ P = T := Ne.symm hTP
  replace c0 := Lib.hid c0
  replace hE := Lib.hid hE
  have hk0 : Hid (KeptR (fun b => b = P) w (w.setCell ⟨P, p, none⟩ (.pointer none))) := Lib.hid ((KeptR.refl _ w).set (.inl rfl))
  have ht2 : ∀ wr, KeptR (fun b => b = P) w wr → wr.cell? ⟨T, 2, none⟩ = some (.slice (some ⟨P, 0, none⟩) sz sz) := fun wr hk => hk.cell t2 hTP
  replace ht2 := Lib.hid ht2
  have hpm : (p + 1) % sz < sz := Nat.mod_lt _ (by omega)
  go_enter Try.func39, Try.ntmps39
  go_wp2
  generalize w.setCell ⟨P, p, none⟩ (.pointer none) = w1 at hP1 hk0 ⊢
  go_loopw [1, 5, 6] (fun hv av _ wr => ∃ (h a : Nat) (pl' : Nat → Option Nat), hv = .int .i64 h ∧ av = .int .i64 (((h + a) % sz : Nat)) ∧ Hid (CL w T P sz E rk z h a pl' wr)) (fun _ av _ _ => (z + sz - (intOf av).toNat) % sz)
  case atStart =>
    exact ⟨p, 1, updP pl p none, rfl, rfl, Lib.hid ⟨c0.out, by rw [← plCs_setO]; exact hP1.out, hk0.out, by rw [updP_other _ _ hzp]; exact hzn, hzp⟩⟩
  case round =>
    clear c0 hP1 hk0 fP cP hwp hpm
    obtain ⟨h, a, pl', rfl, rfl, hC⟩ := hrel
    have hhs := hC.out.ci.hh
    have has := hC.out.ci.ha
    obtain ⟨A, hA⟩ : ∃ A, (h + a) % sz = A := ⟨_, rfl⟩
    have hAs : A < sz := by rw [← hA]; exact Nat.mod_lt _ (by omega)
    rw [hA]
    have t2r := ht2.out wr hC.out.kept
    have cell : ∀ j, j < sz → wr.cell? ⟨P, j, none⟩ = some (.pointer (ptr (pl' j))) := fun j hj => by unfold World.cell?; rw [hC.out.hP]; simp [plCs, hj]
    have cA := cell A hAs
    have cH := cell h hhs
    have fA := frozen_of hC.out.hP A
    have fH := frozen_of hC.out.hP h
    clear cell
    have hwA : IntKind.i64.wrap ((A : Int) + 1) = (A : Int) + 1 := IntWalk.i64_in _ (by omega)
    cases hpa : pl' A with
    | none =>
      rw [hpa] at cA
      change wr.cell? _ = some (Value.pointer none) at cA
      have hfin := Lib.hid (show ∃ pl' h a, CI sz E rk pl' h a ∧ pl' ((h + a) % sz) = none ∧ wr.heap[P]? = some (.cells (plCs sz pl') 89) ∧ KeptR (fun b => b = P) w wr from ⟨pl', h, a, hC.out.ci, by rw [hA]; exact hpa, hC.out.hP, hC.out.kept⟩)
      clear hC hpa hA
      go_wp2
      go_end0
      exact ⟨rfl, hfin.out⟩
    | some b =>
      rw [hpa] at cA
      change wr.cell? _ = some (Value.pointer (some ⟨b, 0, none⟩)) at cA
      obtain ⟨x, hEx, rfl⟩ := hC.out.ci.only A hAs b hpa
      obtain ⟨D, hD, hpx, _⟩ := hC.out.ci.lies x hEx
      have hDA : (homeN x.hash sz + D) % sz = A := hC.out.ci.inj _ _ (Nat.mod_lt _ (by omega)) hAs _ hpx hpa
      obtain ⟨hx1, hx2, hx3, hx4⟩ := hE.out x hEx
      have cx := hC.out.kept.cell hx1 hx4
      have ch := ix_home2 t2r ⟨z1, z2⟩ x.hash hx2 hx3
      have hAz : A ≠ z := by intro e; rw [e, hC.out.free] at hpa; cases hpa
      have hAh : A ≠ h := by intro e; rw [e, hC.out.ci.hole] at hpa; cases hpa
      have hlta : a < sz := by
        rcases Nat.lt_or_ge a sz with h1 | h1
        · exact h1
        · exact absurd (by rw [← hA, show a = sz from by omega, Nat.add_mod_right, Nat.mod_eq_of_lt hhs]) hAh
      have hM1 : ((A : Int) - (homeN x.hash sz : Nat) + sz).tmod sz = D := way_of (Nat.mod_lt _ (by omega)) hD hDA
      have hM2 := way_of hhs hlta hA
      have hms : homeN x.hash sz < sz := Nat.mod_lt _ (by omega)
      have hmz : (z + sz - (A + 1) % sz) % sz < (z + sz - A) % sz := next_less hAs hz hAz
      have hskip := Lib.hid fun (hlt : D < a) => hC.out.ci.skip hEx (by rw [hA]; exact hpa) hD (by rw [hA]; exact hDA) hlt hlta
      have hmove := Lib.hid fun (hge : a ≤ D) => hC.out.ci.move hEx (by rw [hA]; exact hpa) hD (by rw [hA]; exact hDA) hge
      obtain ⟨B, hB⟩ : ∃ B, x.b = B := ⟨_, rfl⟩
      obtain ⟨Hx, hHx⟩ : ∃ Hx, x.hash = Hx := ⟨_, rfl⟩
      rw [hHx] at cx ch hM1 hms
      rw [hB] at cx cA
      obtain ⟨M, hM⟩ : ∃ M, homeN Hx sz = M := ⟨_, rfl⟩
      rw [hM] at ch hM1 hms
      clear hDA hpx hx1 hx2 hx3 hx4 hM hHx
      replace ch := Lib.hid ch
      replace hA := Lib.hid hA
      replace hpa := Lib.hid hpa
      replace hB := Lib.hid hB
      have wA1 : IntKind.i64.wrap ((A : Int) - M) = (A : Int) - M := IntWalk.i64_in _ (by omega)
      have wA2 : IntKind.i64.wrap ((A : Int) - M + sz) = (A : Int) - M + sz := IntWalk.i64_in _ (by omega)
      have wB1 : IntKind.i64.wrap ((A : Int) - h) = (A : Int) - h := IntWalk.i64_in _ (by omega)
      have wB2 : IntKind.i64.wrap ((A : Int) - h + sz) = (A : Int) - h + sz := IntWalk.i64_in _ (by omega)
      replace hmz := Lib.hid hmz
      have hnx : (h + (a + 1)) % sz = (A + 1) % sz := by rw [← hA.out, Nat.mod_add_mod, Nat.add_assoc]
      replace hnx := Lib.hid hnx
      have hnum : ((A : Int) + 1) % (sz : Int) = (((A + 1) % sz : Nat) : Int) := rfl
      replace hnum := Lib.hid hnum
      by_cases hge : a ≤ D
      · have g1 : decide ((a : Int) ≤ (D : Int)) = true := decide_eq_true (by omega)
        have hmv := Lib.hid (hmove.out hge)
        have hPh : ¬ h = A := Ne.symm hAh
        have hPA : ¬ A = h := hAh
        clear hskip hmove
        go_wp2_with (go_at_call 62; refine ch.out.mono ?_; rintro e w' ⟨rfl, rfl⟩)
        go_quiet (fail)
        have hd : Below wr.heap.size wr (wr.drewN nq) := below_drewN (Below.refl _ _) nq
        have hPV := (hd.block P (Array.getElem?_eq_some_iff.1 hC.out.hP).1).trans hC.out.hP
        have hkV := hC.out.kept.drewN nq
        have hfree := Lib.hid hC.out.free
        have hzh0 := Lib.hid hC.out.zh
        replace t2r := cell_below hd rfl t2r
        replace cA := cell_below hd rfl cA
        replace cH := cell_below hd rfl cH
        clear fA fH hC hM1 hM2 wA1 wA2 wB1 wB2 cx ch
        generalize wr.drewN nq = V at hPV hkV t2r cA cH ⊢
        clear hd
        go_upto_region 7 with fail
        go_still_tail 13, (by kernel_rfl)
        change wpList _ _ _ _ _ V.drew
        have hPW : V.drew.heap[P]? = some (.cells (plCs sz pl') 89) := hPV
        have hkW : KeptR (fun b => b = P) w V.drew := hkV.drewN 1
        replace t2r : V.drew.cell? ⟨T, 2, none⟩ = some (.slice (some ⟨P, 0, none⟩) sz sz) := t2r
        replace cA : V.drew.cell? ⟨P, A, none⟩ = some (Value.pointer (some ⟨B, 0, none⟩)) := cA
        replace cH : V.drew.cell? ⟨P, h, none⟩ = some (.pointer (ptr (pl' h))) := cH
        generalize V.drew = V2 at hPW hkW t2r cA cH ⊢
        clear hPV hkV
        have fA := frozen_of hPW A
        have fH := frozen_of hPW h
        have hend := Lib.hid (show CL w T P sz E rk z A 1 (updP (updP pl' h (some B)) A none) ((V2.setCell ⟨P, h, none⟩ (.pointer (some ⟨B, 0, none⟩))).setCell ⟨P, A, none⟩ (.pointer none)) from by
          have e1 := set_same (i := h) (.pointer (ptr (some B))) hPW
          rw [plCs_setO] at e1
          have e2 := set_same (i := A) (.pointer (ptr none)) e1
          rw [plCs_setO] at e2
          refine ⟨?_, e2, (hkW.set (.inl rfl)).set (.inl rfl), ?_, ?_⟩
          · have := hmv.out
            rw [hA.out, hB.out] at this
            exact this
          · have hzh : z ≠ h := hzh0.out
            rw [updP_other _ _ (Ne.symm hAz), updP_other _ _ hzh]; exact hfree.out
          · exact Ne.symm hAz)
        clear hPW hkW
        go_wp2
        go_roundw
        case rel => exact ⟨A, 1, _, rfl, rfl, hend⟩
        case measure => rw [hnum.out]; simp [intOf]; exact hmz.out
      · have g1 : decide ((a : Int) ≤ (D : Int)) = false := decide_eq_false (by omega)
        have hsk := Lib.hid (hskip.out (by omega))
        clear hskip hmove
        go_wp2_with (go_at_call 62; refine ch.out.mono ?_; rintro e w' ⟨rfl, rfl⟩)
        go_quiet (fail)
        have hd : Below wr.heap.size wr (wr.drewN nq) := below_drewN (Below.refl _ _) nq
        have hend := Lib.hid (show CL w T P sz E rk z h (a + 1) pl' (wr.drewN nq) from ⟨hsk.out, (hd.block P (Array.getElem?_eq_some_iff.1 hC.out.hP).1).trans hC.out.hP, hC.out.kept.drewN nq, hC.out.free, hC.out.zh⟩)
        clear hd hC
        generalize wr.drewN nq = V at hend ⊢
        go_wp2
        go_roundw
        case rel => exact ⟨h, a + 1, pl', rfl, by rw [hnx.out]; rfl, hend⟩
        case measure => rw [hnum.out]; simp [intOf]; exact hmz.out
end Go.Proofs.Ytjeeljolhcoeoaa.Str
