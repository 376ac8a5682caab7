/- Index: Take of what is not there; Put of what is there. -/
import Derived.Test.YtjeeljolhcoeoaaSxZ
namespace Go.Proofs.Ytjeeljolhcoeoaa.Str
open Go.RowKit
attribute [local go_sem] eql_fn_h eql_nn_h eql_fn_s eql_nn_s eql_fn_i eql_nn_i

theorem Can.congr {sz : Nat} {es es2 : List Ent} {pl : Nat → Option Nat} (h : Can sz es pl) (hl : es2.length = es.length) (hb : ∀ i (hi : i < es.length), (es2[i]'(by omega)).b = es[i].b ∧ (es2[i]'(by omega)).hash = es[i].hash) : Can sz es2 pl := by
  refine ⟨fun i hi => ?_, fun j hj b hb2 => ?_, h.inj, fun i j hi hj he => ?_⟩
  · obtain ⟨D, hD, hp, ht⟩ := h.lies i (by omega)
    refine ⟨D, hD, by rw [(hb i (by omega)).1, (hb i (by omega)).2]; exact hp, fun t htd => ?_⟩
    obtain ⟨k, hk, hki, hpk⟩ := ht t htd
    exact ⟨k, by omega, hki, by rw [(hb i (by omega)).2, (hb k hk).1]; exact hpk⟩
  · obtain ⟨i, hi, hib⟩ := h.only j hj b hb2
    exact ⟨i, by omega, by rw [(hb i hi).1]; exact hib⟩
  · rw [(hb i (by omega)).1, (hb j (by omega)).1] at he
    exact h.nodup i j (by omega) (by omega) he

theorem prev_congr {es es2 : List Ent} (hm : ∀ i : Nat, (es2[i]?).map Ent.b = (es[i]?).map Ent.b) (i : Nat) : prevB es2 i = prevB es i := by unfold prevB; split; rfl; exact hm _
theorem next_congr {es es2 : List Ent} (hm : ∀ i : Nat, (es2[i]?).map Ent.b = (es[i]?).map Ent.b) (i : Nat) : nextB es2 i = nextB es i := hm _
theorem tabCs_congr {es es2 : List Ent} (P hb sb sz : Nat) (hl : es2.length = es.length) (hm : ∀ i : Nat, (es2[i]?).map Ent.b = (es[i]?).map Ent.b) : tabCs P hb sb sz es2 = tabCs P hb sb sz es := by
  unfold tabCs
  rw [List.head?_eq_getElem?, List.head?_eq_getElem?, List.getLast?_eq_getElem?, List.getLast?_eq_getElem?, hl, hm, hm]

section
variable {w : World} {T P hb sb : Nat} {way : Int} {sz : Nat} {es : List Ent} {pl : Nat → Option Nat}

theorem ix_take_miss (h : Tab w T P hb sb way sz es pl) (key : ByteArray) (hfree : ∃ q, q < sz ∧ pl q = none) {r1 r2 : Nat} (hR : fnd pl (mtch es way key (hashF way key)) sz sz (homeN (hashF way key) sz) 1 = (r1, r2, false)) :
    Calls Try.prog 12 #[.pointer (some ⟨T, 0, none⟩), .string key] w fun e w' => e = .returned (.tuple #[.slice none 0 0, .bool false]) ∧ Drawn w w' := by
  have t0 := h.t0
  unfold hashV at t0
  go_enter Try.func12, Try.ntmps12
  go_wp2_with (first
    | (go_at_call 36; refine (ix_none h).mono ?_; rintro e w' ⟨rfl, rfl⟩)
    | (go_at_call 10; refine (ix_hash way key _).mono ?_; rintro e w' ⟨rfl, rfl⟩)
    | (go_at_call 37; refine (ix_find h key (hashF way key) (hashF_range way key).1 (hashF_range way key).2 hfree hR).mono ?_; rintro e wq ⟨rfl, hd⟩))
  go_ret2
  exact ⟨rfl, hd⟩

/-- the table with another value at one entry -/
theorem Tab.put (h : Tab w T P hb sb way sz es pl) {ie : Nat} (hie : ie < es.length) (v : SlV) :
    Tab (w.setCell ⟨es[ie].b, 1, none⟩ (.slice v.a v.n v.c)) T P hb sb way sz (es.set ie { es[ie] with val := v }) pl := by
  have hl : (es.set ie { es[ie] with val := v }).length = es.length := List.length_set
  have hb2 : ∀ i (hi : i < es.length), ((es.set ie { es[ie] with val := v })[i]'(by omega)).b = es[i].b ∧ ((es.set ie { es[ie] with val := v })[i]'(by omega)).hash = es[i].hash ∧ ((es.set ie { es[ie] with val := v })[i]'(by omega)).key = es[i].key := by
    intro i hi
    rw [List.getElem_set]
    by_cases e : ie = i
    · subst e; rw [if_pos rfl]; exact ⟨rfl, rfl, rfl⟩
    · rw [if_neg e]; exact ⟨rfl, rfl, rfl⟩
  have hm : ∀ i : Nat, ((es.set ie { es[ie] with val := v })[i]?).map Ent.b = (es[i]?).map Ent.b := by
    intro i
    rcases Nat.lt_or_ge i es.length with h1 | h1
    · rw [List.getElem?_eq_getElem (by omega), List.getElem?_eq_getElem h1]; simp only [Option.map_some]; rw [(hb2 i h1).1]
    · rw [List.getElem?_eq_none (by omega), List.getElem?_eq_none h1]
  have hne := h.neTE ie hie
  refine ⟨by rw [set_ne _ (Ne.symm hne), tabCs_congr _ _ _ _ hl hm]; exact h.hT, by rw [set_ne _ (Ne.symm (h.nePE ie hie))]; exact h.hP, trivial, trivial, fun i hi => ?_, fun j hj b hb3 => ?_, h.hsz, fun i j hi hj he => ?_, fun e he => ?_⟩
  · have hi2 : i < es.length := by omega
    rw [(hb2 i hi2).1]
    by_cases e : i = ie
    · subst e
      rw [set_same _ (h.hE i hie)]
      congr 2
      rw [List.getElem_set_self]
      unfold entCs
      rw [prev_congr hm, next_congr hm]
      rfl
    · rw [set_ne _ (fun e2 => e (h.nd i ie hi2 hie e2)), h.hE i hi2]
      congr 2
      unfold entCs
      rw [prev_congr hm, next_congr hm, List.getElem_set_ne (Ne.symm e)]
  · obtain ⟨i, hi, hib⟩ := h.hpl j hj b hb3
    exact ⟨i, by omega, by rw [(hb2 i hi).1]; exact hib⟩
  · rw [hm, hm] at he
    exact h.hN i j (by omega) (by omega) he
  · obtain ⟨i, hi, rfl⟩ := List.getElem_of_mem he
    rw [(hb2 i (by omega)).2.1, (hb2 i (by omega)).2.2]
    exact h.hh _ (List.getElem_mem _)

set_option maxRecDepth 100000 in
theorem ix_put_there (h : Tab w T P hb sb way sz es pl) (hc : Can sz es pl) (key : ByteArray) (value : SlV) (hfree : ∃ q, q < sz ∧ pl q = none) {at_ seen ie : Nat} (hie : ie < es.length) (hR : fnd pl (mtch es way key (hashF way key)) sz sz (homeN (hashF way key) sz) 1 = (at_, seen, true))
    (hlt : at_ < sz) (hat : pl at_ = some es[ie].b) :
    Calls Try.prog 13 #[.pointer (some ⟨T, 0, none⟩), .string key, .slice value.a value.n value.c] w fun e w' => e = .returned (.tuple #[.slice es[ie].val.a es[ie].val.n es[ie].val.c, .bool true, .int .i64 0]) ∧
      Tab w' T P hb sb way sz (es.set ie { es[ie] with val := value }) pl ∧ Can sz (es.set ie { es[ie] with val := value }) pl ∧ KeptR (tabB T P es) w w' := by
  have t0 := h.t0
  unfold hashV at t0
  have cf := Lib.hid (ix_find h key (hashF way key) (hashF_range way key).1 (hashF_range way key).2 hfree hR)
  have ch := Lib.hid (ix_hash way key w)
  clear hR
  go_enter Try.func13, Try.ntmps13
  go_upto_region 7 with (first
    | (go_at_call 36; refine (ix_none h).mono ?_; rintro e w' ⟨rfl, rfl⟩)
    | (go_at_call 10; refine ch.out.mono ?_; rintro e w' ⟨rfl, rfl⟩)
    | (go_at_call 37; refine cf.out.mono ?_; rintro e wq ⟨rfl, hd⟩))
  have hq := h.below (hd.below _)
  have hkq : KeptR (tabB T P es) w wq := by obtain ⟨n, rfl⟩ := hd; exact (KeptR.refl _ w).drewN n
  clear ch cf t0 hd
  have t2 := hq.t2
  have cp := hq.place at_ hlt
  rw [hat] at cp
  change wq.cell? _ = some (Value.pointer (some ⟨es[ie].b, 0, none⟩)) at cp
  have c1 := hq.e1 ie hie
  have f1 := frozen_of (hq.hE ie hie) 1
  have hput := Lib.hid (hq.put hie value)
  have hcan := Lib.hid (hc.congr (es2 := es.set ie { es[ie] with val := value }) List.length_set (fun i hi => by
    rw [List.getElem_set]
    by_cases e : ie = i
    · subst e; rw [if_pos rfl]; exact ⟨rfl, rfl⟩
    · rw [if_neg e]; exact ⟨rfl, rfl⟩))
  have hk := Lib.hid (hkq.set (g := es[ie].b) (i := 1) (u := .slice value.a value.n value.c) (.inl (.inr (.inr ⟨es[ie], List.getElem_mem hie, rfl⟩))))
  clear hkq
  obtain ⟨EV, hEV⟩ : ∃ EV, es[ie].val = EV := ⟨_, rfl⟩
  rw [hEV] at c1
  replace hEV := Lib.hid hEV
  obtain ⟨EB, hEB⟩ : ∃ EB, es[ie].b = EB := ⟨_, rfl⟩
  rw [hEB] at c1 cp f1 hput hk
  have heP : ¬ EB = P := by rw [← hEB]; exact hq.nePE ie hie
  have heT : ¬ EB = T := by rw [← hEB]; exact hq.neTE ie hie
  clear hEB
  go_wp2
  go_ret3
  exact ⟨by rw [hEV.out]; rfl, hput.out, hcan.out, hk.out⟩
end
end Go.Proofs.Ytjeeljolhcoeoaa.Str
