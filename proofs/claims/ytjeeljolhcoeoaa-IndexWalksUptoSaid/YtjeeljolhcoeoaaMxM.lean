/- Index: the table's answers and the document's are alike. -/
import Derived.Test.YtjeeljolhcoeoaaMxL
namespace Go.Proofs.Ytjeeljolhcoeoaa
open Go.RowKit Go.Shelf

theorem allL_length (es : List Ent) : (allL es).length = es.length := by simp [allL]
theorem allL_get (es : List Ent) (i : Nat) (h : i < (allL es).length) : (allL es)[i] = ((es[i]'(by rw [allL_length] at h; exact h)).key, (es[i]'(by rw [allL_length] at h; exact h)).val) := by simp [allL]
theorem mod_le {k m t D : Nat} (hD : D < k) (ht : t ≤ D) (e : (m + D) % k = (m + t) % k) : D = t := by
  have := dist_mod (m := m) hD ht
  rw [e, Nat.add_sub_cancel_left, Nat.mod_self] at this
  omega
theorem mod_inj_lt {k m t D : Nat} (hD : D < k) (ht : t < k) (e : (m + D) % k = (m + t) % k) : D = t := by
  rcases Nat.le_total t D with h | h
  · exact mod_le hD h e
  · exact (mod_le ht h e.symm).symm
section
variable {w : World} {way : Int} {n : Nat} {x : JTab}
theorem JT.one (h : JT w way n x) {key : Int} {i j : Nat} (hi : i < x.es.length) (hj : j < x.es.length) (h1 : sameF way x.es[i].key key = true) (h2 : sameF way x.es[j].key key = true) : i = j :=
  h.ts.na i j hi hj (same_trans h1 (same_symm h2))
theorem all_hit {key : Int} {j : Nat} (hj : j < (allL x.es).length) (h1 : sameF way (allL x.es)[j].1 key = true) : ∃ hj2 : j < x.es.length, sameF way x.es[j].key key = true ∧ (allL x.es)[j].2 = x.es[j].val := by
  rw [allL_get] at h1 ⊢
  exact ⟨by rw [allL_length] at hj; exact hj, h1, rfl⟩
theorem all_no {key : Int} (h : ∀ j (hj : j < (allL x.es).length), sameF way (allL x.es)[j].1 key = false) : ∀ i (hi : i < x.es.length), sameF way x.es[i].key key = false := fun i hi => by
  have := h i (by rw [allL_length]; exact hi)
  rw [allL_get] at this
  exact this

theorem jt_get (h : JT w way n x) (key : Int) : ∃ (V : Int) (B : Bool), ∀ W, JT W way n x → Calls Try.prog 27 #[.pointer (some ⟨x.T, 0, none⟩), .int .i64 key] W (fun e w' => e = .returned (.tuple #[.int .i64 V, .bool B]) ∧ Drawn W w') ∧
    Calls Try.prog 54 #[.pointer (some ⟨x.Rt, 0, none⟩), .int .i64 key] W (fun e w' => e = .returned (.tuple #[.int .i64 V, .bool B]) ∧ Drawn W w') := by
  rcases h.ts.find key with ⟨i, hi, hm, D, hD, hp, hbef, hR⟩ | ⟨hno, D, hD, hp, hbef, hR⟩
  · refine ⟨x.es[i].val, true, fun W hW => ⟨ix_get hW.ts.tab key hW.ts.free hR (v := x.es[i].val) (fun _ => ⟨i, hi, hp, rfl⟩) (fun e => by cases e), (rf_Get hW.rf key).mono ?_⟩⟩
    rintro e w' ⟨hd, ⟨j, hj, hmj, _, rfl⟩ | ⟨hnj, rfl⟩⟩
    · obtain ⟨hj2, h1, h2⟩ := all_hit hj hmj
      obtain rfl := h.one hi hj2 hm h1
      rw [h2]
      exact ⟨rfl, hd⟩
    · rw [all_no hnj i hi] at hm; cases hm
  · refine ⟨0, false, fun W hW => ⟨ix_get hW.ts.tab key hW.ts.free hR (v := 0) (fun e => by cases e) (fun _ => rfl), (rf_Get hW.rf key).mono ?_⟩⟩
    rintro e w' ⟨hd, ⟨j, hj, hmj, _, rfl⟩ | ⟨hnj, rfl⟩⟩
    · obtain ⟨hj2, h1, h2⟩ := all_hit hj hmj
      rw [hno j hj2] at h1; cases h1
    · exact ⟨rfl, hd⟩

theorem refE_all (h : JT w way n x) : (refE way (allL x.es)).length = x.es.length ∧ (∀ i (hi : i < x.es.length) (hi2 : i < (refE way (allL x.es)).length), x.es[i].hash = (refE way (allL x.es))[i].hash ∧ x.es[i].key = (refE way (allL x.es))[i].key ∧ (refE way (allL x.es))[i].b = i) := by
  refine ⟨by rw [refE_length, allL_length], fun i hi hi2 => ?_⟩
  rw [refE_get]
  refine ⟨?_, ?_, rfl⟩
  · rw [h.ts.tab.hh _ (List.getElem_mem hi)]
    simp only [allL_get]
  · simp only [allL_get]
theorem JT.can (h : JT w way n x) {pl : Nat → Option Nat} (hc : Can x.sz (refE way (allL x.es)) pl) (i : Nat) (hi : i < x.es.length) (j : Nat) (hj : j < x.sz) : x.pl j = some x.es[i].b ↔ pl j = some i := by
  obtain ⟨h1, h2⟩ := refE_all h
  have := Can.unique (by have := h.ts.tab.hsz; omega) h.ts.can hc h1.symm (fun i hi => (h2 i hi (by omega)).1) i hi j hj
  rw [(h2 i hi (by omega)).2.2] at this
  exact this

theorem JT.canN (h : JT w way n x) {pl : Nat → Option Nat} (hc : Can x.sz (refE way (allL x.es)) pl) (j : Nat) (hj : j < x.sz) : x.pl j = none ↔ pl j = none := by
  obtain ⟨h1, h2⟩ := refE_all h
  constructor
  · intro e
    cases hp : pl j with
    | none => rfl
    | some b =>
      obtain ⟨i, hi, rfl⟩ := hc.only j hj b hp
      rw [(h2 i (by omega) hi).2.2] at hp
      rw [(h.can hc i (by omega) j hj).2 hp] at e; cases e
  · intro e
    cases hp : x.pl j with
    | none => rfl
    | some b =>
      obtain ⟨i, hi, rfl⟩ := h.ts.can.only j hj b hp
      rw [(h.can hc i hi j hj).1 hp] at e; cases e
theorem jt_place (h : JT w way n x) (hn : n ≤ 2200000) (key : Int) : ∃ (V : Int) (B : Bool), ∀ W, JT W way n x → Calls Try.prog 25 #[.pointer (some ⟨x.T, 0, none⟩), .int .i64 key] W (fun e w' => e = .returned (.tuple #[.int .i64 V, .bool B]) ∧ Below W.heap.size W w') ∧
    Calls Try.prog 56 #[.pointer (some ⟨x.Rt, 0, none⟩), .int .i64 key] W (fun e w' => e = .returned (.tuple #[.int .i64 V, .bool B]) ∧ Below W.heap.size W w') := by
  obtain ⟨z1, z2, z3, z4⟩ := h.w8 hn
  have z5 : (allL x.es).length < x.sz := by rw [allL_length]; exact z3
  rcases h.ts.find key with ⟨i, hi, hm, D, hD, hp, hbef, hR⟩ | ⟨hno, D, hD, hp, hbef, hR⟩
  · refine ⟨_, _, fun W hW => ⟨(ix_place hW.ts.tab key hW.ts.free hR).mono fun e w' h => ⟨h.1, h.2.below _⟩, (rf_Place hW.rf z1 z2 z5 key).mono ?_⟩⟩
    rintro e w' ⟨hd, ⟨j, hj, hmj, _, pl, p, hcan, hpl, hpp, rfl⟩ | ⟨hnj, rfl⟩⟩
    · obtain ⟨hj2, h1, h2⟩ := all_hit hj hmj
      obtain rfl := h.one hi hj2 hm h1
      have e1 := (h.can hcan i hi p hpl).2 hpp
      have e2 := h.ts.can.inj _ _ (Nat.mod_lt _ (by omega)) hpl _ hp e1
      rw [e2]
      exact ⟨rfl, hd⟩
    · rw [all_no hnj i hi] at hm; cases hm
  · refine ⟨_, _, fun W hW => ⟨(ix_place hW.ts.tab key hW.ts.free hR).mono fun e w' h => ⟨h.1, h.2.below _⟩, (rf_Place hW.rf z1 z2 z5 key).mono ?_⟩⟩
    rintro e w' ⟨hd, ⟨j, hj, hmj, _, pl, p, hcan, hpl, hpp, rfl⟩ | ⟨hnj, rfl⟩⟩
    · obtain ⟨hj2, h1, h2⟩ := all_hit hj hmj
      rw [hno j hj2] at h1; cases h1
    · exact ⟨rfl, hd⟩
theorem jt_probes (h : JT w way n x) (hn : n ≤ 2200000) (key : Int) : ∃ (V : Int), ∀ W, JT W way n x → Calls Try.prog 26 #[.pointer (some ⟨x.T, 0, none⟩), .int .i64 key] W (fun e w' => e = .returned (.int .i64 V) ∧ Below W.heap.size W w') ∧
    Calls Try.prog 57 #[.pointer (some ⟨x.Rt, 0, none⟩), .int .i64 key] W (fun e w' => e = .returned (.int .i64 V) ∧ Below W.heap.size W w') := by
  obtain ⟨z1, z2, z3, z4⟩ := h.w8 hn
  have z5 : (allL x.es).length < x.sz := by rw [allL_length]; exact z3
  have hlt : ∀ t, (homeN (hashF way key) x.sz + t) % x.sz < x.sz := fun t => Nat.mod_lt _ (by omega)
  rcases h.ts.find key with ⟨i, hi, hm, D, hD, hp, hbef, hR⟩ | ⟨hno, D, hD, hp, hbef, hR⟩
  · refine ⟨((D + 1 : Nat) : Int), fun W hW => ⟨(ix_probes hW.ts.tab key hW.ts.free hR).mono fun e w' h => ⟨h.1, h.2.below _⟩, (rf_Probes hW.rf z1 z2 z5 key).mono ?_⟩⟩
    rintro e w' ⟨hd, pl, D2, hcan, hD2, rfl, hb2, hend⟩
    have e3 : D2 = D := by
      have hpD := (h.can hcan i hi _ (hlt D)).1 hp
      rcases hend with ⟨j, hj, hmj, _, hpp⟩ | ⟨hnj, hpn⟩
      · obtain ⟨hj2, h1, h2⟩ := all_hit hj hmj
        obtain rfl := h.one hi hj2 hm h1
        have := hcan.inj _ _ (hlt D) (hlt D2) _ hpD hpp
        exact (mod_inj_lt hD hD2 this).symm
      · rw [all_no hnj i hi] at hm; cases hm
    rw [e3]
    exact ⟨rfl, hd⟩
  · refine ⟨((D + 1 : Nat) : Int), fun W hW => ⟨(ix_probes hW.ts.tab key hW.ts.free hR).mono fun e w' h => ⟨h.1, h.2.below _⟩, (rf_Probes hW.rf z1 z2 z5 key).mono ?_⟩⟩
    rintro e w' ⟨hd, pl, D2, hcan, hD2, rfl, hb2, hend⟩
    have e3 : D2 = D := by
      rcases hend with ⟨j, hj, hmj, _, hpp⟩ | ⟨hnj, hpn⟩
      · obtain ⟨hj2, h1, h2⟩ := all_hit hj hmj
        rw [hno j hj2] at h1; cases h1
      · have h3 := (h.canN hcan _ (hlt D2)).2 hpn
        have h4 := (h.canN hcan _ (hlt D)).1 hp
        rcases Nat.lt_trichotomy D2 D with h5 | h5 | h5
        · exact absurd h3 (hbef D2 h5)
        · exact h5
        · exact absurd h4 (hb2 D h5)
    rw [e3]
    exact ⟨rfl, hd⟩
theorem jt_pairs (h : JT w way n x) (hn : n ≤ 2200000) : Calls Try.prog 32 #[.pointer (some ⟨x.Rt, 0, none⟩)] w fun e w' => ∃ v1 v2, e = .returned (.agg #[v1, v2]) ∧ w'.ownsRow w.heap.size 3 1 v1 (allL x.es).length ((allL x.es).map fun x => .int .i64 x.1) ∧ w'.ownsRow w.heap.size 3 1 v2 (allL x.es).length ((allL x.es).map fun x => .int .i64 x.2) ∧ Below w.heap.size w w' := by
  obtain ⟨z1, z2, z3, z4⟩ := h.w8 hn
  refine (rf_pairs h.rf (by rw [allL_length]; exact z4)).mono ?_
  rintro e w' ⟨B, v1, v2, rfl, hT, hb⟩
  refine ⟨v1, v2, rfl, ?_, ?_, hb⟩
  · have := hT.o1
    simp only [List.length_map, List.map_map] at this
    exact this
  · have := hT.o2
    simp only [List.length_map, List.map_map] at this
    exact this
theorem jt_laid (h : JT w way n x) (hn : n ≤ 2200000) : Calls Try.prog 33 #[.pointer (some ⟨x.Rt, 0, none⟩)] w fun e w' => ∃ v1 v2, e = .returned (.agg #[v1, v2]) ∧ w'.ownsRow w.heap.size 3 1 v1 (layL x.es x.pl x.sz).length ((layL x.es x.pl x.sz).map fun x => .int .i64 x.1) ∧ w'.ownsRow w.heap.size 3 1 v2 (layL x.es x.pl x.sz).length ((layL x.es x.pl x.sz).map fun x => .int .i64 x.2) ∧ Below w.heap.size w w' := by
  obtain ⟨z1, z2, z3, z4⟩ := h.w8 hn
  refine (rf_laid h.rf z1 z2 (by rw [allL_length]; exact z3)).mono ?_
  rintro e w' ⟨pl, B, v1, v2, rfl, hcan, hT, hb⟩
  obtain ⟨h1, h2⟩ := refE_all h
  have e1 : layL x.es x.pl x.sz = layL (refE way (allL x.es)) pl x.sz := layL_same (by omega) h.ts.can hcan h.ts.can.nodup (refE_nd way _) h1.symm (fun i hi => (h2 i hi (by omega)).1) (fun i hi => (h2 i hi (by omega)).2.1)
  rw [e1]
  refine ⟨v1, v2, rfl, ?_, ?_, hb⟩
  · have := hT.o1
    simp only [List.length_map, List.map_map] at this
    exact this
  · have := hT.o2
    simp only [List.length_map, List.map_map] at this
    exact this
end
end Go.Proofs.Ytjeeljolhcoeoaa
