/- Normal: a row of literals sorted. -/
import Derived.Test.YtoklbofobcloaaaDoorNmU
import Derived.Test.YtoklbofobcloaaaDoorSortK
import Derived.Test.YtoklbofobcloaaaDoorSo
namespace Go.Proofs.YtoklbofobcloaaaDoor
open Go.RowKit Go.Sort Go.Shelf
theorem grown_of_below' {A B : World} {r : Option Nat} (h : Below A.heap.size A B) : A.grownBy B r := ⟨h.os, h.tape, h.output, h.size, fun k hk _ => h.block k hk⟩
theorem litV_cell (y : LV) {a : Option Addr} {n c : Nat} (h : y.2 = .slice a n c) (hn : n = y.1.a.length) : (cellV y).toArray = litV y.1 a c := by
  subst hn
  unfold cellV litV
  rw [h]
theorem agg_lit : ∀ w, (isAgg 44).run Tryd.prog w = .ok true w := fun w => by kernel_rfl
theorem size_lit : ∀ w, (Go.sizeOf 44).run Tryd.prog w = .ok 7 w := fun w => by kernel_rfl
theorem cellV_one' {w : World} {base : Nat} {y : LV} (h : TRow w base y.2 y.1.a) : ∀ u ∈ cellV y, u.oneCell' = true := by
  obtain ⟨a, c, e, -⟩ := h.form
  exact cellV_one y (by rw [e]; rfl)
theorem cmpL_le {x y : Lit} : (ltOf cmpL y x = false) → cmpL x y ≤ 0 := by
  unfold ltOf
  intro h
  have := cmpL_ord.anti x y
  have h2 := of_decide_eq_false h
  omega
set_option maxRecDepth 10000 in
theorem nm_sortL (W : World) (base : Nat) (a : Option Addr) (c : Nat) (L : List LV) (h : LRow W base (.slice a L.length c) L) :
    Calls Tryd.prog 43 #[.slice a L.length c, .func (.func 25) #[] #[]] W fun e w' => e = .returned (.tuple #[]) ∧ ∃ L', L'.Perm L ∧ (L'.map (·.1)).Pairwise (fun x y => cmpL x y ≤ 0) ∧ LRow w' base (.slice a L.length c) L' ∧ W.grownBy w' (Value.slice a L.length c).ownBlock := by
  by_cases h0 : L = []
  · subst h0
    refine (AnyF.slices_SortFunc_none Tryd.sortL a c _ W).mono ?_
    rintro e w' ⟨rfl, rfl⟩
    exact ⟨rfl, [], List.Perm.refl _, List.Pairwise.nil, h, grown_of_below' (Below.refl _ _)⟩
  · have hpos : 0 < L.length := List.length_pos_iff.2 h0
    obtain ⟨g, cap, e0, -⟩ := own_some h.own hpos
    injection e0 with e0 _ e2
    subst e0
    haveI : Inhabited {y : LV // y ∈ L} := ⟨⟨L.head h0, List.head_mem h0⟩⟩
    have hfl : flatV L = L.attach.flatMap fun y => cellV y.1 := by
      unfold flatV
      conv => lhs; rw [← List.attach_map_subtype_val L]
      rw [List.flatMap_map]
    have hlen : L.attach.toArray.size = L.length := by simp
    have hown := h.own
    rw [hfl] at hown
    obtain ⟨hglt, hH⟩ := holdsK_of_own (enc := fun y : {y : LV // y ∈ L} => cellV y.1) (fun _ => rfl) (by decide) hown
    have hcmp : CmpLays Tryd.prog 25 #[] (fun y : {y : LV // y ∈ L} => cellV y.1) 7 (fun x y => cmpL x.1.1 y.1.1) g 0 L.attach.toArray.size W := by
      intro m os dk hs x y
      have hg := swK_grown (fun y : {y : LV // y ∈ L} => cellV y.1) 7 W g m dk os
      have hrow : ∀ z : {y : LV // y ∈ L}, ∃ a c, z.1.2 = .slice a z.1.1.a.length c ∧ Terms (sortWorldK (fun y : {y : LV // y ∈ L} => cellV y.1) 7 W g 0 m dk os) a z.1.1.a := fun z => by
        have ht := h.inner z.1 z.2
        obtain ⟨a, c, e, ht2, -⟩ := (ht.kept hg (own_diff ht.own h.own (by decide))).form
        exact ⟨a, c, e, ht2⟩
      obtain ⟨a1, c1, e1, t1⟩ := hrow x
      obtain ⟨a2, c2, e2, t2⟩ := hrow y
      have := nm_Compare x.1.1 y.1.1 a1 a2 c1 c2 _ t1 t2
      rw [← litV_cell x.1 e1 rfl, ← litV_cell y.1 e2 rfl] at this
      exact this
    have hS := AnyQ.slices_SortFunc Tryd.sortL 7 agg_lit size_lit (fun y : {y : LV // y ∈ L} => cellV y.1) (fun _ => rfl) (fun y => cellV_one' (h.inner y.1 y.2)) (fun x y => cmpL x.1.1 y.1.1) (swo_map cmpL_ord.swo fun y : {y : LV // y ∈ L} => y.1.1) 25 #[] g 0 c L.attach.toArray W (enters_of Tryd.func25 (by kernel_rfl) rfl) hcmp hH hglt (by rw [hlen]; have := h.len; omega)
    rw [hlen] at hS
    refine hS.mono ?_
    rintro e w' ⟨rfl, d', m, os, hp, hso, rfl⟩
    have hd : d'.size = L.length := hp.1.trans hlen
    have hperm := perm_of_in (d := L.attach.toArray) (by rw [hlen]; exact hp)
    have hpm : (d'.toList.map Subtype.val).Perm L := by
      have := hperm.map Subtype.val
      rwa [List.toList_toArray, List.attach_map_subtype_val] at this
    have hg := swK_grown (fun y : {y : LV // y ∈ L} => cellV y.1) 7 W g m d' os
    refine ⟨rfl, d'.toList.map Subtype.val, hpm, ?_, ⟨?_, by rw [hpm.length_eq]; exact h.len, fun y hy => ?_, fun y hy => h.size y (hpm.mem_iff.1 hy)⟩, hg⟩
    · rw [List.map_map, List.pairwise_map]
      exact (pairwise_of_in hd hso).imp fun {x y} hxy => cmpL_le hxy
    · have := swK_own (enc := fun y : {y : LV // y ∈ L} => cellV y.1) (fun _ => rfl) (by decide) hown m d' hd os
      rw [hpm.length_eq]
      unfold flatV
      rw [List.flatMap_map]
      exact this
    · have ht := h.inner y (hpm.mem_iff.1 hy)
      exact ht.kept hg (own_diff ht.own h.own (by decide))
end Go.Proofs.YtoklbofobcloaaaDoor
