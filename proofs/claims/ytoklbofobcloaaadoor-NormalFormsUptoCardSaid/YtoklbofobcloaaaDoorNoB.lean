/- Normal: a small rule in one form. (gen_nob.py) -/
import Derived.Test.YtoklbofobcloaaaDoorNoA
namespace Go.Proofs.YtoklbofobcloaaaDoor
open Go.RowKit Go.Sort Go.Shelf
attribute [local go_sem ↓] Go.wp_at_zero Go.wp_at_succ
/-- blocks laid one behind the other -/
def alls (w : World) (os : List Obj) : World := os.foldl World.alloc w
theorem alls_size : ∀ (os : List Obj) (w : World), (alls w os).heap.size = w.heap.size + os.length
  | [], w => rfl
  | o :: os, w => by
    show (alls (w.alloc o) os).heap.size = _
    rw [alls_size os, World.size_alloc, List.length_cons]; omega
theorem alls_below : ∀ (os : List Obj) (w : World), Below w.heap.size w (alls w os)
  | [], w => Below.refl _ _
  | o :: os, w => ((Below.refl w.heap.size w).al o).trans ((alls_below os (w.alloc o)).mono (by rw [World.size_alloc]; omega))
theorem alls_get : ∀ (os : List Obj) (w : World) (i : Nat) (o : Obj), os[i]? = some o → (alls w os).heap[w.heap.size + i]? = some o
  | [], _, _, _, h => by cases h
  | o :: os, w, 0, x, h => by
    simp at h; subst h
    exact ((alls_below os (w.alloc o)).block w.heap.size (by rw [World.size_alloc]; omega)).trans (heap_alloc_new w o)
  | o :: os, w, i + 1, x, h => by
    have := alls_get os (w.alloc o) i x (by simpa using h)
    rw [World.size_alloc] at this
    rw [show w.heap.size + (i + 1) = w.heap.size + 1 + i from by omega]
    exact this
theorem terms_of_block {w : World} {B : Nat} {T : TypeId} {l : List Tm} {cs : Array Value} (h : w.heap[B]? = some (.cells cs T)) (hc : cs = (flatT l).toArray) (hl : l.length ≤ 1048576) (hs : ∀ x ∈ l, x.2.size ≤ 1048576) : Terms w (some ⟨B, 0, none⟩) l :=
  flat_terms (r := []) hl hs fun j u hj => by
    subst hc
    rw [List.append_nil] at hj
    simp only [World.cell?, h]
    simpa using hj
theorem lits_of_block {w : World} {B : Nat} {T : TypeId} {L : List LV} {cs : Array Value} (h : w.heap[B]? = some (.cells cs T)) (hc : cs = (flatV L).toArray) (hl : L.length ≤ 1048576) (hin : ∀ y ∈ L, ∃ a c, y.2 = .slice a y.1.a.length c ∧ Terms w a y.1.a) (hs : ∀ y ∈ L, y.1.p.size ≤ 1048576 ∧ y.1.l.2.size ≤ 1048576 ∧ y.1.r.2.size ≤ 1048576) : Lits w (some ⟨B, 0, none⟩) (L.map (·.1)) := by
  subst hc
  refine ⟨by rw [List.length_map]; exact hl, fun j x hj => ?_, fun x hx => ?_⟩
  · rw [List.getElem?_map] at hj
    cases hy : L[j]? with
    | none => rw [hy] at hj; cases hj
    | some y =>
      rw [hy] at hj
      injection hj with hj
      subst hj
      obtain ⟨ad, c2, h2, ht⟩ := hin y (List.mem_of_getElem? hy)
      have hcell : ∀ o u, (cellV y)[o]? = some u → w.cell? ⟨B, j * 7 + o, none⟩ = some u := fun o u hu => by
        have ho : o < 7 := (List.getElem?_eq_some_iff.1 hu).1
        have h3 := flatV_get L j o ho
        rw [hy] at h3
        have h4 := h3.trans hu
        simp only [World.cell?, h]
        simpa using h4
      refine ⟨⟨B, 0, none⟩, ad, c2, rfl, ?_, ?_, ?_, ?_, ?_, ?_, ?_, ht⟩
      · rw [addr_add, Nat.zero_add]; exact hcell 0 _ rfl
      · rw [addr_add, Nat.zero_add]; exact hcell 1 _ rfl
      · rw [addr_add, Nat.zero_add]; refine (hcell 2 _ rfl).trans ?_; rw [← h2]
      · rw [addr_add, Nat.zero_add]; exact hcell 3 _ rfl
      · rw [addr_add, Nat.zero_add]; exact hcell 4 _ rfl
      · rw [addr_add, Nat.zero_add]; exact hcell 5 _ rfl
      · rw [addr_add, Nat.zero_add]; exact hcell 6 _ rfl
  · obtain ⟨y, hy, rfl⟩ := List.mem_map.1 hx
    exact hs y hy
theorem kn_v (s : ByteArray) (w : World) : Calls Tryd.prog 31 #[.string s] w fun e w' => e = .returned (.agg #[.bool true, .string s]) ∧ w' = w.alloc (.cells #[.bool true, .string s] 33) := by
  go_enter Tryd.func31, Tryd.ntmps31
  go_wp2
  refine bodyPost_ret (results_cell_row rfl _ _ w.heap.size 33 _ (0, 0) _ rfl (heap_alloc_new _ _) Tryd.underlying33 rfl sizeTm) rfl ?_
  exact ⟨rfl, rfl⟩
theorem kn_p (a : Option Addr) (n c : Nat) (w : World) : Calls Tryd.prog 32 #[.slice a n c] w fun e w' => e = .returned (.agg #[.string ⟨#[112]⟩, .slice a n c]) ∧ w' = w.alloc (.cells #[.string ⟨#[112]⟩, .slice a n c] 24) := by
  go_enter Tryd.func32, Tryd.ntmps32
  go_wp2
  refine bodyPost_ret (results_cell_row rfl _ _ w.heap.size 24 _ (0, 0) _ rfl (heap_alloc_new _ _) Tryd.underlying24 rfl sizeAtom) rfl ?_
  exact ⟨rfl, rfl⟩
def vC : Tm := (true, ⟨#[67]⟩)
def vA : Tm := (true, ⟨#[65]⟩)
def lP (t : Tm) : Lit := ⟨1, ⟨#[112]⟩, [t], (false, ⟨#[]⟩), (false, ⟨#[]⟩)⟩
def knR : Rul := ⟨⟨#[112]⟩, [vC], [lP vC, lP vA, lP vC]⟩
def knW : Rul := ⟨⟨#[112]⟩, [(true, ⟨#[86, 48]⟩)], [lP (true, ⟨#[86, 49]⟩), lP (true, ⟨#[86, 48]⟩)]⟩
theorem kn_same : ruleR knR = knW := by
  have h1 : bodyR knR = ⟨⟨#[112]⟩, [vC], [lP vA, lP vC]⟩ := by kernel_rfl
  have h2 : varsR ⟨⟨#[112]⟩, [vC], [lP vA, lP vC]⟩ = [⟨#[67]⟩, ⟨#[65]⟩] := by kernel_rfl
  have h3 : vTerms 2 = [(true, ⟨#[86, 48]⟩), (true, ⟨#[86, 49]⟩)] := by simp [vTerms, vName, decB_small, List.range_succ]
  unfold ruleR renR
  rw [h1, h2, show ([⟨#[67]⟩, ⟨#[65]⟩] : List ByteArray).length = 2 from rfl, h3]
  rfl
set_option maxHeartbeats 4000000 in
set_option maxRecDepth 100000 in
theorem nm_known (w : World) (htab : Lib.TabIs Tryd.prog w "internal/strconv.uint64pow10" .u64 Lib.pow10Tab) : Calls Tryd.prog 8 #[] w fun e w' => e = .returned (.bool true) ∧ Below w.heap.size w w' := by
  obtain ⟨W0, hW0⟩ : ∃ W0, W0 = (((((((((((((w.alloc (.cells #[.bool true, .string ⟨#[67]⟩] 33)).alloc (.cells #[.bool true, .string ⟨#[67]⟩] 33)).alloc (.cells #[.string ⟨#[112]⟩, .slice (some ⟨w.heap.size + 1, 0, none⟩) 1 1] 24)).alloc (.cells #[.bool true, .string ⟨#[67]⟩] 33)).alloc (.cells #[.bool true, .string ⟨#[67]⟩] 33)).alloc (.cells #[.string ⟨#[112]⟩, .slice (some ⟨w.heap.size + 1 + 1 + 1 + 1, 0, none⟩) 1 1] 24)).alloc (.cells #[.bool true, .string ⟨#[65]⟩] 33)).alloc (.cells #[.bool true, .string ⟨#[65]⟩] 33)).alloc (.cells #[.string ⟨#[112]⟩, .slice (some ⟨w.heap.size + 1 + 1 + 1 + 1 + 1 + 1 + 1, 0, none⟩) 1 1] 24)).alloc (.cells #[.bool true, .string ⟨#[67]⟩] 33)).alloc (.cells #[.bool true, .string ⟨#[67]⟩] 33)).alloc (.cells #[.string ⟨#[112]⟩, .slice (some ⟨w.heap.size + 1 + 1 + 1 + 1 + 1 + 1 + 1 + 1 + 1 + 1, 0, none⟩) 1 1] 24)).alloc (.cells #[.int .i64 1, .string ⟨#[112]⟩, .slice (some ⟨w.heap.size + 1 + 1 + 1 + 1, 0, none⟩) 1 1, .bool false, .string ⟨#[]⟩, .bool false, .string ⟨#[]⟩, .int .i64 1, .string ⟨#[112]⟩, .slice (some ⟨w.heap.size + 1 + 1 + 1 + 1 + 1 + 1 + 1, 0, none⟩) 1 1, .bool false, .string ⟨#[]⟩, .bool false, .string ⟨#[]⟩, .int .i64 1, .string ⟨#[112]⟩, .slice (some ⟨w.heap.size + 1 + 1 + 1 + 1 + 1 + 1 + 1 + 1 + 1 + 1, 0, none⟩) 1 1, .bool false, .string ⟨#[]⟩, .bool false, .string ⟨#[]⟩] 44)) := ⟨_, rfl⟩
  have hall : W0 = alls w [(.cells #[.bool true, .string ⟨#[67]⟩] 33), (.cells #[.bool true, .string ⟨#[67]⟩] 33), (.cells #[.string ⟨#[112]⟩, .slice (some ⟨w.heap.size + 1, 0, none⟩) 1 1] 24), (.cells #[.bool true, .string ⟨#[67]⟩] 33), (.cells #[.bool true, .string ⟨#[67]⟩] 33), (.cells #[.string ⟨#[112]⟩, .slice (some ⟨w.heap.size + 1 + 1 + 1 + 1, 0, none⟩) 1 1] 24), (.cells #[.bool true, .string ⟨#[65]⟩] 33), (.cells #[.bool true, .string ⟨#[65]⟩] 33), (.cells #[.string ⟨#[112]⟩, .slice (some ⟨w.heap.size + 1 + 1 + 1 + 1 + 1 + 1 + 1, 0, none⟩) 1 1] 24), (.cells #[.bool true, .string ⟨#[67]⟩] 33), (.cells #[.bool true, .string ⟨#[67]⟩] 33), (.cells #[.string ⟨#[112]⟩, .slice (some ⟨w.heap.size + 1 + 1 + 1 + 1 + 1 + 1 + 1 + 1 + 1 + 1, 0, none⟩) 1 1] 24), (.cells #[.int .i64 1, .string ⟨#[112]⟩, .slice (some ⟨w.heap.size + 1 + 1 + 1 + 1, 0, none⟩) 1 1, .bool false, .string ⟨#[]⟩, .bool false, .string ⟨#[]⟩, .int .i64 1, .string ⟨#[112]⟩, .slice (some ⟨w.heap.size + 1 + 1 + 1 + 1 + 1 + 1 + 1, 0, none⟩) 1 1, .bool false, .string ⟨#[]⟩, .bool false, .string ⟨#[]⟩, .int .i64 1, .string ⟨#[112]⟩, .slice (some ⟨w.heap.size + 1 + 1 + 1 + 1 + 1 + 1 + 1 + 1 + 1 + 1, 0, none⟩) 1 1, .bool false, .string ⟨#[]⟩, .bool false, .string ⟨#[]⟩] 44)] := hW0
  have hT : Hid (Terms W0 (some ⟨w.heap.size + 1, 0, none⟩) [vC] ∧ Lits W0 (some ⟨w.heap.size + 1 + 1 + 1 + 1 + 1 + 1 + 1 + 1 + 1 + 1 + 1 + 1, 0, none⟩) [lP vC, lP vA, lP vC]) := Lib.hid (by
    rw [hall]
    have t1 := terms_of_block (alls_get [(.cells #[.bool true, .string ⟨#[67]⟩] 33), (.cells #[.bool true, .string ⟨#[67]⟩] 33), (.cells #[.string ⟨#[112]⟩, .slice (some ⟨w.heap.size + 1, 0, none⟩) 1 1] 24), (.cells #[.bool true, .string ⟨#[67]⟩] 33), (.cells #[.bool true, .string ⟨#[67]⟩] 33), (.cells #[.string ⟨#[112]⟩, .slice (some ⟨w.heap.size + 1 + 1 + 1 + 1, 0, none⟩) 1 1] 24), (.cells #[.bool true, .string ⟨#[65]⟩] 33), (.cells #[.bool true, .string ⟨#[65]⟩] 33), (.cells #[.string ⟨#[112]⟩, .slice (some ⟨w.heap.size + 1 + 1 + 1 + 1 + 1 + 1 + 1, 0, none⟩) 1 1] 24), (.cells #[.bool true, .string ⟨#[67]⟩] 33), (.cells #[.bool true, .string ⟨#[67]⟩] 33), (.cells #[.string ⟨#[112]⟩, .slice (some ⟨w.heap.size + 1 + 1 + 1 + 1 + 1 + 1 + 1 + 1 + 1 + 1, 0, none⟩) 1 1] 24), (.cells #[.int .i64 1, .string ⟨#[112]⟩, .slice (some ⟨w.heap.size + 1 + 1 + 1 + 1, 0, none⟩) 1 1, .bool false, .string ⟨#[]⟩, .bool false, .string ⟨#[]⟩, .int .i64 1, .string ⟨#[112]⟩, .slice (some ⟨w.heap.size + 1 + 1 + 1 + 1 + 1 + 1 + 1, 0, none⟩) 1 1, .bool false, .string ⟨#[]⟩, .bool false, .string ⟨#[]⟩, .int .i64 1, .string ⟨#[112]⟩, .slice (some ⟨w.heap.size + 1 + 1 + 1 + 1 + 1 + 1 + 1 + 1 + 1 + 1, 0, none⟩) 1 1, .bool false, .string ⟨#[]⟩, .bool false, .string ⟨#[]⟩] 44)] w 1 _ rfl) (l := [vC]) rfl (by decide) (by decide)
    have t4 := terms_of_block (alls_get [(.cells #[.bool true, .string ⟨#[67]⟩] 33), (.cells #[.bool true, .string ⟨#[67]⟩] 33), (.cells #[.string ⟨#[112]⟩, .slice (some ⟨w.heap.size + 1, 0, none⟩) 1 1] 24), (.cells #[.bool true, .string ⟨#[67]⟩] 33), (.cells #[.bool true, .string ⟨#[67]⟩] 33), (.cells #[.string ⟨#[112]⟩, .slice (some ⟨w.heap.size + 1 + 1 + 1 + 1, 0, none⟩) 1 1] 24), (.cells #[.bool true, .string ⟨#[65]⟩] 33), (.cells #[.bool true, .string ⟨#[65]⟩] 33), (.cells #[.string ⟨#[112]⟩, .slice (some ⟨w.heap.size + 1 + 1 + 1 + 1 + 1 + 1 + 1, 0, none⟩) 1 1] 24), (.cells #[.bool true, .string ⟨#[67]⟩] 33), (.cells #[.bool true, .string ⟨#[67]⟩] 33), (.cells #[.string ⟨#[112]⟩, .slice (some ⟨w.heap.size + 1 + 1 + 1 + 1 + 1 + 1 + 1 + 1 + 1 + 1, 0, none⟩) 1 1] 24), (.cells #[.int .i64 1, .string ⟨#[112]⟩, .slice (some ⟨w.heap.size + 1 + 1 + 1 + 1, 0, none⟩) 1 1, .bool false, .string ⟨#[]⟩, .bool false, .string ⟨#[]⟩, .int .i64 1, .string ⟨#[112]⟩, .slice (some ⟨w.heap.size + 1 + 1 + 1 + 1 + 1 + 1 + 1, 0, none⟩) 1 1, .bool false, .string ⟨#[]⟩, .bool false, .string ⟨#[]⟩, .int .i64 1, .string ⟨#[112]⟩, .slice (some ⟨w.heap.size + 1 + 1 + 1 + 1 + 1 + 1 + 1 + 1 + 1 + 1, 0, none⟩) 1 1, .bool false, .string ⟨#[]⟩, .bool false, .string ⟨#[]⟩] 44)] w 4 _ rfl) (l := [vC]) rfl (by decide) (by decide)
    have t7 := terms_of_block (alls_get [(.cells #[.bool true, .string ⟨#[67]⟩] 33), (.cells #[.bool true, .string ⟨#[67]⟩] 33), (.cells #[.string ⟨#[112]⟩, .slice (some ⟨w.heap.size + 1, 0, none⟩) 1 1] 24), (.cells #[.bool true, .string ⟨#[67]⟩] 33), (.cells #[.bool true, .string ⟨#[67]⟩] 33), (.cells #[.string ⟨#[112]⟩, .slice (some ⟨w.heap.size + 1 + 1 + 1 + 1, 0, none⟩) 1 1] 24), (.cells #[.bool true, .string ⟨#[65]⟩] 33), (.cells #[.bool true, .string ⟨#[65]⟩] 33), (.cells #[.string ⟨#[112]⟩, .slice (some ⟨w.heap.size + 1 + 1 + 1 + 1 + 1 + 1 + 1, 0, none⟩) 1 1] 24), (.cells #[.bool true, .string ⟨#[67]⟩] 33), (.cells #[.bool true, .string ⟨#[67]⟩] 33), (.cells #[.string ⟨#[112]⟩, .slice (some ⟨w.heap.size + 1 + 1 + 1 + 1 + 1 + 1 + 1 + 1 + 1 + 1, 0, none⟩) 1 1] 24), (.cells #[.int .i64 1, .string ⟨#[112]⟩, .slice (some ⟨w.heap.size + 1 + 1 + 1 + 1, 0, none⟩) 1 1, .bool false, .string ⟨#[]⟩, .bool false, .string ⟨#[]⟩, .int .i64 1, .string ⟨#[112]⟩, .slice (some ⟨w.heap.size + 1 + 1 + 1 + 1 + 1 + 1 + 1, 0, none⟩) 1 1, .bool false, .string ⟨#[]⟩, .bool false, .string ⟨#[]⟩, .int .i64 1, .string ⟨#[112]⟩, .slice (some ⟨w.heap.size + 1 + 1 + 1 + 1 + 1 + 1 + 1 + 1 + 1 + 1, 0, none⟩) 1 1, .bool false, .string ⟨#[]⟩, .bool false, .string ⟨#[]⟩] 44)] w 7 _ rfl) (l := [vA]) rfl (by decide) (by decide)
    have t10 := terms_of_block (alls_get [(.cells #[.bool true, .string ⟨#[67]⟩] 33), (.cells #[.bool true, .string ⟨#[67]⟩] 33), (.cells #[.string ⟨#[112]⟩, .slice (some ⟨w.heap.size + 1, 0, none⟩) 1 1] 24), (.cells #[.bool true, .string ⟨#[67]⟩] 33), (.cells #[.bool true, .string ⟨#[67]⟩] 33), (.cells #[.string ⟨#[112]⟩, .slice (some ⟨w.heap.size + 1 + 1 + 1 + 1, 0, none⟩) 1 1] 24), (.cells #[.bool true, .string ⟨#[65]⟩] 33), (.cells #[.bool true, .string ⟨#[65]⟩] 33), (.cells #[.string ⟨#[112]⟩, .slice (some ⟨w.heap.size + 1 + 1 + 1 + 1 + 1 + 1 + 1, 0, none⟩) 1 1] 24), (.cells #[.bool true, .string ⟨#[67]⟩] 33), (.cells #[.bool true, .string ⟨#[67]⟩] 33), (.cells #[.string ⟨#[112]⟩, .slice (some ⟨w.heap.size + 1 + 1 + 1 + 1 + 1 + 1 + 1 + 1 + 1 + 1, 0, none⟩) 1 1] 24), (.cells #[.int .i64 1, .string ⟨#[112]⟩, .slice (some ⟨w.heap.size + 1 + 1 + 1 + 1, 0, none⟩) 1 1, .bool false, .string ⟨#[]⟩, .bool false, .string ⟨#[]⟩, .int .i64 1, .string ⟨#[112]⟩, .slice (some ⟨w.heap.size + 1 + 1 + 1 + 1 + 1 + 1 + 1, 0, none⟩) 1 1, .bool false, .string ⟨#[]⟩, .bool false, .string ⟨#[]⟩, .int .i64 1, .string ⟨#[112]⟩, .slice (some ⟨w.heap.size + 1 + 1 + 1 + 1 + 1 + 1 + 1 + 1 + 1 + 1, 0, none⟩) 1 1, .bool false, .string ⟨#[]⟩, .bool false, .string ⟨#[]⟩] 44)] w 10 _ rfl) (l := [vC]) rfl (by decide) (by decide)
    refine ⟨t1, lits_of_block (alls_get [(.cells #[.bool true, .string ⟨#[67]⟩] 33), (.cells #[.bool true, .string ⟨#[67]⟩] 33), (.cells #[.string ⟨#[112]⟩, .slice (some ⟨w.heap.size + 1, 0, none⟩) 1 1] 24), (.cells #[.bool true, .string ⟨#[67]⟩] 33), (.cells #[.bool true, .string ⟨#[67]⟩] 33), (.cells #[.string ⟨#[112]⟩, .slice (some ⟨w.heap.size + 1 + 1 + 1 + 1, 0, none⟩) 1 1] 24), (.cells #[.bool true, .string ⟨#[65]⟩] 33), (.cells #[.bool true, .string ⟨#[65]⟩] 33), (.cells #[.string ⟨#[112]⟩, .slice (some ⟨w.heap.size + 1 + 1 + 1 + 1 + 1 + 1 + 1, 0, none⟩) 1 1] 24), (.cells #[.bool true, .string ⟨#[67]⟩] 33), (.cells #[.bool true, .string ⟨#[67]⟩] 33), (.cells #[.string ⟨#[112]⟩, .slice (some ⟨w.heap.size + 1 + 1 + 1 + 1 + 1 + 1 + 1 + 1 + 1 + 1, 0, none⟩) 1 1] 24), (.cells #[.int .i64 1, .string ⟨#[112]⟩, .slice (some ⟨w.heap.size + 1 + 1 + 1 + 1, 0, none⟩) 1 1, .bool false, .string ⟨#[]⟩, .bool false, .string ⟨#[]⟩, .int .i64 1, .string ⟨#[112]⟩, .slice (some ⟨w.heap.size + 1 + 1 + 1 + 1 + 1 + 1 + 1, 0, none⟩) 1 1, .bool false, .string ⟨#[]⟩, .bool false, .string ⟨#[]⟩, .int .i64 1, .string ⟨#[112]⟩, .slice (some ⟨w.heap.size + 1 + 1 + 1 + 1 + 1 + 1 + 1 + 1 + 1 + 1, 0, none⟩) 1 1, .bool false, .string ⟨#[]⟩, .bool false, .string ⟨#[]⟩] 44)] w 12 _ rfl) (L := [(lP vC, .slice (some ⟨w.heap.size + 1 + 1 + 1 + 1, 0, none⟩) 1 1), (lP vA, .slice (some ⟨w.heap.size + 1 + 1 + 1 + 1 + 1 + 1 + 1, 0, none⟩) 1 1), (lP vC, .slice (some ⟨w.heap.size + 1 + 1 + 1 + 1 + 1 + 1 + 1 + 1 + 1 + 1, 0, none⟩) 1 1)]) rfl (by simp) (fun y hy => ?_) (fun y hy => ?_)⟩
    · simp only [List.mem_cons, List.not_mem_nil, or_false] at hy
      rcases hy with rfl | rfl | rfl
      · exact ⟨_, _, rfl, t4⟩
      · exact ⟨_, _, rfl, t7⟩
      · exact ⟨_, _, rfl, t10⟩
    · simp only [List.mem_cons, List.not_mem_nil, or_false] at hy
      rcases hy with rfl | rfl | rfl
      · exact (by decide : (lP vC).p.size ≤ 1048576 ∧ (lP vC).l.2.size ≤ 1048576 ∧ (lP vC).r.2.size ≤ 1048576)
      · exact (by decide : (lP vA).p.size ≤ 1048576 ∧ (lP vA).l.2.size ≤ 1048576 ∧ (lP vA).r.2.size ≤ 1048576)
      · exact (by decide : (lP vC).p.size ≤ 1048576 ∧ (lP vC).l.2.size ≤ 1048576 ∧ (lP vC).r.2.size ≤ 1048576))
  have hB0 : Hid (Below w.heap.size w W0) := Lib.hid (by rw [hall]; exact alls_below _ _)
  clear hall
  have hrule := Lib.hid (nm_Rule knR (some ⟨w.heap.size + 1, 0, none⟩) (some ⟨w.heap.size + 1 + 1 + 1 + 1 + 1 + 1 + 1 + 1 + 1 + 1 + 1 + 1, 0, none⟩) 1 3 W0 hT.out.1 hT.out.2 (by decide) (Go.Joins.tab_stays (g := 0) (by kernel_rfl) htab hB0.out (Nat.le_refl _)))
  rw [kn_same, show knR.h = ⟨#[112]⟩ from rfl] at hrule
  have hv := kn_v
  have hp := kn_p
  clear htab
  go_enter Tryd.func8, Tryd.ntmps8
  go_wp2_with (first
    | (go_at_call 31; refine (hv _ _).mono ?_; rintro e w' ⟨rfl, rfl⟩)
    | (go_at_call 32; refine (hp _ _ _ _).mono ?_; rintro e w' ⟨rfl, rfl⟩)
    | (go_at_call 15
       rw [← hW0]
       go_loud (refine hrule.out.mono ?_)
       rintro e w1 ⟨va, vb, rfl, hr0, hbb⟩
       obtain ⟨xa, xc, xb, xd, rfl, rfl, t1, t2⟩ := hr0.form
       have hb1 := Lib.hid (hB0.out.trans (hbb.mono hB0.out.size))
       replace t1 := Lib.hid t1
       replace t2 := Lib.hid t2
       clear hr0 hbb))
  obtain ⟨wb, hwb⟩ : ∃ wb, wb = w1.alloc (.cells #[.string ⟨#[112]⟩, .slice xa knW.a.length xc, .slice xb knW.b.length xd] 27) := ⟨_, rfl⟩
  have hbx := heap_alloc_new w1 (.cells #[.string ⟨#[112]⟩, .slice xa knW.a.length xc, .slice xb knW.b.length xd] 27)
  have hbl := Lib.hid ((Below.refl w1.heap.size w1).al (.cells #[.string ⟨#[112]⟩, .slice xa knW.a.length xc, .slice xb knW.b.length xd] 27))
  rw [← hwb] at hbx hbl ⊢
  clear hwb
  obtain ⟨B, hB⟩ : ∃ B, w1.heap.size = B := ⟨_, rfl⟩
  rw [hB] at hbx ⊢
  have hkS : Hid (∀ w', Below wb.heap.size wb w' → w'.cell? ⟨B, 0, none⟩ = some (.string ⟨#[112]⟩) ∧ w'.cell? ⟨B, 1, none⟩ = some (.slice xa knW.a.length xc) ∧ w'.cell? ⟨B, 2, none⟩ = some (.slice xb knW.b.length xd)) := Lib.hid fun w' hb => box_cells ((hb.block B (Array.getElem?_eq_some_iff.1 hbx).1).trans hbx)
  have hk0 := hkS.out wb (Below.refl _ _)
  obtain ⟨W3, hW3⟩ : ∃ W3, W3 = ((((((((((wb.alloc (.cells #[.bool true, .string ⟨#[86, 48]⟩] 33)).alloc (.cells #[.bool true, .string ⟨#[86, 48]⟩] 33)).alloc (.cells #[.string ⟨#[112]⟩, .slice (some ⟨wb.heap.size + 1, 0, none⟩) 1 1] 24)).alloc (.cells #[.bool true, .string ⟨#[86, 49]⟩] 33)).alloc (.cells #[.bool true, .string ⟨#[86, 49]⟩] 33)).alloc (.cells #[.string ⟨#[112]⟩, .slice (some ⟨wb.heap.size + 1 + 1 + 1 + 1, 0, none⟩) 1 1] 24)).alloc (.cells #[.bool true, .string ⟨#[86, 48]⟩] 33)).alloc (.cells #[.bool true, .string ⟨#[86, 48]⟩] 33)).alloc (.cells #[.string ⟨#[112]⟩, .slice (some ⟨wb.heap.size + 1 + 1 + 1 + 1 + 1 + 1 + 1, 0, none⟩) 1 1] 24)).alloc (.cells #[.int .i64 1, .string ⟨#[112]⟩, .slice (some ⟨wb.heap.size + 1 + 1 + 1 + 1, 0, none⟩) 1 1, .bool false, .string ⟨#[]⟩, .bool false, .string ⟨#[]⟩, .int .i64 1, .string ⟨#[112]⟩, .slice (some ⟨wb.heap.size + 1 + 1 + 1 + 1 + 1 + 1 + 1, 0, none⟩) 1 1, .bool false, .string ⟨#[]⟩, .bool false, .string ⟨#[]⟩] 44)).drew := ⟨_, rfl⟩
  have hall : W3 = (alls wb [(.cells #[.bool true, .string ⟨#[86, 48]⟩] 33), (.cells #[.bool true, .string ⟨#[86, 48]⟩] 33), (.cells #[.string ⟨#[112]⟩, .slice (some ⟨wb.heap.size + 1, 0, none⟩) 1 1] 24), (.cells #[.bool true, .string ⟨#[86, 49]⟩] 33), (.cells #[.bool true, .string ⟨#[86, 49]⟩] 33), (.cells #[.string ⟨#[112]⟩, .slice (some ⟨wb.heap.size + 1 + 1 + 1 + 1, 0, none⟩) 1 1] 24), (.cells #[.bool true, .string ⟨#[86, 48]⟩] 33), (.cells #[.bool true, .string ⟨#[86, 48]⟩] 33), (.cells #[.string ⟨#[112]⟩, .slice (some ⟨wb.heap.size + 1 + 1 + 1 + 1 + 1 + 1 + 1, 0, none⟩) 1 1] 24), (.cells #[.int .i64 1, .string ⟨#[112]⟩, .slice (some ⟨wb.heap.size + 1 + 1 + 1 + 1, 0, none⟩) 1 1, .bool false, .string ⟨#[]⟩, .bool false, .string ⟨#[]⟩, .int .i64 1, .string ⟨#[112]⟩, .slice (some ⟨wb.heap.size + 1 + 1 + 1 + 1 + 1 + 1 + 1, 0, none⟩) 1 1, .bool false, .string ⟨#[]⟩, .bool false, .string ⟨#[]⟩] 44)]).drew := hW3
  have hT3 : Hid (Terms W3 (some ⟨wb.heap.size + 1, 0, none⟩) [(true, ⟨#[86, 48]⟩)] ∧ Lits W3 (some ⟨wb.heap.size + 1 + 1 + 1 + 1 + 1 + 1 + 1 + 1 + 1, 0, none⟩) [lP (true, ⟨#[86, 49]⟩), lP (true, ⟨#[86, 48]⟩)]) := Lib.hid (by
    rw [hall]
    refine (show ∀ W : World, Terms W (some ⟨wb.heap.size + 1, 0, none⟩) [(true, ⟨#[86, 48]⟩)] ∧ Lits W (some ⟨wb.heap.size + 1 + 1 + 1 + 1 + 1 + 1 + 1 + 1 + 1, 0, none⟩) [lP (true, ⟨#[86, 49]⟩), lP (true, ⟨#[86, 48]⟩)] → Terms W.drew (some ⟨wb.heap.size + 1, 0, none⟩) [(true, ⟨#[86, 48]⟩)] ∧ Lits W.drew (some ⟨wb.heap.size + 1 + 1 + 1 + 1 + 1 + 1 + 1 + 1 + 1, 0, none⟩) [lP (true, ⟨#[86, 49]⟩), lP (true, ⟨#[86, 48]⟩)] from fun W h => ⟨h.1.below (Below.refl _ _).drew, h.2.below (Below.refl _ _).drew⟩) _ ?_
    have t1 := terms_of_block (alls_get [(.cells #[.bool true, .string ⟨#[86, 48]⟩] 33), (.cells #[.bool true, .string ⟨#[86, 48]⟩] 33), (.cells #[.string ⟨#[112]⟩, .slice (some ⟨wb.heap.size + 1, 0, none⟩) 1 1] 24), (.cells #[.bool true, .string ⟨#[86, 49]⟩] 33), (.cells #[.bool true, .string ⟨#[86, 49]⟩] 33), (.cells #[.string ⟨#[112]⟩, .slice (some ⟨wb.heap.size + 1 + 1 + 1 + 1, 0, none⟩) 1 1] 24), (.cells #[.bool true, .string ⟨#[86, 48]⟩] 33), (.cells #[.bool true, .string ⟨#[86, 48]⟩] 33), (.cells #[.string ⟨#[112]⟩, .slice (some ⟨wb.heap.size + 1 + 1 + 1 + 1 + 1 + 1 + 1, 0, none⟩) 1 1] 24), (.cells #[.int .i64 1, .string ⟨#[112]⟩, .slice (some ⟨wb.heap.size + 1 + 1 + 1 + 1, 0, none⟩) 1 1, .bool false, .string ⟨#[]⟩, .bool false, .string ⟨#[]⟩, .int .i64 1, .string ⟨#[112]⟩, .slice (some ⟨wb.heap.size + 1 + 1 + 1 + 1 + 1 + 1 + 1, 0, none⟩) 1 1, .bool false, .string ⟨#[]⟩, .bool false, .string ⟨#[]⟩] 44)] wb 1 _ rfl) (l := [(true, ⟨#[86, 48]⟩)]) rfl (by decide) (by decide)
    have t4 := terms_of_block (alls_get [(.cells #[.bool true, .string ⟨#[86, 48]⟩] 33), (.cells #[.bool true, .string ⟨#[86, 48]⟩] 33), (.cells #[.string ⟨#[112]⟩, .slice (some ⟨wb.heap.size + 1, 0, none⟩) 1 1] 24), (.cells #[.bool true, .string ⟨#[86, 49]⟩] 33), (.cells #[.bool true, .string ⟨#[86, 49]⟩] 33), (.cells #[.string ⟨#[112]⟩, .slice (some ⟨wb.heap.size + 1 + 1 + 1 + 1, 0, none⟩) 1 1] 24), (.cells #[.bool true, .string ⟨#[86, 48]⟩] 33), (.cells #[.bool true, .string ⟨#[86, 48]⟩] 33), (.cells #[.string ⟨#[112]⟩, .slice (some ⟨wb.heap.size + 1 + 1 + 1 + 1 + 1 + 1 + 1, 0, none⟩) 1 1] 24), (.cells #[.int .i64 1, .string ⟨#[112]⟩, .slice (some ⟨wb.heap.size + 1 + 1 + 1 + 1, 0, none⟩) 1 1, .bool false, .string ⟨#[]⟩, .bool false, .string ⟨#[]⟩, .int .i64 1, .string ⟨#[112]⟩, .slice (some ⟨wb.heap.size + 1 + 1 + 1 + 1 + 1 + 1 + 1, 0, none⟩) 1 1, .bool false, .string ⟨#[]⟩, .bool false, .string ⟨#[]⟩] 44)] wb 4 _ rfl) (l := [(true, ⟨#[86, 49]⟩)]) rfl (by decide) (by decide)
    have t7 := terms_of_block (alls_get [(.cells #[.bool true, .string ⟨#[86, 48]⟩] 33), (.cells #[.bool true, .string ⟨#[86, 48]⟩] 33), (.cells #[.string ⟨#[112]⟩, .slice (some ⟨wb.heap.size + 1, 0, none⟩) 1 1] 24), (.cells #[.bool true, .string ⟨#[86, 49]⟩] 33), (.cells #[.bool true, .string ⟨#[86, 49]⟩] 33), (.cells #[.string ⟨#[112]⟩, .slice (some ⟨wb.heap.size + 1 + 1 + 1 + 1, 0, none⟩) 1 1] 24), (.cells #[.bool true, .string ⟨#[86, 48]⟩] 33), (.cells #[.bool true, .string ⟨#[86, 48]⟩] 33), (.cells #[.string ⟨#[112]⟩, .slice (some ⟨wb.heap.size + 1 + 1 + 1 + 1 + 1 + 1 + 1, 0, none⟩) 1 1] 24), (.cells #[.int .i64 1, .string ⟨#[112]⟩, .slice (some ⟨wb.heap.size + 1 + 1 + 1 + 1, 0, none⟩) 1 1, .bool false, .string ⟨#[]⟩, .bool false, .string ⟨#[]⟩, .int .i64 1, .string ⟨#[112]⟩, .slice (some ⟨wb.heap.size + 1 + 1 + 1 + 1 + 1 + 1 + 1, 0, none⟩) 1 1, .bool false, .string ⟨#[]⟩, .bool false, .string ⟨#[]⟩] 44)] wb 7 _ rfl) (l := [(true, ⟨#[86, 48]⟩)]) rfl (by decide) (by decide)
    refine ⟨t1, lits_of_block (alls_get [(.cells #[.bool true, .string ⟨#[86, 48]⟩] 33), (.cells #[.bool true, .string ⟨#[86, 48]⟩] 33), (.cells #[.string ⟨#[112]⟩, .slice (some ⟨wb.heap.size + 1, 0, none⟩) 1 1] 24), (.cells #[.bool true, .string ⟨#[86, 49]⟩] 33), (.cells #[.bool true, .string ⟨#[86, 49]⟩] 33), (.cells #[.string ⟨#[112]⟩, .slice (some ⟨wb.heap.size + 1 + 1 + 1 + 1, 0, none⟩) 1 1] 24), (.cells #[.bool true, .string ⟨#[86, 48]⟩] 33), (.cells #[.bool true, .string ⟨#[86, 48]⟩] 33), (.cells #[.string ⟨#[112]⟩, .slice (some ⟨wb.heap.size + 1 + 1 + 1 + 1 + 1 + 1 + 1, 0, none⟩) 1 1] 24), (.cells #[.int .i64 1, .string ⟨#[112]⟩, .slice (some ⟨wb.heap.size + 1 + 1 + 1 + 1, 0, none⟩) 1 1, .bool false, .string ⟨#[]⟩, .bool false, .string ⟨#[]⟩, .int .i64 1, .string ⟨#[112]⟩, .slice (some ⟨wb.heap.size + 1 + 1 + 1 + 1 + 1 + 1 + 1, 0, none⟩) 1 1, .bool false, .string ⟨#[]⟩, .bool false, .string ⟨#[]⟩] 44)] wb 9 _ rfl) (L := [(lP (true, ⟨#[86, 49]⟩), .slice (some ⟨wb.heap.size + 1 + 1 + 1 + 1, 0, none⟩) 1 1), (lP (true, ⟨#[86, 48]⟩), .slice (some ⟨wb.heap.size + 1 + 1 + 1 + 1 + 1 + 1 + 1, 0, none⟩) 1 1)]) rfl (by simp) (fun y hy => ?_) (fun y hy => ?_)⟩
    · simp only [List.mem_cons, List.not_mem_nil, or_false] at hy
      rcases hy with rfl | rfl
      · exact ⟨_, _, rfl, t4⟩
      · exact ⟨_, _, rfl, t7⟩
    · simp only [List.mem_cons, List.not_mem_nil, or_false] at hy
      rcases hy with rfl | rfl
      · exact (by decide : (lP (true, ⟨#[86, 49]⟩)).p.size ≤ 1048576 ∧ (lP (true, ⟨#[86, 49]⟩)).l.2.size ≤ 1048576 ∧ (lP (true, ⟨#[86, 49]⟩)).r.2.size ≤ 1048576)
      · exact (by decide : (lP (true, ⟨#[86, 48]⟩)).p.size ≤ 1048576 ∧ (lP (true, ⟨#[86, 48]⟩)).l.2.size ≤ 1048576 ∧ (lP (true, ⟨#[86, 48]⟩)).r.2.size ≤ 1048576))
  have hB3 : Hid (Below wb.heap.size wb W3) := Lib.hid (by rw [hall]; exact (alls_below _ _).drew)
  clear hall
  have hb13 : Hid (Below w1.heap.size w1 W3) := Lib.hid (hbl.out.trans (hB3.out.mono hbl.out.size))
  have hsr := Lib.hid (sr_rule knW knW xa (some ⟨wb.heap.size + 1, 0, none⟩) xb (some ⟨wb.heap.size + 1 + 1 + 1 + 1 + 1 + 1 + 1 + 1 + 1, 0, none⟩) xc 1 xd 2 W3 (t1.out.below hb13.out) hT3.out.1 (t2.out.below hb13.out) hT3.out.2)
  rw [decide_eq_true (show knW = knW from rfl)] at hsr
  have hbw := Lib.hid (hb1.out.trans (hb13.out.mono hb1.out.size))
  clear hB hb13
  go_region_held3 (fun w' => w'.cell? ⟨B, 0, none⟩ = some (.string ⟨#[112]⟩) ∧ w'.cell? ⟨B, 1, none⟩ = some (.slice xa knW.a.length xc) ∧ w'.cell? ⟨B, 2, none⟩ = some (.slice xb knW.b.length xd))
    (first
      | exact hkS.out _ hfin.out
      | exact hkS.out _ (by repeat (first | exact Below.refl _ _ | refine Below.drew ?_ | refine Below.al ?_ _)))
    (first
      | (go_at_call 31; refine (hv _ _).mono ?_; rintro e w' ⟨rfl, rfl⟩)
      | (go_at_call 32; refine (hp _ _ _ _).mono ?_; rintro e w' ⟨rfl, rfl⟩)
      | (go_at_call 20
         rw [← hW3]
         go_loud (refine hsr.out.mono ?_)
         rintro e w4 ⟨rfl, hb4⟩
         have hfin := Lib.hid (hB3.out.trans (hb4.mono hB3.out.size))
         have hend := Lib.hid (hbw.out.trans (hb4.mono hbw.out.size))
         clear hb4))
  go_wp2
  go_ret
  exact ⟨rfl, hend.out⟩
end Go.Proofs.YtoklbofobcloaaaDoor
