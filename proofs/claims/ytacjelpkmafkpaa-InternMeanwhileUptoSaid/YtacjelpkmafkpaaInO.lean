/- Intern: Ranks. -/
import Derived.Test.YtacjelpkmafkpaaInN
namespace Go.Proofs.Ytacjelpkmafkpaa
open Go.RowKit It
set_option maxHeartbeats 2000000
set_option maxRecDepth 100000
/-- the ranks after k numbers -/
def rk (a : List Int) (k : Nat) : List Int := (List.range k).foldl (fun xs i => xs.set (a.getD i 0).toNat (i : Int)) (List.replicate a.length 0)
theorem rk_succ (a : List Int) (k : Nat) : rk a (k + 1) = (rk a k).set (a.getD k 0).toNat (k : Int) := by
  unfold rk
  rw [List.range_succ, List.foldl_append]; rfl
theorem rk_len (a : List Int) : ∀ k, (rk a k).length = a.length
  | 0 => by simp [rk]
  | k + 1 => by rw [rk_succ, List.length_set, rk_len a k]
theorem rk_at {L : List ByteArray} {a : List Int} (h : Risen L a) : ∀ (k i : Nat), i < k → k ≤ a.length → (rk a k).getD (a.getD i 0).toNat 0 = (i : Int)
  | 0, _, hi, _ => by omega
  | k + 1, i, hi, hk => by
    have hm : ∀ j, j < a.length → ∃ n : Nat, n < a.length ∧ a.getD j 0 = (n : Int) := fun j hj => by
      obtain ⟨n, h1, h2⟩ := h.mem (List.getElem_mem hj)
      exact ⟨n, by rw [h.len]; exact h1, by rw [List.getD_eq_getElem?_getD, List.getElem?_eq_getElem hj]; exact h2⟩
    obtain ⟨n, hn, e⟩ := hm k (by omega)
    obtain ⟨n', hn', e'⟩ := hm i (by omega)
    rw [rk_succ, e, e']
    simp only [Int.toNat_natCast]
    by_cases hik : i = k
    · subst hik
      rw [e] at e'
      obtain rfl : n = n' := by omega
      rw [List.getD_eq_getElem?_getD, List.getElem?_set_self (by rw [rk_len]; exact hn)]; rfl
    · have hnn : n ≠ n' := by
        rintro rfl
        have h1 : a.getD i 0 = a.getD k 0 := e'.trans e.symm
        rw [List.getD_eq_getElem?_getD, List.getD_eq_getElem?_getD, List.getElem?_eq_getElem (by omega), List.getElem?_eq_getElem (by omega)] at h1
        exact hik ((List.getElem_inj h.nodup).1 h1)
      have h2 := rk_at h k i (by omega) (by omega)
      rw [e'] at h2
      simp only [Int.toNat_natCast] at h2
      rw [List.getD_eq_getElem?_getD, List.getElem?_set_ne hnn, ← List.getD_eq_getElem?_getD]
      exact h2
theorem own_base {w : World} {base base' : Nat} {e : TypeId} {size : Nat} {v : Value} {n : Nat} {xs : List Value} (h : w.ownsRow base e size v n xs) (hb : base' ≤ base) : w.ownsRow base' e size v n xs := by
  refine ⟨h.1, ?_⟩
  rcases h.2 with hn | ⟨g, cap, cur, hv, hg, r⟩
  · exact .inl hn
  · exact .inr ⟨g, cap, cur, hv, by omega, r⟩
def RankP (w : World) (L : List ByteArray) (e : Ending) (w' : World) : Prop :=
  ∃ o, ∃ a R : List Int, e = .returned o ∧ Risen L a ∧ R = rk a a.length ∧ w'.ownsRow w.heap.size 3 1 o L.length (R.map (Value.int .i64)) ∧ Below w.heap.size w w'
theorem int_cell {w : World} {B : Nat} {o : Option Addr} {n c : Nat} {l : List Int} (h : w.ownsRow B 3 1 (.slice o n c) n (l.map (Value.int .i64))) (j : Nat) (hj : j < l.length) : ∃ g, o = some ⟨g, 0, none⟩ ∧ w.cell? ⟨g, j, none⟩ = some (.int .i64 (l.getD j 0)) := by
  have hn : l.length = n := by have := h.1; simpa using this
  obtain ⟨g, c', e1, -⟩ := own_shape h (by omega)
  injection e1 with e1 _ _
  refine ⟨g, e1, ?_⟩
  subst e1
  rw [h.cellAt j (by omega), List.getElem?_map, List.getElem?_eq_getElem hj, List.getD_eq_getElem?_getD, List.getElem?_eq_getElem hj]; rfl
theorem in_Ranks {w : World} {B b mb : Nat} {v : Value} {L : List ByteArray} (hT : Tab w B b v mb L) :
    Calls Try.prog 18 #[.pointer (some ⟨b, 0, none⟩)] w (RankP w L) := by
  obtain ⟨ii, hii, hi0, hi1, hi2⟩ := info_parts infoIntN
  obtain ⟨va, vc, rfl, -⟩ := own_slice hT.row
  have hln := hT.len
  have hrs := Lib.hid (in_Rising hT)
  clear hT
  go_enter Try.func18, Try.ntmps18
  go_wp2_with (first
    | (go_at_call 17
       refine hrs.out.mono ?_
       unfold RisP
       rintro e w1 ⟨o, a, rfl, hra, hown, hb1⟩
       obtain ⟨oa, oc, rfl, -⟩ := own_slice hown
       have hra' := Lib.hid hra
       have hown' := Lib.hid hown
       have hb1' := Lib.hid hb1
       clear hra hown hb1 hrs)
    | (refine wpList_make_full _ rfl (.tmp 10) (.tmp 10) 28 rfl w1.heap.size 3 ii (.int .i64 0) 1 Try.underlying28 hii hi0 hi1 .i64 .i64 _ _ L.length rfl rfl rfl rfl (by rw [hi2]; omega) (by unfold maxLen; omega) (Nat.le_refl _) ?_))
  intro w2 hown2 hg2
  have hb2 : Below w1.heap.size w1 w2 := ⟨hg2.os, hg2.tape, hg2.output, hg2.size, fun k hk => hg2.block k hk (fun e => by cases e)⟩
  have hrow2 := Lib.hid (own_below hown'.out hb2)
  have hal := hra'.out.len
  have hR0 : Hid (w2.ownsRow w1.heap.size 3 1 (.slice (some ⟨w1.heap.size, 0, none⟩) L.length L.length) L.length ((rk a 0).map (Value.int .i64))) := Lib.hid (by
    rw [toList_madeCells_one] at hown2
    simpa [rk, hal] using hown2)
  have hbb := Lib.hid (hb1'.out.trans (hb2.mono hb1'.out.size))
  have hlt0 := Lib.hid (fun g (e : oa = some ⟨g, 0, none⟩) => (own_lt hown'.out g (by rw [e]; rfl)).2)
  have hsz1 := Lib.hid hb1'.out.size
  clear hown2 hg2 hb2
  go_wp2
  go_loopw [14, 5, 6] (fun i _ _ wr => ∃ k : Nat, k ≤ L.length ∧ i = .int .i64 k ∧ Hid (wr.ownsRow w1.heap.size 3 1 (.slice (some ⟨w1.heap.size, 0, none⟩) L.length L.length) L.length ((rk a k).map (Value.int .i64))) ∧ Hid (wr.ownsRow w.heap.size 3 1 (.slice oa L.length oc) L.length (a.map (Value.int .i64))) ∧ Hid (Below w.heap.size w wr)) (fun i _ _ _ => L.length - (intOf i).toNat)
  case atStart => exact ⟨0, Nat.zero_le _, rfl, hR0, hrow2, hbb⟩
  case round =>
    clear hR0 hrow2 hbb
    obtain ⟨k, hk, rfl, hR, hA, hB⟩ := hrel
    by_cases hlk : k < L.length
    · obtain ⟨ga, rfl, q1⟩ := int_cell hA.out k (by omega)
      obtain ⟨n, hn, e⟩ := hra'.out.mem (x := a.getD k 0) (by
        rw [List.getD_eq_getElem?_getD, List.getElem?_eq_getElem (by omega)]; exact List.getElem_mem _)
      have hgl := hlt0.out ga rfl
      have hgn : ga ≠ w1.heap.size := by omega
      have hst := own_putI (j := n) (u := .int .i64 (k : Nat)) hR.out
      have hst2 : Hid ((wr.setCell ⟨w1.heap.size, n, none⟩ (.int .i64 (k : Int))).ownsRow w1.heap.size 3 1 (.slice (some ⟨w1.heap.size, 0, none⟩) L.length L.length) L.length ((rk a (k + 1)).map (Value.int .i64))) := Lib.hid (by
        rw [rk_succ, e, Int.toNat_natCast, List.map_set]; exact hst)
      have hA2 := Lib.hid (own_setOther (g := w1.heap.size) (i := n) (u := .int .i64 (k : Int)) hA.out (fun e => hgn (by injection e)))
      have hB2 := Lib.hid (hB.out.setCell (p := ⟨w1.heap.size, n, none⟩) hsz1.out (.int .i64 (k : Int)))
      obtain ⟨u0, q0⟩ : ∃ u, wr.cell? ⟨w1.heap.size, n, none⟩ = some u := by
        rw [hR.out.cellAt n (by omega)]
        exact ⟨_, List.getElem?_eq_getElem (by rw [hR.out.1]; omega)⟩
      have f0 := own_frozenI hR.out n
      rw [e] at q1
      have hki : (k : Int) < (L.length : Int) := by omega
      have hk0 : (0 : Int) ≤ (k : Int) := Int.natCast_nonneg _
      have hni : (n : Int) < (L.length : Int) := by omega
      have hn0 : (0 : Int) ≤ (n : Int) := Int.natCast_nonneg _
      clear hst
      replace e := Lib.hid e
      go_wp2_with fail
      go_roundw
      case rel => exact ⟨k + 1, by omega, by go_num, hst2, hA2, hB2⟩
      case measure => simp [intOf]; omega
    · have hke : k = L.length := by omega
      have hki : ¬ ((k : Int) < (L.length : Int)) := by omega
      rw [hke] at hR
      go_wp2_with fail
      refine bodyPost_ret (results_tmp rfl _ _ _) rfl ?_
      refine ⟨_, a, rk a a.length, rfl, hra'.out, rfl, ?_, hB.out⟩
      rw [hal]
      exact own_base hR.out hsz1.out
end Go.Proofs.Ytacjelpkmafkpaa
