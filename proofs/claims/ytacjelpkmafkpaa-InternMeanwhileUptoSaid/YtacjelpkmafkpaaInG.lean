/- Intern: the document's table. -/
import Derived.Test.YtacjelpkmafkpaaInF
namespace Go.Proofs.Ytacjelpkmafkpaa
open Go.RowKit It
set_option maxHeartbeats 2000000
set_option maxRecDepth 100000
/-- the document's table in memory: its block rb, its texts at v; all from B on -/
structure RTab (w : World) (B rb : Nat) (v : Value) (L : List ByteArray) : Prop where
  blk : w.heap[rb]? = some (.cells #[v] 27)
  row : w.ownsRow B 9 1 v L.length (L.map Value.string)
  len : L.length ≤ 8796093022208
  ge : B ≤ rb
def RTabB (rb : Nat) (v : Value) (k : Nat) : Prop := k = rb ∨ v.ownBlock = some k
theorem idx_first {L : List ByteArray} {s : ByteArray} {k : Nat} (hk : k < L.length) (h : s ∉ L.take k) (he : L[k] = s) : L.idxOf s = k := by
  have h2 : L = L.take k ++ L[k] :: L.drop (k + 1) := by rw [← List.drop_eq_getElem_cons hk, List.take_append_drop]
  rw [h2, List.idxOf_append, if_neg h, he]
  simp; omega
theorem str_eq (a b : ByteArray) : (a.toList == b.toList) = decide (a = b) := by
  rw [ByteArray.toList_eq, ByteArray.toList_eq, Bool.eq_iff_iff, beq_iff_eq, decide_eq_true_iff]
  constructor
  · intro h
    obtain ⟨a⟩ := a
    obtain ⟨b⟩ := b
    rw [show a = b from Array.ext' h]
  · rintro rfl; rfl
section
variable {w w' : World} {B rb : Nat} {v : Value} {L : List ByteArray} {S : Nat → Prop}
theorem RTab.kept (h : RTab w B rb v L) (hk : KeptR S w w') (hS : ∀ k, RTabB rb v k → ¬ S k) : RTab w' B rb v L :=
  ⟨(hk.block _ (Array.getElem?_eq_some_iff.1 h.blk).1 (hS _ (.inl rfl))).trans h.blk, own_keptS h.row hk (fun k hk => hS k (.inr hk)), h.len, h.ge⟩
theorem RTab.below (h : RTab w B rb v L) (hb : Below w.heap.size w w') : RTab w' B rb v L := h.kept (S := fun _ => False) (Below.keptR hb) fun _ _ h => h
theorem RTab.cells (h : RTab w B rb v L) : w.cell? ⟨rb, 0, none⟩ = some v ∧ (∀ n, w.frozen? ⟨rb, n, none⟩ = false) := by
  have := h.blk
  exact ⟨by simp [World.cell?, this], fun n => by simp [World.frozen?, this]⟩
theorem RTab.lt (h : RTab w B rb v L) : ∀ k, RTabB rb v k → B ≤ k ∧ k < w.heap.size := by
  rintro k (rfl | hk)
  · exact ⟨h.ge, (Array.getElem?_eq_some_iff.1 h.blk).1⟩
  · exact own_lt h.row k hk
theorem RTab.ne (h : RTab w B rb v L) : v.ownBlock ≠ some rb := fun e => by
  rcases h.row.2 with ⟨rfl, -⟩ | ⟨k, cap, cur, rfl, -, hh, -⟩
  · cases e
  · have : k = rb := by injection e
    rw [this, h.blk] at hh; injection hh with hh; injection hh with _ hh; revert hh; decide
theorem rf_Len (h : RTab w B rb v L) : Calls Try.prog 11 #[.pointer (some ⟨rb, 0, none⟩)] w fun e w' => e = .returned (.int .i64 L.length) ∧ w = w' := by
  obtain ⟨c0, -⟩ := h.cells
  obtain ⟨va, vc, rfl, -⟩ := own_slice h.row
  go_enter Try.func11, Try.ntmps11
  go_wp2
  go_ret
  exact ⟨rfl, rfl⟩
def FindP (L : List ByteArray) (s : ByteArray) (e : Ending) : Prop := ∃ c : Int, e = .returned (.tuple #[.int .i64 c, .bool (decide (s ∈ L))]) ∧ (s ∈ L → c = (L.idxOf s : Nat))
theorem rf_Find (h : RTab w B rb v L) (s : ByteArray) : Calls Try.prog 27 #[.pointer (some ⟨rb, 0, none⟩), .string s] w fun e w' => FindP L s e ∧ w = w' := by
  obtain ⟨c0, -⟩ := h.cells
  obtain ⟨va, vc, rfl, -⟩ := own_slice h.row
  have hl := h.len
  have h0 := Lib.hid h
  clear h
  go_enter Try.func27, Try.ntmps27
  go_wp2
  go_loopw [6] (fun i wr => ∃ k : Nat, k ≤ L.length ∧ i = .int .i64 k ∧ wr = w ∧ Hid (s ∉ L.take k)) (fun i _ => L.length - (intOf i).toNat)
  case atStart => exact ⟨0, Nat.zero_le _, rfl, by trivial, Lib.hid (by simp)⟩
  case round =>
    obtain ⟨k, hk, rfl, rfl, hn⟩ := hrel
    by_cases hlt : k < L.length
    · obtain ⟨g, rfl, hc⟩ := row_txt h0.out.row k hlt
      have hg : L.getD k ⟨#[]⟩ = L[k] := by rw [List.getD_eq_getElem?_getD, List.getElem?_eq_getElem hlt]; rfl
      rw [hg] at hc
      have hki : (k : Int) < (L.length : Int) := by omega
      have hk0 : (0 : Int) ≤ (k : Int) := Int.natCast_nonneg _
      by_cases he : L[k] = s
      · have hm : Hid (s ∈ L ∧ L.idxOf s = k) := Lib.hid ⟨he ▸ List.getElem_mem hlt, idx_first hlt hn.out he⟩
        rw [he] at hc
        have hss : (s.toList == s.toList) = true := by simp
        clear hg he
        go_wp2
        go_ret2
        exact ⟨⟨_, by rw [decide_eq_true hm.out.1]; rfl, fun _ => by rw [hm.out.2]⟩, rfl⟩
      · have hss := str_eq L[k] s
        rw [decide_eq_false he] at hss
        have hn2 : Hid (s ∉ L.take (k + 1)) := Lib.hid (by rw [List.take_succ_eq_append_getElem hlt]; simp only [List.mem_append, List.mem_singleton, not_or]; exact ⟨hn.out, fun e => he e.symm⟩)
        clear hg he
        generalize L[k] = x at hc hss
        go_wp2
        go_roundw
        case rel => exact ⟨k + 1, by omega, by go_num, by trivial, hn2⟩
        case measure => simp [intOf]; omega
    · have hki : ¬ ((k : Int) < (L.length : Int)) := by omega
      have hke : k = L.length := by omega
      rw [hke, List.take_length] at hn
      go_wp2
      go_ret2
      exact ⟨⟨_, by rw [decide_eq_false hn.out]; rfl, fun h => absurd h hn.out⟩, rfl⟩
end
end Go.Proofs.Ytacjelpkmafkpaa
