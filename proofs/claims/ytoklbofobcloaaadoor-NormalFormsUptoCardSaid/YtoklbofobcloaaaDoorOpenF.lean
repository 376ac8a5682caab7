/- Lists of texts, as they are read, by their bulk; a rule's terms by its bulk. -/
import Derived.Test.YtoklbofobcloaaaDoorOpenN
import Derived.Test.YtoklbofobcloaaaDoorNmM
import Derived.Test.YtoklbofobcloaaaDoorNmP
import Derived.SliceStrings
namespace Go.Proofs.YtoklbofobcloaaaDoor
open Go.ChangeShapes Go.WideShapes Go.ChangeAt Go.RowKit
theorem bulk_strsF {H : Type} : ∀ l : List ByteArray, l.length ≤ Rows.uptoBulkAll (H := H) (strs l) ∧ ∀ s ∈ l, s.size + 1 ≤ Rows.uptoBulkAll (H := H) (strs l)
  | [] => ⟨Nat.le_refl _, by simp⟩
  | s :: l => by
    have ⟨h1, h2⟩ := bulk_strsF (H := H) l
    have e : Rows.uptoBulkAll (H := H) (strs (s :: l)) = (s.data.toList.length + 1) + Rows.uptoBulkAll (strs l) := rfl
    have e2 : s.data.toList.length = s.size := by rw [Array.length_toList]; rfl
    refine ⟨by rw [e, List.length_cons]; omega, fun x hx => ?_⟩
    rcases List.mem_cons.1 hx with rfl | hx
    · rw [e]; omega
    · have := h2 x hx; rw [e]; omega
theorem txts_in {H : Type} {enc : TypeId × Value → H} {P : Program} {W : World} {base : Nat} {spare : Nat → Bool} {held : Bool} {fuel : Nat} {t e : TypeId} {a : Option Addr} {len cap : Nat} {d : DataW H} {p : List MemPlace}
    (ht : P.underlying t = some (.slice e)) (he : P.underlying e = some .string) (hc : P.cellsOf e = 1) (h : DataW.trod enc P W base spare held fuel t (Value.slice a len cap).cells.toList = some (d, p)) (hB : Rows.uptoBulk d ≤ 1048576) : ∃ T : List ByteArray, T.length = len ∧ Txts W a T := by
  rcases open_strings ht he hc h with ⟨hcs, _⟩ | ⟨x, l, c, ss, hcs, _, hl, hm, hz, hx, hcell, hsz⟩
  · simp [Value.cells] at hcs
    obtain ⟨rfl, rfl, rfl⟩ := hcs
    exact ⟨[], rfl, ⟨by simp, fun j x hj => by simp at hj, fun x hx => by simp at hx⟩⟩
  · simp [Value.cells] at hcs
    obtain ⟨rfl, rfl, rfl⟩ := hcs
    have hlz : len ≤ ss.length := by rw [hz]; split <;> omega
    have hd : d = .slice (strs (ss.take len)) (strs (ss.drop len)) := congrArg Prod.fst hx
    rw [hd] at hB
    have hb : Rows.uptoBulkAll (H := H) (strs (ss.take len)) + Rows.uptoBulkAll (H := H) (strs (ss.drop len)) + 1 ≤ 1048576 := hB
    obtain ⟨h1, h2⟩ := bulk_strsF (H := H) (ss.take len)
    have hlen : (ss.take len).length = len := by rw [List.length_take]; omega
    refine ⟨ss.take len, hlen, ⟨by omega, fun j y hj => ⟨x, rfl, ?_⟩, fun y hy => by have := h2 y hy; omega⟩⟩
    obtain ⟨hlt, e⟩ := List.getElem?_eq_some_iff.1 hj
    rw [hcell j (by omega), List.getD_eq_getElem?_getD, List.getElem?_eq_getElem (by omega)]
    rw [List.getElem_take] at e
    rw [e]; rfl
theorem every_wt (p : ByteArray) (l : List Tm) (b : List Lit) : (everyR ⟨p, l, b⟩).length ≤ Lx.ruleWt ⟨p, l, b⟩ := by
  have ht : ∀ l : List Tm, l.length ≤ Lx.tWt l := by
    intro l
    induction l with
    | nil => exact Nat.zero_le _
    | cons x l ih =>
      have : Lx.tWt (x :: l) = x.2.size + 3 + Lx.tWt l := rfl
      rw [this, List.length_cons]
      omega
  have hb : ∀ b : List Lit, (b.flatMap everyL).length ≤ (b.map Lx.lWt).sum := by
    intro b
    induction b with
    | nil => exact Nat.zero_le _
    | cons x b ih =>
      rw [List.flatMap_cons, List.length_append, List.map_cons, List.sum_cons]
      have h1 := ht x.a
      have h2 : (everyL x).length = x.a.length + 2 := by simp [everyL]
      have h3 : Lx.lWt x = x.p.size + Lx.tWt x.a + x.l.2.size + x.r.2.size + 11 := rfl
      omega
  have h1 := ht l
  have h2 := hb b
  show (l ++ b.flatMap everyL).length ≤ p.size + Lx.tWt l + (b.map Lx.lWt).sum + 5
  rw [List.length_append]
  omega
end Go.Proofs.YtoklbofobcloaaaDoor
