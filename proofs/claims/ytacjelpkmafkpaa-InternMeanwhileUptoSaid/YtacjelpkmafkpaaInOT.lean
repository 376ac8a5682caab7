/- Slices of texts as they are read, with each one's length; how long, by their bulk and by their weight. -/
import Derived.Test.YtacjelpkmafkpaaOpen
import Derived.Test.YtacjelpkmafkpaaInC
import Derived.Test.YtacjelpkmafkpaaRows
import Derived.SliceStrings
namespace Go.Proofs.Ytacjelpkmafkpaa
open Go.ChangeShapes Go.WideShapes Go.ChangeAt Go.RowKit
theorem weightsAll_mem {H : Type} (P : Program) (e : TypeId) {x : Nat} : ∀ {l : List (DataW H)} {d : DataW H}, d ∈ l → x ∈ d.weights P e → x ∈ DataW.weightsAll P e l
  | [], _, h, _ => by cases h
  | y :: r, d, h, hx => by
    unfold DataW.weightsAll
    rcases List.mem_cons.1 h with rfl | h
    · exact List.mem_append_left _ hx
    · exact List.mem_append_right _ (weightsAll_mem P e h hx)
theorem texts_in {H : Type} {enc : TypeId × Value → H} {P : Program} {W : World} {base : Nat} {spare : Nat → Bool} {held : Bool} {fuel : Nat} {t e : TypeId} {a : Option Addr} {len cap : Nat} {d : DataW H} {p : List MemPlace}
    (ht : P.underlying t = some (.slice e)) (he : P.underlying e = some .string) (hc : P.cellsOf e = 1) (hby : P.bytesOf e = 16)
    (h : DataW.trod enc P W base spare held fuel t (Value.slice a len cap).cells.toList = some (d, p)) (hR : ∀ x ∈ d.weights P t, x ≤ reachBytes) :
    ∃ T : List ByteArray, T.length = len ∧ TxA W a T := by
  rcases open_strings ht he hc h with ⟨hcs, _⟩ | ⟨x, l, c, ss, hcs, _, hl, hm, hz, hx, hcell, hsz⟩
  · simp [Value.cells] at hcs
    obtain ⟨rfl, rfl, rfl⟩ := hcs
    exact ⟨[], rfl, ⟨by simp, fun i hi => absurd hi (by simp), fun i => by show (0 : Nat) ≤ _; omega⟩⟩
  · simp [Value.cells] at hcs
    obtain ⟨rfl, rfl, rfl⟩ := hcs
    have hlz : len ≤ ss.length := by rw [hz]; split <;> omega
    have hd : d = .slice (strs (ss.take len)) (strs (ss.drop len)) := congrArg Prod.fst hx
    rw [hd] at hR
    have hw : ∀ y, y ∈ (((strs (ss.take len) : List (DataW H)).length + (strs (ss.drop len) : List (DataW H)).length) * P.bytesOf e :: (DataW.weightsAll P e (strs (ss.take len)) ++ DataW.weightsAll P e (strs (ss.drop len)))) → y ≤ reachBytes := fun y hy => hR y (by simp only [DataW.weights, ht]; exact hy)
    have h1 := hw _ (List.mem_cons_self)
    have hlen : (ss.take len).length = len := by rw [List.length_take]; omega
    have hget : ∀ i, i < len → (ss.take len).getD i ⟨#[]⟩ = ss.getD i ByteArray.empty := fun i hi => by
      rw [List.getD_eq_getElem?_getD, List.getD_eq_getElem?_getD, List.getElem?_take, if_pos hi]; rfl
    have hsp : 0 < len → x.spot = none := fun h0 => by
      have := hcell 0 (by omega)
      cases hsp : x.spot with
      | none => rfl
      | some s =>
        simp only [Addr.add, if_true, World.cell?, hsp] at this
        split at this <;> simp at this
    refine ⟨ss.take len, hlen, ⟨?_, fun i hi => ?_, fun i => ?_⟩⟩
    · rw [hby] at h1
      simp only [strs, List.length_map, List.length_take, List.length_drop, reachBytes] at h1
      rw [List.length_take]; omega
    · rw [hlen] at hi
      obtain ⟨b, off, sp⟩ := x
      have := hsp (by omega)
      simp only at this
      subst this
      refine ⟨b, off, rfl, ?_⟩
      rw [hget i hi, ← hcell i (by omega), addr_add]
    · rcases Nat.lt_or_ge i len with hi | hi
      · have hm : (ss.take len).getD i ⟨#[]⟩ ∈ ss.take len := by
          rw [List.getD_eq_getElem?_getD, List.getElem?_eq_getElem (by omega)]
          exact List.getElem_mem _
        generalize (ss.take len).getD i ⟨#[]⟩ = s at hm
        have h2 := hw s.data.toList.length (List.mem_cons_of_mem _ (List.mem_append_left _ (weightsAll_mem P e (d := .lit (.string s.data.toList)) (List.mem_map.2 ⟨s, hm, rfl⟩) (by simp [DataW.weights]))))
        have h3 : s.size = s.data.toList.length := by simp
        unfold reachBytes at h2
        omega
      · rw [List.getD_eq_getElem?_getD, List.getElem?_eq_none (by omega)]
        show (0 : Nat) ≤ _; omega
theorem bulk_strs {H : Type} : ∀ l : List ByteArray, l.length ≤ Rows.uptoBulkAll (H := H) (strs l)
  | [] => Nat.le_refl _
  | s :: l => by
    have := bulk_strs (H := H) l
    show l.length + 1 ≤ (s.data.toList.length + 1) + Rows.uptoBulkAll (strs l)
    omega
theorem texts_bulk {H : Type} {enc : TypeId × Value → H} {P : Program} {W : World} {base : Nat} {spare : Nat → Bool} {held : Bool} {fuel : Nat} {t e : TypeId} {a : Option Addr} {len cap : Nat} {d : DataW H} {p : List MemPlace}
    (ht : P.underlying t = some (.slice e)) (he : P.underlying e = some .string) (hc : P.cellsOf e = 1) (h : DataW.trod enc P W base spare held fuel t (Value.slice a len cap).cells.toList = some (d, p)) : len ≤ Rows.uptoBulk d := by
  rcases open_strings ht he hc h with ⟨hcs, _⟩ | ⟨x, l, c, ss, hcs, _, hl, hm, hz, hx, hcell, hsz⟩
  · simp [Value.cells] at hcs
    omega
  · simp [Value.cells] at hcs
    obtain ⟨rfl, rfl, rfl⟩ := hcs
    have hlz : len ≤ ss.length := by rw [hz]; split <;> omega
    rw [show d = .slice (strs (ss.take len)) (strs (ss.drop len)) from congrArg Prod.fst hx]
    show len ≤ Rows.uptoBulkAll _ + Rows.uptoBulkAll _ + 1
    have h1 := bulk_strs (H := H) (ss.take len)
    rw [List.length_take] at h1
    omega
theorem texts_weigh {H : Type} {enc : TypeId × Value → H} {P : Program} {W : World} {base : Nat} {spare : Nat → Bool} {held : Bool} {fuel : Nat} {t e : TypeId} {a : Option Addr} {len cap : Nat} {d : DataW H} {p : List MemPlace}
    (ht : P.underlying t = some (.slice e)) (he : P.underlying e = some .string) (hc : P.cellsOf e = 1) (hby : P.bytesOf e = 16)
    (h : DataW.trod enc P W base spare held fuel t (Value.slice a len cap).cells.toList = some (d, p)) (hR : ∀ x ∈ d.weights P t, x ≤ reachBytes) : len ≤ 8796093021952 := by
  rcases open_strings ht he hc h with ⟨hcs, _⟩ | ⟨x, l, c, ss, hcs, _, hl, hm, hz, hx, hcell, hsz⟩
  · simp [Value.cells] at hcs
    omega
  · simp [Value.cells] at hcs
    obtain ⟨rfl, rfl, rfl⟩ := hcs
    have hlz : len ≤ ss.length := by rw [hz]; split <;> omega
    have hd : d = .slice (strs (ss.take len)) (strs (ss.drop len)) := congrArg Prod.fst hx
    rw [hd] at hR
    have h1 := hR (((strs (ss.take len) : List (DataW H)).length + (strs (ss.drop len) : List (DataW H)).length) * P.bytesOf e) (by simp only [DataW.weights, ht]; exact List.mem_cons_self)
    rw [hby] at h1
    simp only [strs, List.length_map, List.length_take, List.length_drop, reachBytes] at h1
    omega
end Go.Proofs.Ytacjelpkmafkpaa
