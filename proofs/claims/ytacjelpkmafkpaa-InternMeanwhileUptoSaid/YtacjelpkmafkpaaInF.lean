/- Intern: Texts. -/
import Derived.Test.YtacjelpkmafkpaaInE
namespace Go.Proofs.Ytacjelpkmafkpaa
open Go.RowKit It
attribute [local go_sem] neq_map
set_option maxHeartbeats 2000000
set_option maxRecDepth 100000
def strs (l : List ByteArray) : List Value := l.map Value.string
/-- what Texts tells -/
def TextsP (w : World) (L : List ByteArray) (ns : List Int) (e : Ending) (w' : World) : Prop :=
  Below w.heap.size w w' ∧ ((getsB L ns = true ∧ ∃ g cp, e = .returned (.tuple #[.slice (some ⟨g, 0, none⟩) ns.length cp, .int .i64 0]) ∧ w'.ownsRow w.heap.size 9 1 (.slice (some ⟨g, 0, none⟩) ns.length cp) ns.length (strs (ns.map (txtOf L)))) ∨ (getsB L ns = false ∧ e = .returned (.tuple #[.slice none 0 0, .int .i64 2])))
theorem set_strs (l : List ByteArray) (k m : Nat) (x : ByteArray) (hk : l.length = k) : (strs l ++ List.replicate (m + 1) (Value.string ⟨#[]⟩)).set k (.string x) = strs (l ++ [x]) ++ List.replicate m (.string ⟨#[]⟩) := by
  subst hk
  rw [List.set_append_right _ _ (by simp [strs])]
  simp [strs, List.replicate_succ]
theorem getsB_take {L : List ByteArray} {ns : List Int} {k : Nat} (hk : k < ns.length) (h : getsB L (ns.take k) = true) : getsB L (ns.take (k + 1)) = decide (okN L (nth ns k)) := by
  unfold getsB at *
  rw [List.take_succ_eq_append_getElem hk, List.all_append, h, nth_eq _ _ hk]; simp
theorem getsB_no {L : List ByteArray} {ns : List Int} {k : Nat} (hk : k < ns.length) (h : ¬ okN L (nth ns k)) : getsB L ns = false := by
  unfold getsB
  rw [List.all_eq_false]
  exact ⟨ns[k], List.getElem_mem hk, by rw [nth_eq _ _ hk] at h; simpa using h⟩
section
variable {w : World} {B b mb : Nat} {v : Value} {L : List ByteArray}
theorem in_Texts (h : Tab w B b v mb L) {a : Option Addr} {ns : List Int} {c : Nat} (hx : Ints .i64 w a ns) (hn : ns.length ≤ 8796093022208) :
    Calls Try.prog 22 #[.pointer (some ⟨b, 0, none⟩), .slice a ns.length c] w (TextsP w L ns) := by
  obtain ⟨is, his, hz0, hz1, hz2⟩ := info_parts infoStr
  have h0 := Lib.hid h
  replace hx := Lib.hid hx
  clear h
  go_enter Try.func22, Try.ntmps22
  go_wp2_with (first
    | (go_at_call 25; refine (in_made h0.out).mono ?_; rintro e w1 ⟨rfl, rfl⟩)
    | (refine wpList_make_full _ rfl (.tmp 15) (.tmp 15) 22 rfl w.heap.size 9 is (.string ⟨#[]⟩) 1 Try.underlying22 his hz0 hz1 .i64 .i64 _ _ ns.length rfl rfl rfl rfl (by rw [hz2]; omega) (by unfold maxLen; omega) (Nat.le_refl _) ?_))
  intro w1 hown hg1
  have hb1 : Below w.heap.size w w1 := ⟨hg1.os, hg1.tape, hg1.output, hg1.size, fun k hk => hg1.block k hk (fun e => by cases e)⟩
  have hown1 : Hid (w1.ownsRow w.heap.size 9 1 (.slice (some ⟨w.heap.size, 0, none⟩) ns.length ns.length) ns.length (strs ((ns.take 0).map (txtOf L)) ++ List.replicate (ns.length - 0) (.string ⟨#[]⟩))) := Lib.hid (by
    rw [toList_madeCells_one] at hown
    simpa [strs] using hown)
  replace hb1 := Lib.hid hb1
  clear hown hg1
  go_wp2
  go_loopw [19, 7, 8, 9, 10] (fun i _ _ _ _ wr => ∃ (k : Nat), k ≤ ns.length ∧ i = .int .i64 k ∧ Hid (Below w.heap.size w wr) ∧ Hid (getsB L (ns.take k) = true) ∧ Hid (wr.ownsRow w.heap.size 9 1 (.slice (some ⟨w.heap.size, 0, none⟩) ns.length ns.length) ns.length (strs ((ns.take k).map (txtOf L)) ++ List.replicate (ns.length - k) (.string ⟨#[]⟩)))) (fun i _ _ _ _ _ => ns.length - (intOf i).toNat)
  case atStart => exact ⟨0, Nat.zero_le _, rfl, hb1, Lib.hid rfl, hown1⟩
  case round =>
    clear hown1 hb1
    obtain ⟨k, hk, rfl, hb, hG, hR⟩ := hrel
    by_cases hlk : k < ns.length
    · have hT := Lib.hid (h0.out.below hb.out)
      obtain ⟨ga, off, rfl, hc⟩ := (hx.out.below hb.out).cells k hlk
      have hki : (k : Int) < (ns.length : Int) := by omega
      have hk0 : (0 : Int) ≤ (k : Int) := Int.natCast_nonneg _
      have hnx := Lib.hid (getsB_take hlk hG.out)
      have htk : Hid (ns.take (k + 1) = ns.take k ++ [nth ns k]) := Lib.hid (by rw [List.take_succ_eq_append_getElem hlk, nth_eq _ _ hlk])
      have hln : Hid (((ns.take k).map (txtOf L)).length = k) := Lib.hid (by rw [List.length_map, List.length_take]; omega)
      have htx := Lib.hid (in_Text hT.out (nth ns k))
      by_cases hok : okN L (nth ns k)
      · rw [decide_eq_true hok] at hnx htx
        obtain ⟨u0, q0⟩ : ∃ u, wr.cell? ⟨w.heap.size, k, none⟩ = some u := by
          rw [hR.out.cellAt k (by omega)]
          exact ⟨_, List.getElem?_eq_getElem (by rw [hR.out.1]; omega)⟩
        have f0 := own_frozenI hR.out k
        have hst := own_putI (j := k) (u := .string (txtOf L (nth ns k))) hR.out
        rw [show ns.length - k = (ns.length - (k + 1)) + 1 by omega, set_strs _ _ _ _ hln.out] at hst
        rw [show (ns.take k).map (txtOf L) ++ [txtOf L (nth ns k)] = (ns.take (k + 1)).map (txtOf L) by rw [htk.out, List.map_append]; rfl] at hst
        replace hst := Lib.hid hst
        have hb3 := Lib.hid (hb.out.setCell (p := ⟨w.heap.size, k, none⟩) (Nat.le_refl _) (.string (txtOf L (nth ns k))))
        clear hok
        generalize txtOf L (nth ns k) = s at htx hst hb3
        generalize nth ns k = n at hc htx
        go_wp2_with (go_at_call 20
                     refine htx.out.mono ?_
                     rintro e w2 ⟨rfl, rfl⟩)
        go_roundw
        case rel => exact ⟨k + 1, by omega, by go_num, hb3, hnx, hst⟩
        case measure => simp [intOf]; omega
      · have hno := Lib.hid (getsB_no hlk hok)
        rw [decide_eq_false hok] at htx
        clear hok
        generalize txtOf L (nth ns k) = s at htx
        generalize nth ns k = n at hc htx
        go_wp2_with (go_at_call 20
                     refine htx.out.mono ?_
                     rintro e w2 ⟨rfl, rfl⟩)
        go_ret2
        exact ⟨hb.out, .inr ⟨hno.out, rfl⟩⟩
    · have hke : k = ns.length := by omega
      have hki : ¬ ((k : Int) < (ns.length : Int)) := by omega
      rw [hke, List.take_length] at hG hR
      go_wp2
      go_ret2
      refine ⟨hb.out, .inl ⟨hG.out, w.heap.size, ns.length, rfl, ?_⟩⟩
      have := hR.out
      rw [Nat.sub_self, List.replicate_zero, List.append_nil] at this
      exact this
end
end Go.Proofs.Ytacjelpkmafkpaa
