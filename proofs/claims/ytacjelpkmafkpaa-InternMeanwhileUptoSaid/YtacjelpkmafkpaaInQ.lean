/- Intern: known. -/
import Derived.Test.YtacjelpkmafkpaaInO
import Derived.Deep.RegionWith
namespace Go.Proofs.Ytacjelpkmafkpaa
open Go.RowKit It
set_option maxHeartbeats 4000000
set_option maxRecDepth 100000
theorem w1_num (w : World) (n : Int) : Calls Try.prog 14 #[.int .i64 n] w fun e w' => e = .returned (.int .i64 n) ∧ w = w' := by
  go_enter Try.func14, Try.ntmps14
  go_wp2
  go_ret
  exact ⟨rfl, rfl⟩
def kL : List ByteArray := [⟨#[98]⟩, ⟨#[97]⟩, ⟨#[]⟩, ⟨#[98]⟩]
theorem kL_put : putAll [] kL = [⟨#[98]⟩, ⟨#[97]⟩, ⟨#[]⟩] := by decide
theorem kL_nums : nums [] kL = [0, 1, 2, 0] := by decide
theorem kL_a : (⟨#[97]⟩ : ByteArray) ∈ putAll [] kL ∧ (putAll [] kL).idxOf ⟨#[97]⟩ = 1 := by decide
theorem kL_c : (⟨#[99]⟩ : ByteArray) ∉ putAll [] kL := by decide
theorem kL_risen {a : List Int} (h : Risen (putAll [] kL) a) : rk a a.length = [2, 1, 0] := by
  have h2 : Risen (putAll [] kL) [2, 1, 0] := by
    rw [kL_put]
    refine ⟨by decide, by decide⟩
  rw [h.one h2 (putAll_nodup _ List.nodup_nil)]
  decide
theorem kL_tx (w : World) : TxA (w.alloc (.cells #[.string ⟨#[98]⟩, .string ⟨#[97]⟩, .string ⟨#[]⟩, .string ⟨#[98]⟩] 9)) (some ⟨w.heap.size, 0, none⟩) kL := by
  refine ⟨by decide, fun i hi => ⟨w.heap.size, 0, rfl, ?_⟩, fun i => ?_⟩
  · rw [Nat.zero_add, cell_of_row _ _ _ _ _ (0, 0) (heap_alloc_new w _)]
    match i, hi with
    | 0, _ => rfl
    | 1, _ => rfl
    | 2, _ => rfl
    | 3, _ => rfl
    | i + 4, hi => exact absurd hi (by simp [kL])
  · match i with
    | 0 => decide
    | 1 => decide
    | 2 => decide
    | 3 => decide
    | i + 4 => simp [kL]; decide
theorem own_ints {w : World} {base : Nat} {a : Option Addr} {n c : Nat} {l : List Int} (h : w.ownsRow base 3 1 (.slice a n c) n (l.map (Value.int .i64))) (hl : l.length ≤ 17592186044200) (hw : ∀ x ∈ l, IntKind.i64.wrap x = x) : Ints .i64 w a l := by
  have hw2 : ∀ i, i < l.length → IntKind.i64.wrap (nth l i) = nth l i := fun i hi => hw _ (by rw [nth_eq l i hi]; exact List.getElem_mem hi)
  rcases Nat.eq_zero_or_pos l.length with h0 | h0
  · exact ⟨hl, fun i hi => by omega, hw2⟩
  · have hn : l.length = n := by have := h.1; simpa using this
    obtain ⟨g, c', e1, -⟩ := own_shape h (by omega)
    injection e1 with e1 _ _
    subst e1
    exact Ints.own h hl hw2
theorem w1_known (w : World) : Calls Try.prog 16 #[] w fun e w' => e = .returned (.bool true) ∧ Below w.heap.size w w' := by
  go_enter Try.func16, Try.ntmps16
  go_wp2_with (first
    | (go_at_call 6
       refine (in_New _).mono ?_
       rintro e w1 ⟨b, mb, rfl, hT1, hb1⟩
       have hT1' := Lib.hid hT1
       have hb1' := Lib.hid hb1
       have htx := Lib.hid (kL_tx w1)
       have al := (Below.refl w1.heap.size w1).al (.cells #[.string ⟨#[98]⟩, .string ⟨#[97]⟩, .string ⟨#[]⟩, .string ⟨#[98]⟩] 9)
       have hpa := Lib.hid (in_PutAll (hT1.below al) (c := 4) htx.out (fun ad e _ hk => by
         injection e with e
         subst e
         have := (hT1.lt _ hk).2
         exact absurd this (Nat.lt_irrefl _)) (by decide))
       have al' := Lib.hid al
       clear hT1 hb1 al)
    | (go_at_call 7
       refine hpa.out.mono ?_
       unfold AllP
       rintro e w2 ⟨g, cp, v', rfl, hg, hgn, hown, hT2, hk2, -⟩
       rw [kL_nums] at hown
       have hT2' := Lib.hid hT2
       have hown' := Lib.hid hown
       have al2 := (Below.refl w2.heap.size w2).al (.cells #[.int .i64 0, .int .i64 1, .int .i64 2, .int .i64 0] 3)
       have hsi := Lib.hid (rf_SameInts (w := w2.alloc (.cells #[.int .i64 0, .int .i64 1, .int .i64 2, .int .i64 0] 3)) (a := some ⟨g, 0, none⟩) (b := some ⟨w2.heap.size, 0, none⟩) (l := [0, 1, 2, 0]) (c := cp) (d := 4) ((own_ints (l := [0, 1, 2, 0]) hown (by decide) (by decide)).below al2) (ints_litA .i64 w2 _ [0, 1, 2, 0] _ rfl (by decide) (by decide)))
       have hT3' := Lib.hid (hT2.below al2)
       have hbw2 : Below w.heap.size w w2 := hb1'.out.trans ⟨hk2.os, hk2.tape, hk2.output, Nat.le_trans al'.out.size hk2.size, fun k hk => (hk2.block k (Nat.lt_of_lt_of_le (Nat.lt_of_lt_of_le hk hb1'.out.size) al'.out.size) (fun hkb => by have := (hT1'.out.lt k hkb).1; omega)).trans (al'.out.block k (Nat.lt_of_lt_of_le hk hb1'.out.size))⟩
       have hbw3 := Lib.hid (hbw2.trans (al2.mono hbw2.size))
       clear hT2 hown hk2 hpa al2 hbw2)
    | (go_at_call 28
       refine hsr.out.mono ?_
       rintro e w6 ⟨rfl, hb6⟩
       have hbw6 := Lib.hid (hbw5.out.trans (hb6.mono hbw5.out.size))
       clear hsr hb6)
    | (go_at_call 28
       refine hsi.out.mono ?_
       rintro e w4 ⟨rfl, hb4⟩
       have hT4' := Lib.hid (hT3'.out.below hb4)
       have hbw4 := Lib.hid (hbw3.out.trans (hb4.mono hbw3.out.size))
       clear hsi hb4)
    | (go_at_call 19
       refine (in_Len hT4'.out).mono ?_
       rintro e w3 ⟨rfl, rfl⟩
       rw [kL_put])
    | (go_at_call 18
       refine (in_Ranks hT4'.out).mono ?_
       unfold RankP
       rintro e w5 ⟨o, a, R, rfl, hra, hR, hownR, hb5⟩
       rw [kL_risen hra] at hR
       subst hR
       rw [kL_put] at hownR
       obtain ⟨oa, oc, rfl, -⟩ := own_slice hownR
       have al5 := (Below.refl w5.heap.size w5).al (.cells #[.int .i64 2, .int .i64 1, .int .i64 0] 3)
       have hsr := Lib.hid (rf_SameInts (w := w5.alloc (.cells #[.int .i64 2, .int .i64 1, .int .i64 0] 3)) (a := oa) (b := some ⟨w5.heap.size, 0, none⟩) (l := [2, 1, 0]) (c := oc) (d := 3) ((own_ints (l := [2, 1, 0]) hownR (by decide) (by decide)).below al5) (ints_litA .i64 w5 _ [2, 1, 0] _ rfl (by decide) (by decide)))
       have hbw50 := hbw4.out.trans (hb5.mono hbw4.out.size)
       have hbw5 := Lib.hid (hbw50.trans (al5.mono hbw50.size))
       clear hra hownR hb5 al5 hbw50)
    | (go_at_call_of 21 (Value.string ⟨#[97]⟩)
       refine (in_Find hT2'.out _ (by decide)).mono ?_
       rintro e w3 ⟨⟨c, rfl, hc⟩, rfl⟩
       rw [decide_eq_true kL_a.1]
       obtain rfl : c = 1 := (hc kL_a.1).trans (by rw [kL_a.2]; rfl)
       clear hc)
    | (go_at_call_of 21 (Value.string ⟨#[99]⟩)
       refine (in_Find hT2'.out _ (by decide)).mono ?_
       rintro e w3 ⟨⟨c, rfl, hc⟩, rfl⟩
       rw [decide_eq_false kL_c]
       clear hc)
    | (go_at_call 14; refine (w1_num _ _).mono ?_; rintro e w3 ⟨rfl, rfl⟩))
  go_ret
  exact ⟨rfl, hbw6.out⟩
end Go.Proofs.Ytacjelpkmafkpaa
