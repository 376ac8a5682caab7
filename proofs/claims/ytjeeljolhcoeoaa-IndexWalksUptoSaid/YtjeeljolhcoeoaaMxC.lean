/- Index: the document's table: Take. -/
import Derived.Test.YtjeeljolhcoeoaaMxB
namespace Go.Proofs.Ytjeeljolhcoeoaa
open Go.RowKit Go.Shelf

theorem own_base {w : World} {base b2 : Nat} {e : TypeId} {size : Nat} {v : Value} {n : Nat} {xs : List Value} (h : w.ownsRow b2 e size v n xs) (hb : base ≤ b2) : w.ownsRow base e size v n xs := by
  refine ⟨h.1, ?_⟩
  rcases h.2 with hn | ⟨g, cap, cur, hv, hg1, r⟩
  · exact .inl hn
  · exact .inr ⟨g, cap, cur, hv, by omega, r⟩
theorem below_kept {B : Nat → Prop} {w w' : World} (h : Below w.heap.size w w') : KeptR B w w' := ⟨h.os, h.tape, h.output, h.size, fun b hb _ => h.block b hb⟩
/-- the pairs gathered behind k turns -/
def restL (ps : List (Int × Int)) (i k : Nat) : List (Int × Int) := (ps.take k).eraseIdx i
theorem restL_skip (ps : List (Int × Int)) (k : Nat) (h : k < ps.length) : restL ps k (k + 1) = restL ps k k := by
  unfold restL
  rw [List.take_succ_eq_append_getElem h, List.eraseIdx_append_of_length_le (by simp; omega), List.eraseIdx_of_length_le (l := ps.take k) (by simp; omega)]
  rw [show k - (ps.take k).length = 0 from by simp; omega]
  simp
theorem restL_more (ps : List (Int × Int)) (i k : Nat) (h : k < ps.length) (hi : k ≠ i) : restL ps i (k + 1) = restL ps i k ++ [ps[k]] := by
  unfold restL
  rw [List.take_succ_eq_append_getElem h]
  rcases Nat.lt_or_ge i k with h1 | h1
  · rw [List.eraseIdx_append_of_lt_length (by simp; omega)]
  · rw [List.eraseIdx_of_length_le (l := ps.take k) (by simp; omega), List.eraseIdx_of_length_le (by simp; omega)]
theorem restL_len (ps : List (Int × Int)) (i k : Nat) : (restL ps i k).length ≤ k := by
  unfold restL
  rw [List.length_eraseIdx]
  split <;> simp <;> omega
section
variable {w w' : World} {base Rt : Nat} {way : Int} {sz : Nat} {v : Value} {ps : List (Int × Int)}
set_option maxRecDepth 100000 in
set_option maxHeartbeats 4000000 in
theorem rf_Take (h : RF w base Rt way sz v ps) (hb : base ≤ w.heap.size) (key : Int) (hl : ps.length ≤ 8388608) : Calls Try.prog 55 #[.pointer (some ⟨Rt, 0, none⟩), .int .i64 key] w fun e w' =>
    (∃ i, ∃ hi : i < ps.length, sameF way ps[i].1 key = true ∧ (∀ j (hj : j < ps.length), j < i → sameF way ps[j].1 key = false) ∧ e = .returned (.tuple #[.int .i64 ps[i].2, .bool true]) ∧ ∃ v', RF w' base Rt way sz v' (ps.eraseIdx i) ∧ (∀ b, v'.ownBlock = some b → w.heap.size ≤ b) ∧ KeptR (fun b => b = Rt) w w') ∨
    ((∀ j (hj : j < ps.length), sameF way ps[j].1 key = false) ∧ e = .returned (.tuple #[.int .i64 0, .bool false]) ∧ Drawn w w') := by
  rcases rAt_cases way ps key with ⟨i, hi, hm, hbf, hr⟩ | ⟨hno, hr⟩
  · obtain ⟨i0, hi0, hz0, hz1, hz2⟩ := info_parts infoPair
    obtain ⟨va, vc, rfl, -⟩ := own_sliceI h.row
    go_enter Try.func55, Try.ntmps55
    go_wp2_with fail
    refine (rf_At h key).mono ?_
    rintro e w1 ⟨rfl, hd⟩
    rw [hr]
    have hB1 : Hid (Below w.heap.size w w1) := Lib.hid (hd.below _)
    have h1 := h.below (hd.below _)
    have c1 := h1.c1
    obtain ⟨g, c, hv, _, p1⟩ := h1.pair i hi
    injection hv with hv _ hvc
    subst hv hvc
    obtain ⟨V, hV⟩ : ∃ V, ps[i].2 = V := ⟨_, rfl⟩
    rw [hV] at p1
    replace hr := Lib.hid hr
    replace hV := Lib.hid hV
    replace hbf := Lib.hid hbf
    clear h1 hd
    go_wp2_with fail
    go_loopw [8, 9] (fun rv kv wr => ∃ k : Nat, k ≤ ps.length ∧ kv = .int .i64 k ∧ Hid (wr.ownsRow w.heap.size 111 2 rv (restL ps i k).length (prCs (restL ps i k))) ∧ Hid (Below w.heap.size w wr)) (fun _ kv _ => ps.length - (intOf kv).toNat)
    case atStart => exact ⟨0, Nat.zero_le _, rfl, Lib.hid (by rw [show restL ps i 0 = [] from rfl]; exact World.ownsRow_nil _ _ _ _), hB1⟩
    case round =>
      clear hB1 c1 p1
      obtain ⟨k, hk, rfl, hrow, hbw⟩ := hrel
      have hr1 := h.below hbw.out
      have c1 := hr1.c1
      by_cases hlt : k < ps.length
      · by_cases hki : k = i
        · have hne : ((k : Int) != (i : Int)) = false := by simp [hki]
          have hrow2 : Hid (wr.ownsRow w.heap.size 111 2 u8 (restL ps i (k + 1)).length (prCs (restL ps i (k + 1)))) := Lib.hid (by subst hki; rw [restL_skip ps k hlt]; exact hrow.out)
          clear hr1
          go_wp2_with fail
          go_roundw
          case rel => exact ⟨k + 1, by omega, by go_num, hrow2, hbw⟩
          case measure => simp [intOf]; omega
        · have hne : ((k : Int) != (i : Int)) = true := by simp; omega
          obtain ⟨g2, c2, hv2, k1, k2⟩ := hr1.pair k hlt
          injection hv2 with hv2 _ hvc2
          injection hv2 with hv2
          injection hv2 with hv2 _ _
          subst hv2 hvc2
          have hmore := Lib.hid (restL_more ps i k hlt hki)
          have hlen := restL_len ps i k
          obtain ⟨X, hX⟩ : ∃ X, ps[k].1 = X := ⟨_, rfl⟩
          obtain ⟨Y, hY⟩ : ∃ Y, ps[k].2 = Y := ⟨_, rfl⟩
          have hxy : Hid (ps[k] = (X, Y)) := Lib.hid (Prod.ext hX hY)
          rw [hX] at k1
          rw [hY] at k2
          have hz := Lib.hid hbw.out.size
          clear hr1 hX hY
          go_wp2_with (at_builtin; refine wpList_append_lies _ rfl (.tmp 35) (.tmp 43) 77 rfl w.heap.size 111 i0 _ 2 16 Try.underlying77 hi0 hz0 hz1 hz2 rfl (by decide) _ (restL ps i k).length _ rfl (hrow.out.alloc _) ⟨wr.heap.size, 0, none⟩ 1 1 [.int .i64 X, .int .i64 Y] rfl rfl (World.news_of_block (cs := #[.int .i64 X, .int .i64 Y]) (t := 111) (fr := (0, 0)) (heap_alloc_new wr _)) (by simp [Value.oneCell']) (by decide) (by unfold maxLen; omega) (by omega) (by rw [World.size_alloc]; have := hz.out; omega) (wr.heap.size + 1) (by simp) ?_; intro g3 c3 w3 hown1 hgrow hat hlt1)
          have hb3 : Hid (Below w.heap.size w w3) := Lib.hid ((hbw.out.al _).grown hgrow (by rw [World.size_alloc]; have := hz.out; omega) (own_ge hrow.out))
          have hrow2 : Hid (w3.ownsRow w.heap.size 111 2 (.slice (some ⟨g3, 0, none⟩) ((restL ps i k).length + 1) c3) (restL ps i (k + 1)).length (prCs (restL ps i (k + 1)))) := Lib.hid (by
            rw [hmore.out, List.length_append, prCs_snoc, hxy.out]
            exact hown1)
          clear hown1 hgrow hat hrow hbw c1 k1 k2
          go_wp2_with fail
          go_roundw
          case rel => exact ⟨k + 1, by omega, by go_num, hrow2, hb3⟩
          case measure => simp [intOf]; omega
      · obtain rfl : k = ps.length := by omega
        have hfin : Hid (restL ps i ps.length = ps.eraseIdx i) := Lib.hid (by unfold restL; rw [List.take_of_length_le (Nat.le_refl _)])
        obtain ⟨ra, rc, hrv, -⟩ := own_sliceI hrow.out
        have f1 := hr1.frozen 1
        have hRh := Lib.hid hr1.hR
        have hno2 : Hid (∀ b, (u8).ownBlock = some b → w.heap.size ≤ b) := Lib.hid (own_ge hrow.out)
        have hRlt : Hid (Rt < w.heap.size) := Lib.hid (Array.getElem?_eq_some_iff.1 h.hR).1
        subst hrv
        clear hr1
        go_wp2_with fail
        go_ret2
        refine .inl ⟨i, hi, hm, hbf.out, by rw [hV.out]; rfl, _, ⟨?_, ?_⟩, hno2.out, (below_kept hbw.out).set (.inl rfl)⟩
        · rw [heap_setCell_same _ _ _ _ _ _ hRh.out]; rfl
        · rw [← hfin.out]
          refine own_setOther (own_base hrow.out hb) ?_
          intro e
          have := hno2.out Rt e
          have := hRlt.out
          omega
  · go_enter Try.func55, Try.ntmps55
    go_wp2_with fail
    refine (rf_At h key).mono ?_
    rintro e w1 ⟨rfl, hd⟩
    rw [hr]
    replace hno := Lib.hid hno
    replace hr := Lib.hid hr
    go_wp2_with fail
    go_ret2
    exact .inr ⟨hno.out, rfl, hd⟩
end
end Go.Proofs.Ytjeeljolhcoeoaa
