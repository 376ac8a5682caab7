/- TupleCompares: the walk. -/
import Derived.Test.YtgndogoaenlchaaRows
import Derived.Test.YtgndogoaenlchaaBase
import Derived.Test.YtgndogoaenlchaaKit
import Derived.Test.YtgndogoaenlchaaHash
import Derived.Test.YtgndogoaenlchaaCmp
import Derived.Test.YtgndogoaenlchaaEqual
import Derived.Test.YtgndogoaenlchaaLend
import Derived.Test.YtgndogoaenlchaaWorks
namespace Go.Proofs.Ytgndogoaenlchaa
open Go.RowKit

theorem cmpL_eqB : ∀ xs ys : List Int, (cmpL xs ys == 0) = eqB xs ys
  | [], [] => by decide
  | [], _ :: _ => by simp [cmpL, eqB]
  | _ :: _, [] => by simp [cmpL, eqB]
  | a :: r, b :: s => by
    have ih := cmpL_eqB r s
    rw [cmpL]
    by_cases h1 : a < b
    · rw [if_pos h1, eqB, decide_eq_false (by intro h; injection h; omega)]; rfl
    · by_cases h2 : b < a
      · rw [if_neg h1, if_pos h2, eqB, decide_eq_false (by intro h; injection h; omega)]; rfl
      · have : a = b := by omega
        rw [if_neg h1, if_neg h2, ih, this]
        simp [eqB]
theorem eqB_comm (xs ys : List Int) : eqB xs ys = eqB ys xs := by
  unfold eqB; rw [Bool.eq_iff_iff]; simp [eq_comm]
theorem eqB_self (xs : List Int) : eqB xs xs = true := by simp [eqB]

/-- the numbers turned: the first k of them are 1 less themselves -/
def turn (z : Int) : Int := wrap64 (1 - z)
def turned (k : Nat) (zs : List Int) : List Int := (zs.take k).map turn ++ zs.drop k
theorem turned_length (k : Nat) (zs : List Int) : (turned k zs).length = zs.length := by simp [turned]; omega

theorem nth_turned (k : Nat) (zs more : List Int) (h : k < zs.length) : nth (turned k zs ++ more) k = nth zs k := by
  have h1 : k < (turned k zs ++ more).length := by simp [turned_length]; omega
  rw [nth_eq _ _ h1, nth_eq _ _ h, List.getElem_append_left (by rw [turned_length]; exact h)]
  unfold turned
  rw [List.getElem_append_right (by simp; omega)]
  simp [show k - min k zs.length = 0 from by omega]
theorem turned_set (k : Nat) (zs more : List Int) (h : k < zs.length) : (turned k zs ++ more).set k (turn (nth zs k)) = turned (k + 1) zs ++ more := by
  rw [List.set_append_left k _ (by rw [turned_length]; exact h)]
  congr 1
  unfold turned
  rw [take_nth zs k h, List.map_append, List.append_assoc, drop_nth zs k h, List.set_append_right k _ (by simp; omega)]
  congr 1
  simp [show k - min k zs.length = 0 from by omega]
theorem turned_all (zs : List Int) : turned zs.length zs = zs.map turn := by simp [turned]
theorem turn_wf (zs : List Int) : ∀ i, i < (zs.map turn).length → IntKind.i64.wrap (nth (zs.map turn) i) = nth (zs.map turn) i := by
  intro i hi
  rw [nth_eq _ _ hi, List.getElem_map]
  unfold turn
  rw [← IntWalk.i64_left, wrap_i64_idem]

/-- the loop: k numbers turned -/
structure TurnAt (w w1 wr : World) (g1 c1 g2 c2 : Nat) (xs ys : List Int) (k : Nat) : Prop where
  x : wr.ownsRow w.heap.size 3 1 (.slice (some ⟨g1, 0, none⟩) (xs.length + 9) c1) (xs.length + 9) ((turned k xs ++ marks 9).map (Value.int .i64))
  y : Lent w1.heap.size wr g2 c2 ys
  old : Below w.heap.size w wr

theorem TurnAt.cell {w w1 wr : World} {g1 c1 g2 c2 : Nat} {xs ys : List Int} {k : Nat} (h : TurnAt w w1 wr g1 c1 g2 c2 xs ys k) (hk : k < xs.length) : wr.cell? ⟨g1, k, none⟩ = some (.int .i64 (nth xs k)) := by
  rw [h.x.cellAt k (by omega), List.getElem?_map]
  have h1 : k < (turned k xs ++ marks 9).length := by simp [turned_length]; omega
  rw [List.getElem?_eq_getElem h1, ← nth_eq _ _ h1, nth_turned k xs _ hk]
  rfl
theorem TurnAt.free {w w1 wr : World} {g1 c1 g2 c2 : Nat} {xs ys : List Int} {k : Nat} (h : TurnAt w w1 wr g1 c1 g2 c2 xs ys k) (j : Nat) : wr.frozen? ⟨g1, j, none⟩ = false := h.x.frozenAt j
theorem TurnAt.step {w w1 wr : World} {g1 c1 g2 c2 : Nat} {xs ys : List Int} {k : Nat} (h : TurnAt w w1 wr g1 c1 g2 c2 xs ys k) (hk : k < xs.length) (hg : g1 < w1.heap.size) :
    TurnAt w w1 (wr.setCell ⟨g1, k, none⟩ (.int .i64 (wrap64 (1 - nth xs k)))) g1 c1 g2 c2 xs ys (k + 1) := by
  refine ⟨?_, ownsRow_setCell_below h.y hg _, h.old.setCell (h.x.lt g1 rfl).1 _⟩
  have := (h.x.stored k (.int .i64 (turn (nth xs k)))).1
  rw [← List.map_set, turned_set k xs _ hk] at this
  exact this

set_option maxHeartbeats 2000000 in
theorem walkA (a b : Option Addr) (ca cb : Nat) (xs ys : List Int) (w : World) (ha : Ints .i64 w a xs) (hb : Ints .i64 w b ys) (hna : a = none → xs = [] ∧ ca = 0) (hnb : b = none → ys = [] ∧ cb = 0) (hlx : xs.length + 9 ≤ 17592186044200) (hly : ys.length + 9 ≤ 17592186044200) :
    Calls Try.prog 3 #[.slice a xs.length ca, .slice b ys.length cb] w fun e w' => e = .returned (.bool true) ∧ Below w.heap.size w w' := by
  have hce := Lib.hid (cmpL_eqB xs ys)
  go_enter Try.func3, Try.ntmps3
  go_wp2_with fail
  refine (lend_any a ca xs w ha hna).mono ?_
  rintro e w1 ⟨g1, c1, rfl, hc1, hm1, hL1, hb1⟩
  go_wp2_with fail
  refine (lend_any b cb ys w1 (hb.below hb1) hnb).mono ?_
  rintro e w2 ⟨g2, c2, rfl, hc2, hm2, hL2, hb2⟩
  have hX2 := Lib.hid (((hL1.ints hlx ha.wf).below hb2))
  have hY2 := Lib.hid (hL2.ints hly hb.wf)
  have hA2 := Lib.hid ((ha.below hb1).below hb2)
  have hB2 := Lib.hid ((hb.below hb1).below hb2)
  go_wp2_with fail
  refine (cmp_int _ _ _ _ xs ys _ hX2.out.front hY2.out.front).mono ?_
  rintro e w' ⟨rfl, rfl⟩
  go_wp2_with fail
  refine (rcmp _ _ _ _ xs ys _ hA2.out hB2.out).mono ?_
  rintro e w3 ⟨rfl, hdr⟩
  have hd1 : Below w2.heap.size w2 w3 := hdr.below _
  clear hdr
  go_wp2_with fail
  refine (equal_int _ _ _ _ xs ys _ (hX2.out.front.below hd1) (hY2.out.front.below hd1)).mono ?_
  rintro e w4 ⟨rfl, hb3⟩
  have hd2 : Below w2.heap.size w2 w4 := hd1.trans (hb3.mono hd1.size)
  clear hb3 hd1
  go_wp2_with fail
  refine (rcmp _ _ _ _ xs ys _ (hA2.out.below hd2) (hB2.out.below hd2)).mono ?_
  rintro e w5 ⟨rfl, hdr⟩
  have hd3 : Below w2.heap.size w2 w5 := hd2.trans (hdr.below _)
  clear hdr hd2
  have he1 := hce.out
  go_wp2_with fail
  clear he1
  refine (hash_int _ _ xs _ (hX2.out.front.below hd3)).mono ?_
  rintro e w' ⟨rfl, rfl⟩
  go_wp2_with fail
  refine (rhash _ _ xs _ (hA2.out.below hd3)).mono ?_
  rintro e w' ⟨rfl, rfl⟩
  go_wp2_with fail
  refine (kept_any _ _ _ _ xs xs _ (hX2.out.below hd3) (hA2.out.below hd3) rfl hc1).mono ?_
  rintro e w6 ⟨he, hdr⟩
  rw [eqB_self] at he
  subst he
  have hd4 : Below w2.heap.size w2 w6 := hd3.trans (hdr.below _)
  clear hdr hd3
  go_wp2_with fail
  refine (kept_any _ _ _ _ ys ys _ (hY2.out.below hd4) (hB2.out.below hd4) rfl hc2).mono ?_
  rintro e w7 ⟨he, hdr⟩
  rw [eqB_self] at he
  subst he
  have hd5 : Below w2.heap.size w2 w7 := hd4.trans (hdr.below _)
  clear hdr hd4
  have hT0 : Hid (TurnAt w w1 w7 g1 c1 g2 c2 xs ys 0) :=
    ⟨by have := own_below (own_below hL1 hb2) hd5; simpa [turned] using this, own_below hL2 hd5, (hb1.trans (hb2.mono hb1.size)).trans (hd5.mono (by have := hb1.size; have := hb2.size; omega))⟩
  have hg1 : g1 < w1.heap.size := (hL1.lt g1 rfl).2
  have hm := ha.len
  go_wp2_with fail
  go_loopw [7] (fun i wr => ∃ k : Nat, k ≤ xs.length ∧ i = .int .i64 k ∧ Hid (TurnAt w w1 wr g1 c1 g2 c2 xs ys k)) (fun i _ => xs.length - (intOf i).toNat)
  case atStart => exact ⟨0, Nat.zero_le _, rfl, hT0⟩
  case round =>
    obtain ⟨k, hk, rfl, hT⟩ := hrel
    by_cases hlt : k < xs.length
    · have hcell := hT.out.cell hlt
      have hfr := hT.out.free k
      have hT2 := Lib.hid (hT.out.step hlt hg1)
      go_wp2
      go_roundw
      case rel => exact ⟨k + 1, by omega, by go_num, hT2⟩
      case measure => simp [intOf]; omega
    · obtain rfl : k = xs.length := by omega
      have hX8 : Hid (Ints .i64 wr (some ⟨g1, 0, none⟩) (xs.map turn)) := by
        have := hT.out.x
        rw [turned_all] at this
        have h2 : wr.ownsRow w.heap.size 3 1 (.slice (some ⟨g1, 0, none⟩) (xs.length + 9) c1) (xs.length + 9) ((xs.map turn ++ marks 9).map (Value.int .i64)) := this
        exact Ints.of_own h2 (by simp; omega) (turn_wf xs)
      have hY8 : Hid (Ints .i64 wr (some ⟨g2, 0, none⟩) ys) := (hT.out.y.ints hly hb.wf).front
      have hb8 := Lib.hid hT.out.old
      have hB8 := Lib.hid (hb.below hb8.out)
      have hln : Hid ((xs.map turn).length = xs.length) := List.length_map _
      have hsz8 : w.heap.size ≤ wr.heap.size := hb8.out.size
      obtain ⟨i0, hi, hz0, hz1, hz2⟩ := info_parts infoInt
      have h63 : Hid (0 + xs.length ≤ maxLen) := by show 0 + xs.length ≤ maxLen; unfold maxLen; omega
      have h64 : Hid ((0 + xs.length) * 8 ≤ 140737488355328) := by show (0 + xs.length) * 8 ≤ 140737488355328; omega
      have hown0 : Hid ((wr.alloc (.cells #[] 3)).ownsRow wr.heap.size 3 1 (.slice (some ⟨wr.heap.size, 0, none⟩) 0 0) 0 []) := World.ownsRow_lit wr _ 0 (Nat.le_refl _) (by unfold maxLen; omega) (by simp)
      clear hT hT0 hd5 hb2 hL1 hL2 hX2 hY2 hA2 hB2
      go_wp2_with (first
        | (at_builtin; refine wpList_append_own _ rfl (.tmp 63) (.tmp 64) 22 rfl wr.heap.size 3 i0 (.int .i64 0) 1 8 Try.underlying22 hi hz0 hz1 hz2 rfl (by decide) _ 0 [] rfl hown0.out ⟨g1, 0, none⟩ xs.length c1 ((xs.map turn).map (Value.int .i64)) rfl (by rw [List.length_map, hln.out, Nat.mul_one]) ((hX8.out.below ((Below.refl _ _).al _)).news _ rfl) (ints_one _ _) h63.out h64.out (by rw [World.size_alloc]; omega) ?_))
      intro v9 w9 hown9 hgrow9 hv9
      have hv99 : v9 ≠ .slice none 0 0 := fun h => hv9 h
      obtain ⟨g9, c9, rfl, _, _, _, _⟩ := not_nil_some hown9 hv99
      have hC9 : Hid (Ints .i64 w9 (some ⟨g9, 0, none⟩) (xs.map turn)) := by
        have h2 : w9.ownsRow wr.heap.size 3 1 (.slice (some ⟨g9, 0, none⟩) xs.length c9) xs.length ((xs.map turn).map (Value.int .i64)) := by simpa using hown9
        exact Ints.own h2 (by rw [hln.out]; omega) (turn_wf xs)
      have hb9 : Below wr.heap.size wr w9 := ((Below.refl _ _).al _).grown hgrow9 (by simp) (by intro k hk; simp [Value.ownBlock] at hk; omega)
      have hX9 := Lib.hid (hX8.out.below hb9)
      have hY9 := Lib.hid (hY8.out.below hb9)
      have hB9 := Lib.hid (hB8.out.below hb9)
      have hbA := Lib.hid (hb8.out.trans (hb9.mono hsz8))
      have hce2 := Lib.hid (cmpL_eqB ys (xs.map turn))
      clear hown9 hgrow9 hv9 hv99 hown0 h63 h64 hX8 hY8 hB8 hb9 hb8
      go_wp2_with fail
      refine (Calls.len2 hln.out rfl (cmp_int _ _ _ _ (xs.map turn) ys _ hX9.out hY9.out)).mono ?_
      rintro e w' ⟨rfl, rfl⟩
      go_wp2_with fail
      refine (Calls.len2 hln.out rfl (rcmp _ _ _ _ (xs.map turn) ys _ hC9.out hB9.out)).mono ?_
      rintro e w10 ⟨rfl, hdr⟩
      have hd1 : Below w9.heap.size w9 w10 := hdr.below _
      clear hdr
      go_wp2_with fail
      refine (Calls.len2 rfl hln.out (equal_int _ _ _ _ ys (xs.map turn) _ (hY9.out.below hd1) (hX9.out.below hd1))).mono ?_
      rintro e w11 ⟨rfl, hb11⟩
      have hd2 : Below w9.heap.size w9 w11 := hd1.trans (hb11.mono hd1.size)
      clear hb11 hd1
      go_wp2_with fail
      refine (Calls.len2 rfl hln.out (rcmp _ _ _ _ ys (xs.map turn) _ (hB9.out.below hd2) (hC9.out.below hd2))).mono ?_
      rintro e w12 ⟨rfl, hdr⟩
      have hd3 : Below w9.heap.size w9 w12 := hd2.trans (hdr.below _)
      clear hdr hd2
      have he1 := hce2.out
      go_wp2_with fail
      clear he1
      refine (Calls.len1 hln.out (hash_int _ _ (xs.map turn) _ (hX9.out.below hd3))).mono ?_
      rintro e w' ⟨rfl, rfl⟩
      go_wp2_with fail
      refine (Calls.len1 hln.out (rhash _ _ (xs.map turn) _ (hC9.out.below hd3))).mono ?_
      rintro e w' ⟨rfl, rfl⟩
      go_wp2_with fail
      refine (works_any _).mono ?_
      rintro e w13 ⟨rfl, hb13⟩
      go_wp2_with fail
      go_ret
      exact ⟨rfl, hbA.out.trans ((hd3.trans (hb13.mono hd3.size)).mono hbA.out.size)⟩

end Go.Proofs.Ytgndogoaenlchaa
