/- Intern: All: the iterator's contract. -/
import Derived.RangeFuncNested
import Derived.RangeFuncBound
import Derived.RangeFuncCalls
import Derived.RangeFuncLeaves
import Derived.Shelf.Abstract
import Derived.Shelf.RegionOpen
import Derived.WalkKit
import Derived.OwnWalkIn
import Derived.TacticsInMore
import Derived.LoopNIn
import Derived.LoopIn
import Derived.Deep.Cut
import Derived.Test.YtacjelpkmafkpaaInI
import Derived.Test.YtacjelpkmafkpaaRange
namespace Go.Proofs.Ytacjelpkmafkpaa
open Go.RowKit Go.Shelf It
attribute [local go_sem] Oper.semAt_some neq_map
/-- the texts that were there stay where they are -/
def KpS (va : Option Addr) (n : Nat) (A B : World) : Prop := A.heap.size ≤ B.heap.size ∧ ∀ g j, va = some ⟨g, 0, none⟩ → j < n → B.cell? ⟨g, j, none⟩ = A.cell? ⟨g, j, none⟩
theorem KpS.refl (va : Option Addr) (n : Nat) (A : World) : KpS va n A A := ⟨Nat.le_refl _, fun _ _ _ _ => rfl⟩
theorem KpS.trans {va : Option Addr} {n : Nat} {A B C : World} (h : KpS va n A B) (g : KpS va n B C) : KpS va n A C := ⟨Nat.le_trans h.1 g.1, fun k j e hj => (g.2 k j e hj).trans (h.2 k j e hj)⟩
theorem KpS.below {va : Option Addr} {n : Nat} {A B : World} (h : Below A.heap.size A B) (hv : ∀ g, va = some ⟨g, 0, none⟩ → g < A.heap.size) : KpS va n A B :=
  ⟨h.size, fun g _ e _ => World.cell?_of_block (h.block g (hv g e))⟩
theorem grown_of_below {A B : World} (h : Below A.heap.size A B) : A.grownBy B none := ⟨h.os, h.tape, h.output, h.size, fun k hk _ => h.block k hk⟩
theorem abides_below {β : Type} {n : Nat} {J : β → World → Prop} (hJ : AbidesFrom n J) {s : β} {A B : World} (h : J s A) (hb : Below A.heap.size A B) : J s B :=
  hJ s A B none h (grown_of_below hb) (fun r e => by cases e)
theorem range_pre {k n : Nat} (h : k < n) : List.range (k + 1) <+: List.range n := by
  obtain ⟨m, rfl⟩ : ∃ m, n = k + 1 + m := ⟨n - (k + 1), by omega⟩
  rw [show List.range (k + 1 + m) = List.range (k + 1) ++ (List.range m).map (fun x => k + 1 + x) from List.range_add]; exact List.prefix_append _ _
/-- what an item is: a number and its text -/
def itemE (L : List ByteArray) (x : Nat) : Array Value := #[.int .i64 (x : Int), .string (L.getD x ⟨#[]⟩)]
set_option maxRecDepth 100000 in
set_option maxHeartbeats 8000000 in
theorem all1 (n : Nat) {B b mb : Nat} {va : Option Addr} {vc : Nat} {L : List ByteArray} (Bt l : Nat) (J Jx : List Nat → World → Prop) (W : World) (hT : Tab W B b (.slice va L.length vc) mb L) (hJ : AbidesFrom W.heap.size J)
    (hY : ∀ pre x W1, J pre W1 → pre.length < L.length → YieldAt Fence.wide (n - 1) Try.prog l (itemE L x) W1 fun e W' => (e = .returned (.bool true) ∧ J (pre ++ [x]) W' ∧ KpS va L.length W1 W') ∨ (e = .returned (.bool false) ∧ Jx (pre ++ [x]) W'))
    (hBt : W.cell? ⟨Bt, 0, none⟩ = some (.pointer (some ⟨b, 0, none⟩))) (h0 : J [] W) :
    CallsIn Fence.wide n Try.prog 26 #[.func (.yield l) #[] #[], .pointer (some ⟨Bt, 0, none⟩)] W fun e W' => (∃ v, e = .returned v) ∧
      ((∃ xs, xs = List.range L.length ∧ J xs W') ∨ (∃ pre, pre <+: List.range L.length ∧ Jx pre W')) := by
  obtain ⟨c0, c1, -⟩ := hT.cells
  have hRl := hT.len
  have hvlt : ∀ g, va = some ⟨g, 0, none⟩ → g < W.heap.size := fun g e => (own_lt hT.row g (by rw [e]; rfl)).2
  have hrow := Lib.hid (fun j hj => row_txt hT.row j hj)
  have hcap : L.length ≤ vc := by
    rcases hT.row.2 with ⟨e, e2⟩ | ⟨k, cap, cur, e, -, -, hc, -⟩
    · omega
    · injection e with _ _ e; omega
  have hT0 := Lib.hid hT
  replace hvlt := Lib.hid hvlt
  replace hY := Lib.hid hY
  clear hT
  refine callsIn_wide.2 ?_
  go_enter Try.func26, Try.ntmps26
  go_wp2_with (go_at_call 25; refine (in_made hT0.out).mono ?_; rintro e w1 ⟨rfl, rfl⟩)
  go_quiet (fail)
  go_wp2
  have hb2 := Lib.hid (below_drewN (Below.refl W.heap.size W) nq)
  generalize W.drewN nq = W2 at hb2 ⊢
  refine (wpIn_wide (n := n)).1 ?_
  gi_loopw [24, 3, 4] (fun i _ _ wr => ∃ k : Nat, k ≤ L.length ∧ i = .int .i64 k ∧ Hid (J (List.range k) wr) ∧ Hid (KpS va L.length W wr)) (fun i _ _ _ => L.length - (intOf i).toNat)
  case atStart => exact ⟨0, Nat.zero_le _, rfl, Lib.hid (abides_below hJ h0 hb2.out), Lib.hid (KpS.below hb2.out hvlt.out)⟩
  case round =>
    obtain ⟨k, hk, rfl, hJs, hkp⟩ := hrel
    by_cases hlt : k < L.length
    · obtain ⟨g, rfl, q0⟩ := hrow.out k hlt
      have q1 := (hkp.out.2 g k rfl hlt).trans q0
      have hki : (k : Int) < (L.length : Int) := by omega
      have hk0 : (0 : Int) ≤ (k : Int) := Int.natCast_nonneg _
      obtain ⟨fn, tmps, assign, body, hy, hR3⟩ := hY.out (List.range k) k wr hJs.out (by rw [List.length_range]; exact hlt)
      simp only [itemE] at hy
      clear q0
      generalize L.getD k ⟨#[]⟩ = s at q1 hy
      gi_wp2
      refine ⟨fun h => (by cases h), hR3.mono ?_⟩
      rintro e w4 (⟨rfl, hJ4, hk4⟩ | ⟨rfl, hJx4⟩)
      · have hkp4 := Lib.hid (hkp.out.trans hk4)
        replace hJ4 := Lib.hid hJ4
        clear hk4 q1 hy hR3
        gi_wp2
        go_wp2
        go_roundw
        case rel => exact ⟨k + 1, by omega, by go_num, by rw [List.range_succ]; exact hJ4, hkp4⟩
        case measure => simp [intOf]; omega
      · replace hJx4 := Lib.hid hJx4
        clear q1 hy hR3
        gi_wp2
        go_wp2
        refine bodyPost_ret (results_none rfl _ _ _) rfl ?_
        exact ⟨⟨_, rfl⟩, .inr ⟨_, (by rw [← List.range_succ]; exact range_pre hlt), hJx4.out⟩⟩
    · have hke : k = L.length := by omega
      have hki : ¬ ((k : Int) < (L.length : Int)) := by omega
      rw [hke] at hJs
      gi_wp2
      go_end0
      exact ⟨⟨_, rfl⟩, .inl hJs.out⟩
/-- All: the table's pointer is boxed -/
theorem in_All (b : Nat) (w : World) : Calls Try.prog 10 #[.pointer (some ⟨b, 0, none⟩)] w fun e w' => e = .returned (.func (.func 26) #[] #[.pointer (some ⟨w.heap.size, 0, none⟩)]) ∧ w' = w.alloc (.cells #[.pointer (some ⟨b, 0, none⟩)] 23) := by
  go_enter Try.func10, Try.ntmps10
  go_wp2
  go_ret
  exact ⟨rfl, rfl⟩
theorem all_stops (n : Nat) {B b mb : Nat} {va : Option Addr} {vc : Nat} {L : List ByteArray} (Bt : Nat) (w : World) (hT : Tab w B b (.slice va L.length vc) mb L) (hB : Bt < w.heap.size) (hc : w.cell? ⟨Bt, 0, none⟩ = some (.pointer (some ⟨b, 0, none⟩))) :
    SeqStopsK Fence.wide n Try.prog 26 #[.pointer (some ⟨Bt, 0, none⟩)] (itemE L) (KpS va L.length) (fun xs => xs = List.range L.length) (fun pre => pre <+: List.range L.length) L.length w :=
  fun l J Jx W hW hJ _ hY h0 => all1 n Bt l J Jx W (hT.below hW) hJ hY ((hW.cell (p := ⟨Bt, 0, none⟩) hB).trans hc) h0
end Go.Proofs.Ytacjelpkmafkpaa
