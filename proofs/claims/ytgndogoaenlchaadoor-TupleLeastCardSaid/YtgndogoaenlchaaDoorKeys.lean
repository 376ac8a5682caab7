/- Key of a tuple that is too long; the reference's Key; From. -/
import Derived.Test.YtgndogoaenlchaaDoorProg
import Derived.Test.YtgndogoaenlchaaDoorBase
import Derived.Test.YtgndogoaenlchaaDoorKit
import Derived.Test.YtgndogoaenlchaaDoorKey
import Derived.Test.YtgndogoaenlchaaDoorLend
import Derived.Test.YtgndogoaenlchaaDoorFam
namespace Go.Proofs.YtgndogoaenlchaaDoor
open Go.RowKit

set_option maxHeartbeats 1000000 in
theorem key_long (a : Option Addr) (cap : Nat) (zs : List Int) (w : World) (ha : Ints .i64 w a zs) (hz : 16 < zs.length) :
    Calls Tryd.prog 15 #[.slice a zs.length cap] w fun e w' => e = .returned (.tuple #[.agg (keyV .i64 []), .int .i64 3]) ∧ Below w.heap.size w w' := by
  have hm := ha.len
  have h16 : (16 : Int) < (zs.length : Int) := by omega
  have hz1 : Hid (((w.alloc (.cells #[.int .i64 0, .int .i64 0, .int .i64 0, .int .i64 0, .int .i64 0, .int .i64 0, .int .i64 0, .int .i64 0, .int .i64 0, .int .i64 0, .int .i64 0, .int .i64 0, .int .i64 0, .int .i64 0, .int .i64 0, .int .i64 0] 36)).alloc (.cells #[.int .i64 0, .int .i64 0, .int .i64 0, .int .i64 0, .int .i64 0, .int .i64 0, .int .i64 0, .int .i64 0, .int .i64 0, .int .i64 0, .int .i64 0, .int .i64 0, .int .i64 0, .int .i64 0, .int .i64 0, .int .i64 0] 36)).heap[w.heap.size + 1]? = some (.cells (keyV .i64 []) 36)) := heap_alloc2_new _ _ _
  have hg3 : Hid (((w.alloc (.cells #[.int .i64 0, .int .i64 0, .int .i64 0, .int .i64 0, .int .i64 0, .int .i64 0, .int .i64 0, .int .i64 0, .int .i64 0, .int .i64 0, .int .i64 0, .int .i64 0, .int .i64 0, .int .i64 0, .int .i64 0, .int .i64 0] 36)).alloc (.cells #[.int .i64 0, .int .i64 0, .int .i64 0, .int .i64 0, .int .i64 0, .int .i64 0, .int .i64 0, .int .i64 0, .int .i64 0, .int .i64 0, .int .i64 0, .int .i64 0, .int .i64 0, .int .i64 0, .int .i64 0, .int .i64 0] 36)).heap[w.heap.size]? = some (.cells (keyV .i64 []) 36)) := heap_alloc2_old w _ _
  have hb2 : Below w.heap.size w ((w.alloc (.cells #[.int .i64 0, .int .i64 0, .int .i64 0, .int .i64 0, .int .i64 0, .int .i64 0, .int .i64 0, .int .i64 0, .int .i64 0, .int .i64 0, .int .i64 0, .int .i64 0, .int .i64 0, .int .i64 0, .int .i64 0, .int .i64 0] 36)).alloc (.cells #[.int .i64 0, .int .i64 0, .int .i64 0, .int .i64 0, .int .i64 0, .int .i64 0, .int .i64 0, .int .i64 0, .int .i64 0, .int .i64 0, .int .i64 0, .int .i64 0, .int .i64 0, .int .i64 0, .int .i64 0, .int .i64 0] 36)) := ((Below.refl _ _).alloc (Nat.le_refl _) _).alloc (by simp) _
  go_enter Tryd.func15, Tryd.ntmps15
  go_wp2_with (first
    | (with_reducible refine wpList_load_row rfl 36 (.tmp 4) rfl (w.heap.size + 1) rfl 36 (keyV .i64 []) (0, 0) _ hz1.out Tryd.underlying36 rfl (by rw [keyV_size]; exact sizeArr_int) ?_)
    | (with_reducible refine wpList_store_row rfl 36 (.tmp 2) (.tmp 8) rfl w.heap.size (keyV .i64 []) rfl rfl 36 (keyV .i64 []) hg3.out (by rw [keyV_size]; exact sizeArr_int) (by rw [keyV_size]) (keyV_one _ _) ?_))
  refine bodyPost_ret (v := .tuple #[.agg (keyV .i64 []), .int .i64 3]) ?_ rfl ⟨rfl, ?_⟩
  · exact results_key rfl _ _ w.heap.size 36 (keyV .i64 []) (0, 0) _ rfl (setRow_heap _ _ _ _ _ _ hg3.out) Tryd.underlying36 rfl (by rw [keyV_size]; exact sizeArr_int) _ rfl
  · exact below_setRow hb2 (Nat.le_refl _) _

/-- sixteen numbers: the tuple's, zeros behind them; zeros alone of one that is too long -/
def keyO (zs : List Int) : List Int := if zs.length ≤ 16 then keyL zs else keyL []
theorem keyO_length (zs : List Int) : (keyO zs).length = 16 := by unfold keyO; split <;> exact keyL_length _
def keyE (zs : List Int) : Int := if zs.length ≤ 16 then 0 else 3
def keyA (ks : List Int) : Array Value := (ks.map (Value.int .i64)).toArray
theorem key_all (a : Option Addr) (cap : Nat) (zs : List Int) (w : World) (ha : Ints .i64 w a zs) :
    Calls Tryd.prog 15 #[.slice a zs.length cap] w fun e w' => e = .returned (.tuple #[.agg (keyA (keyO zs)), .int .i64 (keyE zs)]) ∧ Below w.heap.size w w' := by
  unfold keyO keyE
  by_cases h : zs.length ≤ 16
  · rw [if_pos h, if_pos h]; exact key_int a cap zs w ha h
  · rw [if_neg h, if_neg h]; exact key_long a cap zs w ha (by omega)
theorem keyA_size (ks : List Int) : (keyA ks).size = ks.length := by simp [keyA]
theorem keyA_one (ks : List Int) : ((keyA ks).all fun x => x.oneCell') = true := by simp [keyA, Value.oneCell']
/-- the reference's list while it is filled -/
def keyK (zs : List Int) (k : Nat) : List Int := zs.take k ++ List.replicate (16 - k) 0
theorem keyK_set (zs : List Int) (k : Nat) (h : k < zs.length) (h2 : zs.length ≤ 16) : (keyK zs k).set k (nth zs k) = keyK zs (k + 1) := by
  unfold keyK
  have hl : (zs.take k).length = k := by rw [List.length_take]; omega
  rw [List.set_append_right _ _ (by omega), hl, Nat.sub_self, show 16 - k = (16 - (k + 1)) + 1 from by omega, List.replicate_succ, List.set_cons_zero, take_nth zs k h]
  simp
theorem keyK_end (zs : List Int) (h2 : zs.length ≤ 16) : keyK zs zs.length = keyL zs := by
  unfold keyK keyL
  rw [List.take_of_length_le (Nat.le_refl _)]
  apply List.ext_getElem
  · simp; omega
  · intro i h1 h3
    have hi : i < 16 := by simpa using h3
    rw [List.getElem_map, List.getElem_range]
    rcases Nat.lt_or_ge i zs.length with h4 | h4
    · rw [List.getElem_append_left h4, nth_eq zs i h4]
    · rw [List.getElem_append_right h4, nth_beyond zs i h4]; simp
theorem keyK_length (zs : List Int) (k : Nat) (h : k ≤ zs.length) (h2 : zs.length ≤ 16) : (keyK zs k).length = 16 := by
  unfold keyK; simp; omega
/-- what the reference's Key answers -/
def RkPost (zs : List Int) (w : World) (e : Ending) (w' : World) : Prop :=
  ∃ g c, e = .returned (.tuple #[.slice (some ⟨g, 0, none⟩) 16 c, .int .i64 (keyE zs)]) ∧ w'.ownsRow w.heap.size 3 1 (.slice (some ⟨g, 0, none⟩) 16 c) 16 ((keyO zs).map (Value.int .i64)) ∧ Below w.heap.size w w'

set_option maxHeartbeats 2000000 in
theorem rkey (a : Option Addr) (cap : Nat) (zs : List Int) (w : World) (ha : Ints .i64 w a zs) :
    Calls Tryd.prog 16 #[.slice a zs.length cap] w (RkPost zs w) := by
  have hm := ha.len
  by_cases h16 : zs.length ≤ 16
  · have hk0 : Hid (keyE zs = 0 ∧ keyO zs = keyL zs) := by show _ ∧ _; unfold keyE keyO; rw [if_pos h16, if_pos h16]; exact ⟨rfl, rfl⟩
    have hmk : ∀ w, (Instr.makeSlice 23 (.int .i64 16) (.int .i64 16)).run Tryd.prog w = .ok (.slice (some ⟨w.heap.size, 0, none⟩) 16 16) (w.alloc (.cells #[.int .i64 0, .int .i64 0, .int .i64 0, .int .i64 0, .int .i64 0, .int .i64 0, .int .i64 0, .int .i64 0, .int .i64 0, .int .i64 0, .int .i64 0, .int .i64 0, .int .i64 0, .int .i64 0, .int .i64 0, .int .i64 0] 3)) := fun _ => by kernel_rfl
    have hw : Hid ((w.alloc (.cells #[.int .i64 0, .int .i64 0, .int .i64 0, .int .i64 0, .int .i64 0, .int .i64 0, .int .i64 0, .int .i64 0, .int .i64 0, .int .i64 0, .int .i64 0, .int .i64 0, .int .i64 0, .int .i64 0, .int .i64 0, .int .i64 0] 3)).ownsRow w.heap.size 3 1 (.slice (some ⟨w.heap.size, 0, none⟩) 16 16) 16 ((keyK zs 0).map (Value.int .i64))) := World.ownsRow_lit w #[.int .i64 0, .int .i64 0, .int .i64 0, .int .i64 0, .int .i64 0, .int .i64 0, .int .i64 0, .int .i64 0, .int .i64 0, .int .i64 0, .int .i64 0, .int .i64 0, .int .i64 0, .int .i64 0, .int .i64 0, .int .i64 0] 16 (Nat.le_refl _) (by unfold maxLen; omega) (by simp)
    have hwb : Hid (Below w.heap.size w (w.alloc (.cells #[.int .i64 0, .int .i64 0, .int .i64 0, .int .i64 0, .int .i64 0, .int .i64 0, .int .i64 0, .int .i64 0, .int .i64 0, .int .i64 0, .int .i64 0, .int .i64 0, .int .i64 0, .int .i64 0, .int .i64 0, .int .i64 0] 3))) := (Below.refl _ _).al _
    go_enter Tryd.func16, Tryd.ntmps16
    go_wp2
    clear hmk
    go_loopw [5] (fun i wr => ∃ k : Nat, k ≤ zs.length ∧ i = .int .i64 k ∧ Hid (wr.ownsRow w.heap.size 3 1 (.slice (some ⟨w.heap.size, 0, none⟩) 16 16) 16 ((keyK zs k).map (Value.int .i64))) ∧ Hid (Below w.heap.size w wr)) (fun i _ => zs.length - (intOf i).toNat)
    case atStart => exact ⟨0, Nat.zero_le _, rfl, hw, hwb⟩
    case round =>
      clear hw hwb
      obtain ⟨k, hk, rfl, hown, hb⟩ := hrel
      by_cases hlt : k < zs.length
      · obtain ⟨b, off, rfl, hcell⟩ := (ha.below hb.out).cells k hlt
        have hlen := keyK_length zs k hk h16
        obtain ⟨old, r⟩ : ∃ old, wr.cell? ⟨w.heap.size, k, none⟩ = some old := by
          rw [hown.out.cellAt k (by omega), List.getElem?_eq_getElem (by simp; omega)]; exact ⟨_, rfl⟩
        have fz := own_frozenI hown.out k
        have hput := own_putI (j := k) (u := .int .i64 (nth zs k)) hown.out
        rw [← List.map_set, keyK_set zs k hlt h16] at hput
        have hb2 : Hid (Below w.heap.size w (wr.setCell ⟨w.heap.size, k, none⟩ (.int .i64 (nth zs k)))) := hb.out.setCell (Nat.le_refl _) _
        replace hput := Lib.hid hput
        clear hown hb hlen
        go_wp2
        go_roundw
        case rel => exact ⟨k + 1, by omega, by go_num, hput, hb2⟩
        case measure => simp [intOf]; omega
      · have hke : k = zs.length := by omega
        have hown2 := hown.out
        rw [hke, keyK_end zs h16] at hown2
        replace hown2 := Lib.hid hown2
        clear hown hke
        go_wp2
        go_ret2
        refine ⟨w.heap.size, 16, ?_, ?_, hb.out⟩
        · rw [hk0.out.1]; rfl
        · rw [hk0.out.2]; exact hown2.out
  · have hk0 : Hid (keyE zs = 3 ∧ keyO zs = keyL []) := by show _ ∧ _; unfold keyE keyO; rw [if_neg h16, if_neg h16]; exact ⟨rfl, rfl⟩
    have hmk : ∀ w, (Instr.makeSlice 23 (.int .i64 16) (.int .i64 16)).run Tryd.prog w = .ok (.slice (some ⟨w.heap.size, 0, none⟩) 16 16) (w.alloc (.cells #[.int .i64 0, .int .i64 0, .int .i64 0, .int .i64 0, .int .i64 0, .int .i64 0, .int .i64 0, .int .i64 0, .int .i64 0, .int .i64 0, .int .i64 0, .int .i64 0, .int .i64 0, .int .i64 0, .int .i64 0, .int .i64 0] 3)) := fun _ => by kernel_rfl
    have hw : Hid ((w.alloc (.cells #[.int .i64 0, .int .i64 0, .int .i64 0, .int .i64 0, .int .i64 0, .int .i64 0, .int .i64 0, .int .i64 0, .int .i64 0, .int .i64 0, .int .i64 0, .int .i64 0, .int .i64 0, .int .i64 0, .int .i64 0, .int .i64 0] 3)).ownsRow w.heap.size 3 1 (.slice (some ⟨w.heap.size, 0, none⟩) 16 16) 16 ((keyL []).map (Value.int .i64))) := World.ownsRow_lit w #[.int .i64 0, .int .i64 0, .int .i64 0, .int .i64 0, .int .i64 0, .int .i64 0, .int .i64 0, .int .i64 0, .int .i64 0, .int .i64 0, .int .i64 0, .int .i64 0, .int .i64 0, .int .i64 0, .int .i64 0, .int .i64 0] 16 (Nat.le_refl _) (by unfold maxLen; omega) (by simp)
    have h17 : (16 : Int) < (zs.length : Int) := by omega
    go_enter Tryd.func16, Tryd.ntmps16
    go_wp2
    go_ret2
    refine ⟨w.heap.size, 16, ?_, ?_, (Below.refl _ _).al _⟩
    · rw [hk0.out.1]; rfl
    · rw [hk0.out.2]; exact hw.out

theorem own_slice1 {w : World} {base : Nat} {e : TypeId} {size : Nat} {v : Value} {n : Nat} {xs : List Value} (h : w.ownsRow base e size v n xs) :
    ∃ a c, v = .slice a n c ∧ (a = none → n = 0 ∧ c = 0) := by
  rcases h.2 with ⟨rfl, rfl⟩ | ⟨g, cap, cur, rfl, _⟩
  · exact ⟨none, 0, rfl, fun _ => ⟨rfl, rfl⟩⟩
  · exact ⟨_, cap, rfl, fun h => by cases h⟩
/-- what From answers -/
def FrPost (ks : List Int) (n : Nat) (w : World) (e : Ending) (w' : World) : Prop :=
  ∃ a c, e = .returned (.tuple #[.slice a n c, .int .i64 0]) ∧ w'.ownsRow w.heap.size 3 1 (.slice a n c) n ((ks.take n).map (Value.int .i64)) ∧ Below w.heap.size w w'

set_option maxHeartbeats 2000000 in
theorem from_bad (ks : List Int) (n : Int) (w : World) (hk : ks.length = 16) (hn : n < 0 ∨ 16 < n) :
    Calls Tryd.prog 18 #[.agg (keyA ks), .int .i64 n] w fun e w' => e = .returned (.tuple #[.slice none 0 0, .int .i64 2]) ∧ Below w.heap.size w w' := by
  replace hk := Lib.hid hk
  rcases hn with h | h
  · go_enter Tryd.func18, Tryd.ntmps18
    go_wp2
    go_ret2
    exact ⟨rfl, (Below.refl _ _).al _⟩
  · have h2 : ¬ n < 0 := by omega
    go_enter Tryd.func18, Tryd.ntmps18
    go_wp2
    go_ret2
    exact ⟨rfl, (Below.refl _ _).al _⟩

set_option maxHeartbeats 2000000 in
theorem from_ok (ks : List Int) (n : Nat) (w : World) (hk : ks.length = 16) (hn : n ≤ 16) :
    Calls Tryd.prog 18 #[.agg (keyA ks), .int .i64 (n : Int)] w (FrPost ks n w) := by
  obtain ⟨i0, hi, hz0, hz1, hz2⟩ := info_parts infoInt
  have h1 : ¬ (n : Int) < 0 := by omega
  have h2 : ¬ 16 < (n : Int) := by omega
  have hnews : Hid (∀ j u, ((ks.take n).map (Value.int .i64))[j]? = some u → (w.alloc (.cells (keyA ks) 36)).cell? ((⟨w.heap.size, 0, none⟩ : Addr).add j) = some u) := by
    show ∀ j u, _ → _
    intro j u hu
    rw [addr_add, Nat.zero_add, cell_of_row _ _ _ _ _ (0, 0) (heap_alloc_new w _)]
    unfold keyA
    rw [List.getElem?_map, List.getElem?_take] at hu
    split at hu
    · simpa using hu
    · simp at hu
  have hln : Hid (((ks.take n).map (Value.int .i64)).length = n * 1) := by show _ = _; simp; omega
  replace hk := Lib.hid hk
  go_enter Tryd.func18, Tryd.ntmps18
  go_wp2_with (first
    | (at_builtin; refine wpList_append_src _ rfl (.const (.slice none 0 0)) (.tmp 13) 23 rfl w.heap.size 3 i0 (.int .i64 0) 1 8 Tryd.underlying23 hi hz0 hz1 hz2 rfl (by decide) (.slice none 0 0) 0 [] rfl (World.ownsRow_nil _ _ _ _) (some ⟨w.heap.size, 0, none⟩) n 16 ((ks.take n).map (Value.int .i64)) rfl (fun h => by cases h) hln.out (fun ad had => by injection had with had; subst had; exact hnews.out) (ints_one _ _) (by unfold maxLen; omega) (by omega) (by simp) ?_))
  intro v1 w1 hown1 hgrow1 hv1
  have hb : Below w.heap.size w w1 := ((Below.refl _ _).al _).grown hgrow1 (by simp) (by intro k hk; cases hk)
  obtain ⟨a, c, rfl, _⟩ := own_slice1 hown1
  have hown2 : w1.ownsRow w.heap.size 3 1 (.slice a n c) n ((ks.take n).map (Value.int .i64)) := by rw [List.map_take]; exact hown1
  replace hown2 := Lib.hid hown2
  clear hown1 hgrow1 hv1
  go_wp2
  go_ret2
  exact ⟨a, c, rfl, hown2.out, hb⟩

end Go.Proofs.YtgndogoaenlchaaDoor
