/- tuple.Key: a tuple as an array of sixteen numbers. -/
import Derived.Test.YtgndogoaenlchaaRows
import Derived.Test.YtgndogoaenlchaaBase
import Derived.Test.YtgndogoaenlchaaKit
namespace Go.Proofs.Ytgndogoaenlchaa
open Go.RowKit

/-- sixteen cells: the numbers, and 0 behind them. -/
def keyL (zs : List Int) : List Int := (List.range 16).map (nth zs)
def keyV (k : IntKind) (zs : List Int) : Array Value := ((keyL zs).map (Value.int k)).toArray
theorem keyL_length (zs : List Int) : (keyL zs).length = 16 := by simp [keyL]
theorem keyV_size (k : IntKind) (zs : List Int) : (keyV k zs).size = 16 := by simp [keyV, keyL]
theorem keyL_eq (xs ys : List Int) (hl : xs.length = ys.length) (h : ys.length ≤ 16) : (keyL xs == keyL ys) = eqB xs ys := by
  by_cases e : xs = ys
  · subst e; simp [eqB]
  · have h1 : eqB xs ys = false := by simp [eqB, e]
    rw [h1]
    simp only [beq_eq_false_iff_ne, ne_eq]
    intro hk
    apply e
    refine List.ext_getElem hl fun i h1 h2 => ?_
    have := congrArg (fun l => nth l i) hk
    simp only [keyL, nth, List.getD_eq_getElem?_getD, List.getElem?_map, List.getElem?_range (show i < 16 by omega), Option.map_some, Option.getD_some, List.getElem?_eq_getElem h1, List.getElem?_eq_getElem h2] at this
    exact this
theorem keyV_one (k : IntKind) (zs : List Int) : ((keyV k zs).all fun x => x.oneCell') = true := by
  simp [keyV, keyL, Value.oneCell']
theorem keyV_zero (k : IntKind) : keyV k [] = #[.int k 0, .int k 0, .int k 0, .int k 0, .int k 0, .int k 0, .int k 0, .int k 0, .int k 0, .int k 0, .int k 0, .int k 0, .int k 0, .int k 0, .int k 0, .int k 0] := rfl
theorem key_splice (k : IntKind) (zs : List Int) (h : zs.length ≤ 16) : splice [Value.int k 0, Value.int k 0, Value.int k 0, Value.int k 0, Value.int k 0, Value.int k 0, Value.int k 0, Value.int k 0, Value.int k 0, Value.int k 0, Value.int k 0, Value.int k 0, Value.int k 0, Value.int k 0, Value.int k 0, Value.int k 0] 0 (zs.map (Value.int k)) = (keyV k zs).toList := by
  show splice (keyV k []).toList 0 (zs.map (Value.int k)) = (keyV k zs).toList
  apply List.ext_getElem
  · rw [length_splice _ _ _ (by simp [keyV, keyL]; omega)]; simp [keyV, keyL]
  · intro i h1 h2
    have hi : i < 16 := by simpa [keyV, keyL] using h2
    simp only [splice, List.take_zero, List.nil_append]
    rcases Nat.lt_or_ge i zs.length with h3 | h3
    · rw [List.getElem_append_left (by simpa using h3)]; simp [keyV, keyL, nth_eq zs i h3]
    · rw [List.getElem_append_right (by simpa using h3)]
      have e := nth_beyond zs i h3
      simp [keyV, keyL, e]
      rfl


theorem size_two (w : World) (o : Obj) : (w.alloc o).heap.size = w.heap.size + 1 := by simp

theorem results_key {P : Program} {fn : Func} {p u : Tmp} {ty : TypeId} (h : fn.results = #[.cell p ty, .tmp u]) (tmps : Array Value) (w : World) (g : Nat) (t : TypeId) (cs : Array Value) (fr : Nat × Nat) (d : TypeDesc)
    (hp : tmps.getD p undef = .pointer (some ⟨g, 0, none⟩)) (hg : w.heap[g]? = some (.cells cs t fr)) (hu : P.underlying ty = some d)
    (hd : (match d, hu with | .struct _, _ => true | .array _ _, _ => true | _, _ => false) = true) (hi : (P.info? ty).map (fun x => x.size) = some cs.size) (v : Value) (hv : tmps.getD u undef = v) :
    (results fn tmps).run P w = .ok (.tuple #[.agg cs, v]) w := by
  rw [results_cell_tmp h, hp]
  have := run_loadVar_row (P := P) w g t ty cs fr d hg hu hd hi
  simp [asAddr, Result.andThen, this, hv]


theorem sizeArr_int : (Try.prog.info? 48).map (fun i => i.size) = some 16 := by kernel_rfl
theorem sizeEl_int : (Try.prog.info? 3).map (fun i => i.size) = some 1 := by kernel_rfl

set_option maxHeartbeats 1000000 in
theorem key_int (a : Option Addr) (cap : Nat) (zs : List Int) (w : World) (ha : Ints .i64 w a zs) (hz : zs.length ≤ 16) :
    Calls Try.prog 25 #[.slice a zs.length cap] w fun e w' => e = .returned (.tuple #[.agg (keyV .i64 zs), .int .i64 0]) ∧ Below w.heap.size w w' := by
  have hm := ha.len
  have hp : 0 < (zs.map (Value.int .i64)).length → (some (⟨w.heap.size + 1, 0, none⟩ : Addr)) = some ⟨w.heap.size + 1, 0, none⟩ ∧ ∃ ad, a = some ad ∧ ∀ j u, (zs.map (Value.int .i64))[j]? = some u →
      ((w.alloc (.cells #[.int .i64 0, .int .i64 0, .int .i64 0, .int .i64 0, .int .i64 0, .int .i64 0, .int .i64 0, .int .i64 0, .int .i64 0, .int .i64 0, .int .i64 0, .int .i64 0, .int .i64 0, .int .i64 0, .int .i64 0, .int .i64 0] 48)).alloc (.cells #[.int .i64 0, .int .i64 0, .int .i64 0, .int .i64 0, .int .i64 0, .int .i64 0, .int .i64 0, .int .i64 0, .int .i64 0, .int .i64 0, .int .i64 0, .int .i64 0, .int .i64 0, .int .i64 0, .int .i64 0, .int .i64 0] 48)).cell? (ad.add j) = some u := fun h => by
    obtain ⟨b, off, e, _⟩ := ha.cells 0 (by simpa using h)
    exact ⟨rfl, _, e, (ha.below (((Below.refl _ _).alloc (Nat.le_refl _) _).alloc (by simp) _)).news _ e⟩
  have hp1 := Lib.hid hp
  have hz1 : Hid (((w.alloc (.cells #[.int .i64 0, .int .i64 0, .int .i64 0, .int .i64 0, .int .i64 0, .int .i64 0, .int .i64 0, .int .i64 0, .int .i64 0, .int .i64 0, .int .i64 0, .int .i64 0, .int .i64 0, .int .i64 0, .int .i64 0, .int .i64 0] 48)).alloc (.cells #[.int .i64 0, .int .i64 0, .int .i64 0, .int .i64 0, .int .i64 0, .int .i64 0, .int .i64 0, .int .i64 0, .int .i64 0, .int .i64 0, .int .i64 0, .int .i64 0, .int .i64 0, .int .i64 0, .int .i64 0, .int .i64 0] 48)).heap[w.heap.size + 1]? = some (.cells [Value.int .i64 0, Value.int .i64 0, Value.int .i64 0, Value.int .i64 0, Value.int .i64 0, Value.int .i64 0, Value.int .i64 0, Value.int .i64 0, Value.int .i64 0, Value.int .i64 0, Value.int .i64 0, Value.int .i64 0, Value.int .i64 0, Value.int .i64 0, Value.int .i64 0, Value.int .i64 0].toArray 48)) := heap_alloc2_new _ _ _
  have hc : Hid ((zs.map (Value.int .i64)).length = zs.length.min 16) := (List.length_map _).trans (Nat.min_eq_left hz).symm
  have hf : Hid (0 + (zs.map (Value.int .i64)).length ≤ ([Value.int .i64 0, Value.int .i64 0, Value.int .i64 0, Value.int .i64 0, Value.int .i64 0, Value.int .i64 0, Value.int .i64 0, Value.int .i64 0, Value.int .i64 0, Value.int .i64 0, Value.int .i64 0, Value.int .i64 0, Value.int .i64 0, Value.int .i64 0, Value.int .i64 0, Value.int .i64 0]).length) := by show 0 + (zs.map _).length ≤ 16; simp; omega
  clear hp
  go_enter Try.func25, Try.ntmps25
  go_wp2_with (with_reducible refine wpList_copy_splice rfl (.tmp 9) (.tmp 10) 22 22 rfl 3 Try.underlying22 sizeEl_int (some ⟨w.heap.size + 1, 0, none⟩) a 16 16 zs.length cap rfl rfl (w.heap.size + 1) 0 [Value.int .i64 0, Value.int .i64 0, Value.int .i64 0, Value.int .i64 0, Value.int .i64 0, Value.int .i64 0, Value.int .i64 0, Value.int .i64 0, Value.int .i64 0, Value.int .i64 0, Value.int .i64 0, Value.int .i64 0, Value.int .i64 0, Value.int .i64 0, Value.int .i64 0, Value.int .i64 0] 48 hz1.out (zs.map (Value.int .i64)) hc.out hp1.out hf.out (ints_one _ _) (w.heap.size + 1) _ (Below.refl _ _) (Nat.le_refl _) ?_)
  intro w1 hg1 hb1
  have hk := hg1.out
  rw [key_splice .i64 zs hz] at hk
  have hg2 : Hid (w1.heap[w.heap.size + 1]? = some (.cells (keyV .i64 zs) 48)) := hk
  have hg3 : Hid (w1.heap[w.heap.size]? = some (.cells (keyV .i64 []) 48)) := (hb1.block w.heap.size (by omega)).trans (heap_alloc2_old w _ _)
  have hb2 : Below w.heap.size w w1 := (((Below.refl _ _).alloc (Nat.le_refl _) _).alloc (by simp) _).trans (hb1.mono (by omega))
  clear hg1 hb1 hk hp1 hc hf hz1
  go_wp2_with (first
    | (with_reducible refine wpList_load_row rfl 48 (.tmp 4) rfl (w.heap.size + 1) rfl 48 (keyV .i64 zs) (0, 0) _ hg2.out Try.underlying48 rfl (by rw [keyV_size]; exact sizeArr_int) ?_)
    | (with_reducible refine wpList_store_row rfl 48 (.tmp 2) (.tmp 12) rfl w.heap.size (keyV .i64 zs) rfl rfl 48 (keyV .i64 []) hg3.out (by rw [keyV_size]; exact sizeArr_int) (by rw [keyV_size, keyV_size]) (keyV_one _ _) ?_))
  refine bodyPost_ret (v := .tuple #[.agg (keyV .i64 zs), .int .i64 0]) ?_ rfl ⟨rfl, ?_⟩
  · exact results_key rfl _ _ w.heap.size 48 (keyV .i64 zs) (0, 0) _ rfl (setRow_heap _ _ _ _ _ _ hg3.out) Try.underlying48 rfl (by rw [keyV_size]; exact sizeArr_int) _ rfl
  · exact below_setRow hb2 (Nat.le_refl _) _


theorem sizeArr_int8 : (Try.prog.info? 62).map (fun i => i.size) = some 16 := by kernel_rfl
theorem sizeEl_int8 : (Try.prog.info? 33).map (fun i => i.size) = some 1 := by kernel_rfl

set_option maxHeartbeats 1000000 in
theorem key_int8 (a : Option Addr) (cap : Nat) (zs : List Int) (w : World) (ha : Ints .i8 w a zs) (hz : zs.length ≤ 16) :
    Calls Try.prog 30 #[.slice a zs.length cap] w fun e w' => e = .returned (.tuple #[.agg (keyV .i8 zs), .int .i64 0]) ∧ Below w.heap.size w w' := by
  have hm := ha.len
  have hp : 0 < (zs.map (Value.int .i8)).length → (some (⟨w.heap.size + 1, 0, none⟩ : Addr)) = some ⟨w.heap.size + 1, 0, none⟩ ∧ ∃ ad, a = some ad ∧ ∀ j u, (zs.map (Value.int .i8))[j]? = some u →
      ((w.alloc (.cells #[.int .i8 0, .int .i8 0, .int .i8 0, .int .i8 0, .int .i8 0, .int .i8 0, .int .i8 0, .int .i8 0, .int .i8 0, .int .i8 0, .int .i8 0, .int .i8 0, .int .i8 0, .int .i8 0, .int .i8 0, .int .i8 0] 62)).alloc (.cells #[.int .i8 0, .int .i8 0, .int .i8 0, .int .i8 0, .int .i8 0, .int .i8 0, .int .i8 0, .int .i8 0, .int .i8 0, .int .i8 0, .int .i8 0, .int .i8 0, .int .i8 0, .int .i8 0, .int .i8 0, .int .i8 0] 62)).cell? (ad.add j) = some u := fun h => by
    obtain ⟨b, off, e, _⟩ := ha.cells 0 (by simpa using h)
    exact ⟨rfl, _, e, (ha.below (((Below.refl _ _).alloc (Nat.le_refl _) _).alloc (by simp) _)).news _ e⟩
  have hp1 := Lib.hid hp
  have hz1 : Hid (((w.alloc (.cells #[.int .i8 0, .int .i8 0, .int .i8 0, .int .i8 0, .int .i8 0, .int .i8 0, .int .i8 0, .int .i8 0, .int .i8 0, .int .i8 0, .int .i8 0, .int .i8 0, .int .i8 0, .int .i8 0, .int .i8 0, .int .i8 0] 62)).alloc (.cells #[.int .i8 0, .int .i8 0, .int .i8 0, .int .i8 0, .int .i8 0, .int .i8 0, .int .i8 0, .int .i8 0, .int .i8 0, .int .i8 0, .int .i8 0, .int .i8 0, .int .i8 0, .int .i8 0, .int .i8 0, .int .i8 0] 62)).heap[w.heap.size + 1]? = some (.cells [Value.int .i8 0, Value.int .i8 0, Value.int .i8 0, Value.int .i8 0, Value.int .i8 0, Value.int .i8 0, Value.int .i8 0, Value.int .i8 0, Value.int .i8 0, Value.int .i8 0, Value.int .i8 0, Value.int .i8 0, Value.int .i8 0, Value.int .i8 0, Value.int .i8 0, Value.int .i8 0].toArray 62)) := heap_alloc2_new _ _ _
  have hc : Hid ((zs.map (Value.int .i8)).length = zs.length.min 16) := (List.length_map _).trans (Nat.min_eq_left hz).symm
  have hf : Hid (0 + (zs.map (Value.int .i8)).length ≤ ([Value.int .i8 0, Value.int .i8 0, Value.int .i8 0, Value.int .i8 0, Value.int .i8 0, Value.int .i8 0, Value.int .i8 0, Value.int .i8 0, Value.int .i8 0, Value.int .i8 0, Value.int .i8 0, Value.int .i8 0, Value.int .i8 0, Value.int .i8 0, Value.int .i8 0, Value.int .i8 0]).length) := by show 0 + (zs.map _).length ≤ 16; simp; omega
  clear hp
  go_enter Try.func30, Try.ntmps30
  go_wp2_with (with_reducible refine wpList_copy_splice rfl (.tmp 9) (.tmp 10) 29 29 rfl 33 Try.underlying29 sizeEl_int8 (some ⟨w.heap.size + 1, 0, none⟩) a 16 16 zs.length cap rfl rfl (w.heap.size + 1) 0 [Value.int .i8 0, Value.int .i8 0, Value.int .i8 0, Value.int .i8 0, Value.int .i8 0, Value.int .i8 0, Value.int .i8 0, Value.int .i8 0, Value.int .i8 0, Value.int .i8 0, Value.int .i8 0, Value.int .i8 0, Value.int .i8 0, Value.int .i8 0, Value.int .i8 0, Value.int .i8 0] 62 hz1.out (zs.map (Value.int .i8)) hc.out hp1.out hf.out (ints_one _ _) (w.heap.size + 1) _ (Below.refl _ _) (Nat.le_refl _) ?_)
  intro w1 hg1 hb1
  have hk := hg1.out
  rw [key_splice .i8 zs hz] at hk
  have hg2 : Hid (w1.heap[w.heap.size + 1]? = some (.cells (keyV .i8 zs) 62)) := hk
  have hg3 : Hid (w1.heap[w.heap.size]? = some (.cells (keyV .i8 []) 62)) := (hb1.block w.heap.size (by omega)).trans (heap_alloc2_old w _ _)
  have hb2 : Below w.heap.size w w1 := (((Below.refl _ _).alloc (Nat.le_refl _) _).alloc (by simp) _).trans (hb1.mono (by omega))
  clear hg1 hb1 hk hp1 hc hf hz1
  go_wp2_with (first
    | (with_reducible refine wpList_load_row rfl 62 (.tmp 4) rfl (w.heap.size + 1) rfl 62 (keyV .i8 zs) (0, 0) _ hg2.out Try.underlying62 rfl (by rw [keyV_size]; exact sizeArr_int8) ?_)
    | (with_reducible refine wpList_store_row rfl 62 (.tmp 2) (.tmp 12) rfl w.heap.size (keyV .i8 zs) rfl rfl 62 (keyV .i8 []) hg3.out (by rw [keyV_size]; exact sizeArr_int8) (by rw [keyV_size, keyV_size]) (keyV_one _ _) ?_))
  refine bodyPost_ret (v := .tuple #[.agg (keyV .i8 zs), .int .i64 0]) ?_ rfl ⟨rfl, ?_⟩
  · exact results_key rfl _ _ w.heap.size 62 (keyV .i8 zs) (0, 0) _ rfl (setRow_heap _ _ _ _ _ _ hg3.out) Try.underlying62 rfl (by rw [keyV_size]; exact sizeArr_int8) _ rfl
  · exact below_setRow hb2 (Nat.le_refl _) _


theorem sizeArr_mine : (Try.prog.info? 65).map (fun i => i.size) = some 16 := by kernel_rfl
theorem sizeEl_mine : (Try.prog.info? 35).map (fun i => i.size) = some 1 := by kernel_rfl

set_option maxHeartbeats 1000000 in
theorem key_mine (a : Option Addr) (cap : Nat) (zs : List Int) (w : World) (ha : Ints .i32 w a zs) (hz : zs.length ≤ 16) :
    Calls Try.prog 31 #[.slice a zs.length cap] w fun e w' => e = .returned (.tuple #[.agg (keyV .i32 zs), .int .i64 0]) ∧ Below w.heap.size w w' := by
  have hm := ha.len
  have hp : 0 < (zs.map (Value.int .i32)).length → (some (⟨w.heap.size + 1, 0, none⟩ : Addr)) = some ⟨w.heap.size + 1, 0, none⟩ ∧ ∃ ad, a = some ad ∧ ∀ j u, (zs.map (Value.int .i32))[j]? = some u →
      ((w.alloc (.cells #[.int .i32 0, .int .i32 0, .int .i32 0, .int .i32 0, .int .i32 0, .int .i32 0, .int .i32 0, .int .i32 0, .int .i32 0, .int .i32 0, .int .i32 0, .int .i32 0, .int .i32 0, .int .i32 0, .int .i32 0, .int .i32 0] 65)).alloc (.cells #[.int .i32 0, .int .i32 0, .int .i32 0, .int .i32 0, .int .i32 0, .int .i32 0, .int .i32 0, .int .i32 0, .int .i32 0, .int .i32 0, .int .i32 0, .int .i32 0, .int .i32 0, .int .i32 0, .int .i32 0, .int .i32 0] 65)).cell? (ad.add j) = some u := fun h => by
    obtain ⟨b, off, e, _⟩ := ha.cells 0 (by simpa using h)
    exact ⟨rfl, _, e, (ha.below (((Below.refl _ _).alloc (Nat.le_refl _) _).alloc (by simp) _)).news _ e⟩
  have hp1 := Lib.hid hp
  have hz1 : Hid (((w.alloc (.cells #[.int .i32 0, .int .i32 0, .int .i32 0, .int .i32 0, .int .i32 0, .int .i32 0, .int .i32 0, .int .i32 0, .int .i32 0, .int .i32 0, .int .i32 0, .int .i32 0, .int .i32 0, .int .i32 0, .int .i32 0, .int .i32 0] 65)).alloc (.cells #[.int .i32 0, .int .i32 0, .int .i32 0, .int .i32 0, .int .i32 0, .int .i32 0, .int .i32 0, .int .i32 0, .int .i32 0, .int .i32 0, .int .i32 0, .int .i32 0, .int .i32 0, .int .i32 0, .int .i32 0, .int .i32 0] 65)).heap[w.heap.size + 1]? = some (.cells [Value.int .i32 0, Value.int .i32 0, Value.int .i32 0, Value.int .i32 0, Value.int .i32 0, Value.int .i32 0, Value.int .i32 0, Value.int .i32 0, Value.int .i32 0, Value.int .i32 0, Value.int .i32 0, Value.int .i32 0, Value.int .i32 0, Value.int .i32 0, Value.int .i32 0, Value.int .i32 0].toArray 65)) := heap_alloc2_new _ _ _
  have hc : Hid ((zs.map (Value.int .i32)).length = zs.length.min 16) := (List.length_map _).trans (Nat.min_eq_left hz).symm
  have hf : Hid (0 + (zs.map (Value.int .i32)).length ≤ ([Value.int .i32 0, Value.int .i32 0, Value.int .i32 0, Value.int .i32 0, Value.int .i32 0, Value.int .i32 0, Value.int .i32 0, Value.int .i32 0, Value.int .i32 0, Value.int .i32 0, Value.int .i32 0, Value.int .i32 0, Value.int .i32 0, Value.int .i32 0, Value.int .i32 0, Value.int .i32 0]).length) := by show 0 + (zs.map _).length ≤ 16; simp; omega
  clear hp
  go_enter Try.func31, Try.ntmps31
  go_wp2_with (with_reducible refine wpList_copy_splice rfl (.tmp 9) (.tmp 10) 31 31 rfl 35 Try.underlying31 sizeEl_mine (some ⟨w.heap.size + 1, 0, none⟩) a 16 16 zs.length cap rfl rfl (w.heap.size + 1) 0 [Value.int .i32 0, Value.int .i32 0, Value.int .i32 0, Value.int .i32 0, Value.int .i32 0, Value.int .i32 0, Value.int .i32 0, Value.int .i32 0, Value.int .i32 0, Value.int .i32 0, Value.int .i32 0, Value.int .i32 0, Value.int .i32 0, Value.int .i32 0, Value.int .i32 0, Value.int .i32 0] 65 hz1.out (zs.map (Value.int .i32)) hc.out hp1.out hf.out (ints_one _ _) (w.heap.size + 1) _ (Below.refl _ _) (Nat.le_refl _) ?_)
  intro w1 hg1 hb1
  have hk := hg1.out
  rw [key_splice .i32 zs hz] at hk
  have hg2 : Hid (w1.heap[w.heap.size + 1]? = some (.cells (keyV .i32 zs) 65)) := hk
  have hg3 : Hid (w1.heap[w.heap.size]? = some (.cells (keyV .i32 []) 65)) := (hb1.block w.heap.size (by omega)).trans (heap_alloc2_old w _ _)
  have hb2 : Below w.heap.size w w1 := (((Below.refl _ _).alloc (Nat.le_refl _) _).alloc (by simp) _).trans (hb1.mono (by omega))
  clear hg1 hb1 hk hp1 hc hf hz1
  go_wp2_with (first
    | (with_reducible refine wpList_load_row rfl 65 (.tmp 4) rfl (w.heap.size + 1) rfl 65 (keyV .i32 zs) (0, 0) _ hg2.out Try.underlying65 rfl (by rw [keyV_size]; exact sizeArr_mine) ?_)
    | (with_reducible refine wpList_store_row rfl 65 (.tmp 2) (.tmp 12) rfl w.heap.size (keyV .i32 zs) rfl rfl 65 (keyV .i32 []) hg3.out (by rw [keyV_size]; exact sizeArr_mine) (by rw [keyV_size, keyV_size]) (keyV_one _ _) ?_))
  refine bodyPost_ret (v := .tuple #[.agg (keyV .i32 zs), .int .i64 0]) ?_ rfl ⟨rfl, ?_⟩
  · exact results_key rfl _ _ w.heap.size 65 (keyV .i32 zs) (0, 0) _ rfl (setRow_heap _ _ _ _ _ _ hg3.out) Try.underlying65 rfl (by rw [keyV_size]; exact sizeArr_mine) _ rfl
  · exact below_setRow hb2 (Nat.le_refl _) _


end Go.Proofs.Ytgndogoaenlchaa
