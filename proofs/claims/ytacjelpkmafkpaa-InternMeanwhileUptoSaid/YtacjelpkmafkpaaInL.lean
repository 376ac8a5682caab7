/- Intern: Rising: the order's closure; what the sort leaves. -/
import Derived.Shelf.GgSortFunc.Insertion
import Derived.Sort.LotA
import Derived.Lib.OwnBridge
import Derived.Test.YtacjelpkmafkpaaInK
import Derived.Test.YtacjelpkmafkpaaInP
namespace Go.Proofs.Ytacjelpkmafkpaa
open Go.RowKit It Go.Sort
set_option maxHeartbeats 2000000 in
set_option maxRecDepth 100000 in
theorem in_less {W : World} {BT Bo b g gv c vc n : Nat} {i j xi xj : Nat} {si sj : ByteArray} (h1 : W.cell? ⟨BT, 0, none⟩ = some (.pointer (some ⟨b, 0, none⟩))) (h2 : W.cell? ⟨b, 0, none⟩ = some (.slice (some ⟨gv, 0, none⟩) n vc))
    (h3 : W.cell? ⟨Bo, 0, none⟩ = some (.slice (some ⟨g, 0, none⟩) n c)) (h4 : W.cell? ⟨g, i, none⟩ = some (.int .i64 (xi : Int))) (h5 : W.cell? ⟨g, j, none⟩ = some (.int .i64 (xj : Int)))
    (h6 : W.cell? ⟨gv, xi, none⟩ = some (.string si)) (h7 : W.cell? ⟨gv, xj, none⟩ = some (.string sj)) (hi : i < n) (hj : j < n) (hxi : xi < n) (hxj : xj < n) :
    Calls Try.prog 30 #[.int .i64 (i : Int), .int .i64 (j : Int), .pointer (some ⟨BT, 0, none⟩), .pointer (some ⟨Bo, 0, none⟩)] W fun e w' => e = .returned (.bool (ltStr si.data.toList sj.data.toList)) ∧ ∃ q, w' = W.drewN q := by
  have i0 : (0 : Int) ≤ (i : Int) := Int.natCast_nonneg _
  have j0 : (0 : Int) ≤ (j : Int) := Int.natCast_nonneg _
  have x0 : (0 : Int) ≤ (xi : Int) := Int.natCast_nonneg _
  have y0 : (0 : Int) ≤ (xj : Int) := Int.natCast_nonneg _
  have i1 : (i : Int) < (n : Int) := by omega
  have j1 : (j : Int) < (n : Int) := by omega
  have x1 : (xi : Int) < (n : Int) := by omega
  have y1 : (xj : Int) < (n : Int) := by omega
  have hlt : ltStr si.data.toList sj.data.toList = Op.bytesLess si.toList sj.toList := by
    rw [Go.Proofs.bytesLess_eq, ByteArray.toList_eq, ByteArray.toList_eq]; rfl
  go_enter Try.func30, Try.ntmps30
  go_wp2
  go_quiet (fail)
  go_wp2
  go_ret
  exact ⟨by rw [hlt]; rfl, nq, rfl⟩
section
variable {L : List ByteArray} {m : Nat}
def encF (m : Nat) (x : Fin (m + 2)) : Value := .int .i64 (x.val : Int)
def ltF (L : List ByteArray) (m : Nat) (x y : Fin (m + 2)) : Bool := ltStr (tx L (x.val : Int)) (tx L (y.val : Int))
theorem swo_ltF : SWO (ltF L m) where
  irrefl _ := swo_ltStr.irrefl _
  trans _ _ _ := swo_ltStr.trans _ _ _
  ntrans _ _ _ := swo_ltStr.ntrans _ _ _
theorem ints_range (m : Nat) : ints (List.range (m + 2)) = (List.finRange (m + 2)).map (encF m) := by
  refine List.ext_getElem (by simp [ints]) fun i h1 h2 => ?_
  simp [ints, encF]
theorem risen_of {d' : Array (Fin (m + 2))} (hL : L.length = m + 2) (hp : PermIn 0 (m + 2) (List.finRange (m + 2)).toArray d') (hs : SortedIn (ltF L m) 0 (m + 2) d') : Risen L (d'.toList.map fun x => (x.val : Int)) := by
  have hz : (List.finRange (m + 2)).toArray.size = m + 2 := by simp
  have hz' : d'.size = m + 2 := hp.1.trans hz
  refine ⟨?_, ?_⟩
  · have h := hp.2.2
    have e1 : d'.extract 0 (m + 2) = d' := by
      have h3 : d'.extract 0 d'.size = d' := Array.extract_size
      rw [hz'] at h3; exact h3
    have e2 : (List.finRange (m + 2)).toArray.extract 0 (m + 2) = (List.finRange (m + 2)).toArray := by
      have h3 : (List.finRange (m + 2)).toArray.extract 0 (List.finRange (m + 2)).toArray.size = (List.finRange (m + 2)).toArray := Array.extract_size
      rw [hz] at h3; exact h3
    rw [e1, e2] at h
    have h4 := h.map fun x : Fin (m + 2) => (x.val : Int)
    have e3 : ((List.finRange (m + 2)).toArray.toList.map fun x : Fin (m + 2) => (x.val : Int)) = (List.range L.length).map fun n : Nat => (n : Int) := by
      rw [hL]
      refine List.ext_getElem (by simp) fun i h1 h2 => ?_
      simp
    rw [e3] at h4; exact h4
  · rw [List.pairwise_map, List.pairwise_iff_getElem]
    intro i j hi hj hij
    have h := hs i j (Nat.zero_le _) hij (by rw [← hz']; simpa using hj)
    rw [getElem!_pos d' j (by simpa using hj), getElem!_pos d' i (by simpa using hi)] at h
    exact h
end
section
variable {α : Type} [Inhabited α]
theorem sw_other (enc : α → Value) (W : World) (g k : Nat) (dk : Array α) (os : Array Obj) {a : Addr} (ha : a.block ≠ g) (hb : a.block < W.heap.size) : (sortWorld enc W g 0 k dk os).cell? a = W.cell? a := by
  unfold sortWorld
  rw [cell?_grow _ _ _ (by rw [size_putRow]; exact hb), cell?_putRow_other _ _ _ _ _ _ (.inl ha)]
  rfl
theorem sw_row {enc : α → Value} {W : World} {g : Nat} {d : Array α} (h : Holds enc W g 0 d) (hg : g < W.heap.size) (k : Nat) (dk : Array α) (hs : dk.size = d.size) (os : Array Obj) (i : Nat) (hi : i < dk.size) : (sortWorld enc W g 0 k dk os).cell? ⟨g, i, none⟩ = some (enc dk[i]!) := by
  unfold sortWorld
  rw [cell?_grow _ _ _ (by rw [size_putRow]; exact hg)]
  have := cell?_putRow enc (Sort.ahead W k) g 0 d dk (holds_ahead _ _ _ _ _ _ h) hs i hi
  rwa [Nat.zero_add] at this
theorem sw_grown (enc : α → Value) (W : World) (g k : Nat) (dk : Array α) (os : Array Obj) : W.grownBy (sortWorld enc W g 0 k dk os) (some g) := by
  refine ⟨rfl, rfl, rfl, ?_, fun j hj hn => ?_⟩
  · unfold sortWorld; rw [size_grow, size_putRow]; exact Nat.le_add_right _ _
  · unfold sortWorld
    rw [heap_grow_old _ _ (by rw [size_putRow]; exact hj)]
    simp [putRow, mapBlock, Sort.ahead, Array.getElem?_modify, show g ≠ j from fun e => hn (by rw [e])]
theorem sw_own {enc : α → Value} {W : World} {base : Nat} {e : TypeId} {g n c : Nat} {zs : List α} {dk : Array α} (h : W.ownsRow base e 1 (.slice (some ⟨g, 0, none⟩) n c) n (zs.map enc)) (hn : dk.size = n) (k : Nat) (os : Array Obj) :
    (sortWorld enc W g 0 k dk os).ownsRow base e 1 (.slice (some ⟨g, 0, none⟩) n c) n (dk.toList.map enc) := by
  have h1 := Lib.ownsRow_putRow (q := k) (ys := dk.toList) h (by simpa using hn) (Nat.le_refl n)
  rw [List.take_of_length_le (by simp; omega)] at h1
  exact own_below h1 ⟨rfl, rfl, rfl, by unfold sortWorld; rw [size_grow]; exact Nat.le_add_right _ _, fun j hj => heap_grow_old _ _ hj⟩
end
end Go.Proofs.Ytacjelpkmafkpaa
