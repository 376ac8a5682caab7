/- Intern: Rising: the sort's call. -/
import Derived.Test.YtacjelpkmafkpaaInL
import Derived.Test.YtacjelpkmafkpaaInSort
namespace Go.Proofs.Ytacjelpkmafkpaa
open Go.RowKit It Go.Sort
theorem sl_info : ∃ i, Try.prog.info? 28 = some i ∧ i.desc = .slice 3 ∧ Try.prog.packed 28 = false := ⟨(Try.prog.info? 28).get (by kernel_rfl), by kernel_rfl, by kernel_rfl, by kernel_rfl⟩
theorem in_sort_info : ∃ ie, Try.prog.info? 3 = some ie ∧ ie.size = 1 ∧ ie.hasPointers = false ∧ ie.bytes = 8 := ⟨(Try.prog.info? 3).get (by kernel_rfl), by kernel_rfl, by kernel_rfl, by kernel_rfl, by kernel_rfl⟩
theorem swk2 {ie : TypeInfo} (h1 : ie.hasPointers = false) (h2 : ie.bytes = 8) (m : Nat) : Lib.swapperK (m + 2) ie 2 = 5 := by
  have c : (m + 2 == 0) = false := by simp
  have d : (m + 2 == 1) = false := by simp
  simp [Lib.swapperK, h1, h2, c, d]
section
variable {W : World} {B b mb BT Bo g c base : Nat} {v : Value} {L : List ByteArray}
def SortP (W : World) (base g c : Nat) (L : List ByteArray) (e : Ending) (w' : World) : Prop :=
  e = .returned (.tuple #[]) ∧ ∃ a : List Int, Risen L a ∧ w'.ownsRow base 3 1 (.slice (some ⟨g, 0, none⟩) L.length c) L.length (a.map (Value.int .i64)) ∧ W.grownBy w' (some g)
theorem grown_grow {A : World} {os : Array Obj} {r : Option Nat} : A.grownBy (grow A os) r := ⟨rfl, rfl, rfl, by rw [size_grow]; exact Nat.le_add_right _ _, fun j hj _ => heap_grow_old _ _ hj⟩
theorem in_sort (hT : Tab W B b v mb L) (hBT : Boxed W BT 23 (.pointer (some ⟨b, 0, none⟩))) (hBo : Boxed W Bo 28 (.slice (some ⟨g, 0, none⟩) L.length c))
    (hR : W.ownsRow base 3 1 (.slice (some ⟨g, 0, none⟩) L.length c) L.length (ints (List.range L.length))) (hg : ¬ TabB b v mb g) (hgT : BT ≠ g) (hgo : Bo ≠ g) :
    Calls Try.prog 29 #[.iface 28 (.slice (some ⟨g, 0, none⟩) L.length c), .func (.func 30) #[] #[.pointer (some ⟨BT, 0, none⟩), .pointer (some ⟨Bo, 0, none⟩)]] W (SortP W base g c L) := by
  obtain ⟨i, hi, hd, hpk⟩ := sl_info
  obtain ⟨ie, hie, hs1, hpt, hby⟩ := in_sort_info
  have hlen := hT.len
  match hl : L.length with
  | 0 =>
    have hS := Any.sort_Slice_tiny Try.laysGg6 28 3 i ie hi hd hpk hie 2 (fun _ => by kernel_rfl) (some ⟨g, 0, none⟩) 0 c (by omega) 37 (by simp only [Lib.swapperK]; kernel_rfl) (.func 30) #[] #[.pointer (some ⟨BT, 0, none⟩), .pointer (some ⟨Bo, 0, none⟩)] W
    refine Calls.mono hS ?_
    rintro e w' ⟨he, os, rfl⟩
    rw [hl] at hR
    refine ⟨he, [], ⟨by rw [hl]; simp, List.Pairwise.nil⟩, ?_, grown_grow⟩
    rw [hl]
    exact own_below hR ⟨rfl, rfl, rfl, by rw [size_grow]; exact Nat.le_add_right _ _, fun j hj => heap_grow_old _ _ hj⟩
  | 1 =>
    have hS := Any.sort_Slice_tiny Try.laysGg6 28 3 i ie hi hd hpk hie 2 (fun _ => by kernel_rfl) (some ⟨g, 0, none⟩) 1 c (by omega) 38 (by simp only [Lib.swapperK]; kernel_rfl) (.func 30) #[] #[.pointer (some ⟨BT, 0, none⟩), .pointer (some ⟨Bo, 0, none⟩)] W
    refine Calls.mono hS ?_
    rintro e w' ⟨he, os, rfl⟩
    rw [hl] at hR
    refine ⟨he, [0], ⟨by rw [hl]; simp, by simp⟩, ?_, grown_grow⟩
    rw [hl]
    exact own_below hR ⟨rfl, rfl, rfl, by rw [size_grow]; exact Nat.le_add_right _ _, fun j hj => heap_grow_old _ _ hj⟩
  | m + 2 =>
    have hsz : (List.finRange (m + 2)).toArray.size = m + 2 := by simp
    rw [hl, ints_range] at hR
    rw [hl] at hBo hlen
    obtain ⟨g', c', e', -, hglt, -, -, -, hH⟩ := Lib.holds_of_ownsRow hR (by intro e; cases e)
    obtain ⟨rfl, rfl⟩ : g = g' ∧ c = c' := by
      injection e' with e1 _ e3
      injection e1 with e1
      injection e1 with e1
      exact ⟨e1, e3⟩
    obtain ⟨va, vc, rfl, -⟩ := own_slice hT.row
    obtain ⟨c0, -, -⟩ := hT.cells
    have hblt := (hT.lt b (.inl rfl)).2
    have hless : LessReads Try.prog 30 #[.pointer (some ⟨BT, 0, none⟩), .pointer (some ⟨Bo, 0, none⟩)] (encF m) (ltF L m) g 0 (m + 2) W := by
      intro k os dk hs x y hx hy
      have hx' : dk[x]!.val < L.length := by have := dk[x]!.isLt; omega
      have hy' : dk[y]!.val < L.length := by have := dk[y]!.isLt; omega
      obtain ⟨gv, e1, q1⟩ := row_txt hT.row dk[x]!.val hx'
      obtain ⟨gv', e2, q2⟩ := row_txt hT.row dk[y]!.val hy'
      obtain rfl : gv = gv' := by rw [e1] at e2; injection e2 with e2; injection e2
      subst e1
      have hgv : gv ≠ g := fun e => hg (e ▸ .inr (.inr rfl))
      have hgvl : gv < W.heap.size := (hT.lt gv (.inr (.inr rfl))).2
      have hbg : b ≠ g := fun e => hg (e ▸ .inl rfl)
      have hxd : x < dk.size := by omega
      have hyd : y < dk.size := by omega
      have hdz : dk.size = (List.finRange (m + 2)).toArray.size := hs.trans hsz.symm
      have h := in_less (W := sortWorld (encF m) W g 0 k dk os) (BT := BT) (Bo := Bo) (b := b) (g := g) (gv := gv) (c := c) (vc := vc) (n := m + 2) (i := x) (j := y) (xi := dk[x]!.val) (xj := dk[y]!.val)
        ((sw_other (encF m) W g k dk os (a := ⟨BT, 0, none⟩) hgT hBT.lt).trans hBT.cell) ((sw_other (encF m) W g k dk os (a := ⟨b, 0, none⟩) hbg hblt).trans (c0.trans (by rw [hl])))
        ((sw_other (encF m) W g k dk os (a := ⟨Bo, 0, none⟩) hgo hBo.lt).trans hBo.cell) (sw_row hH hglt k dk hdz os x hxd) (sw_row hH hglt k dk hdz os y hyd)
        ((sw_other (encF m) W g k dk os (a := ⟨gv, dk[x]!.val, none⟩) hgv hgvl).trans q1) ((sw_other (encF m) W g k dk os (a := ⟨gv, dk[y]!.val, none⟩) hgv hgvl).trans q2) hx hy (by omega) (by omega)
      exact h
    have hS := Any.sort_Slice_sorted Try.laysGg6 28 3 i ie hi hd hpk hie 2 (fun _ => by kernel_rfl) hs1 (fun _ => by kernel_rfl) (encF m) (fun _ => rfl) (ltF L m) swo_ltF 30 _
      (enters_of Try.func30 (by kernel_rfl) rfl) g 0 c (List.finRange (m + 2)).toArray (by rw [hsz]; omega) (by rw [hsz]; omega) 41 (by rw [hsz, swk2 hpt hby]; kernel_rfl) true
      (fun args W => run_callFunc_extern Try.func41 (by kernel_rfl) (by kernel_rfl) (by kernel_rfl) (e := Extern.ReflectliteSwapper.swap true) (by kernel_rfl) args W) W (by rw [hsz]; exact hless) hH hglt
    rw [hsz] at hS
    refine Calls.mono hS ?_
    rintro e w' ⟨he, d', n, os, hp, hso, rfl⟩
    refine ⟨he, _, risen_of hl hp hso, ?_, sw_grown _ _ _ _ _ _⟩
    have := sw_own (dk := d') hR (hp.1.trans hsz) n os
    rw [hl, List.map_map]
    exact this
end
end Go.Proofs.Ytacjelpkmafkpaa
