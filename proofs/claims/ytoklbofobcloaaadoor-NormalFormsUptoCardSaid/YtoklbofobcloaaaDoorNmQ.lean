/- Normal: all: a rule's terms, one by one. (gen_nmq.py) -/
import Derived.RangeFuncNested
import Derived.RangeFuncBound
import Derived.RangeFuncCalls
import Derived.RangeFuncLeaves
import Derived.Shelf.Abstract
import Derived.Shelf.RegionOpen
import Derived.WalkKit
import Derived.OwnWalkIn
import Derived.TacticsInMore
import Derived.LoopNIn
import Derived.LoopIn
import Derived.Deep.Cut
import Derived.Test.YtoklbofobcloaaaDoorNmO
import Derived.Test.YtoklbofobcloaaaDoorRange
namespace Go.Proofs.YtoklbofobcloaaaDoor
open Go.RowKit Go.Sort Go.Shelf
attribute [local go_sem] Oper.semAt_some
set_option linter.unusedVariables false
/-- the lower blocks stay, and literals and rules -/
def KpN (M : Nat) (A B : World) : Prop := A.heap.size ≤ B.heap.size ∧ (∀ k, k < M → B.heap[k]? = A.heap[k]?) ∧ ∀ (k : Nat) (cs : Array Value) (T : TypeId) (fz : Nat × Nat), T = 27 ∨ T = 44 → A.heap[k]? = some (Obj.cells cs T fz) → B.heap[k]? = some (Obj.cells cs T fz)
theorem KpN.refl (M : Nat) (A : World) : KpN M A A := ⟨Nat.le_refl _, fun _ _ => rfl, fun _ _ _ _ _ h => h⟩
theorem KpN.trans {M : Nat} {A B C : World} (h : KpN M A B) (g : KpN M B C) : KpN M A C := ⟨Nat.le_trans h.1 g.1, fun k hk => (g.2.1 k hk).trans (h.2.1 k hk), fun k cs T fz hT e => g.2.2 k cs T fz hT (h.2.2 k cs T fz hT e)⟩
theorem KpN.below {M : Nat} {A B : World} (h : Below A.heap.size A B) (hM : M ≤ A.heap.size) : KpN M A B :=
  ⟨h.size, fun k hk => h.block k (Nat.lt_of_lt_of_le hk hM), fun k cs T fz _ e => (h.block k (Array.getElem?_eq_some_iff.1 e).1).trans e⟩
theorem grown_of_below {A B : World} (h : Below A.heap.size A B) : A.grownBy B none := ⟨h.os, h.tape, h.output, h.size, fun k hk _ => h.block k hk⟩
theorem abides_below {β : Type} {n : Nat} {J : β → World → Prop} (hJ : AbidesFrom n J) {s : β} {A B : World} (h : J s A) (hb : Below A.heap.size A B) : J s B :=
  hJ s A B none h (grown_of_below hb) (fun r e => by cases e)
theorem range_pre {k n : Nat} (h : k < n) : List.range (k + 1) <+: List.range n := by
  obtain ⟨m, rfl⟩ : ∃ m, n = k + 1 + m := ⟨n - (k + 1), by omega⟩
  rw [show List.range (k + 1 + m) = List.range (k + 1) ++ (List.range m).map (fun x => k + 1 + x) from List.range_add]; exact List.prefix_append _ _
/-- what an item is: a term -/
def itemT (L : List Tm) (x : Nat) : Array Value := #[tmV (L.getD x (false, ⟨#[]⟩))]
theorem Terms.pre {w w' : World} {a : Option Addr} {l : List Tm} (h : Terms w a l) (hk : ∀ k, k < w.heap.size → w'.heap[k]? = w.heap[k]?) : Terms w' a l :=
  ⟨h.len, fun j x hj => by
    obtain ⟨p, hp, h1, h2⟩ := h.cells j x hj
    exact ⟨p, hp, (World.cell?_of_block (hk _ (cell_lt h1))).trans h1, (World.cell?_of_block (hk _ (cell_lt h2))).trans h2⟩, h.size⟩
theorem Lits.pre {w w' : World} {a : Option Addr} {l : List Lit} (h : Lits w a l) (hk : ∀ k, k < w.heap.size → w'.heap[k]? = w.heap[k]?) : Lits w' a l :=
  ⟨h.len, fun j x hj => by
    obtain ⟨p, ad, cap, hp, h1, h2, h3, h4, h5, h6, h7, ht⟩ := h.cells j x hj
    exact ⟨p, ad, cap, hp, (World.cell?_of_block (hk _ (cell_lt h1))).trans h1, (World.cell?_of_block (hk _ (cell_lt h2))).trans h2, (World.cell?_of_block (hk _ (cell_lt h3))).trans h3, (World.cell?_of_block (hk _ (cell_lt h4))).trans h4, (World.cell?_of_block (hk _ (cell_lt h5))).trans h5, (World.cell?_of_block (hk _ (cell_lt h6))).trans h6, (World.cell?_of_block (hk _ (cell_lt h7))).trans h7, ht.pre hk⟩, h.size⟩
/-- how many terms stand ahead of a literal -/
def cum (r : Rul) (k : Nat) : Nat := r.a.length + ((r.b.take k).flatMap everyL).length
theorem cum_succ {r : Rul} {k : Nat} {x : Lit} (h : r.b[k]? = some x) : cum r (k + 1) = cum r k + (x.a.length + 2) := by
  unfold cum
  rw [take_snoc h, List.flatMap_append, List.length_append]
  simp [everyL]; omega
theorem cum_all (r : Rul) : cum r r.b.length = (everyR r).length := by unfold cum everyR; rw [List.take_length, List.length_append]
theorem every_at1 {r : Rul} {k : Nat} {x : Tm} (h : r.a[k]? = some x) : (everyR r)[k]? = some x := by
  unfold everyR; rw [List.getElem?_append_left (List.getElem?_eq_some_iff.1 h).1]; exact h
theorem every_at2 {r : Rul} {k j : Nat} {x : Lit} {t : Tm} (h : r.b[k]? = some x) (ht : (everyL x)[j]? = some t) : (everyR r)[cum r k + j]? = some t := by
  unfold everyR cum
  rw [List.getElem?_append_right (by omega), show r.a.length + ((r.b.take k).flatMap everyL).length + j - r.a.length = ((r.b.take k).flatMap everyL).length + j from by omega]
  have hlt := (List.getElem?_eq_some_iff.1 h).1
  have hsp : r.b = r.b.take k ++ (x :: r.b.drop (k + 1)) := by
    have := List.take_append_drop k r.b
    rw [List.drop_eq_getElem_cons hlt, (List.getElem?_eq_some_iff.1 h).2] at this
    exact this.symm
  rw [show r.b.flatMap everyL = (r.b.take k).flatMap everyL ++ (everyL x ++ (r.b.drop (k + 1)).flatMap everyL) from by conv => lhs; rw [hsp]; rw [List.flatMap_append, List.flatMap_cons],
    List.getElem?_append_right (by omega), Nat.add_sub_cancel_left, List.getElem?_append_left (List.getElem?_eq_some_iff.1 ht).1]
  exact ht
theorem getD_of {L : List Tm} {k : Nat} {x d : Tm} (h : L[k]? = some x) : L.getD k d = x := by rw [List.getD_eq_getElem?_getD, h]; rfl
set_option maxRecDepth 100000 in
set_option maxHeartbeats 8000000 in
theorem all1 (n : Nat) (r : Rul) (a b : Option Addr) (c d : Nat) (Bt l : Nat) (w0 : World) (J Jx : List Nat → World → Prop) (W : World) (ha : Terms w0 a r.a) (hb : Lits w0 b r.b) (hM : ∀ k, k < w0.heap.size → W.heap[k]? = w0.heap[k]?) (hMW : w0.heap.size ≤ W.heap.size)
    (hBt : W.heap[Bt]? = some (.cells #[.string r.h, .slice a r.a.length c, .slice b r.b.length d] 27)) (hJ : AbidesFrom W.heap.size J)
    (hY : ∀ pre x W1, J pre W1 → pre.length < (everyR r).length → YieldAt Fence.wide (n - 1) Tryd.prog l (itemT (everyR r) x) W1 fun e W' => (e = .returned (.bool true) ∧ J (pre ++ [x]) W' ∧ KpN w0.heap.size W1 W') ∨ (e = .returned (.bool false) ∧ Jx (pre ++ [x]) W'))
    (h0 : J [] W) :
    CallsIn Fence.wide n Tryd.prog 61 #[.func (.yield l) #[] #[], .pointer (some ⟨Bt, 0, none⟩)] W fun e W' => (∃ v, e = .returned v) ∧
      ((∃ xs, xs = List.range (everyR r).length ∧ J xs W') ∨ (∃ pre, pre <+: List.range (everyR r).length ∧ Jx pre W')) := by
  have hlenA := ha.len
  have hlenB := hb.len
  have hcA : Hid (∀ wr, KpN w0.heap.size W wr → Terms wr a r.a ∧ Lits wr b r.b ∧ wr.heap[Bt]? = some (.cells #[.string r.h, .slice a r.a.length c, .slice b r.b.length d] 27)) := Lib.hid fun wr h => ⟨ha.pre fun k hk => (h.2.1 k hk).trans (hM k hk), hb.pre fun k hk => (h.2.1 k hk).trans (hM k hk), h.2.2 _ _ _ _ (.inl rfl) hBt⟩
  have hpre : Hid (∀ wr, KpN w0.heap.size W wr → ∀ k, k < w0.heap.size → wr.heap[k]? = w0.heap[k]?) := Lib.hid fun wr h k hk => (h.2.1 k hk).trans (hM k hk)
  have hb0 := Lib.hid hb
  have hab : Hid (∀ {s : List Nat} {A B : World}, J s A → Below A.heap.size A B → J s B) := Lib.hid fun h hb => abides_below hJ h hb
  have z0 : W.cell? ⟨Bt, 0, none⟩ = some (.string r.h) := by simp [World.cell?, hBt]
  have z1 : W.cell? ⟨Bt, 1, none⟩ = some (.slice a r.a.length c) := by simp [World.cell?, hBt]
  have z2 : W.cell? ⟨Bt, 2, none⟩ = some (.slice b r.b.length d) := by simp [World.cell?, hBt]
  replace hY := Lib.hid hY
  have hla : Hid (r.a.length ≤ (everyR r).length) := Lib.hid (by unfold everyR; rw [List.length_append]; omega)
  replace hMW := Lib.hid hMW
  clear ha hb hM hJ hBt
  refine callsIn_wide.2 ?_
  go_enter Tryd.func61, Tryd.ntmps61
  go_wp2
  refine (wpIn_wide (n := n)).1 ?_
  gi_loopw [13, 4] (fun i _ wr => ∃ k : Nat, k ≤ r.a.length ∧ i = .int .i64 k ∧ Hid (J (List.range k) wr) ∧ Hid (KpN w0.heap.size W wr)) (fun i _ _ => r.a.length - (intOf i).toNat)
  case atStart => exact ⟨0, Nat.zero_le _, rfl, Lib.hid h0, Lib.hid (KpN.refl _ _)⟩
  case round =>
    clear h0 z0 z1 z2
    obtain ⟨k, hk, rfl, hJs, hkp⟩ := hrel
    by_cases hlt : k < r.a.length
    · obtain ⟨x, e1⟩ : ∃ x, r.a[k]? = some x := ⟨_, List.getElem?_eq_getElem hlt⟩
      obtain ⟨p, rfl, hc1, hc2⟩ := (hcA.out wr hkp.out).1.cells k _ e1
      have hki : (k : Int) < (r.a.length : Int) := by omega
      have hk0 : (0 : Int) ≤ (k : Int) := Int.natCast_nonneg _
      obtain ⟨xv, xs⟩ := x
      dsimp only at hc1 hc2
      have hbx := (Below.refl wr.heap.size wr).al (.cells #[.bool xv, .string xs] 33)
      have hJa := Lib.hid (hab.out hJs.out hbx)
      have hkpa := Lib.hid (hkp.out.trans (KpN.below hbx (Nat.le_trans hMW.out hkp.out.1)))
      have hlt2 : k < (everyR r).length := Nat.lt_of_lt_of_le hlt hla.out
      obtain ⟨fn4, tmps4, assign4, body4, hy4, hR4⟩ := hY.out (List.range (k)) (k) ((wr.alloc (.cells #[.bool xv, .string xs] 33))) hJa.out (by rw [List.length_range]; exact hlt2)
      simp only [itemT, getD_of (every_at1 e1), tmV] at hy4
      clear e1
      gi_wp2
      refine ⟨fun h => (by cases h), hR4.mono ?_⟩
      rintro e w4 (⟨rfl, hJ4, hk4⟩ | ⟨rfl, hJx4⟩)
      · have hkp4 := Lib.hid (hkpa.out.trans hk4)
        replace hJ4 := Lib.hid hJ4
        clear hk4 hy4 hR4
        gi_wp2
        go_wp2
        go_roundw
        case rel => exact ⟨k + 1, by omega, by go_num, by rw [List.range_succ]; exact hJ4, hkp4⟩
        case measure => simp [intOf]; omega
      · replace hJx4 := Lib.hid hJx4
        clear hy4 hR4
        gi_wp2
        go_wp2
        refine bodyPost_ret (results_none rfl _ _ _) rfl ?_
        exact ⟨⟨_, rfl⟩, .inr ⟨_, (by rw [← List.range_succ]; exact range_pre hlt2), hJx4.out⟩⟩
    · have hke : k = r.a.length := by omega
      subst hke
      have hbx0 := (hcA.out wr hkp.out).2.2
      have z0 : wr.cell? ⟨Bt, 0, none⟩ = some (.string r.h) := by simp [World.cell?, hbx0]
      have z1 : wr.cell? ⟨Bt, 1, none⟩ = some (.slice a r.a.length c) := by simp [World.cell?, hbx0]
      have z2 : wr.cell? ⟨Bt, 2, none⟩ = some (.slice b r.b.length d) := by simp [World.cell?, hbx0]
      clear hbx0
      gi_wp2
      go_wp2
      refine (wpIn_wide (n := n)).1 ?_
      gi_loopw [25, 6, 33, 8] (fun i _ _ _ wr => ∃ k : Nat, k ≤ r.b.length ∧ i = .int .i64 k ∧ Hid (J (List.range (cum r k)) wr) ∧ Hid (KpN w0.heap.size W wr)) (fun i _ _ _ _ => r.b.length - (intOf i).toNat)
      case atStart => exact ⟨0, Nat.zero_le _, rfl, Lib.hid (by rw [show cum r 0 = r.a.length from by simp [cum]]; exact hJs.out), hkp⟩
      case round =>
        clear z0 z1 z2 hJs hkp
        obtain ⟨k, hk, rfl, hJs, hkp⟩ := hrel
        by_cases hlt : k < r.b.length
        · obtain ⟨x, e1⟩ : ∃ x, r.b[k]? = some x := ⟨_, List.getElem?_eq_getElem hlt⟩
          obtain ⟨p, ad, adc, rfl, hd1, hd2, hd3, hd4, hd5, hd6, hd7, hat⟩ := hb0.out.cells k _ e1
          have hkk := hpre.out wr hkp.out
          replace hd1 := (World.cell?_of_block (hkk _ (cell_lt hd1))).trans hd1
          replace hd2 := (World.cell?_of_block (hkk _ (cell_lt hd2))).trans hd2
          replace hd3 := (World.cell?_of_block (hkk _ (cell_lt hd3))).trans hd3
          replace hd4 := (World.cell?_of_block (hkk _ (cell_lt hd4))).trans hd4
          replace hd5 := (World.cell?_of_block (hkk _ (cell_lt hd5))).trans hd5
          replace hd6 := (World.cell?_of_block (hkk _ (cell_lt hd6))).trans hd6
          replace hd7 := (World.cell?_of_block (hkk _ (cell_lt hd7))).trans hd7
          clear hkk
          have hki : (k : Int) < (r.b.length : Int) := by omega
          have hk0 : (0 : Int) ≤ (k : Int) := Int.natCast_nonneg _
          have hcs := cum_succ e1
          have hcl : cum r k + (x.a.length + 2) ≤ (everyR r).length := by
            rw [← cum_succ e1, ← cum_all r]
            have : r.b.take (k + 1) ++ r.b.drop (k + 1) = r.b := List.take_append_drop _ _
            unfold cum
            rw [List.take_length]
            conv => rhs; rw [← this]
            rw [List.flatMap_append, List.length_append]
            omega
          have hev := Lib.hid fun j t (h : (everyL x)[j]? = some t) => every_at2 e1 h
          obtain ⟨xk, xp, xa, ⟨xlv, xlt⟩, ⟨xrv, xrt⟩⟩ := x
          dsimp only at hd1 hd2 hd3 hd4 hd5 hd6 hd7 hat hcs hcl
          have hbx := (Below.refl wr.heap.size wr).al (.cells #[.int .i64 xk, .string xp, .slice ad xa.length adc, .bool xlv, .string xlt, .bool xrv, .string xrt] 44)
          have hJa := Lib.hid (hab.out hJs.out hbx)
          have hkpa := Lib.hid (hkp.out.trans (KpN.below hbx (Nat.le_trans hMW.out hkp.out.1)))
          have hlenX := hat.len
          obtain ⟨B8, hB8⟩ : ∃ B8, wr.heap.size = B8 := ⟨_, rfl⟩
          have hL0 : (wr.alloc (.cells #[.int .i64 xk, .string xp, .slice ad xa.length adc, .bool xlv, .string xlt, .bool xrv, .string xrt] 44)).heap[B8]? = some (.cells #[.int .i64 xk, .string xp, .slice ad xa.length adc, .bool xlv, .string xlt, .bool xrv, .string xrt] 44) := by rw [← hB8]; exact heap_alloc_new _ _
          replace e1 := Lib.hid e1
          replace hat := Lib.hid hat
          gi_wp2
          clear hd1 hd2 hd3 hd4 hd5 hd6 hd7 hJs hkp hbx
          generalize wr.alloc (.cells #[.int .i64 xk, .string xp, .slice ad xa.length adc, .bool xlv, .string xlt, .bool xrv, .string xrt] 44) = wL at hJa hkpa hL0 ⊢
          replace hL0 := Lib.hid hL0
          clear hB8
          gi_loopw [33, 8] (fun i _ ws => ∃ j : Nat, j ≤ xa.length ∧ i = .int .i64 j ∧ Hid (J (List.range (cum r k + j)) ws) ∧ Hid (KpN w0.heap.size wL ws)) (fun i _ _ => xa.length - (intOf i).toNat)
          case atStart => exact ⟨0, Nat.zero_le _, rfl, hJa, Lib.hid (KpN.refl _ _)⟩
          case round =>
            clear hJa
            obtain ⟨j, hj, rfl, hJs, hkp⟩ := hrel
            have hkW := Lib.hid (hkpa.out.trans hkp.out)
            by_cases hjt : j < xa.length
            · obtain ⟨t, e2⟩ : ∃ t, xa[j]? = some t := ⟨_, List.getElem?_eq_getElem hjt⟩
              obtain ⟨q, rfl, hc1, hc2⟩ := (hat.out.pre (hpre.out wr hkW.out)).cells j _ e2
              have hki2 : (j : Int) < (xa.length : Int) := by omega
              have hk02 : (0 : Int) ≤ (j : Int) := Int.natCast_nonneg _
              have hitem := every_at2 e1.out (j := j) (t := t) (by show (xa ++ [_, _])[j]? = _; rw [List.getElem?_append_left hjt]; exact e2)
              obtain ⟨xv, xs⟩ := t
              dsimp only at hc1 hc2
              have hbx := (Below.refl wr.heap.size wr).al (.cells #[.bool xv, .string xs] 33)
              have hJb := Lib.hid (hab.out hJs.out hbx)
              have hkpb := Lib.hid (hkp.out.trans (KpN.below hbx (Nat.le_trans hMW.out hkW.out.1)))
              have hlt2 : cum r k + j < (everyR r).length := by omega
              obtain ⟨fn5, tmps5, assign5, body5, hy5, hR5⟩ := hY.out (List.range (cum r k + j)) (cum r k + j) ((wr.alloc (.cells #[.bool xv, .string xs] 33))) hJb.out (by rw [List.length_range]; exact hlt2)
              simp only [itemT, getD_of hitem, tmV] at hy5
              clear hitem
              gi_wp2
              refine ⟨fun h => (by cases h), hR5.mono ?_⟩
              rintro e w4 (⟨rfl, hJ4, hk4⟩ | ⟨rfl, hJx4⟩)
              · have hkp4 := Lib.hid (hkpb.out.trans hk4)
                replace hJ4 := Lib.hid hJ4
                clear hk4 hy5 hR5
                gi_wp2
                go_wp2
                go_roundw
                case rel => exact ⟨j + 1, by omega, by go_num, by rw [← Nat.add_assoc, List.range_succ]; exact hJ4, hkp4⟩
                case measure => simp [intOf]; omega
              · replace hJx4 := Lib.hid hJx4
                clear hy5 hR5
                gi_wp2
                go_wp2
                refine bodyPost_ret (results_none rfl _ _ _) rfl ?_
                exact ⟨⟨_, rfl⟩, .inr ⟨_, (by rw [← List.range_succ]; exact range_pre hlt2), hJx4.out⟩⟩
            · have hjz : j = xa.length := by omega
              subst hjz
              have hLL := hkp.out.2.2 _ _ _ _ (.inr rfl) hL0.out
              have y3 : wr.cell? ⟨B8, 3, none⟩ = some (.bool xlv) := by simp [World.cell?, hLL]
              have y4 : wr.cell? ⟨B8, 4, none⟩ = some (.string xlt) := by simp [World.cell?, hLL]
              have y5 : wr.cell? ⟨B8, 5, none⟩ = some (.bool xrv) := by simp [World.cell?, hLL]
              have y6 : wr.cell? ⟨B8, 6, none⟩ = some (.string xrt) := by simp [World.cell?, hLL]
              clear hLL
              have hit1 := every_at2 e1.out (j := xa.length) (t := (xlv, xlt)) (by show (xa ++ [_, _])[xa.length]? = _; rw [List.getElem?_append_right (Nat.le_refl _), Nat.sub_self]; rfl)
              have hit2 := every_at2 e1.out (j := xa.length + 1) (t := (xrv, xrt)) (by show (xa ++ [_, _])[xa.length + 1]? = _; rw [List.getElem?_append_right (by omega), show xa.length + 1 - xa.length = 1 from by omega]; rfl)
              have hlt1 : cum r k + xa.length < (everyR r).length := by omega
              have hlt2 : cum r k + (xa.length + 1) < (everyR r).length := by omega
              obtain ⟨fn6, tmps6, assign6, body6, hy6, hR6⟩ := hY.out (List.range (cum r k + xa.length)) (cum r k + xa.length) (wr) hJs.out (by rw [List.length_range]; exact hlt1)
              simp only [itemT, getD_of hit1, tmV] at hy6
              clear hit1
              gi_wp2
              refine ⟨fun h => (by cases h), hR6.mono ?_⟩
              rintro e w4 (⟨rfl, hJ4, hk4⟩ | ⟨rfl, hJx4⟩)
              · have hkp4 := Lib.hid (hkp.out.trans hk4)
                have hJ5 : Hid (J (List.range (cum r k + (xa.length + 1))) w4) := Lib.hid (by rw [← Nat.add_assoc, List.range_succ]; exact hJ4)
                have hLL := hkp4.out.2.2 _ _ _ _ (.inr rfl) hL0.out
                have v5 : w4.cell? ⟨B8, 5, none⟩ = some (.bool xrv) := by simp [World.cell?, hLL]
                have v6 : w4.cell? ⟨B8, 6, none⟩ = some (.string xrt) := by simp [World.cell?, hLL]
                clear hk4 hy6 hR6 hLL hJ4 y3 y4 y5 y6
                obtain ⟨fn7, tmps7, assign7, body7, hy7, hR7⟩ := hY.out (List.range (cum r k + (xa.length + 1))) (cum r k + (xa.length + 1)) (w4) hJ5.out (by rw [List.length_range]; exact hlt2)
                simp only [itemT, getD_of hit2, tmV] at hy7
                clear hit2
                gi_wp2
                refine ⟨fun h => (by cases h), hR7.mono ?_⟩
                rintro e w5 (⟨rfl, hJ6, hk6⟩ | ⟨rfl, hJx6⟩)
                · have hkp6 := Lib.hid (hkpa.out.trans (hkp4.out.trans hk6))
                  replace hJ6 := Lib.hid hJ6
                  clear hk6 hy7 hR7
                  gi_wp2
                  go_wp2
                  go_roundw
                  case rel => exact ⟨k + 1, by omega, by go_num, by rw [hcs, show cum r k + (xa.length + 2) = cum r k + (xa.length + 1) + 1 from rfl, List.range_succ]; exact hJ6, hkp6⟩
                  case measure => simp [intOf]; omega
                · replace hJx6 := Lib.hid hJx6
                  clear hy7 hR7
                  gi_wp2
                  go_wp2
                  refine bodyPost_ret (results_none rfl _ _ _) rfl ?_
                  exact ⟨⟨_, rfl⟩, .inr ⟨_, (by rw [← List.range_succ]; exact range_pre hlt2), hJx6.out⟩⟩
              · replace hJx4 := Lib.hid hJx4
                clear hy6 hR6
                gi_wp2
                go_wp2
                refine ⟨fun _ h => (by cases h), ?_⟩
                gi_wp2
                go_wp2
                refine bodyPost_ret (results_none rfl _ _ _) rfl ?_
                exact ⟨⟨_, rfl⟩, .inr ⟨_, (by rw [← List.range_succ]; exact range_pre hlt1), hJx4.out⟩⟩
        · have hke : k = r.b.length := by omega
          subst hke
          gi_wp2
          go_end0
          exact ⟨⟨_, rfl⟩, .inl ⟨_, rfl, by rw [← cum_all]; exact hJs.out⟩⟩
end Go.Proofs.YtoklbofobcloaaaDoor
