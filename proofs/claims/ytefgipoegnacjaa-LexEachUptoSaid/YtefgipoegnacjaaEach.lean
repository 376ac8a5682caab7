/- lex.Each: the iterator's contract. -/
import Derived.RangeFuncNested
import Derived.RangeFuncBound
import Derived.RangeFuncCalls
import Derived.RangeFuncLeaves
import Derived.Shelf.Abstract
import Derived.Shelf.RegionOpen
import Derived.WalkKit
import Derived.OwnWalkIn
import Derived.TacticsInMore
import Derived.LoopNIn
import Derived.LoopIn
import Derived.Deep.Cut
import Derived.Test.YtefgipoegnacjaaProg
import Derived.Test.YtefgipoegnacjaaBase
import Derived.Test.YtefgipoegnacjaaLexX
import Derived.Test.YtefgipoegnacjaaSame
namespace Go.Proofs.Ytefgipoegnacjaa
open Go.RowKit Go.Shelf Lx
attribute [local go_sem] Oper.semAt_some

/-- whatever lies in cells at or beyond M stays -/
def KpM (M : Nat) (A B : World) : Prop := A.heap.size ≤ B.heap.size ∧ ∀ k c t fr, M ≤ k → A.heap[k]? = some (.cells c t fr) → B.heap[k]? = some (.cells c t fr)
theorem KpM.refl (M : Nat) (A : World) : KpM M A A := ⟨Nat.le_refl _, fun _ _ _ _ _ h => h⟩
theorem KpM.trans {M : Nat} {A B C : World} (h : KpM M A B) (g : KpM M B C) : KpM M A C := ⟨Nat.le_trans h.1 g.1, fun k c t fr hk e => g.2 k c t fr hk (h.2 k c t fr hk e)⟩
theorem KpM.put {M : Nat} (W : World) (l : Nat) (o o' : Obj) (h : W.heap[l]? = some o) (hc : o.isCells = false) : KpM M W (W.putObj l o') := by
  refine ⟨(grownBy_putObj' W l o').size, fun k _ _ _ _ e => ?_⟩
  rw [(grownBy_putObj' W l o').block k (Array.getElem?_eq_some_iff.1 e).1 (by intro he; injection he with he; subst he; rw [e] at h; injection h with h; subst h; simp [Obj.isCells] at hc)]
  exact e
theorem KpM.below {M : Nat} {A B : World} (h : Below A.heap.size A B) : KpM M A B := ⟨h.size, fun _ _ _ _ _ e => (h.block _ (Array.getElem?_eq_some_iff.1 e).1).trans e⟩
theorem KpM.set {M : Nat} (A : World) {b i : Nat} (u : Value) (hb : b < M) : KpM M A (A.setCell ⟨b, i, none⟩ u) :=
  ⟨by rw [World.size_setCell]; exact Nat.le_refl _, fun k c t fr hk e => by rw [heap_setCell_other _ _ _ _ (by show k ≠ b; omega)]; exact e⟩
theorem KpM.own {M : Nat} {A B : World} {base : Nat} {e : TypeId} {size : Nat} {v : Value} {n : Nat} {xs : List Value} (h : A.ownsRow base e size v n xs) (hM : M ≤ base) (hk : KpM M A B) : B.ownsRow base e size v n xs := by
  refine ⟨h.1, ?_⟩
  rcases h.2 with hn | ⟨g, cap, cur, rfl, hg1, hh, r⟩
  · exact .inl hn
  · exact .inr ⟨g, cap, cur, rfl, hg1, hk.2 g _ _ _ (by omega) hh, r⟩
theorem grown_of_below {A B : World} (h : Below A.heap.size A B) : A.grownBy B none := ⟨h.os, h.tape, h.output, h.size, fun k hk _ => h.block k hk⟩
theorem abides_below {β : Type} {n : Nat} {J : β → World → Prop} (hJ : AbidesFrom n J) {s : β} {A B : World} (h : J s A) (hb : Below A.heap.size A B) : J s B :=
  hJ s A B none h (grown_of_below hb) (fun r e => by cases e)

set_option maxRecDepth 100000 in
set_option maxHeartbeats 8000000 in
theorem each1 (n : Nat) (s : ByteArray) (hs : s.size ≤ 1048576) (Bt M l : Nat) (J Jx : List Tok → World → Prop) (W : World) (hJ : AbidesFrom W.heap.size J) (hM : M ≤ W.heap.size)
    (hY : ∀ pre x W1, J pre W1 → pre.length < (tokens (bl s)).toks.length → YieldAt Fence.wide (n - 1) Try.prog l #[.agg (tokC x)] W1 fun e W' => (e = .returned (.bool true) ∧ J (pre ++ [x]) W' ∧ KpM M W1 W') ∨ (e = .returned (.bool false) ∧ Jx (pre ++ [x]) W'))
    (hBt : W.cell? ⟨Bt, 0, none⟩ = some (.string s)) (h0 : J [] W) :
    CallsIn Fence.wide n Try.prog 40 #[.func (.yield l) #[] #[], .pointer (some ⟨Bt, 0, none⟩)] W fun e W' => (∃ v, e = .returned v) ∧
      ((∃ xs, xs = (tokens (bl s)).toks ∧ J xs W') ∨ (∃ pre, pre <+: (tokens (bl s)).toks ∧ Jx pre W')) := by
  obtain ⟨R, hR⟩ : ∃ R, R = tokens (bl s) := ⟨_, rfl⟩
  have hRl : R.toks.length ≤ 1048576 := by
    rw [hR, tokens_tk]; have := (tk_far (bl s) 0 false).2.2.2; rw [bl_length] at this; omega
  rw [← hR] at hY ⊢
  replace hR := Lib.hid hR
  replace hY := Lib.hid hY
  obtain ⟨C, hC⟩ : ∃ C : Int, C = if R.ok then 0 else 11 := ⟨_, rfl⟩
  replace hC := Lib.hid hC
  refine callsIn_wide.2 ?_
  go_enter Try.func40, Try.ntmps40
  go_wp2_with fail
  refine (lx_Tokens s _ (by omega)).mono ?_
  rintro e w1 ⟨v1, he, own1, hb1⟩
  rw [← hR.out] at he own1
  rw [← hC.out] at he
  subst he
  have own0 := Lib.hid own1
  obtain ⟨va, ca, rfl, hva⟩ := own_slice own1
  clear hva
  go_wp2_with (refine wpList_store_rowA rfl 25 (.tmp 4) (.tmp 13) rfl w1.heap.size (tokC R.open_) rfl rfl 25 (tokCs 0 [] 0 0) (heap_alloc_new _ _) sizeTok rfl (tokCs_one _ _ _ _) ?_)
  intro w2 hg2 hgr hsz
  have hb12 : Below w1.heap.size w1 w2 := ((Below.refl _ _).al _).grown hgr (by simp) (by intro k hk; injection hk with hk; omega)
  clear hgr hsz hg2
  have hb2 : Below W.heap.size W w2 := hb1.trans (hb12.mono hb1.size)
  have hrow : Hid (w2.ownsRow W.heap.size 25 4 (.slice va R.toks.length ca) R.toks.length (tcells R.toks)) := own_below own0.out hb12
  replace hb2 := Lib.hid hb2
  clear hb12 hb1 own0
  go_wp2
  refine (wpIn_wide (n := n)).1 ?_
  gi_loopw [18] (fun i wr => ∃ k : Nat, k ≤ R.toks.length ∧ i = .int .i64 k ∧ Hid (J (R.toks.take k) wr) ∧ Hid (W.heap.size ≤ wr.heap.size) ∧ Hid (wr.ownsRow W.heap.size 25 4 (.slice va R.toks.length ca) R.toks.length (tcells R.toks))) (fun i _ => R.toks.length - (intOf i).toNat)
  case atStart => exact ⟨0, Nat.zero_le _, rfl, by rw [List.take_zero]; exact abides_below hJ h0 hb2.out, hb2.out.size, hrow⟩
  case round =>
    clear hrow
    obtain ⟨k, hk, rfl, hJs, hsz, hrow⟩ := hrel
    by_cases hlt : k < R.toks.length
    · obtain ⟨T, hT⟩ : ∃ T, R.toks[k] = T := ⟨_, rfl⟩
      replace hT := Lib.hid hT
      obtain ⟨g, rfl, k0, k1, k2, k3⟩ := (TokRow.own hrow.out).2.at_ k hlt
      rw [hT.out] at k0 k1 k2 k3
      refine wpIn_wide.2 ?_
      go_upto_region 4 with (refine wpList_store_rowA rfl 25 (.tmp 8) (.tmp 21) rfl wr.heap.size (tokC T) rfl rfl 25 (tokCs 0 [] 0 0) (heap_alloc_new _ _) sizeTok rfl (tokCs_one _ _ _ _) ?_; intro w3 hg3 hgr hsz3)
      have hb3 : Below wr.heap.size wr w3 := ((Below.refl _ _).al _).grown hgr (by simp) (by intro k hk; injection hk with hk; omega)
      obtain ⟨fn, tmps, assign, body, hy, hR3⟩ := hY.out (R.toks.take k) T w3 (abides_below hJ hJs.out hb3) (by simp; omega)
      simp only [tokC, tokCs] at hy
      have c0 : w3.cell? ⟨wr.heap.size, 0, none⟩ = some (.int .i64 T.kind) := cell_of_row _ _ _ _ _ _ hg3.out
      have c1 : w3.cell? ⟨wr.heap.size, 1, none⟩ = some (.string (mk T.text)) := cell_of_row _ _ _ _ _ _ hg3.out
      have c2 : w3.cell? ⟨wr.heap.size, 2, none⟩ = some (.int .i64 T.at_) := cell_of_row _ _ _ _ _ _ hg3.out
      have c3 : w3.cell? ⟨wr.heap.size, 3, none⟩ = some (.int .i64 T.end_) := cell_of_row _ _ _ _ _ _ hg3.out
      have hrow3 := Lib.hid (own_below hrow.out hb3)
      have hsz3 := Lib.hid (Nat.le_trans hsz.out hb3.size)
      clear hgr k0 k1 k2 k3 hg3 hJs hb3 hrow hsz
      refine (wpIn_wide (n := n)).1 ?_
      gi_wp2
      refine ⟨fun h => (by cases h), hR3.mono ?_⟩
      rintro e w4 (⟨rfl, hJ4, hk4⟩ | ⟨rfl, hJx4⟩)
      · have hrow4 := Lib.hid (KpM.own hrow3.out hM hk4)
        have hsz4 := Lib.hid (Nat.le_trans hsz3.out hk4.1)
        replace hJ4 := Lib.hid hJ4
        clear hk4 hrow3 hsz3 c0 c1 c2 c3 hy hR3
        gi_wp2
        go_wp2
        go_roundw
        case rel => exact ⟨k + 1, by omega, by go_num, by rw [List.take_succ_eq_append_getElem hlt, hT.out]; exact hJ4.out, hsz4, hrow4⟩
        case measure => simp [intOf]; omega
      · replace hJx4 := Lib.hid hJx4
        clear c0 c1 c2 c3 hy hR3
        gi_wp2
        go_wp2
        refine bodyPost_ret (results_none rfl _ _ _) rfl ?_
        exact ⟨⟨_, rfl⟩, .inr ⟨_, List.take_prefix (k + 1) _, by rw [List.take_succ_eq_append_getElem hlt, hT.out]; exact hJx4.out⟩⟩
    · obtain rfl : k = R.toks.length := by omega
      gi_wp2
      go_end0
      exact ⟨⟨_, rfl⟩, .inl ⟨_, rfl, by have := hJs.out; rwa [List.take_length] at this⟩⟩

/-- lex.Each: the text is boxed -/
theorem lx_Each (s : ByteArray) (w : World) : Calls Try.prog 29 #[.string s] w fun e w' => e = .returned (.func (.func 40) #[] #[.pointer (some ⟨w.heap.size, 0, none⟩)]) ∧ w' = w.alloc (.cells #[.string s] 9) := by
  go_enter Try.func29, Try.ntmps29
  go_wp2
  go_ret
  exact ⟨rfl, rfl⟩

theorem each_stops (n : Nat) (s : ByteArray) (hs : s.size ≤ 1048576) (Bt M : Nat) (w : World) (hM : M ≤ w.heap.size) (hB : Bt < w.heap.size) (hc : w.cell? ⟨Bt, 0, none⟩ = some (.string s)) :
    SeqStopsK Fence.wide n Try.prog 40 #[.pointer (some ⟨Bt, 0, none⟩)] (fun t : Tok => #[.agg (tokC t)]) (KpM M) (fun xs => xs = (tokens (bl s)).toks) (fun pre => pre <+: (tokens (bl s)).toks) (tokens (bl s)).toks.length w :=
  fun l J Jx W hW hJ _ hY h0 => each1 n s hs Bt M l J Jx W hJ (Nat.le_trans hM hW.size) hY ((hW.cell (p := ⟨Bt, 0, none⟩) hB).trans hc) h0

end Go.Proofs.Ytefgipoegnacjaa
