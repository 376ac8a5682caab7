/- Several rows of the call's own, none in another's block; an append that tells whether it moved. -/
import Derived.Test.YtoklbofobcloaaaDoorBase
import Derived.Maps.AppendAt
import Derived.Laws.Rows
import Derived.Laws.Append
namespace Go.Proofs.YtoklbofobcloaaaDoor
open Go.RowKit

/-- what was there is there, but for some rows and what is new -/
structure KeptR (B : Nat → Prop) (w w' : World) : Prop where
  os : w'.os = w.os
  tape : w'.tape = w.tape
  output : w'.output = w.output
  size : w.heap.size ≤ w'.heap.size
  block : ∀ b, b < w.heap.size → ¬ B b → w'.heap[b]? = w.heap[b]?
theorem KeptR.refl (B : Nat → Prop) (w : World) : KeptR B w w := ⟨rfl, rfl, rfl, Nat.le_refl _, fun _ _ _ => rfl⟩
theorem KeptR.grown {B : Nat → Prop} {w w1 w2 : World} {r : Option Nat} (h : KeptR B w w1) (hg : w1.grownBy w2 r) (hr : ∀ b, r = some b → B b ∨ w.heap.size ≤ b) : KeptR B w w2 :=
  ⟨hg.os.trans h.os, hg.tape.trans h.tape, hg.output.trans h.output, Nat.le_trans h.size hg.size, fun b hb hn => by
    rw [hg.block b (Nat.lt_of_lt_of_le hb h.size) (fun he => (hr b he.symm).elim hn (fun h2 => by omega)), h.block b hb hn]⟩
theorem KeptR.drewN {B : Nat → Prop} {w w1 : World} (h : KeptR B w w1) (n : Nat) : KeptR B w (w1.drewN n) := by
  have hb : Below w1.heap.size w1 (w1.drewN n) := below_drewN (Below.refl _ _) n
  exact ⟨hb.os.trans h.os, hb.tape.trans h.tape, hb.output.trans h.output, Nat.le_trans h.size hb.size, fun b hb2 hn => (hb.block b (Nat.lt_of_lt_of_le hb2 h.size)).trans (h.block b hb2 hn)⟩
theorem KeptR.set {B : Nat → Prop} {w w1 : World} {g i : Nat} {u : Value} (h : KeptR B w w1) (hg : B g ∨ w.heap.size ≤ g) : KeptR B w (w1.setCell ⟨g, i, none⟩ u) := by
  refine ⟨h.os, h.tape, h.output, by simpa [World.setCell] using h.size, fun b hb hn => ?_⟩
  rw [heap_setCell_other _ _ _ _ (by show b ≠ g; intro he; subst he; exact hg.elim hn (fun h2 => by omega))]; exact h.block b hb hn
theorem KeptR.al {B : Nat → Prop} {w w1 : World} (h : KeptR B w w1) (ob : Obj) : KeptR B w (w1.alloc ob) :=
  ⟨h.os, h.tape, h.output, by rw [World.size_alloc]; have := h.size; omega, fun b hb hn => by rw [heap_alloc_old w1 ob (Nat.lt_of_lt_of_le hb h.size)]; exact h.block b hb hn⟩
theorem KeptR.cell {B : Nat → Prop} {w w1 : World} (h : KeptR B w w1) {p : Addr} {v : Value} (hc : w.cell? p = some v) (hn : ¬ B p.block) : w1.cell? p = some v :=
  (World.cell?_of_block (h.block p.block (cell_lt hc) hn)).trans hc
theorem KeptR.below {B : Nat → Prop} {w0 w w1 : World} (h : KeptR B w w1) (hb : Below w0.heap.size w0 w) (hB : ∀ b, B b → w0.heap.size ≤ b) : Below w0.heap.size w0 w1 :=
  ⟨h.os.trans hb.os, h.tape.trans hb.tape, h.output.trans hb.output, Nat.le_trans hb.size h.size, fun b hl => by
    rw [h.block b (Nat.lt_of_lt_of_le hl hb.size) (fun h2 => by have := hB b h2; omega)]; exact hb.block b hl⟩

theorem own_setOther {w : World} {base g i : Nat} {e : TypeId} {size : Nat} {v u : Value} {n : Nat} {xs : List Value} (h : w.ownsRow base e size v n xs) (hk : v.ownBlock ≠ some g) : (w.setCell ⟨g, i, none⟩ u).ownsRow base e size v n xs := by
  refine ⟨h.1, ?_⟩
  rcases h.2 with hn | ⟨k, cap, cur, rfl, hg1, hh, r⟩
  · exact .inl hn
  · exact .inr ⟨k, cap, cur, rfl, hg1, by rw [heap_setCell_other _ _ _ _ (by show k ≠ g; intro he; subst he; exact hk rfl)]; exact hh, r⟩
theorem own_grownOther {w w' : World} {base : Nat} {e : TypeId} {size : Nat} {v : Value} {n : Nat} {xs : List Value} {r : Option Nat} (h : w.ownsRow base e size v n xs) (hg : w.grownBy w' r) (hk : ∀ b, v.ownBlock = some b → r ≠ some b) : w'.ownsRow base e size v n xs := by
  refine ⟨h.1, ?_⟩
  rcases h.2 with hn | ⟨k, cap, cur, rfl, hg1, hh, r⟩
  · exact .inl hn
  · exact .inr ⟨k, cap, cur, rfl, hg1, by rw [hg.block k (Array.getElem?_eq_some_iff.1 hh).1 (fun he => hk k rfl he.symm)]; exact hh, r⟩
theorem own_putI {w : World} {base : Nat} {e : TypeId} {size g n c : Nat} {xs : List Value} {j : Nat} {u : Value} (h : w.ownsRow base e size (.slice (some ⟨g, 0, none⟩) n c) n xs) :
    (w.setCell ⟨g, j, none⟩ u).ownsRow base e size (.slice (some ⟨g, 0, none⟩) n c) n (xs.set j u) := by
  refine ⟨by rw [List.length_set]; exact h.1, ?_⟩
  rcases h.2 with ⟨hv, _⟩ | ⟨g', cap, cur, hv, hb, hh, hnc, hcm, hcs, ht⟩
  · cases hv
  · injection hv with h1 h2 h3
    injection h1 with h1
    injection h1 with h1 _ _
    subst h1 h3
    refine .inr ⟨g, c, cur.setIfInBounds j u, rfl, hb, heap_setCell_same _ _ _ _ _ _ hh, hnc, hcm, by simpa using hcs, ?_⟩
    rw [Array.toList_setIfInBounds, List.take_set, ht]
theorem own_frozenI {w : World} {base : Nat} {e : TypeId} {size g n c : Nat} {xs : List Value} (h : w.ownsRow base e size (.slice (some ⟨g, 0, none⟩) n c) n xs) (j : Nat) : w.frozen? ⟨g, j, none⟩ = false := by
  rcases h.2 with ⟨hv, _⟩ | ⟨g', cap, cur, hv, hb, hh, hnc, hcm, hcs, ht⟩
  · cases hv
  · injection hv with h1 h2 h3
    injection h1 with h1
    injection h1 with h1 _ _
    subst h1
    exact frozen_of_row _ _ _ _ _ hh
theorem own_lt {w : World} {base : Nat} {e : TypeId} {size : Nat} {v : Value} {n : Nat} {xs : List Value} (h : w.ownsRow base e size v n xs) : ∀ b, v.ownBlock = some b → base ≤ b ∧ b < w.heap.size := by
  intro b hb
  rcases h.2 with ⟨rfl, _⟩ | ⟨k, cap, cur, rfl, hg1, hh, r⟩
  · cases hb
  · have : k = b := by injection hb
    subst this
    exact ⟨hg1, (Array.getElem?_eq_some_iff.1 hh).1⟩

/-- append onto a row of the call's own: in its place, or moved, the old block left as it was -/
theorem run_append_two {P : Program} (w : World) (base : Nat) (t ty e : TypeId) (i : TypeInfo) (z : Value) (size bytes : Nat) (ht : P.underlying t = some (.slice e)) (hi : P.info? e = some i) (hz : i.zero = some z)
    (hsize : i.size = size) (hby : i.bytes = bytes) (hzs : z.cells.size = size) (hsz : 0 < size)
    (v : Value) (n : Nat) (xs : List Value) (hown : w.ownsRow base e size v n xs)
    (a : Addr) (m c : Nat) (news : List Value) (hl : news.length = m * size) (hnews : ∀ j u, news[j]? = some u → w.cell? (a.add j) = some u) (h1 : ∀ u ∈ news, u.oneCell' = true)
    (hm : 0 < m) (h63 : n + m ≤ maxLen) (hbytes : (n + m) * bytes ≤ 140737488355328) (hbase : base ≤ w.heap.size) :
    ∃ g cap w', (Builtin.append_ #[t, t] ty #[v, .slice (some a) m c]).run P w = .ok (.slice (some ⟨g, 0, none⟩) (n + m) cap) w' ∧ w'.ownsRow base e size (.slice (some ⟨g, 0, none⟩) (n + m) cap) (n + m) (xs ++ news) ∧
      ((v.ownBlock = some g ∧ w.grownBy w' (some g)) ∨ (g = w.heap.size ∧ w.grownBy w' none)) := by
  obtain ⟨v', w', hr, h2, h3, _, h5⟩ := run_append_own_at (P := P) w base t ty e i z size bytes ht hi hz hsize hby hzs hsz v n xs hown a m c news hl hnews h1 h63 hbytes hbase
  obtain ⟨g, cap, rfl, hg0, hg1, _⟩ := own_shape h2 (by omega)
  refine ⟨g, cap, w', hr, h2, ?_⟩
  have moved : ∀ (row : Array Value), w' = w.drew.alloc (.cells row e) → w.grownBy w' none := by
    rintro row rfl
    exact ⟨rfl, rfl, rfl, by simp, fun k hk _ => heap_alloc_old w.drew _ hk⟩
  rcases h5 with h5 | h5
  · left
    have hv : v.ownBlock = some g := h5.symm
    exact ⟨hv, by rw [← hv]; exact h3⟩
  · right
    have hg : g = w.heap.size := by injection h5
    refine ⟨hg, ?_⟩
    subst hsize hby
    rcases hown.2 with ⟨rfl, rfl⟩ | ⟨k, cp, cur, rfl, hk0, hk, hnc, hcm, hcs, htake⟩
    · have := run_append_nil (P := P) w t ty e i z ht hi hz a m c news hl hnews hm (by unfold maxLen at h63; omega) (by rw [Nat.zero_add] at hbytes; omega)
      rw [this] at hr
      exact moved _ (Result.ok.inj hr).2.symm
    · have hkl := (Array.getElem?_eq_some_iff.1 hk).1
      by_cases hroom : n + m ≤ cp
      · have hfit : n * i.size + news.length ≤ cur.size := by rw [hl, hcs, ← Nat.add_mul]; exact Nat.mul_le_mul_right _ hroom
        have := run_append_room (P := P) w t ty e i ht hi k n cp cur hk a m c news hl hnews h1 hroom hfit
        rw [this] at hr
        injection hr with hv _
        injection hv with hv _ _
        injection hv with hv
        injection hv with hv _ _
        omega
      · have holds : ∀ j u, xs[j]? = some u → w.cell? ((⟨k, 0, none⟩ : Addr).add j) = some u := hown.cells (g := k) rfl
        have := run_append_grow (P := P) w t ty e i z ht hi hz ⟨k, 0, none⟩ n cp xs hown.1 holds a m c news hl hnews (by omega) (by unfold maxLen at h63; omega) (growslice_fits (by omega) hbytes)
        rw [this] at hr
        exact moved _ (Result.ok.inj hr).2.symm

theorem wpList_append_two {P : Program} (w : World) {ops : Array Oper} {rest : List Oper} {o : Oper} {a : Act} {Q : Exit → Act → World → Prop} (hgd : o.guard = none) (s x : Operand) (t : TypeId)
    (ho : o.op = .call { callee := .builtin .append, args := #[s, x], argTypes := #[t, t] })
    (base : Nat) (e : TypeId) (i : TypeInfo) (z : Value) (size bytes : Nat) (ht : P.underlying t = some (.slice e)) (hi : P.info? e = some i) (hz : i.zero = some z)
    (hsize : i.size = size) (hby : i.bytes = bytes) (hzs : z.cells.size = size) (hsz : 0 < size)
    (v : Value) (n : Nat) (xs : List Value) (hs : a.eval s = v) (hown : w.ownsRow base e size v n xs)
    (ad : Addr) (m c : Nat) (news : List Value) (hx : a.eval x = .slice (some ad) m c) (hl : news.length = m * size) (hnews : ∀ j u, news[j]? = some u → w.cell? (ad.add j) = some u) (h1 : ∀ u ∈ news, u.oneCell' = true)
    (hm : 0 < m) (h63 : n + m ≤ maxLen) (hbytes : (n + m) * bytes ≤ 140737488355328) (hbase : base ≤ w.heap.size)
    (h : ∀ g cap w', w'.ownsRow base e size (.slice (some ⟨g, 0, none⟩) (n + m) cap) (n + m) (xs ++ news) → ((v.ownBlock = some g ∧ w.grownBy w' (some g)) ∨ (g = w.heap.size ∧ w.grownBy w' none)) →
      wpList P ops Q rest (a.put o.dst (.slice (some ⟨g, 0, none⟩) (n + m) cap)) w') : wpList P ops Q (o :: rest) a w := by
  refine wpList_plain hgd fun K hK => ?_
  obtain ⟨g, cap, w', hr, h2, h3⟩ := run_append_two (P := P) w base t o.type e i z size bytes ht hi hz hsize hby hzs hsz v n xs hown ad m c news hl hnews h1 hm h63 hbytes hbase
  unfold Oper.wp execOp
  simp only [ho, resolve, invoke, builtin, Sem.run_bind, Sem.run_pure, Result.andThen_ok, List.map_toArray, List.map_cons, List.map_nil, hs, hx, hr]
  exact hK _ _ (h g cap w' h2 h3)

end Go.Proofs.YtoklbofobcloaaaDoor
