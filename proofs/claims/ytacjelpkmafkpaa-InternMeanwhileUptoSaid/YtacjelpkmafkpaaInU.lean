/- Intern: the law InternMeanwhile: what stands while texts are put in. -/
import Derived.Test.YtacjelpkmafkpaaInR
import Derived.Stop.RegionWithIn
namespace Go.Proofs.Ytacjelpkmafkpaa
open Go.RowKit Go.Shelf It
set_option maxHeartbeats 2000000
/-- the blocks of the boxes -/
structure Bx where
  m : Nat
  q : Nat
  t : Nat
  r : Nat
  T : Nat
  n : Nat
  a : Nat
def Bx.In (x : Bx) (k : Nat) : Prop := k = x.m ∨ k = x.q ∨ k = x.t ∨ k = x.r ∨ k = x.T ∨ k = x.n ∨ k = x.a
/-- both tables and the boxes while the first is gone through: its texts LT, the document's LR; va: where the texts lay at the start, n of them -/
structure MS (w : World) (x : Bx) (a1 : Option Addr) (c1 : Nat) (m : List ByteArray) (b mb rb : Nat) (n : Nat) (va : Option Addr) (j : Nat) (B Br : Nat) (v rv : Value) (LT LR : List ByteArray) (W : World) : Prop where
  bm : Boxed W x.m 22 (.slice a1 m.length c1)
  bq : Boxed W x.q 4 (.bool false)
  bt : Boxed W x.t 23 (.pointer (some ⟨b, 0, none⟩))
  br : Boxed W x.r 25 (.pointer (some ⟨rb, 0, none⟩))
  bT : Boxed W x.T 23 (.pointer (some ⟨b, 0, none⟩))
  bn : Boxed W x.n 3 (.int .i64 (n : Nat))
  ba : Boxed W x.a 3 (.int .i64 (j : Nat))
  tx : TxA W a1 m
  tab : Tab W B b v mb LT
  rt : RTab W Br rb rv LR
  bel : Below w.heap.size w W
  hB : w.heap.size ≤ B ∧ w.heap.size ≤ Br
  hx : ∀ k, x.In k → w.heap.size ≤ k
  xa : x.a ≠ x.m ∧ x.a ≠ x.q ∧ x.a ≠ x.t ∧ x.a ≠ x.r ∧ x.a ≠ x.T ∧ x.a ≠ x.n
  tlt : ∀ ad, a1 = some ad → 0 < m.length → ad.block < w.heap.size
  ap : ∀ k, TabB b v mb k → ¬ RTabB rb rv k
  xt : ∀ k, x.In k → ¬ TabB b v mb k ∧ ¬ RTabB rb rv k
  hv : ∀ g, va = some ⟨g, 0, none⟩ → w.heap.size ≤ g ∧ g < W.heap.size ∧ ¬ RTabB rb rv g ∧ ¬ x.In g ∧ (TabB b v mb g → ∃ c, v = .slice (some ⟨g, 0, none⟩) LT.length c)
  hn : n ≤ LT.length
section
variable {w W W' : World} {x : Bx} {a1 va : Option Addr} {c1 b mb rb n j B Br : Nat} {m : List ByteArray} {v rv v' rv' : Value} {LT LR LT' LR' : List ByteArray}
theorem bx_kept {S : Nat → Prop} {k : Nat} {t : TypeId} {u : Value} (h : Boxed W k t u) (hk : KeptR S W W') (hS : ¬ S k) : Boxed W' k t u := (hk.block k h.lt hS).trans h
theorem MS.below (h : MS w x a1 c1 m b mb rb n va j B Br v rv LT LR W) (hb : Below W.heap.size W W') : MS w x a1 c1 m b mb rb n va j B Br v rv LT LR W' :=
  ⟨bx_below h.bm hb, bx_below h.bq hb, bx_below h.bt hb, bx_below h.br hb, bx_below h.bT hb, bx_below h.bn hb, bx_below h.ba hb, h.tx.below hb, h.tab.below hb, h.rt.below hb, h.bel.trans (hb.mono h.bel.size), h.hB, h.hx, h.xa, h.tlt, h.ap, h.xt,
    fun g e => let ⟨h1, h2, h3, h4, h5⟩ := h.hv g e; ⟨h1, Nat.lt_of_lt_of_le h2 hb.size, h3, h4, h5⟩, h.hn⟩
theorem row_cells {base : Nat} {e : TypeId} {size k n : Nat} {v : Value} {xs : List Value} (h : W.ownsRow base e size v n xs) (hb : v.ownBlock = some k) : ∃ cs t fz, W.heap[k]? = some (.cells cs t fz) := by
  rcases h.2 with ⟨rfl, -⟩ | ⟨q, cap, cur, rfl, -, hh, -⟩
  · cases hb
  · have e : q = k := by injection hb
    exact ⟨_, _, _, e ▸ hh⟩
theorem slice_at {base : Nat} {e : TypeId} {size k n : Nat} {v : Value} {xs : List Value} (h : W.ownsRow base e size v n xs) (hb : v.ownBlock = some k) : ∃ c, v = .slice (some ⟨k, 0, none⟩) n c := by
  rcases h.2 with ⟨rfl, -⟩ | ⟨q, cap, cur, rfl, -, hh, -⟩
  · cases hb
  · have e : q = k := by injection hb
    exact ⟨cap, by rw [e]⟩
theorem MS.own (h : MS w x a1 c1 m b mb rb n va j B Br v rv LT LR W) {M : Nat} (hM : b < M ∧ mb < M ∧ rb < M) (hwM : w.heap.size ≤ M) {row : Option Nat} (hg : W.grownBy W' row) (hr : ∀ r, row = some r → M ≤ r ∧ ∃ o : Obj, W.heap[r]? = some o ∧ o.isCells = false) : MS w x a1 c1 m b mb rb n va j B Br v rv LT LR W' := by
  have hr2 := fun r e => (hr r e).2
  have hk : KeptR (fun k => row = some k) W W' := (KeptR.refl _ W).grown hg fun _ hk => .inl hk
  have hnc : ∀ {v : Value} {base size n : Nat} {e : TypeId} {xs : List Value} {k : Nat}, W.ownsRow base e size v n xs → v.ownBlock = some k → row ≠ some k := fun h1 h2 h3 => by
    obtain ⟨cs, t, fz, h4⟩ := row_cells h1 h2
    obtain ⟨o, h5, h6⟩ := hr2 _ h3
    rw [h4] at h5
    injection h5 with h5
    rw [← h5] at h6
    cases h6
  exact ⟨bx_own h.bm hg hr2, bx_own h.bq hg hr2, bx_own h.bt hg hr2, bx_own h.br hg hr2, bx_own h.bT hg hr2, bx_own h.bn hg hr2, bx_own h.ba hg hr2, h.tx.kept hk (fun ad e hl hs => by have := (hr _ hs).1; have := h.tlt ad e hl; omega),
    h.tab.kept hk (fun k h1 h2 => by
      have h3 := (hr k h2).1
      rcases h1 with h1 | h1 | h1
      · omega
      · omega
      · exact hnc h.tab.row h1 h2),
    h.rt.kept hk (fun k h1 h2 => by
      have h3 := (hr k h2).1
      rcases h1 with h1 | h1
      · omega
      · exact hnc h.rt.row h1 h2),
    h.bel.grown hg h.bel.size (fun k e => Nat.le_trans hwM (hr k e).1), h.hB, h.hx, h.xa, h.tlt, h.ap, h.xt, fun g e => let ⟨h1, h2, h3, h4, h5⟩ := h.hv g e; ⟨h1, Nat.lt_of_lt_of_le h2 hg.size, h3, h4, h5⟩, h.hn⟩
/-- the count goes on -/
theorem MS.next (h : MS w x a1 c1 m b mb rb n va j B Br v rv LT LR W) : MS w x a1 c1 m b mb rb n va (j + 1) B Br v rv LT LR (W.setCell ⟨x.a, 0, none⟩ (.int .i64 ((j + 1 : Nat) : Int))) := by
  obtain ⟨e1, e2, e3, e4, e5, e6⟩ := h.xa
  have hxa := h.xt x.a (.inr (.inr (.inr (.inr (.inr (.inr rfl))))))
  have hxw := h.hx x.a (.inr (.inr (.inr (.inr (.inr (.inr rfl))))))
  exact ⟨h.bm.other e1.symm _, h.bq.other e2.symm _, h.bt.other e3.symm _, h.br.other e4.symm _, h.bT.other e5.symm _, h.bn.other e6.symm _, h.ba.set _, h.tx.kept (S := (· = x.a)) ((KeptR.refl _ W).set (.inl rfl)) (fun ad e hl hs => by have := h.tlt ad e hl; have hs2 : ad.block = x.a := hs; omega), h.tab.set hxa.1, h.rt.set hxa.2, h.bel.setCell (p := ⟨x.a, 0, none⟩) hxw _, h.hB, h.hx, h.xa, h.tlt, h.ap, h.xt,
    fun g e => let ⟨h1, h2, h3, h4, h5⟩ := h.hv g e; ⟨h1, by rw [World.size_setCell]; exact h2, h3, h4, h5⟩, h.hn⟩
/-- a text into the first table -/
theorem MS.put1 {s : ByteArray} {B0 : Nat} (h : MS w x a1 c1 m b mb rb n va j B Br v rv LT LR W) (h0 : mb < B0) (hp : PutP W B b v mb LT (put LT s) W') : ∃ v', MS w x a1 c1 m b mb rb n va j B Br v' rv (put LT s) LR W' ∧ KpS va n W W' ∧ KeepsFrom B0 W W' := by
  obtain ⟨v', hT, hk, hv, hc⟩ := hp
  have hX := fun k hk => (h.xt k hk).1
  have hkp : ∀ g i, va = some ⟨g, 0, none⟩ → i < LT.length → W'.cell? ⟨g, i, none⟩ = W.cell? ⟨g, i, none⟩ := fun g i e hi => by
    obtain ⟨g1, g2, g3, g4, g5⟩ := h.hv g e
    by_cases ht : TabB b v mb g
    · obtain ⟨c, hv2⟩ := g5 ht
      exact hc g c i hv2 hi
    · exact World.cell?_of_block (hk.block g g2 ht)
  have hpl := put_len LT s
  refine ⟨v', ⟨bx_kept h.bm hk (hX _ (.inl rfl)), bx_kept h.bq hk (hX _ (.inr (.inl rfl))), bx_kept h.bt hk (hX _ (.inr (.inr (.inl rfl)))), bx_kept h.br hk (hX _ (.inr (.inr (.inr (.inl rfl))))), bx_kept h.bT hk (hX _ (.inr (.inr (.inr (.inr (.inl rfl)))))), bx_kept h.bn hk (hX _ (.inr (.inr (.inr (.inr (.inr (.inl rfl))))))), bx_kept h.ba hk (hX _ (.inr (.inr (.inr (.inr (.inr (.inr rfl))))))),
    h.tx.kept hk (fun ad e hl hs => by have h1 := h.tlt ad e hl; have h2 := (h.tab.lt _ hs).1; have h3 := h.hB.1; omega), hT, h.rt.kept hk (fun k h1 h2 => h.ap k h2 h1), h.bel.trans (below_kept hk h.bel.size (fun k hs => Nat.le_trans h.hB.1 (h.tab.lt k hs).1)), h.hB, h.hx, h.xa, h.tlt, fun k h1 h2 => ?_, fun k h1 => ⟨fun h2 => ?_, (h.xt k h1).2⟩, fun g e => ?_, Nat.le_trans h.hn hpl.1⟩, ⟨hk.size, fun g i e hi => hkp g i e (Nat.lt_of_lt_of_le hi h.hn)⟩, ⟨hk.size, fun k o h1 h2 h3 => ?_⟩⟩
  · have hlt := (h.rt.lt k h2).2
    rcases h1 with h1 | h1 | h1
    · exact h.ap k (.inl h1) h2
    · exact h.ap k (.inr (.inl h1)) h2
    · rcases hv k h1 with h4 | h4
      · exact h.ap k (.inr (.inr h4)) h2
      · omega
  · have hlt : k < W.heap.size := by
      rcases h1 with rfl | rfl | rfl | rfl | rfl | rfl | rfl
      · exact h.bm.lt
      · exact h.bq.lt
      · exact h.bt.lt
      · exact h.br.lt
      · exact h.bT.lt
      · exact h.bn.lt
      · exact h.ba.lt
    rcases h2 with h2 | h2 | h2
    · exact hX k h1 (.inl h2)
    · exact hX k h1 (.inr (.inl h2))
    · rcases hv k h2 with h4 | h4
      · exact hX k h1 (.inr (.inr h4))
      · omega
  · obtain ⟨g1, g2, g3, g4, g5⟩ := h.hv g e
    refine ⟨g1, Nat.lt_of_lt_of_le g2 hk.size, g3, g4, fun ht => ?_⟩
    rcases ht with ht | ht | ht
    · obtain ⟨c, e2⟩ := g5 (.inl ht)
      exact absurd (by rw [e2, ← ht]; rfl) h.tab.mb_ne.2.2
    · obtain ⟨c, e2⟩ := g5 (.inr (.inl ht))
      exact absurd (by rw [e2, ← ht]; rfl) h.tab.mb_ne.2.1
    · exact slice_at hT.row ht
  · rcases Classical.em (TabB b v mb k) with ht | ht
    · rcases ht with rfl | rfl | ht
      · rw [h.tab.blk] at h2
        injection h2 with h2
        rw [← h2] at h3
        cases h3
      · omega
      · obtain ⟨cs, t, fz, h4⟩ := row_cells h.tab.row ht
        rw [h4] at h2
        injection h2 with h2
        rw [← h2] at h3
        cases h3
    · exact (hk.block k (Array.getElem?_eq_some_iff.1 h2).1 ht).trans h2
/-- a text into the document's table -/
theorem MS.put2 {s : ByteArray} {B0 : Nat} (h : MS w x a1 c1 m b mb rb n va j B Br v rv LT LR W) (hp : RPutP W Br rb rv (put LR s) W') : ∃ rv', MS w x a1 c1 m b mb rb n va j B Br v rv' LT (put LR s) W' ∧ KpS va n W W' ∧ KeepsFrom B0 W W' := by
  obtain ⟨rv', hT, hk, hv⟩ := hp
  have hX := fun k hk => (h.xt k hk).2
  have hkp : ∀ g i, va = some ⟨g, 0, none⟩ → W'.cell? ⟨g, i, none⟩ = W.cell? ⟨g, i, none⟩ := fun g i e => by
    obtain ⟨g1, g2, g3, g4, g5⟩ := h.hv g e
    exact World.cell?_of_block (hk.block g g2 g3)
  refine ⟨rv', ⟨bx_kept h.bm hk (hX _ (.inl rfl)), bx_kept h.bq hk (hX _ (.inr (.inl rfl))), bx_kept h.bt hk (hX _ (.inr (.inr (.inl rfl)))), bx_kept h.br hk (hX _ (.inr (.inr (.inr (.inl rfl))))), bx_kept h.bT hk (hX _ (.inr (.inr (.inr (.inr (.inl rfl)))))), bx_kept h.bn hk (hX _ (.inr (.inr (.inr (.inr (.inr (.inl rfl))))))), bx_kept h.ba hk (hX _ (.inr (.inr (.inr (.inr (.inr (.inr rfl))))))),
    h.tx.kept hk (fun ad e hl hs => by have h1 := h.tlt ad e hl; have h2 := (h.rt.lt _ hs).1; have h3 := h.hB.2; omega), h.tab.kept hk h.ap, hT, h.bel.trans (below_kept hk h.bel.size (fun k hs => Nat.le_trans h.hB.2 (h.rt.lt k hs).1)), h.hB, h.hx, h.xa, h.tlt, fun k h1 h2 => ?_, fun k h1 => ⟨(h.xt k h1).1, fun h2 => ?_⟩, fun g e => ?_, h.hn⟩, ⟨hk.size, fun g i e _ => hkp g i e⟩, ⟨hk.size, fun k o _ h2 h3 => ?_⟩⟩
  · have hlt := (h.tab.lt k h1).2
    rcases h2 with h2 | h2
    · exact h.ap k h1 (.inl h2)
    · rcases hv k h2 with h4 | h4
      · exact h.ap k h1 (.inr h4)
      · omega
  · have hlt : k < W.heap.size := by
      rcases h1 with rfl | rfl | rfl | rfl | rfl | rfl | rfl
      · exact h.bm.lt
      · exact h.bq.lt
      · exact h.bt.lt
      · exact h.br.lt
      · exact h.bT.lt
      · exact h.bn.lt
      · exact h.ba.lt
    rcases h2 with h2 | h2
    · exact hX k h1 (.inl h2)
    · rcases hv k h2 with h4 | h4
      · exact hX k h1 (.inr h4)
      · omega
  · obtain ⟨g1, g2, g3, g4, g5⟩ := h.hv g e
    refine ⟨g1, Nat.lt_of_lt_of_le g2 hk.size, fun h2 => ?_, g4, g5⟩
    rcases h2 with h2 | h2
    · exact g3 (.inl h2)
    · rcases hv g h2 with h4 | h4
      · exact g3 (.inr h4)
      · omega
  · rcases Classical.em (RTabB rb rv k) with ht | ht
    · rcases ht with rfl | ht
      · rw [h.rt.blk] at h2
        injection h2 with h2
        rw [← h2] at h3
        cases h3
      · obtain ⟨cs, t, fz, h4⟩ := row_cells h.rt.row ht
        rw [h4] at h2
        injection h2 with h2
        rw [← h2] at h3
        cases h3
    · exact (hk.block k (Array.getElem?_eq_some_iff.1 h2).1 ht).trans h2
end
end Go.Proofs.Ytacjelpkmafkpaa
