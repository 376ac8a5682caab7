/- Index: small laws on blocks and what keeps them. -/
import Derived.Test.YtjeeljolhcoeoaaFam
import Derived.Test.YtjeeljolhcoeoaaIxB
import Derived.RangeFuncBox
namespace Go.Proofs.Ytjeeljolhcoeoaa.Str
open Go.RowKit Go.Shelf
theorem own_keptR {w w' : World} {B : Nat → Prop} {base : Nat} {e : TypeId} {size : Nat} {v : Value} {n : Nat} {xs : List Value} (h : w.ownsRow base e size v n xs) (hk : KeptR B w w') (hn : ∀ b, v.ownBlock = some b → ¬ B b) : w'.ownsRow base e size v n xs := by
  obtain ⟨h1, h2⟩ := h
  refine ⟨h1, ?_⟩
  rcases h2 with h2 | ⟨g, cap, cur, hv, hg1, hh, r⟩
  · exact .inl h2
  · exact .inr ⟨g, cap, cur, hv, hg1, (hk.block g (Array.getElem?_eq_some_iff.1 hh).1 (hn g (by rw [hv]; rfl))).trans hh, r⟩

/-- a block of that type -/
def isTy (w : World) (b : Nat) (t : TypeId) : Prop := ∃ c fr, w.heap[b]? = some (.cells c t fr)
theorem isTy.lt {w : World} {b : Nat} {t : TypeId} (h : isTy w b t) : b < w.heap.size := by
  obtain ⟨c, fr, h⟩ := h
  exact (Array.getElem?_eq_some_iff.1 h).1
theorem isTy.ne {w : World} {b c : Nat} {t u : TypeId} (h : isTy w b t) (g : isTy w c u) (htu : t ≠ u) : b ≠ c := by
  rintro rfl
  obtain ⟨c1, f1, h1⟩ := h
  obtain ⟨c2, f2, h2⟩ := g
  rw [h1] at h2
  injection h2 with h2
  injection h2 with _ h2 _
  exact htu h2
theorem isTy.at {w w' : World} {b : Nat} {t : TypeId} (h : isTy w b t) (e : w'.heap[b]? = w.heap[b]?) : isTy w' b t := by
  obtain ⟨c, fr, h⟩ := h
  exact ⟨c, fr, e.trans h⟩
theorem isTy.below {w w' : World} {b : Nat} {t : TypeId} (h : isTy w b t) (hb : Below w.heap.size w w') : isTy w' b t := h.at (hb.block _ h.lt)
theorem isTy.kept {w w' : World} {b : Nat} {t : TypeId} {R : Nat → Prop} (h : isTy w b t) (hk : KeptR R w w') (hn : ¬ R b) : isTy w' b t := h.at (hk.block _ h.lt hn)
theorem bx_ty {w : World} {b : Nat} {t : TypeId} {v : Value} (h : Boxed w b t v) : isTy w b t := ⟨_, _, h⟩

theorem grown_of_below {A B : World} (h : Below A.heap.size A B) : A.grownBy B none := ⟨h.os, h.tape, h.output, h.size, fun k hk _ => h.block k hk⟩
theorem abides_below {β : Type} {n : Nat} {J : β → World → Prop} (hJ : AbidesFrom n J) {s : β} {A B : World} (h : J s A) (hb : Below A.heap.size A B) : J s B :=
  hJ s A B none h (grown_of_below hb) (fun r e => by cases e)

theorem own_ty {W : World} {base : Nat} {e : TypeId} {size : Nat} {v : Value} {n : Nat} {xs : List Value} (h : W.ownsRow base e size v n xs) {b : Nat} (hb : v.ownBlock = some b) : isTy W b e := by
  rcases h.2 with ⟨hv, _⟩ | ⟨g, cap, cur, hv, _, hh, _⟩
  · rw [hv] at hb; cases hb
  · rw [hv] at hb
    injection hb with hb; subst hb
    exact ⟨_, _, hh⟩
theorem below_kept {B : Nat → Prop} {w w' : World} (h : Below w.heap.size w w') : KeptR B w w' := ⟨h.os, h.tape, h.output, h.size, fun b hb _ => h.block b hb⟩
theorem bx_kept {W W' : World} {B : Nat} {R : Nat → Prop} {t : TypeId} {v : Value} (h : Boxed W B t v) (hk : KeptR R W W') (hn : ¬ R B) : Boxed W' B t v := (hk.block B h.lt hn).trans h
theorem keptR_belowK {R : Nat → Prop} {w0 w w' : World} {B : Nat} (h : Below B w0 w) (hk : KeptR R w w') (hB : ∀ b, R b → B ≤ b) (hs : B ≤ w.heap.size) : Below B w0 w' :=
  ⟨hk.os.trans h.os, hk.tape.trans h.tape, hk.output.trans h.output, Nat.le_trans h.size hk.size, fun b hb => (hk.block b (by omega) (fun hr => by have := hB b hr; omega)).trans (h.block b hb)⟩
end Go.Proofs.Ytjeeljolhcoeoaa.Str
