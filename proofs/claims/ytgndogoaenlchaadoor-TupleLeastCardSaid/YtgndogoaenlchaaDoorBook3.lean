/- Book with three lists. -/
import Derived.Test.YtgndogoaenlchaaDoorBase
import Derived.Test.YtgndogoaenlchaaDoorFam
import Derived.Test.YtgndogoaenlchaaDoorBook
import Derived.Test.YtgndogoaenlchaaDoorBookA
namespace Go.Proofs.YtgndogoaenlchaaDoor
open Go.RowKit

theorem own_keptR {w w' : World} {B : Nat → Prop} {base : Nat} {e : TypeId} {size : Nat} {v : Value} {n : Nat} {xs : List Value} (h : w.ownsRow base e size v n xs) (hk : KeptR B w w') (hn : ∀ b, v.ownBlock = some b → ¬ B b) : w'.ownsRow base e size v n xs := by
  refine ⟨h.1, ?_⟩
  rcases h.2 with h0 | ⟨k, cap, cur, rfl, hg1, hh, r⟩
  · exact .inl h0
  · exact .inr ⟨k, cap, cur, rfl, hg1, by rw [hk.block k (Array.getElem?_eq_some_iff.1 hh).1 (hn k rfl)]; exact hh, r⟩
theorem own_lower {w : World} {base base' : Nat} {e : TypeId} {size : Nat} {v : Value} {n : Nat} {xs : List Value} (h : w.ownsRow base e size v n xs) (hb : base' ≤ base) : w.ownsRow base' e size v n xs := by
  refine ⟨h.1, ?_⟩
  rcases h.2 with hn | ⟨k, cap, cur, rfl, hg1, r⟩
  · exact .inl hn
  · exact .inr ⟨k, cap, cur, rfl, by omega, r⟩

structure SL where
  a : Option Addr
  n : Nat
  c : Nat
  xs : List Int
def SL.v (s : SL) : Value := .slice s.a s.n s.c
def pick3 {α} (x y z : α) (j : Nat) : α := match j with | 0 => x | 1 => y | _ => z
def rows3 (x y z : SL) : Rows3 := ⟨fun j => (pick3 x y z j).a, fun j => (pick3 x y z j).n, fun j => (pick3 x y z j).c⟩
def xs3 (x y z : SL) (j : Nat) : List Int := (pick3 x y z j).xs
theorem rows3_V (x y z : SL) (j : Nat) : (rows3 x y z).V j = (pick3 x y z j).v := rfl

/-- three lists that lie one behind the other, put into a book -/
theorem bk3_in {w w' : World} {base BB s1 s2 : Nat} {x y z : SL} (hx : w.ownsRow base 3 1 x.v x.n (x.xs.map (Value.int .i64))) (hy : w.ownsRow base 3 1 y.v y.n (y.xs.map (Value.int .i64)))
    (hz : w.ownsRow base 3 1 z.v z.n (z.xs.map (Value.int .i64))) (hxb : ∀ b, x.v.ownBlock = some b → b < s1) (hyb : ∀ b, y.v.ownBlock = some b → s1 ≤ b ∧ b < s2) (hzb : ∀ b, z.v.ownBlock = some b → s2 ≤ b ∧ b < BB) (hs : s1 ≤ s2) (hs2 : s2 ≤ BB) (hBB : BB < w.heap.size) (hbase : base ≤ BB)
    (hn : x.n ≤ 17592186044000 ∧ y.n ≤ 17592186044000 ∧ z.n ≤ 17592186044000) {e : Ending} (hp : BkPost BB 3 [x.v, y.v, z.v] w e w') :
    e = .returned (.tuple #[]) ∧ KeptR (· = BB) w w' ∧ ∃ G cN, BkIn w' base BB G 3 cN (rows3 x y z) (xs3 x y z) ∧ w'.cell? ⟨BB, 0, none⟩ = some (.slice none 0 0) ∧ w'.cell? ⟨BB, 2, none⟩ = some (.slice none 0 0) := by
  obtain ⟨he, G, cN, hown, hbk, hk⟩ := hp
  have hG := own_lt hown G rfl
  have blk : ∀ j, j < 3 → ∀ b, (pick3 x y z j).v.ownBlock = some b → b < BB := by
    intro j hj b hb
    match j, hj with
    | 0, _ => have := hxb b hb; omega
    | 1, _ => have := hyb b hb; omega
    | 2, _ => exact (hzb b hb).2
  refine ⟨he, hk, G, cN, ⟨by decide, by have := hk.size; omega, cell_of_row _ _ _ _ _ _ hbk, fun j hj => ?_, fun j hj => ?_, fun j hj => ?_, fun j hj b hb => ⟨?_, ?_, fun j' hj' hne => ?_⟩⟩, cell_of_row _ _ _ _ _ _ hbk, cell_of_row _ _ _ _ _ _ hbk⟩
  · rw [hown.cellAt j (by omega), rows3_V]
    match j, hj with
    | 0, _ => rfl
    | 1, _ => rfl
    | 2, _ => rfl
  · refine own_keptR ?_ hk (fun b hb => ?_)
    · match j, hj with
      | 0, _ => exact hx
      | 1, _ => exact hy
      | 2, _ => exact hz
    · have := blk j hj b hb; omega
  · match j, hj with
    | 0, _ => exact hn.1
    | 1, _ => exact hn.2.1
    | 2, _ => exact hn.2.2
  · have := blk j hj b hb; omega
  · have := blk j hj b hb; omega
  · intro hb'
    rw [rows3_V] at hb hb'
    match j, j', hj, hj' with
    | 0, 1, _, _ => have := hxb b hb; have := hyb b hb'; omega
    | 0, 2, _, _ => have := hxb b hb; have := hzb b hb'; omega
    | 1, 0, _, _ => have := hyb b hb; have := hxb b hb'; omega
    | 1, 2, _, _ => have := hyb b hb; have := hzb b hb'; omega
    | 2, 0, _, _ => have := hzb b hb; have := hxb b hb'; omega
    | 2, 1, _, _ => have := hzb b hb; have := hyb b hb'; omega
    | 0, 0, _, _ => exact hne rfl
    | 1, 1, _, _ => exact hne rfl
    | 2, 2, _, _ => exact hne rfl
theorem bkB_base {w : World} {base BB G m cN : Nat} {L : Rows3} {X : Nat → List Int} (h : BkIn w base BB G m cN L X) : ∀ b, BkB L m b → base ≤ b := by
  rintro b ⟨j, hj, hb⟩
  exact (own_lt (h.hX j hj) b hb).1

end Go.Proofs.YtgndogoaenlchaaDoor
