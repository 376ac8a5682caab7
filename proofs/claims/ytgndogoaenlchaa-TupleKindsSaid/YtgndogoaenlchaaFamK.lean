/- TupleKinds: sixteen rows of the call's own, apart. -/
import Derived.Test.YtgndogoaenlchaaProg
import Derived.Test.YtgndogoaenlchaaBase
import Derived.Test.YtgndogoaenlchaaKit
import Derived.Test.YtgndogoaenlchaaFam
import Derived.Deep.AppendLies
namespace Go.Proofs.Ytgndogoaenlchaa
open Go.RowKit

def kE : Nat → TypeId
  | 0 => 33 | 1 => 33 | 2 => 34 | 3 => 34 | 4 => 35 | 5 => 35 | 6 => 36 | 7 => 36
  | _ => 3
def kK : Nat → IntKind
  | 0 => .i8 | 1 => .i8 | 2 => .u16 | 3 => .u16 | 4 => .i32 | 5 => .i32 | 6 => .u32 | 7 => .u32
  | _ => .i64
def upd {α : Type} (V : Nat → α) (i : Nat) (v : α) : Nat → α := fun j => if j = i then v else V j
theorem upd_same {α : Type} (V : Nat → α) (i : Nat) (v : α) : upd V i v i = v := by simp [upd]
theorem upd_other {α : Type} (V : Nat → α) {i j : Nat} (v : α) (h : j ≠ i) : upd V i v j = V j := by simp [upd, h]

structure Fm (base : Nat) (V : Nat → Value) (X : Nat → List Int) (w : World) : Prop where
  size : base ≤ w.heap.size
  own : ∀ i, i < 16 → w.ownsRow base (kE i) 1 (V i) (X i).length ((X i).map (Value.int (kK i)))
  ap : ∀ i j, i < 16 → j < 16 → i ≠ j → ∀ b, (V i).ownBlock = some b → (V j).ownBlock ≠ some b
theorem Fm.below {base : Nat} {V : Nat → Value} {X : Nat → List Int} {w w' : World} (h : Fm base V X w) (hb : Below w.heap.size w w') : Fm base V X w' :=
  ⟨Nat.le_trans h.size hb.size, fun i hi => own_below (h.own i hi) hb, h.ap⟩
theorem Fm.app {base : Nat} {V : Nat → Value} {X : Nat → List Int} {w w2 : World} {i g c H : Nat} {z : Int} (h : Fm base V X w) (hi : i < 16) (hH : w.heap.size = H)
    (hown : w2.ownsRow base (kE i) 1 (.slice (some ⟨g, 0, none⟩) ((X i).length + 1) c) ((X i).length + 1) ((X i).map (Value.int (kK i)) ++ [.int (kK i) z])) (hg : w.grownBy w2 (V i).ownBlock) (hat : (V i).ownBlock = some g ∨ g = H) :
    Fm base (upd V i (.slice (some ⟨g, 0, none⟩) ((X i).length + 1) c)) (upd X i (X i ++ [z])) w2 := by
  subst hH
  have lt := fun j hj => own_lt (h.own j hj)
  refine ⟨Nat.le_trans h.size hg.size, fun j hj => ?_, fun j k hj hk hne b hb => ?_⟩
  · by_cases e : j = i
    · subst e; rw [upd_same, upd_same]; simpa using hown
    · rw [upd_other _ _ e, upd_other _ _ e]
      exact own_grownOther (h.own j hj) hg (fun b hb he => h.ap j i hj hi e b hb he)
  · by_cases e : j = i
    · subst e
      rw [upd_same] at hb
      have hb : g = b := by injection hb
      subst hb
      rw [upd_other _ _ (by omega)]
      intro hk2
      rcases hat with h1 | h1
      · exact h.ap j k hj hk hne g h1 hk2
      · have := (lt k hk g hk2).2; omega
    · rw [upd_other _ _ e] at hb
      by_cases e2 : k = i
      · subst e2
        rw [upd_same]
        intro hk2
        have hk2 : g = b := by injection hk2
        subst hk2
        rcases hat with h1 | h1
        · exact h.ap j k hj hk hne g hb h1
        · have := (lt j hj g hb).2; omega
      · rw [upd_other _ _ e2]; exact h.ap j k hj hk hne b hb

def wl (k : IntKind) (zs : List Int) (n : Nat) : List Int := (zs.take n).map k.wrap
theorem wl_succ (k : IntKind) (zs : List Int) (n : Nat) (h : n < zs.length) : wl k zs (n + 1) = wl k zs n ++ [k.wrap (nth zs n)] := by
  unfold wl
  have : nth zs n = zs[n] := by simp [nth, List.getD_eq_getElem?_getD, h]
  rw [List.take_succ_eq_append_getElem h, List.map_append, this]; rfl
theorem wl_len (k : IntKind) (zs : List Int) (n : Nat) (h : n ≤ zs.length) : (wl k zs n).length = n := by simp [wl]; omega
theorem wl_nth (k : IntKind) (zs : List Int) (n i : Nat) (h : i < n) (h2 : n ≤ zs.length) : nth (wl k zs n) i = k.wrap (nth zs i) := by
  have h3 : i < zs.length := by omega
  simp [wl, nth, List.getD_eq_getElem?_getD, h, h3]
/-- the numbers of the sixteen rows, after so many turns of the four loops -/
def XX (zs ys : List Int) (ka kb kc kd : Nat) : Nat → List Int
  | 0 => wl .i8 zs ka | 1 => wl .i8 ys kb | 2 => wl .u16 zs ka | 3 => wl .u16 ys kb | 4 => wl .i32 zs ka | 5 => wl .i32 ys kb | 6 => wl .u32 zs ka | 7 => wl .u32 ys kb
  | 8 => wl .i8 zs kc | 9 => wl .u16 zs kc | 10 => wl .i32 zs kc | 11 => wl .u32 zs kc
  | 12 => wl .i8 ys kd | 13 => wl .u16 ys kd | 14 => wl .i32 ys kd | 15 => wl .u32 ys kd
  | _ => []
theorem XX_a (zs ys : List Int) (ka kb kc kd : Nat) :
    upd (upd (upd (upd (XX zs ys ka kb kc kd) 0 (wl .i8 zs (ka + 1))) 2 (wl .u16 zs (ka + 1))) 4 (wl .i32 zs (ka + 1))) 6 (wl .u32 zs (ka + 1)) = XX zs ys (ka + 1) kb kc kd := by
  funext i
  match i with
  | 0 | 1 | 2 | 3 | 4 | 5 | 6 | 7 | 8 | 9 | 10 | 11 | 12 | 13 | 14 | 15 => rfl
  | n + 16 => rfl
theorem XX_b (zs ys : List Int) (ka kb kc kd : Nat) :
    upd (upd (upd (upd (XX zs ys ka kb kc kd) 1 (wl .i8 ys (kb + 1))) 3 (wl .u16 ys (kb + 1))) 5 (wl .i32 ys (kb + 1))) 7 (wl .u32 ys (kb + 1)) = XX zs ys ka (kb + 1) kc kd := by
  funext i
  match i with
  | 0 | 1 | 2 | 3 | 4 | 5 | 6 | 7 | 8 | 9 | 10 | 11 | 12 | 13 | 14 | 15 => rfl
  | n + 16 => rfl
theorem XX_c (zs ys : List Int) (ka kb kc kd : Nat) :
    upd (upd (upd (upd (XX zs ys ka kb kc kd) 8 (wl .i8 zs (kc + 1))) 9 (wl .u16 zs (kc + 1))) 10 (wl .i32 zs (kc + 1))) 11 (wl .u32 zs (kc + 1)) = XX zs ys ka kb (kc + 1) kd := by
  funext i
  match i with
  | 0 | 1 | 2 | 3 | 4 | 5 | 6 | 7 | 8 | 9 | 10 | 11 | 12 | 13 | 14 | 15 => rfl
  | n + 16 => rfl
theorem XX_d (zs ys : List Int) (ka kb kc kd : Nat) :
    upd (upd (upd (upd (XX zs ys ka kb kc kd) 12 (wl .i8 ys (kd + 1))) 13 (wl .u16 ys (kd + 1))) 14 (wl .i32 ys (kd + 1))) 15 (wl .u32 ys (kd + 1)) = XX zs ys ka kb kc (kd + 1) := by
  funext i
  match i with
  | 0 | 1 | 2 | 3 | 4 | 5 | 6 | 7 | 8 | 9 | 10 | 11 | 12 | 13 | 14 | 15 => rfl
  | n + 16 => rfl

structure KS (w : World) (V : Nat → Value) (X : Nat → List Int) (wr : World) : Prop where
  fm : Fm w.heap.size V X wr
  bel : Below w.heap.size w wr
theorem KS.row {w wr : World} {V : Nat → Value} {X : Nat → List Int} (h : KS w V X wr) (i n : Nat) (hi : i < 16) (hn : (X i).length = n) : wr.ownsRow w.heap.size (kE i) 1 (V i) n ((X i).map (Value.int (kK i))) := by
  subst hn; exact h.fm.own i hi
theorem KS.app {w wr w2 : World} {V : Nat → Value} {X : Nat → List Int} {ob : Obj} {g c n : Nat} {z : Int} (h : KS w V X wr) (i : Nat) (hi : i < 16) (hn : (X i).length = n)
    (hown : w2.ownsRow w.heap.size (kE i) 1 (.slice (some ⟨g, 0, none⟩) (n + 1) c) (n + 1) ((X i).map (Value.int (kK i)) ++ [.int (kK i) z])) (hg : (wr.alloc ob).grownBy w2 (V i).ownBlock) (hat : (V i).ownBlock = some g ∨ g = wr.heap.size + 1) :
    KS w (upd V i (.slice (some ⟨g, 0, none⟩) (n + 1) c)) (upd X i (X i ++ [z])) w2 := by
  subst hn
  have h1 : Fm w.heap.size V X (wr.alloc ob) := h.fm.below ((Below.refl _ _).alloc (Nat.le_refl _) ob)
  exact ⟨h1.app hi (by rw [World.size_alloc]) hown hg hat, (h.bel.al ob).grown hg (by rw [World.size_alloc]; have := h.bel.size; omega) (own_ge (h.fm.own i hi))⟩
theorem XX_zero (zs ys : List Int) (i : Nat) : XX zs ys 0 0 0 0 i = [] := by
  match i with
  | 0 | 1 | 2 | 3 | 4 | 5 | 6 | 7 | 8 | 9 | 10 | 11 | 12 | 13 | 14 | 15 => rfl
  | n + 16 => rfl
theorem KS.start (w : World) (zs ys : List Int) : KS w (fun _ => .slice none 0 0) (XX zs ys 0 0 0 0) w := by
  refine ⟨⟨Nat.le_refl _, fun i hi => ?_, fun i j _ _ _ b hb => by cases hb⟩, Below.refl _ _⟩
  rw [XX_zero]; exact World.ownsRow_nil _ _ _ _

end Go.Proofs.Ytgndogoaenlchaa
