/- TupleKinds: the sixteen rows with the array of lists that holds eight of them. -/
import Derived.Test.YtgndogoaenlchaaProg
import Derived.Test.YtgndogoaenlchaaBase
import Derived.Test.YtgndogoaenlchaaKit
import Derived.Test.YtgndogoaenlchaaFam
import Derived.Test.YtgndogoaenlchaaFamK
import Derived.Test.YtgndogoaenlchaaOwn1
import Derived.Deep.AppendLies
import Derived.Deep.QuietTactic
namespace Go.Proofs.Ytgndogoaenlchaa
open Go.RowKit

structure LK (w : World) (V : Nat → Value) (X : Nat → List Int) (L : Nat) (wr : World) : Prop where
  fm : Fm w.heap.size V X wr
  bel : Below w.heap.size w wr
  ge : w.heap.size ≤ L
  lt : L < wr.heap.size
  cell : ∀ q, q < 8 → wr.cell? ⟨L, q, none⟩ = some (V (8 + q))
  fr : ∀ q, q < 8 → wr.frozen? ⟨L, q, none⟩ = false
  ap : ∀ i, i < 16 → (V i).ownBlock ≠ some L
theorem LK.row {w wr : World} {V : Nat → Value} {X : Nat → List Int} {L : Nat} (h : LK w V X L wr) (i n : Nat) (hi : i < 16) (hn : (X i).length = n) : wr.ownsRow w.heap.size (kE i) 1 (V i) n ((X i).map (Value.int (kK i))) := by
  subst hn; exact h.fm.own i hi
theorem LK.world {w wr w2 : World} {V : Nat → Value} {X : Nat → List Int} {L : Nat} (h : LK w V X L wr) (hb : Below wr.heap.size wr w2) : LK w V X L w2 :=
  ⟨h.fm.below hb, h.bel.trans (hb.mono h.bel.size), h.ge, Nat.lt_of_lt_of_le h.lt hb.size, fun q hq => cell_below hb rfl (h.cell q hq), fun q hq => (World.frozen?_of_block (hb.block L h.lt)).trans (h.fr q hq), h.ap⟩
theorem LK.start {w w4 : World} {V : Nat → Value} {X : Nat → List Int} {t : TypeId} (h : KS w V X w4) (hV : ∀ i, 8 ≤ i → V i = .slice none 0 0) :
    LK w V X w4.heap.size (w4.alloc (.cells #[.slice none 0 0, .slice none 0 0, .slice none 0 0, .slice none 0 0, .slice none 0 0, .slice none 0 0, .slice none 0 0, .slice none 0 0] t)) := by
  refine ⟨h.fm.below ((Below.refl _ _).alloc (Nat.le_refl _) _), h.bel.al _, h.bel.size, by rw [World.size_alloc]; omega, fun q hq => ?_, fun q hq => ?_, fun i hi he => ?_⟩
  · rw [hV _ (by omega)]
    unfold World.cell?
    rw [show ((⟨w4.heap.size, q, none⟩ : Addr).block) = w4.heap.size from rfl, heap_alloc_new w4 _]
    match q, hq with
    | 0, _ | 1, _ | 2, _ | 3, _ | 4, _ | 5, _ | 6, _ | 7, _ => rfl
  · unfold World.frozen?
    rw [show ((⟨w4.heap.size, q, none⟩ : Addr).block) = w4.heap.size from rfl, heap_alloc_new w4 _]
    match q, hq with
    | 0, _ | 1, _ | 2, _ | 3, _ | 4, _ | 5, _ | 6, _ | 7, _ => rfl
  · have := (own_lt (h.fm.own i hi) _ he).2; omega
theorem LK.put {w wA w2 : World} {V : Nat → Value} {X : Nat → List Int} {L q g c n H : Nat} {z : Int} (h : LK w V X L wA) (hq : q < 8) (hn : (X (8 + q)).length = n) (hH : wA.heap.size = H)
    (hown : w2.ownsRow w.heap.size (kE (8 + q)) 1 (.slice (some ⟨g, 0, none⟩) (n + 1) c) (n + 1) ((X (8 + q)).map (Value.int (kK (8 + q))) ++ [.int (kK (8 + q)) z])) (hg : wA.grownBy w2 (V (8 + q)).ownBlock) (hat : (V (8 + q)).ownBlock = some g ∨ g = H) :
    LK w (upd V (8 + q) (.slice (some ⟨g, 0, none⟩) (n + 1) c)) (upd X (8 + q) (X (8 + q) ++ [z])) L (w2.setCell ⟨L, q, none⟩ (.slice (some ⟨g, 0, none⟩) (n + 1) c)) := by
  subst hn hH
  have hf := h.fm.app (i := 8 + q) (by omega) rfl hown hg hat
  have hap : ∀ i, i < 16 → (upd V (8 + q) (.slice (some ⟨g, 0, none⟩) ((X (8 + q)).length + 1) c) i).ownBlock ≠ some L := by
    intro i hi
    by_cases e : i = 8 + q
    · subst e; rw [upd_same]
      intro he
      have he : g = L := by injection he
      subst he
      rcases hat with h1 | h1
      · exact h.ap _ hi h1
      · have := h.lt; omega
    · rw [upd_other _ _ e]; exact h.ap i hi
  have hc : ∀ k, k < 8 → w2.cell? ⟨L, k, none⟩ = some (V (8 + k)) := fun k hk => (hg.cell_far ⟨L, k, none⟩ h.lt (Ne.symm (h.ap (8 + q) (by omega)))).trans (h.cell k hk)
  refine ⟨⟨?_, fun i hi => own_setOther (hf.own i hi) (hap i hi), hf.ap⟩, (h.bel.grown hg h.fm.size (own_ge (h.fm.own _ (by omega)))).setCell h.ge _, h.ge, ?_, fun k hk => ?_, fun k hk => ?_, hap⟩
  · rw [World.size_setCell]; exact hf.size
  · rw [World.size_setCell]; exact Nat.lt_of_lt_of_le h.lt hg.size
  · by_cases e : k = q
    · subst e; rw [upd_same, World.cell?_setCell_same (w := w2) (a := ⟨L, k, none⟩) (h := hc k hk)]
    · rw [upd_other _ _ (by omega), World.cell?_setCell_other (w := w2) (a := ⟨L, q, none⟩) (b := ⟨L, k, none⟩) (h := by intro he; injection he with _ he _; omega)]; exact hc k hk
  · rw [World.frozen?_setCell]; exact (hg.frozen_far ⟨L, k, none⟩ h.lt (Ne.symm (h.ap (8 + q) (by omega)))).trans (h.fr k hk)
theorem kK_idem (i : Nat) (z : Int) : (kK i).wrap ((kK i).wrap z) = (kK i).wrap z := by
  have h8 : ∀ z, IntKind.i8.wrap (IntKind.i8.wrap z) = IntKind.i8.wrap z := fun z => by simp [IntKind.wrap, IntKind.bits, IntKind.signed]; omega
  have h16 : ∀ z, IntKind.u16.wrap (IntKind.u16.wrap z) = IntKind.u16.wrap z := fun z => by simp [IntKind.wrap, IntKind.bits, IntKind.signed]
  have h32 : ∀ z, IntKind.i32.wrap (IntKind.i32.wrap z) = IntKind.i32.wrap z := fun z => by simp [IntKind.wrap, IntKind.bits, IntKind.signed]; omega
  have hu32 : ∀ z, IntKind.u32.wrap (IntKind.u32.wrap z) = IntKind.u32.wrap z := fun z => by simp [IntKind.wrap, IntKind.bits, IntKind.signed]
  match i with
  | 0 | 1 => exact h8 z
  | 2 | 3 => exact h16 z
  | 4 | 5 => exact h32 z
  | 6 | 7 => exact hu32 z
  | n + 8 => exact wrap_i64_idem z
theorem kK_i64 (i : Nat) (z : Int) (h : i < 8) : IntKind.i64.wrap ((kK i).wrap z) = (kK i).wrap z := by
  rw [IntKind.wrap_i64]
  match i, h with
  | 0, _ | 1, _ => simp only [kK]; simp [IntKind.wrap, IntKind.bits, IntKind.signed]; omega
  | 2, _ | 3, _ => simp only [kK]; simp [IntKind.wrap, IntKind.bits, IntKind.signed]; omega
  | 4, _ | 5, _ => simp only [kK]; simp [IntKind.wrap, IntKind.bits, IntKind.signed]; omega
  | 6, _ | 7, _ => simp only [kK]; simp [IntKind.wrap, IntKind.bits, IntKind.signed]; omega
theorem LK.src {w wr : World} {V : Nat → Value} {X : Nat → List Int} {L n c : Nat} {a : Option Addr} {zs : List Int} (h : LK w V X L wr) (i : Nat) (hi : i < 8) (hX : X i = wl (kK i) zs n) (hv : V i = .slice a n c) (hn : n ≤ zs.length) (hl : zs.length ≤ 17592186043904) :
    Ints (kK i) wr a (wl (kK i) zs n) := by
  have ho := h.row i n (by omega) (by rw [hX]; exact wl_len _ _ _ hn)
  rw [hv, hX] at ho
  have hwl := wl_len (kK i) zs n hn
  obtain ⟨a', c', he, _⟩ := own_slice1 ho
  rcases ho.2 with ⟨hv2, hn0⟩ | ⟨g, cap, cur, hv2, _⟩
  · injection hv2 with h1 h2 h3
    subst h1 h2
    refine ⟨by omega, fun j hj => by omega, fun j hj => by omega⟩
  · injection hv2 with h1 h2 h3
    subst h1 h3
    exact Ints.own ho (by omega) (fun j hj => by rw [wl_nth _ _ _ _ (by omega) hn]; exact kK_idem i _)
theorem LK.get {w wr : World} {V : Nat → Value} {X : Nat → List Int} {L n c k : Nat} {a : Option Addr} {zs : List Int} (h : LK w V X L wr) (i : Nat) (hi : i < 8) (hX : X i = wl (kK i) zs n) (hv : V i = .slice a n c) (hn : n ≤ zs.length) (hl : zs.length ≤ 17592186043904) (hk : k < n) :
    ∃ b off z, a = some ⟨b, off, none⟩ ∧ wr.cell? ⟨b, off + k, none⟩ = some (.int (kK i) z) ∧ IntKind.i64.wrap z = z ∧ Hid (z = (kK i).wrap (nth zs k)) := by
  have hI := h.src i hi hX hv hn hl
  obtain ⟨b, off, ha, hc⟩ := hI.cells k (by rw [wl_len _ _ _ hn]; exact hk)
  rw [wl_nth _ _ _ _ hk hn] at hc
  exact ⟨b, off, _, ha, hc, kK_i64 i _ hi, rfl⟩
theorem al_cell {w : World} {p : Addr} {v : Value} (ob : Obj) (h : w.cell? p = some v) : (w.alloc ob).drew.cell? p = some v := cell_below (((Below.refl _ _).alloc (Nat.le_refl _) ob).drewN 1) rfl h
theorem al_fr {w : World} {p : Addr} (ob : Obj) (h : w.frozen? p = false) (hl : p.block < w.heap.size) : (w.alloc ob).drew.frozen? p = false :=
  ((((Below.refl w.heap.size w).alloc (Nat.le_refl _) ob).drewN 1).frozen hl).trans h
theorem LK.apart {w wr : World} {V : Nat → Value} {X : Nat → List Int} {L n c b off : Nat} (h : LK w V X L wr) (i j : Nat) (hi : i < 16) (hj : j < 16) (hne : j ≠ i) (hv : V i = .slice (some ⟨b, off, none⟩) n c) : some b ≠ (V j).ownBlock :=
  fun he => h.fm.ap j i hj hi hne b he.symm (by rw [hv]; rfl)
theorem LK.step {w wr w1 : World} {V V2 : Nat → Value} {X : Nat → List Int} {L q g c n : Nat} {z : Int} {ob : Obj} (h : LK w V X L wr) (hq : q < 8) (hn : (X (8 + q)).length = n)
    (hown : w1.ownsRow w.heap.size (kE (8 + q)) 1 (.slice (some ⟨g, 0, none⟩) (n + 1) c) (n + 1) ((X (8 + q)).map (Value.int (kK (8 + q))) ++ [.int (kK (8 + q)) z])) (hg : (wr.alloc ob).drew.grownBy w1 (V (8 + q)).ownBlock) (hat : (V (8 + q)).ownBlock = some g ∨ g = wr.heap.size + 1)
    (hV : ∀ i, i < 8 → V i = V2 i) :
    ∃ V', (∀ i, i < 8 → V' i = V2 i) ∧ (∀ i, 8 + q < i → V' i = V i) ∧ LK w V' (upd X (8 + q) (X (8 + q) ++ [z])) L (w1.setCell ⟨L, q, none⟩ (.slice (some ⟨g, 0, none⟩) (n + 1) c)) := by
  have h1 := h.world (((Below.refl wr.heap.size wr).alloc (Nat.le_refl _) ob).drewN 1)
  refine ⟨_, fun i hi => ?_, fun i hi => ?_, LK.put (H := wr.heap.size + 1) h1 hq hn (World.size_alloc ..) hown hg hat⟩
  · rw [upd_other _ _ (by omega)]; exact hV i hi
  · rw [upd_other _ _ (by omega)]
theorem LK.both {w wr : World} {V : Nat → Value} {X : Nat → List Int} {L n c : Nat} {a : Option Addr} {zs : List Int} (h : LK w V X L wr) (i q : Nat) (hi : i < 8) (hq : q < 8) (hX : X i = wl (kK i) zs n) (hX2 : X (8 + q) = wl (kK i) zs n) (hk : kK (8 + q) = .i64) (hv : V i = .slice a n c) (hn : n ≤ zs.length) (hl : zs.length ≤ 17592186043904) :
    ∃ A : List Int, A.length = n ∧ Ints (kK i) wr a A ∧ ∃ al cl, wr.cell? ⟨L, q, none⟩ = some (.slice al n cl) ∧ Ints .i64 wr al A := by
  have hwl := wl_len (kK i) zs n hn
  refine ⟨_, hwl, h.src i hi hX hv hn hl, ?_⟩
  have ho := h.row (8 + q) n (by omega) (by rw [hX2]; exact hwl)
  have hc := h.cell q hq
  rw [hX2, hk] at ho
  rcases ho.2 with ⟨hv2, hn0⟩ | ⟨g, cap, cur, hv2, _⟩
  · rw [hv2] at hc
    exact ⟨none, 0, by rw [hc]; subst hn0; rfl, by omega, fun j hj => by omega, fun j hj => by omega⟩
  · rw [hv2] at hc ho
    exact ⟨_, _, hc, Ints.own ho (by omega) (fun j hj => by rw [wl_nth _ _ _ _ (by omega) hn]; exact kK_i64 i _ hi)⟩
theorem qsame {P : Program} {f : FuncId} {args : Array Value} {w : World} {n : Nat} {v : Value} (h : Calls P f args (w.drewN n) fun e w' => e = .returned v ∧ w.drewN n = w') : Calls P f args (w.drewN n) fun e w'' => e = .returned v ∧ ∃ m, w'' = w.drewN m :=
  Calls.quiet_of_same (h.mono fun _ _ ⟨he, hm⟩ => ⟨he, hm.symm⟩)
theorem qsameI {P : Program} {f : FuncId} {args : Array Value} {w : World} {n : Nat} {k : IntKind} {x c : Int} (hx : Hid (x = c)) (h : Calls P f args (w.drewN n) fun e w' => e = .returned (.int k x) ∧ w.drewN n = w') : Calls P f args (w.drewN n) fun e w'' => e = .returned (.int k c) ∧ ∃ m, w'' = w.drewN m :=
  qsame (by rw [← hx.out]; exact h)
theorem qdrI {P : Program} {f : FuncId} {args : Array Value} {w : World} {n : Nat} {k : IntKind} {x c : Int} (hx : Hid (x = c)) (h : Calls P f args (w.drewN n) fun e w' => e = .returned (.int k x) ∧ Drawn (w.drewN n) w') : Calls P f args (w.drewN n) fun e w'' => e = .returned (.int k c) ∧ ∃ m, w'' = w.drewN m :=
  Calls.quiet_of (by rw [← hx.out]; exact h)
theorem eB {P : Program} {f : FuncId} {args : Array Value} {B w : World} {x c : Bool} (hx : Hid (x = c)) (hb : Below B.heap.size B w) (h : Calls P f args w fun e w' => e = .returned (.bool x) ∧ Below w.heap.size w w') : Calls P f args w fun e w'' => e = .returned (.bool c) ∧ Below B.heap.size B w'' :=
  h.mono fun _ _ ⟨he, hm⟩ => ⟨by rw [← hx.out]; exact he, hb.trans (hm.mono hb.size)⟩
theorem eD {P : Program} {f : FuncId} {args : Array Value} {B w : World} {x c : Bool} (hx : Hid (x = c)) (hb : Below B.heap.size B w) (h : Calls P f args w fun e w' => e = .returned (.bool x) ∧ Drawn w w') : Calls P f args w fun e w'' => e = .returned (.bool c) ∧ Below B.heap.size B w'' :=
  h.mono fun _ _ ⟨he, hm⟩ => ⟨by rw [← hx.out]; exact he, hb.trans (hm.below _)⟩
theorem eS {P : Program} {f : FuncId} {args : Array Value} {B w : World} {k : IntKind} {x c : Int} (hx : Hid (x = c)) (hb : Below B.heap.size B w) (h : Calls P f args w fun e w' => e = .returned (.int k x) ∧ w = w') : Calls P f args w fun e w'' => e = .returned (.int k c) ∧ Below B.heap.size B w'' :=
  h.mono fun _ _ ⟨he, hm⟩ => ⟨by rw [← hx.out]; exact he, hm ▸ hb⟩
theorem bne_no (c : Int) : (c != c) = false := by simp
theorem bne_noB (c : Bool) : (c != c) = false := by simp
theorem beq_yes (c : Int) : (c == c) = true := by simp
end Go.Proofs.Ytgndogoaenlchaa
