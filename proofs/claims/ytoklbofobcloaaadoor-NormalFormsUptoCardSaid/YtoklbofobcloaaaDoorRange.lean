/- a range over a function, met in a plain walk (the wide fence). -/
import Derived.RangeFuncNested
import Derived.RangeFuncBound
import Derived.RangeFuncCalls
import Derived.RangeFuncLeaves
import Derived.Shelf.Abstract
import Derived.Shelf.RegionOpen
import Derived.WalkKit
import Derived.OwnWalkIn
import Derived.TacticsInMore
import Derived.LoopNIn
import Derived.LoopIn
import Derived.Deep.Cut
import Derived.Deep.QuietTactic
import Derived.BigQuiet
import Derived.Test.YtoklbofobcloaaaDoorProg
namespace Go.Proofs.YtoklbofobcloaaaDoor
open Go.RowKit Go.Shelf

theorem range_wide {P : Program} {α : Type} {g : Operand} {ps : Array Tmp} {assign body : Code} {Q : Exit → Act → World → Prop} {tm : Array Value} {ds : List Deferred} {w : World}
    {gf : Nat} {lb : Array Value} (hg : Act.eval { tmps := tm, defers := ds } g = .func (.func gf) #[] lb) (eg : Enters P gf)
    {encs : α → Array Value} {Kp : World → World → Prop} {S Sp : List α → Prop} {N : Nat} (hseq : SeqStopsK Fence.wide 8 P gf lb encs Kp S Sp N w)
    (hKt : ∀ {A B C : World}, Kp A B → Kp B C → Kp A C) (hKb : ∀ (W : World) (l : Nat) (o o' : Obj), w.heap.size ≤ l → W.heap[l]? = some o → o.isCells = false → o.isWalk = false → Kp W (W.putObj l o')) (hps : ∀ x, (encs x).size = ps.size)
    (I : List α → World → Prop) (Ix : Code → List α → World → Prop) (hI : OwnFrom w.heap.size I) (hIx : ∀ c, OwnFrom w.heap.size (Ix c)) (h0 : I [] w)
    (Bx : α → Nat → World → Prop) (hBx : ∀ x b, OwnFrom w.heap.size (fun (_ : Unit) W => Bx x b W)) (fx : α → Nat → Array Value → Array Value)
    (hassign : ∀ (l : Nat) (pre : List α) (x : α) (W : World) (K : Act → World → Prop), I pre W → (∀ b W', KeepsFrom w.heap.size W W' → Kp W W' → I pre W' → Bx x b W' → K { tmps := fx x b tm, defers := [] } W') →
      assign.wpIn (Fence.wide.inRound l) (9 - 1 - 1) P (Exit.then K (fun _ _ _ => False)) { tmps := (ps.zip (encs x)).foldl (fun t (p, v) => t.setIfInBounds p v) tm, defers := [] } W)
    (hbody : ∀ (l : Nat) (pre : List α) (x : α) (b : Nat) (W : World), w.heap.size ≤ l → (∃ r, W.heap[l]? = some (.loop r)) → I pre W → Bx x b W → pre.length < N → body.wpIn (Fence.wide.inRound l) (9 - 1 - 1) P (ownPostG w.heap.size Kp I Ix (pre ++ [x]) W) { tmps := fx x b tm, defers := [] } W)
    (hdone : ∀ (D : Nat) (xs : List α) (W : World), w.heap.size ≤ D → S xs → I xs W → W.heap[D]? = some (.deferred (some [])) → Q .normal { tmps := tm, defers := { target := .collected D, args := #[] } :: ds } W)
    (hstop : ∀ (D : Nat) (c : Code) (pre : List α) (W : World), w.heap.size ≤ D → Sp pre → Ix c pre W → W.heap[D]? = some (.deferred (some [])) → c.wp P Q { tmps := tm, defers := { target := .collected D, args := #[] } :: ds } W) :
    (Code.rangeFunc g ps assign body).wp P Q { tmps := tm, defers := ds } w :=
  (wpIn_wide (n := 9)).1 (wpIn_rangeFunc_ownH (F := Fence.wide) rfl (by decide) hg trivial eg hseq hKt hKb (Below.refl _ _) hps I Ix hI hIx h0
    (fun x a' W => ∃ b, Bx x b W ∧ a' = { tmps := fx x b tm, defers := [] })
    (fun x _ _ X Y row hs hg hr => by obtain ⟨b, h1, h2⟩ := hs; exact ⟨b, hBx x b () X Y row h1 hg hr, h2⟩)
    (fun l pre x W K hi hK => hassign l pre x W K hi (fun b W' k1 k2 k3 k4 => hK _ W' k1 k2 k3 ⟨b, k4, rfl⟩))
    (fun l pre x a' W hl hr hi ha hlt => by obtain ⟨b, h1, rfl⟩ := ha; exact hbody l pre x b W hl hr hi h1 hlt)
    hdone (fun D c pre W hD hs hi hk => wpIn_wide.2 (hstop D c pre W hD hs hi hk)))

/-! ### a region that draws and only reads, in a round -/
/-- the post that knows of a plain end alone -/
def NQ (Q : Exit → Act → World → Prop) : Exit → Act → World → Prop := fun e a w => e = .normal ∧ Q .normal a w
theorem nq_out {Q : Exit → Act → World → Prop} : ¬ LetsOut (NQ Q) := fun ⟨_, _, h, _⟩ => by cases h
theorem rows_round {P : Program} {l0 n : Nat} {row : String} {args : Array Value} {w : World} {R : Value → World → Prop} (h : Rows P row args w R) : RowsIn (Fence.wide.inRound l0) n P row args w R :=
  fun c cs _ => let ⟨v, w', r, s⟩ := h c cs; ⟨v, w', r, stepsIn_wide.2 s⟩
theorem op_round {P : Program} {l0 n : Nat} {o : Oper} {a : Act} {w : World} {K K' : Act → World → Prop} {Q : Exit → Act → World → Prop} (hdf : ∀ c, o.op ≠ .defer c) (hK : ∀ a w, K a w → K' a w) (h : o.wp P a w K (NQ Q)) :
    o.wpIn (Fence.wide.inRound l0) n P a w K' Q := by
  refine ⟨fun _ _ => trivial, ?_⟩
  rw [Fence.inRound_round, Oper.semAt_some l0 _ _ hdf]
  unfold Oper.wp at h
  generalize (execOp a.eval o).run P w = r at h
  cases r with
  | ok nx w' =>
    cases nx with
    | value v => exact hK _ _ h
    | skip => exact hK _ _ h
    | defer d => exact hK _ _ h
    | enter f args =>
      refine ⟨fun h => (by cases h), CallsIn.inRound l0 (callsIn_wide.2 ?_)⟩
      refine Calls.mono h ?_
      intro e w'' he
      cases e with
      | returned v => exact hK _ _ he
      | panicked ch => exact absurd he.1 (by intro h; cases h)
      | outgrown => exact absurd he nq_out
    | row row args => exact ⟨fun h => (by cases h), rows_round (Rows.mono h fun v w'' he => hK _ _ he)⟩
    | round l f tmps assign body => exact absurd h (by intro h; exact h)
    | _ => exact absurd h (by intro h; exact h)
  | halt x w' =>
    cases x with
    | panic v => exact absurd h.1 (by intro h; cases h)
    | _ => exact absurd h (by intro h; exact h)
theorem ops_round {P : Program} {l0 n : Nat} {ops : Array Oper} {Q : Exit → Act → World → Prop} (hdf : ∀ (i : Nat) (o : Oper), ops[i]? = some o → ∀ c, o.op ≠ .defer c) :
    ∀ (l : List Nat) (a : Act) (w : World), wpOps P ops (NQ Q) l a w → wpOpsIn (Fence.wide.inRound l0) n P ops Q l a w
  | [], _, _, h => h.2
  | i :: rest, a, w, h => by
    unfold wpOps at h
    unfold wpOpsIn
    cases ho : ops[i]? with
    | none => simp only [ho] at h ⊢; exact ops_round hdf rest a w h
    | some o =>
      simp only [ho] at h ⊢
      split
      · rename_i hw
        rw [if_pos hw] at h
        rcases h with h | ⟨_, h⟩
        · exact op_round (hdf i o ho) (fun a w => ops_round hdf rest a w) h
        · exact absurd h nq_out
      · rename_i hw
        rw [if_neg hw] at h
        exact ⟨fun _ _ => trivial, ops_round hdf rest _ w h⟩
def noDefer (l : List Oper) : Bool := l.all fun o => match o.op with | .defer _ => false | _ => true
theorem wpIn_region_quiet_round {P : Program} {l0 n id : Nat} {Q : Exit → Act → World → Prop} {a : Act} {w : World} {l : List Oper} (hm : P.follows .mixedOrders = true) (hB : Region.lexB .any l.toArray = true) (hd : noDefer l = true)
    (h : wpQuiet P l.toArray (fun w' => ∃ n, w' = w.drewN n) (fun a' => ∀ w', (∃ n, w' = w.drewN n) → Q .normal a' w') l a) : (Code.region id l.toArray true).wpIn (Fence.wide.inRound l0) n P Q a w := by
  refine wpIn_region_draw fun t => ?_
  refine ops_round ?_ _ _ _ ?_
  · intro i o ho c he
    have hmem : o ∈ l := by
      have := List.mem_of_getElem? (l := l) (i := i) (a := o) (by simpa using ho)
      exact this
    have := List.all_eq_true.1 hd o hmem
    rw [he] at this
    cases this
  · simp only [Region.lexB, Bool.and_eq_true] at hB
    simp only [Region.schedule, hm, Bool.true_or, if_true]
    refine wpAny_sound _ t _ a _ (wpAny_of_quiet (C := fun w' => ∃ n, w' = w.drewN n) (Q := fun a' => ∀ w', (∃ n, w' = w.drewN n) → Q .normal a' w') (fun _ w' hw' h => ⟨rfl, h w' hw'⟩) _ _ _ _ ⟨1, rfl⟩ ?_)
    have := wpAnyQ_lex (C := fun w' => ∃ n, w' = w.drewN n) (md := .any) hB.1 l 0 (Array.replicate l.toArray.size false) a (by simp) (by simpa using hB.2) h
    simpa using this

end Go.Proofs.YtoklbofobcloaaaDoor
