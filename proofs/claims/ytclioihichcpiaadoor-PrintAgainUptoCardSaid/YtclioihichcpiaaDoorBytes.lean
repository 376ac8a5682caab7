/- Rows of bytes of the call's own; a text out of one; jumps between labels. -/
import Derived.Test.YtclioihichcpiaaDoorBase
import Derived.Laws.BytesArg
import Derived.Laws.BytesString
import Derived.ScopeJumps
import Derived.WalkMore
namespace Go.Proofs.YtclioihichcpiaaDoor
open Go.RowKit

def u8v (c : UInt8) : Value := .int .u8 (c.toNat : Int)
theorem u8v_one (l : List UInt8) : ∀ u ∈ l.map u8v, u.oneCell' = true := by
  intro u hu; obtain ⟨c, _, rfl⟩ := List.mem_map.1 hu; rfl

theorem foldl_push (l : List UInt8) : ∀ s : ByteArray, (l.map fun c => (c.toNat : Int)).foldl (fun r n => r.push (UInt8.ofNat n.toNat)) s = mk (bl s ++ l) := by
  induction l with
  | nil => intro s; simp [mk_bl]
  | cons c r ih =>
    intro s
    simp only [List.map_cons, List.foldl_cons]
    rw [ih]
    congr 1
    simp [bl, ByteArray.push, UInt8.ofNat_toNat]

/-- 'string(b)', b a row of the call's own. -/
theorem run_string_own {P : Program} {w : World} {src dst e : TypeId} {base : Nat} {et : TypeId} {v : Value} {n : Nat} {l : List UInt8} (hs : P.underlying src = some (.slice e)) (he : P.underlying e = some (.int .u8)) (hd : P.underlying dst = some .string)
    (h : w.ownsRow base et 1 v n (l.map u8v)) : (convert src dst v).run P w = .ok (.string (mk l)) w := by
  have hn : l.length = n := by have := h.1; simpa using this
  rcases h.2 with ⟨rfl, h0⟩ | ⟨g, cap, cur, rfl, _⟩
  · have : l = [] := List.eq_nil_of_length_eq_zero (by omega)
    subst this
    rw [run_convert_bytes_string w src dst e none 0 0 hs he hd]
    rfl
  · rw [run_convert_bytes_string w src dst e _ n cap hs he hd]
    have hl := run_loadCells_list (P := P) (w := w) ⟨g, 0, none⟩ (l.map u8v) (h.cells (g := g) rfl)
    rw [List.length_map, hn] at hl
    have hr := run_bytesToString (P := P) w ⟨g, 0, none⟩ n cap (l.map fun c => (c.toNat : Int)) (by rw [hl]; congr 2; rw [List.map_map]; rfl)
    rw [hr, foldl_push]
    rfl

/-- one byte more behind an owned row: what the law of append leaves -/
theorem own_snoc {w : World} {base : Nat} {et : TypeId} {v : Value} {n : Nat} {l : List UInt8} {c : UInt8} (h : w.ownsRow base et 1 v (n + 1) (l.map u8v ++ [u8v c])) : w.ownsRow base et 1 v (n + 1) ((l ++ [c]).map u8v) := by
  rw [List.map_append]; exact h

/-- three results, the first in memory -/
theorem results_cell3 {P : Program} {fn : Func} {p u v : Tmp} {ty : TypeId} (h : fn.results = #[.cell p ty, .tmp u, .tmp v]) (tmps : Array Value) (w : World) (g : Nat) (t : TypeId) (cs : Array Value) (fr : Nat × Nat) (d : TypeDesc)
    (hp : tmps.getD p undef = .pointer (some ⟨g, 0, none⟩)) (hg : w.heap[g]? = some (.cells cs t fr)) (hu : P.underlying ty = some d)
    (hd : (match d, hu with | .struct _, _ => true | .array _ _, _ => true | _, _ => false) = true) (hi : (P.info? ty).map (fun x => x.size) = some cs.size) (a b : Value) (ha : tmps.getD u undef = a) (hb : tmps.getD v undef = b) :
    (results fn tmps).run P w = .ok (.tuple #[.agg cs, a, b]) w := by
  have hl := run_loadVar_row (P := P) w g t ty cs fr d hg hu hd hi
  subst ha hb
  have hp2 : tmps[p]?.getD undef = .pointer (some ⟨g, 0, none⟩) := by simpa using hp
  simp only [results, h]
  simp [hp2, asAddr, hl]
theorem results_cell2 {P : Program} {fn : Func} {p u : Tmp} {ty : TypeId} (h : fn.results = #[.cell p ty, .tmp u]) (tmps : Array Value) (w : World) (g : Nat) (t : TypeId) (cs : Array Value) (fr : Nat × Nat) (d : TypeDesc)
    (hp : tmps.getD p undef = .pointer (some ⟨g, 0, none⟩)) (hg : w.heap[g]? = some (.cells cs t fr)) (hu : P.underlying ty = some d)
    (hd : (match d, hu with | .struct _, _ => true | .array _ _, _ => true | _, _ => false) = true) (hi : (P.info? ty).map (fun x => x.size) = some cs.size) (a : Value) (ha : tmps.getD u undef = a) :
    (results fn tmps).run P w = .ok (.tuple #[.agg cs, a]) w := by
  have hl := run_loadVar_row (P := P) w g t ty cs fr d hg hu hd hi
  subst ha
  have hp2 : tmps[p]?.getD undef = .pointer (some ⟨g, 0, none⟩) := by simpa using hp
  simp only [results, h]
  simp [hp2, asAddr, hl]

/-! ### gotos between the labels of one scope -/
def Exit.jumps (J : Nat → Act → World → Prop) (Q : Exit → Act → World → Prop) : Exit → Act → World → Prop
  | .goto l, a, w => J l a w
  | e, a, w => Q e a w

theorem wp_scope_labels {P : Program} {Q : Exit → Act → World → Prop} {a : Act} {w : World} {c : Code} (rest : Nat → Code) (J : Nat → Act → World → Prop) (μ : Nat → Act → World → Nat)
    (hf : ∀ l a w, J l a w → findLabel c l = some (rest l)) (first : c.wp P (Exit.jumps J Q) a w)
    (pass : ∀ l a w, J l a w → (rest l).wp P (Exit.jumps (fun l' a' w' => J l' a' w' ∧ μ l' a' w' < μ l a w) Q) a w) : (Code.scope c).wp P Q a w := by
  -- from a jump on, by the measure
  have on : ∀ n l a w, μ l a w ≤ n → J l a w → ∀ b k cs, ∃ e a' w', Q e a' w' ∧ Arrives P (lone (b.at a (.code (rest l) :: .inScope c :: k)) cs w) b k cs e a' w' := by
    intro n
    induction n with
    | zero =>
      intro l a w hn hJ b k cs
      obtain ⟨e, a1, w1, hq, hr⟩ := pass l a w hJ b (.inScope c :: k) cs
      cases e with
      | goto m => exact absurd hq.2 (by omega)
      | normal => exact ⟨.normal, a1, w1, hq, Steps.trans hr (.one step_inScope)⟩
      | exit i => exact ⟨.exit i, a1, w1, hq, fun k' hk => hr k' (by simp [exitTo, hk])⟩
      | ret => exact ⟨.ret, a1, w1, hq, hr⟩
      | panic ch => exact ⟨.panic ch, a1, w1, hq, hr⟩
      | outgrown => exact ⟨.outgrown, a1, w1, hq, hr⟩
    | succ n ih =>
      intro l a w hn hJ b k cs
      obtain ⟨e, a1, w1, hq, hr⟩ := pass l a w hJ b (.inScope c :: k) cs
      cases e with
      | goto m =>
        have hg : gotoIn m (.inScope c :: k) = some (.code (rest m) :: .inScope c :: k) := by simp [gotoIn, hf m a1 w1 hq.1]
        obtain ⟨e2, a2, w2, hq2, hr2⟩ := ih m a1 w1 (by have := hq.2; omega) hq.1 b k cs
        exact ⟨e2, a2, w2, hq2, .of_steps (hr _ hg) hr2⟩
      | normal => exact ⟨.normal, a1, w1, hq, Steps.trans hr (.one step_inScope)⟩
      | exit i => exact ⟨.exit i, a1, w1, hq, fun k' hk => hr k' (by simp [exitTo, hk])⟩
      | ret => exact ⟨.ret, a1, w1, hq, hr⟩
      | panic ch => exact ⟨.panic ch, a1, w1, hq, hr⟩
      | outgrown => exact ⟨.outgrown, a1, w1, hq, hr⟩
  intro b k cs
  obtain ⟨e, a1, w1, hq, hr⟩ := first b (.inScope c :: k) cs
  cases e with
  | goto m =>
    have hg : gotoIn m (.inScope c :: k) = some (.code (rest m) :: .inScope c :: k) := by simp [gotoIn, hf m a1 w1 hq]
    obtain ⟨e2, a2, w2, hq2, hr2⟩ := on _ m a1 w1 (Nat.le_refl _) hq b k cs
    exact ⟨e2, a2, w2, hq2, .of_steps (.head step_scope (hr _ hg)) hr2⟩
  | normal => exact ⟨.normal, a1, w1, hq, .head step_scope (Steps.trans hr (.one step_inScope))⟩
  | exit i => exact ⟨.exit i, a1, w1, hq, fun k' hk => .head step_scope (hr k' (by simp [exitTo, hk]))⟩
  | ret => exact ⟨.ret, a1, w1, hq, .of_steps (.one step_scope) hr⟩
  | panic ch => exact ⟨.panic ch, a1, w1, hq, .of_steps (.one step_scope) hr⟩
  | outgrown => exact ⟨.outgrown, a1, w1, hq, .of_steps (b := b) (k := k) (cs := cs) (e := .outgrown) (.one step_scope) hr⟩

/-- the way of a jump to itself, the measure forgotten -/
theorem jumps_weak {P : Program} {Q : Exit → Act → World → Prop} {J : Nat → Act → World → Prop} {μ : Nat → Act → World → Nat} {m : Nat} {y : Code} {a : Act} {w : World}
    (h : y.wp P (Exit.jumps (fun l' a' w' => J l' a' w' ∧ μ l' a' w' < m) Q) a w) : y.wp P (Exit.jumps J Q) a w :=
  wp_mono h fun e a' w' hq => by cases e <;> first | exact hq.1 | exact hq

/-- three labels, the first one come to from the scope's head -/
theorem wp_scope_labels3 {P : Program} {Q : Exit → Act → World → Prop} {a : Act} {w : World} {c y0 r1 r2 : Code} (cf : Code → Code) (J : Nat → Act → World → Prop) (μ : Nat → Act → World → Nat) (hJ : ∀ l a w, J l a w → l < 3)
    (hc : c = cf y0) (h0 : findLabel c 0 = some (.seq .skip y0)) (h1 : findLabel c 1 = some r1) (h2 : findLabel c 2 = some r2)
    (first : ∀ Y : Code, (∀ a w, J 0 a w → Y.wp P (Exit.jumps J Q) a w) → (cf Y).wp P (Exit.jumps J Q) a w)
    (p0 : ∀ a w, J 0 a w → y0.wp P (Exit.jumps (fun l' a' w' => J l' a' w' ∧ μ l' a' w' < μ 0 a w) Q) a w)
    (p1 : ∀ a w, J 1 a w → r1.wp P (Exit.jumps (fun l' a' w' => J l' a' w' ∧ μ l' a' w' < μ 1 a w) Q) a w)
    (p2 : ∀ a w, J 2 a w → r2.wp P (Exit.jumps (fun l' a' w' => J l' a' w' ∧ μ l' a' w' < μ 2 a w) Q) a w) : (Code.scope c).wp P Q a w := by
  refine wp_scope_labels (fun l => match l with | 0 => .seq .skip y0 | 1 => r1 | _ => r2) J μ ?_ (by rw [hc]; exact first y0 fun a w h => jumps_weak (p0 a w h)) ?_
  · intro l a w h
    have := hJ l a w h
    match l, this with
    | 0, _ => exact h0
    | 1, _ => exact h1
    | 2, _ => exact h2
  · intro l a w h
    have := hJ l a w h
    match l, this with
    | 0, _ => exact wp_seq (wp_skip (p0 a w h))
    | 1, _ => exact p1 a w h
    | 2, _ => exact p2 a w h

theorem wp_scope_labels2 {P : Program} {Q : Exit → Act → World → Prop} {a : Act} {w : World} {c y0 r1 : Code} (cf : Code → Code) (J : Nat → Act → World → Prop) (μ : Nat → Act → World → Nat) (hJ : ∀ l a w, J l a w → l < 2)
    (hc : c = cf y0) (h0 : findLabel c 0 = some (.seq .skip y0)) (h1 : findLabel c 1 = some r1)
    (first : ∀ Y : Code, (∀ a w, J 0 a w → Y.wp P (Exit.jumps J Q) a w) → (cf Y).wp P (Exit.jumps J Q) a w)
    (p0 : ∀ a w, J 0 a w → y0.wp P (Exit.jumps (fun l' a' w' => J l' a' w' ∧ μ l' a' w' < μ 0 a w) Q) a w)
    (p1 : ∀ a w, J 1 a w → r1.wp P (Exit.jumps (fun l' a' w' => J l' a' w' ∧ μ l' a' w' < μ 1 a w) Q) a w) : (Code.scope c).wp P Q a w := by
  refine wp_scope_labels (fun l => match l with | 0 => .seq .skip y0 | _ => r1) J μ ?_ (by rw [hc]; exact first y0 fun a w h => jumps_weak (p0 a w h)) ?_
  · intro l a w h
    have := hJ l a w h
    match l, this with
    | 0, _ => exact h0
    | 1, _ => exact h1
  · intro l a w h
    have := hJ l a w h
    match l, this with
    | 0, _ => exact wp_seq (wp_skip (p0 a w h))
    | 1, _ => exact p1 a w h

theorem wp_scope_labels1 {P : Program} {Q : Exit → Act → World → Prop} {a : Act} {w : World} {c y0 : Code} (cf : Code → Code) (J : Nat → Act → World → Prop) (μ : Nat → Act → World → Nat) (hJ : ∀ l a w, J l a w → l < 1)
    (hc : c = cf y0) (h0 : findLabel c 0 = some (.seq .skip y0))
    (first : ∀ Y : Code, (∀ a w, J 0 a w → Y.wp P (Exit.jumps J Q) a w) → (cf Y).wp P (Exit.jumps J Q) a w)
    (p0 : ∀ a w, J 0 a w → y0.wp P (Exit.jumps (fun l' a' w' => J l' a' w' ∧ μ l' a' w' < μ 0 a w) Q) a w) : (Code.scope c).wp P Q a w := by
  refine wp_scope_labels (fun _ => .seq .skip y0) J μ ?_ (by rw [hc]; exact first y0 fun a w h => jumps_weak (p0 a w h)) ?_
  · intro l a w h
    have := hJ l a w h
    match l, this with
    | 0, _ => exact h0
  · intro l a w h
    have := hJ l a w h
    match l, this with
    | 0, _ => exact wp_seq (wp_skip (p0 a w h))

end Go.Proofs.YtclioihichcpiaaDoor
