/- Maps that the code makes, as functions from keys to values. -/
import Derived.Test.YtoklbofobcloaaaDoorBase
import Derived.Test.YtoklbofobcloaaaDoorProg
import Derived.Maps.OwnSet
import Derived.Maps.OwnIn
import Derived.Maps.OwnOps
import Derived.Maps.Views
import Derived.WalkKit
namespace Go.Proofs.YtoklbofobcloaaaDoor
open Go.RowKit Go.Maps
/-- every value reads as itself -/
def heldR (v : Value) : Option (DataW Value × List MemPlace) := some (.held v, [])
/-- what a map's datum tells of its keys -/
def MRel {κ : Type} (kl : κ → Lit) (D : DataW Value) (σ : κ → Option Value) : Prop := ∀ s, Maps.has D (kl s) = (σ s).isSome ∧ ∀ z, D.atKey (kl s) z = ((σ s).map DataW.held).getD z
/-- keys that a map can bear -/
structure KLaw {κ : Type} (kl : κ → Lit) : Prop where
  inj : ∀ {a b}, kl a = kl b → a = b
  key : ∀ a, WideAt.IsKeyLit (kl a)
open Classical in
/-- one key's value is another one -/
noncomputable def upd {κ : Type} (σ : κ → Option Value) (k : κ) (v : Option Value) : κ → Option Value := fun t => if t = k then v else σ t
theorem upd_same {κ : Type} (σ : κ → Option Value) (k : κ) (v : Option Value) : upd σ k v k = v := if_pos rfl
theorem upd_ne {κ : Type} (σ : κ → Option Value) {k t : κ} (v : Option Value) (h : t ≠ k) : upd σ k v t = σ t := if_neg h
section
variable {κ : Type} {kl : κ → Lit}
theorem MRel.nil : MRel kl (.map []) (fun _ => none) := fun _ => ⟨by simp [Maps.has], fun z => rfl⟩
theorem MRel.put (K : KLaw kl) {D : DataW Value} {σ : κ → Option Value} (h : MRel kl D σ) (hD : IsMap D) (s : κ) (v : Value) : MRel kl (D.put (kl s) (.held v)) (upd σ s (some v)) := fun t => by
  by_cases hts : t = s
  · subst hts
    refine ⟨by rw [Maps.has_put_same hD (K.key _), upd_same]; rfl, fun z => ?_⟩
    rw [Maps.atKey_put_same hD (K.key _), upd_same]; rfl
  · obtain ⟨h1, h2⟩ := h t
    refine ⟨by rw [Maps.has_put_other (fun e => hts (K.inj e)), h1, upd_ne _ _ hts], fun z => ?_⟩
    rw [Maps.atKey_put_other (fun e => hts (K.inj e)), h2, upd_ne _ _ hts]
theorem MRel.del (K : KLaw kl) {D : DataW Value} {σ : κ → Option Value} (h : MRel kl D σ) (s : κ) : MRel kl (D.del (kl s)) (upd σ s none) := fun t => by
  by_cases hts : t = s
  · subst hts
    refine ⟨by rw [Maps.has_del_same, upd_same]; rfl, fun z => ?_⟩
    rw [Maps.atKey_del_same, upd_same]; rfl
  · obtain ⟨h1, h2⟩ := h t
    refine ⟨by rw [Maps.has_del_other (fun e => hts (K.inj e)), h1, upd_ne _ _ hts], fun z => ?_⟩
    rw [Maps.atKey_del_other (fun e => hts (K.inj e)), h2, upd_ne _ _ hts]
/-- block b holds a map of at most n entries -/
def MapIs (w : World) (P : Program) (k : TypeId) (kl : κ → Lit) (b n : Nat) (σ : κ → Option Value) : Prop := ∃ D : DataW Value, w.ownsMap P k heldR b n D ∧ MRel kl D σ
end
section
variable {κ : Type} {kl : κ → Lit} {P : Program} {k : TypeId} {w w' : World} {b n : Nat} {σ : κ → Option Value}
theorem MapIs.made (w : World) (P : Program) (k : TypeId) (kl : κ → Lit) : MapIs (w.alloc (.map #[] 0)) P k kl w.heap.size 0 (fun _ => none) := ⟨_, World.ownsMap_made _ _ _ _, MRel.nil⟩
theorem MapIs.lt (h : MapIs w P k kl b n σ) : b < w.heap.size := let ⟨_, h1, _⟩ := h; h1.lt
theorem MapIs.same (h : MapIs w P k kl b n σ) (hg : w'.heap[b]? = w.heap[b]?) : MapIs w' P k kl b n σ := by
  obtain ⟨D, ⟨es, clock, hb, r⟩, h2⟩ := h
  exact ⟨D, ⟨es, clock, hg.trans hb, r⟩, h2⟩
theorem MapIs.kept (h : MapIs w P k kl b n σ) {row : Option Nat} (hg : w.grownBy w' row) (hne : some b ≠ row) : MapIs w' P k kl b n σ := h.same (hg.block b h.lt hne)
theorem MapIs.below (h : MapIs w P k kl b n σ) (hb : Below w.heap.size w w') : MapIs w' P k kl b n σ := h.same (hb.block b h.lt)
theorem MapIs.mono (h : MapIs w P k kl b n σ) {n' : Nat} (hn : n ≤ n') : MapIs w P k kl b n' σ := let ⟨D, h1, h2⟩ := h; ⟨D, h1.mono hn, h2⟩
theorem MapIs.isMap (h : MapIs w P k kl b n σ) : ∃ es clock, w.heap[b]? = some (.map es clock) := let ⟨_, ⟨es, clock, hb, _⟩, _⟩ := h; ⟨es, clock, hb⟩
theorem MapIs.congr {τ : κ → Option Value} (h : MapIs w P k kl b n σ) (he : ∀ s, σ s = τ s) : MapIs w P k kl b n τ := by rwa [show τ = σ from funext fun s => (he s).symm]
/-- a map's block is no owned row -/
theorem MapIs.no_row (h : MapIs w P k kl b n σ) {base size m : Nat} {e : TypeId} {v : Value} {xs : List Value} (hr : w.ownsRow base e size v m xs) : some b ≠ v.ownBlock := by
  obtain ⟨es, clock, hb⟩ := h.isMap
  rcases hr.2 with ⟨rfl, _⟩ | ⟨g, cap, cur, rfl, _, hg, _⟩
  · simp [Value.ownBlock]
  · intro e
    simp only [Value.ownBlock, Option.some.injEq] at e
    subst e
    rw [hb] at hg; cases hg
end
section
variable {κ : Type} {kl : κ → Lit} {P : Program} (w : World) {ops : Array Oper} {rest : List Oper} {o : Oper} {a : Act} {Q : Exit → Act → World → Prop} {F : Fence} {nF : Nat}
/-- v, ok := m[k] -/
theorem wp_look_ok (hg : o.guard = none) (m x : Operand) (t : TypeId) (hop : o.op = Op.lookup t m x true) (k e : TypeId) (K : Keyed P k) (ht : P.underlying t = some (.map k e)) {z : Value} (hz : (zeroValue e).run P w = .ok z w) (b n : Nat) (σ : κ → Option Value)
    (hm : a.eval m = .map (some b)) (hown : MapIs w P k kl b n σ) (key : Value) (s : κ) (hx : a.eval x = key) (hkey : keyOf P k key = some (kl s))
    (hK : wpList P ops Q rest (a.put o.dst (.tuple #[(σ s).getD z, .bool (σ s).isSome])) w) : wpList P ops Q (o :: rest) a w := by
  obtain ⟨D, hD, hr⟩ := hown
  refine wpList_lookup_own_ok w hg m x t hop k e K ht heldR hz (.held z) [] rfl b n D hm hD key (kl s) hx hkey fun v ps hv => ?_
  obtain ⟨h1, h2⟩ := hr s
  have h2 := h2 (.held z)
  rw [h1]
  have : v = (σ s).getD z := by
    unfold heldR at hv
    injection hv with hv
    injection hv with hv _
    rw [h2] at hv
    cases hs : σ s with
    | none => rw [hs] at hv; injection hv
    | some u => rw [hs] at hv; injection hv
  rw [this]
  exact hK
theorem wpIn_look_ok (hg : o.guard = none) (m x : Operand) (t : TypeId) (hop : o.op = Op.lookup t m x true) (k e : TypeId) (K : Keyed P k) (ht : P.underlying t = some (.map k e)) {z : Value} (hz : (zeroValue e).run P w = .ok z w) (b n : Nat) (σ : κ → Option Value)
    (hm : a.eval m = .map (some b)) (hown : MapIs w P k kl b n σ) (key : Value) (s : κ) (hx : a.eval x = key) (hkey : keyOf P k key = some (kl s))
    (hK : wpListIn F nF P ops Q rest (a.put o.dst (.tuple #[(σ s).getD z, .bool (σ s).isSome])) w) : wpListIn F nF P ops Q (o :: rest) a w := by
  obtain ⟨D, hD, hr⟩ := hown
  refine wpListIn_lookup_own_ok w hg m x t hop k e K ht heldR hz (.held z) [] rfl b n D hm hD key (kl s) hx hkey fun v ps hv => ?_
  obtain ⟨h1, h2⟩ := hr s
  have h2 := h2 (.held z)
  rw [h1]
  have : v = (σ s).getD z := by
    unfold heldR at hv
    injection hv with hv
    injection hv with hv _
    rw [h2] at hv
    cases hs : σ s with
    | none => rw [hs] at hv; injection hv
    | some u => rw [hs] at hv; injection hv
  rw [this]
  exact hK
/-- m[k], as a run -/
theorem MapIs.look {w : World} {b n : Nat} {k : TypeId} {σ : κ → Option Value} (hown : MapIs w P k kl b n σ) {t e : TypeId} (K : Keyed P k) (ht : P.underlying t = some (.map k e)) {z : Value} (hz : (zeroValue e).run P w = .ok z w) {key : Value} {s : κ} (hkey : keyOf P k key = some (kl s)) :
    (Instr.lookup t (.map (some b)) key false).run P w = .ok ((σ s).getD z) w := by
  obtain ⟨D, hD, hr⟩ := hown
  obtain ⟨v, ps, hrun, hv⟩ := hD.lookup K ht hz (zd := .held z) (zp := []) rfl hkey
  obtain ⟨h1, h2⟩ := hr s
  have h2 := h2 (.held z)
  have : v = (σ s).getD z := by
    unfold heldR at hv
    injection hv with hv
    injection hv with hv _
    rw [h2] at hv
    cases hs : σ s with
    | none => rw [hs] at hv; injection hv
    | some u => rw [hs] at hv; injection hv
  rw [hrun, this]
/-- m[k] = v -/
theorem wp_upd (KL : KLaw kl) (hg : o.guard = none) (m x v : Operand) (t : TypeId) (hop : o.op = Op.mapUpdate t m x v) (k e : TypeId) (K : Keyed P k) (ht : P.underlying t = some (.map k e)) (b n : Nat) (σ : κ → Option Value)
    (hm : a.eval m = .map (some b)) (hown : MapIs w P k kl b n σ) (hn : n < maxLen) (key val : Value) (s : κ) (hx : a.eval x = key) (hv : a.eval v = val) (hkey : keyOf P k key = some (kl s))
    (hK : ∀ w', MapIs w' P k kl b (n + 1) (upd σ s (some val)) → w.grownBy w' (some b) → wpList P ops Q rest (a.put o.dst undef) w') : wpList P ops Q (o :: rest) a w := by
  obtain ⟨D, hD, hr⟩ := hown
  exact wpList_mapUpdate_own w hg m x v t hop k e K ht heldR b n D hm hD hn key val (kl s) hx hv hkey (.held val) [] rfl fun w' h1 h2 => hK w' ⟨_, h1, hr.put KL hD.isMap s val⟩ h2
theorem wpIn_upd (KL : KLaw kl) (hg : o.guard = none) (m x v : Operand) (t : TypeId) (hop : o.op = Op.mapUpdate t m x v) (k e : TypeId) (K : Keyed P k) (ht : P.underlying t = some (.map k e)) (b n : Nat) (σ : κ → Option Value)
    (hm : a.eval m = .map (some b)) (hown : MapIs w P k kl b n σ) (hn : n < maxLen) (key val : Value) (s : κ) (hx : a.eval x = key) (hv : a.eval v = val) (hkey : keyOf P k key = some (kl s))
    (hK : ∀ w', MapIs w' P k kl b (n + 1) (upd σ s (some val)) → w.grownBy w' (some b) → wpListIn F nF P ops Q rest (a.put o.dst undef) w') : wpListIn F nF P ops Q (o :: rest) a w := by
  obtain ⟨D, hD, hr⟩ := hown
  exact wpListIn_mapUpdate_own w hg m x v t hop k e K ht heldR b n D hm hD hn key val (kl s) hx hv hkey (.held val) [] rfl fun w' h1 h2 => hK w' ⟨_, h1, hr.put KL hD.isMap s val⟩ h2
/-- m[k] = v, as a run -/
theorem MapIs.update (KL : KLaw kl) {w : World} {b n : Nat} {k : TypeId} {σ : κ → Option Value} (hown : MapIs w P k kl b n σ) {t e : TypeId} (K : Keyed P k) (ht : P.underlying t = some (.map k e)) (hn : n < maxLen) {key : Value} {s : κ} (hkey : keyOf P k key = some (kl s)) (val : Value) :
    ∃ w', (Instr.mapUpdate t (.map (some b)) key val).run P w = .ok () w' ∧ MapIs w' P k kl b (n + 1) (upd σ s (some val)) ∧ w.grownBy w' (some b) := by
  obtain ⟨D, hD, hr⟩ := hown
  obtain ⟨w', h1, h2, h3⟩ := hD.update K ht hn hkey (val := val) (d := .held val) (ps := []) rfl
  exact ⟨w', h1, ⟨_, h2, hr.put KL hD.isMap s val⟩, h3⟩
/-- delete(m, k) -/
theorem wp_del (KL : KLaw kl) (hg : o.guard = none) (m x : Operand) (t k : TypeId) (hop : o.op = Op.call { callee := Callee.builtin Builtin.delete, args := #[m, x], argTypes := #[t, k] }) (e : TypeId) (K : Keyed P k) (ht : P.underlying t = some (.map k e)) (b n : Nat) (σ : κ → Option Value)
    (hm : a.eval m = .map (some b)) (hown : MapIs w P k kl b n σ) (key : Value) (s : κ) (hx : a.eval x = key) (hkey : keyOf P k key = some (kl s))
    (hK : ∀ w', MapIs w' P k kl b n (upd σ s none) → w.mapTurned w' b → wpList P ops Q rest (a.put o.dst (.tuple #[])) w') : wpList P ops Q (o :: rest) a w := by
  obtain ⟨D, hD, hr⟩ := hown
  exact wpList_delete_own w hg m x t k hop e K ht heldR b n D hm hD key (kl s) hx hkey fun w' h1 h2 => hK w' ⟨_, h1, hr.del KL s⟩ h2
end
/-! ### keys that are texts -/
def tKey (s : ByteArray) : Lit := .string s.data.toList
theorem tKey_law : KLaw tKey := ⟨fun {a b} e => by
  unfold tKey at e
  injection e with e
  obtain ⟨a⟩ := a
  obtain ⟨b⟩ := b
  rw [show a = b from Array.ext' e], fun _ => by trivial⟩
theorem tKey_of {s : ByteArray} (hs : s.size ≤ maxLen) : keyOf Tryd.prog 9 (.string s) = some (tKey s) := WideMaps.keyOf_string_mk Tryd.underlying9 hs
theorem strKeyed : Keyed Tryd.prog 9 := string_keyed Tryd.underlying9
end Go.Proofs.YtoklbofobcloaaaDoor
