/- Index: the table in memory; find (gen_ixd.py). -/
import Derived.Test.YtjeeljolhcoeoaaProg
import Derived.Test.YtjeeljolhcoeoaaBase
import Derived.Test.YtjeeljolhcoeoaaBytes
import Derived.Test.YtjeeljolhcoeoaaIxA
import Derived.Test.YtjeeljolhcoeoaaIxB
import Derived.Test.YtjeeljolhcoeoaaIxC
import Derived.Deep.QuietTactic
import Derived.BigQuiet
import Derived.OwnWalk
namespace Go.Proofs.Ytjeeljolhcoeoaa
open Go.RowKit
attribute [local go_sem] eql_fn_h eql_nn_h eql_fn_s eql_nn_s eql_fn_i eql_nn_i

/-- an entry: its block, key, value, hash -/
structure Ent where
  b : Nat
  key : Int
  val : Int
  hash : Int
def ptr (o : Option Nat) : Option Addr := o.map fun b => ⟨b, 0, none⟩
def prevB (es : List Ent) (i : Nat) : Option Nat := if i = 0 then none else (es[i - 1]?).map Ent.b
def nextB (es : List Ent) (i : Nat) : Option Nat := (es[i + 1]?).map Ent.b
def hashV (hb : Nat) : Value := .func (.func 42) #[] #[.pointer (some ⟨hb, 0, none⟩)]
def sameV (sb : Nat) : Value := .func (.func 44) #[] #[.pointer (some ⟨sb, 0, none⟩)]

/-- the cells of a table -/
def tabCs (P hb sb sz : Nat) (es : List Ent) : Array Value :=
  #[hashV hb, sameV sb, .slice (some ⟨P, 0, none⟩) sz sz, .pointer (ptr (es.head?.map Ent.b)), .pointer (ptr (es.getLast?.map Ent.b)), .int .i64 es.length]
def entCs (es : List Ent) (i : Nat) (e : Ent) : Array Value :=
  #[.int .i64 e.key, .int .i64 e.val, .int .u64 e.hash, .pointer (ptr (prevB es i)), .pointer (ptr (nextB es i))]
def plCs (sz : Nat) (pl : Nat → Option Nat) : Array Value := ((List.range sz).map fun j => Value.pointer (ptr (pl j))).toArray

structure Tab (w : World) (T P hb sb : Nat) (way : Int) (sz : Nat) (es : List Ent) (pl : Nat → Option Nat) : Prop where
  hT : w.heap[T]? = some (.cells (tabCs P hb sb sz es) 87)
  hP : w.heap[P]? = some (.cells (plCs sz pl) 85)
  hH : Boxed w hb 3 (.int .i64 way)
  hS : Boxed w sb 3 (.int .i64 way)
  hE : ∀ i (h : i < es.length), w.heap[es[i].b]? = some (.cells (entCs es i es[i]) 104)
  hpl : ∀ j, j < sz → ∀ b, pl j = some b → ∃ i, ∃ h : i < es.length, es[i].b = b
  hsz : 8 ≤ sz ∧ sz ≤ 35184372088832
  hN : ∀ i j, i < es.length → j < es.length → (es[i]?).map Ent.b = (es[j]?).map Ent.b → i = j
  hh : ∀ e, e ∈ es → e.hash = hashF way e.key

theorem Tab.below {w w' : World} {T P hb sb : Nat} {way : Int} {sz : Nat} {es : List Ent} {pl : Nat → Option Nat} (h : Tab w T P hb sb way sz es pl) (hb2 : Below w.heap.size w w') : Tab w' T P hb sb way sz es pl :=
  ⟨(hb2.block _ (Array.getElem?_eq_some_iff.1 h.hT).1).trans h.hT, (hb2.block _ (Array.getElem?_eq_some_iff.1 h.hP).1).trans h.hP, bx_below h.hH hb2, bx_below h.hS hb2,
    fun i hi => (hb2.block _ (Array.getElem?_eq_some_iff.1 (h.hE i hi)).1).trans (h.hE i hi), h.hpl, h.hsz, h.hN, h.hh⟩
theorem Tab.t0 {w : World} {T P hb sb : Nat} {way : Int} {sz : Nat} {es : List Ent} {pl : Nat → Option Nat} (h : Tab w T P hb sb way sz es pl) : w.cell? ⟨T, 0, none⟩ = some (hashV hb) := cell_of_row _ _ _ _ _ _ h.hT
theorem Tab.t1 {w : World} {T P hb sb : Nat} {way : Int} {sz : Nat} {es : List Ent} {pl : Nat → Option Nat} (h : Tab w T P hb sb way sz es pl) : w.cell? ⟨T, 1, none⟩ = some (sameV sb) := cell_of_row _ _ _ _ _ _ h.hT
theorem Tab.t2 {w : World} {T P hb sb : Nat} {way : Int} {sz : Nat} {es : List Ent} {pl : Nat → Option Nat} (h : Tab w T P hb sb way sz es pl) : w.cell? ⟨T, 2, none⟩ = some (.slice (some ⟨P, 0, none⟩) sz sz) := cell_of_row _ _ _ _ _ _ h.hT
theorem Tab.t3 {w : World} {T P hb sb : Nat} {way : Int} {sz : Nat} {es : List Ent} {pl : Nat → Option Nat} (h : Tab w T P hb sb way sz es pl) : w.cell? ⟨T, 3, none⟩ = some (.pointer (ptr (es.head?.map Ent.b))) := cell_of_row _ _ _ _ _ _ h.hT
theorem Tab.t4 {w : World} {T P hb sb : Nat} {way : Int} {sz : Nat} {es : List Ent} {pl : Nat → Option Nat} (h : Tab w T P hb sb way sz es pl) : w.cell? ⟨T, 4, none⟩ = some (.pointer (ptr (es.getLast?.map Ent.b))) := cell_of_row _ _ _ _ _ _ h.hT
theorem Tab.t5 {w : World} {T P hb sb : Nat} {way : Int} {sz : Nat} {es : List Ent} {pl : Nat → Option Nat} (h : Tab w T P hb sb way sz es pl) : w.cell? ⟨T, 5, none⟩ = some (.int .i64 es.length) := cell_of_row _ _ _ _ _ _ h.hT
theorem Tab.place {w : World} {T P hb sb : Nat} {way : Int} {sz : Nat} {es : List Ent} {pl : Nat → Option Nat} (h : Tab w T P hb sb way sz es pl) (j : Nat) (hj : j < sz) : w.cell? ⟨P, j, none⟩ = some (.pointer (ptr (pl j))) := by
  unfold World.cell?
  rw [h.hP]
  simp [plCs, hj]
theorem Tab.e0 {w : World} {T P hb sb : Nat} {way : Int} {sz : Nat} {es : List Ent} {pl : Nat → Option Nat} (h : Tab w T P hb sb way sz es pl) (i : Nat) (hi : i < es.length) : w.cell? ⟨es[i].b, 0, none⟩ = some (.int .i64 es[i].key) := cell_of_row _ _ _ _ _ _ (h.hE i hi)
theorem Tab.e1 {w : World} {T P hb sb : Nat} {way : Int} {sz : Nat} {es : List Ent} {pl : Nat → Option Nat} (h : Tab w T P hb sb way sz es pl) (i : Nat) (hi : i < es.length) : w.cell? ⟨es[i].b, 1, none⟩ = some (.int .i64 es[i].val) := cell_of_row _ _ _ _ _ _ (h.hE i hi)
theorem Tab.e2 {w : World} {T P hb sb : Nat} {way : Int} {sz : Nat} {es : List Ent} {pl : Nat → Option Nat} (h : Tab w T P hb sb way sz es pl) (i : Nat) (hi : i < es.length) : w.cell? ⟨es[i].b, 2, none⟩ = some (.int .u64 es[i].hash) := cell_of_row _ _ _ _ _ _ (h.hE i hi)

theorem ix_none {w : World} {T P hb sb : Nat} {way : Int} {sz : Nat} {es : List Ent} {pl : Nat → Option Nat} (h : Tab w T P hb sb way sz es pl) : Calls Try.prog 46 #[.pointer (some ⟨T, 0, none⟩)] w fun e w' => e = .returned (.bool false) ∧ w = w' := by
  have t0 := h.t0
  unfold hashV at t0
  go_enter Try.func46, Try.ntmps46
  go_wp2
  go_ret
  exact ⟨rfl, rfl⟩
theorem ix_len {w : World} {T P hb sb : Nat} {way : Int} {sz : Nat} {es : List Ent} {pl : Nat → Option Nat} (h : Tab w T P hb sb way sz es pl) : Calls Try.prog 23 #[.pointer (some ⟨T, 0, none⟩)] w fun e w' => e = .returned (.int .i64 es.length) ∧ w = w' := by
  have t5 := h.t5
  go_enter Try.func23, Try.ntmps23
  go_wp2_with (go_at_call 46; refine (ix_none h).mono ?_; rintro e w' ⟨rfl, rfl⟩)
  go_ret
  exact ⟨rfl, rfl⟩
theorem ix_size {w : World} {T P hb sb : Nat} {way : Int} {sz : Nat} {es : List Ent} {pl : Nat → Option Nat} (h : Tab w T P hb sb way sz es pl) : Calls Try.prog 22 #[.pointer (some ⟨T, 0, none⟩)] w fun e w' => e = .returned (.int .i64 sz) ∧ w = w' := by
  have t2 := h.t2
  go_enter Try.func22, Try.ntmps22
  go_wp2_with (go_at_call 46; refine (ix_none h).mono ?_; rintro e w' ⟨rfl, rfl⟩)
  go_ret
  exact ⟨rfl, rfl⟩
def homeN (hash : Int) (sz : Nat) : Nat := hash.toNat % sz
theorem ix_home {w : World} {T P hb sb : Nat} {way : Int} {sz : Nat} {es : List Ent} {pl : Nat → Option Nat} (h : Tab w T P hb sb way sz es pl) (hash : Int) (h0 : 0 ≤ hash) (h1 : hash < 18446744073709551616) : Calls Try.prog 64 #[.pointer (some ⟨T, 0, none⟩), .int .u64 hash] w fun e w' => e = .returned (.int .i64 (homeN hash sz : Nat)) ∧ w = w' := by
  have t2 := h.t2
  obtain ⟨z1, z2⟩ := h.hsz
  have hws : IntKind.u64.wrap (sz : Int) = sz := by rw [wrap_u64_eq]; omega
  have hne : ¬ (sz : Int) = 0 := by omega
  have hm0 := Int.emod_nonneg hash (b := (sz : Int)) (by omega)
  have hm1 := Int.emod_lt_of_pos hash (b := (sz : Int)) (by omega)
  have hw2 : IntKind.i64.wrap (hash % (sz : Int)) = hash % (sz : Int) := IntWalk.i64_in _ (by omega)
  have hr : Hid (hash % (sz : Int) = (homeN hash sz : Nat)) := Lib.hid (by obtain ⟨n, rfl⟩ := Int.eq_ofNat_of_zero_le h0; rfl)
  go_enter Try.func64, Try.ntmps64
  go_wp2
  go_ret
  exact ⟨ret_int hr.out, rfl⟩

/-- the way of find: the place, how many were looked at, whether it is there -/
def fnd (pl : Nat → Option Nat) (mt : Nat → Bool) (sz : Nat) : Nat → Nat → Nat → Nat × Nat × Bool
  | 0, j, seen => (j, seen, false)
  | f + 1, j, seen => match pl j with
    | none => (j, seen, false)
    | some b => if mt b then (j, seen, true) else fnd pl mt sz f ((j + 1) % sz) (seen + 1)
/-- does the entry of this block match? -/
def mtch (es : List Ent) (way key hash : Int) (b : Nat) : Bool := es.any fun e => e.b == b && (e.hash == hash && sameF way e.key key)

theorem mtch_at {w : World} {T P hb sb : Nat} {way : Int} {sz : Nat} {es : List Ent} {pl : Nat → Option Nat} (h : Tab w T P hb sb way sz es pl) (key hash : Int) (i : Nat) (hi : i < es.length) :
    mtch es way key hash es[i].b = (es[i].hash == hash && sameF way es[i].key key) := by
  unfold mtch
  have hall : ∀ e ∈ es, e.b = es[i].b → e.key = es[i].key ∧ e.hash = es[i].hash := by
    intro e he hb
    obtain ⟨k, hk, rfl⟩ := List.getElem_of_mem he
    have h1 := h.hE k hk
    rw [hb, h.hE i hi] at h1
    simp only [Option.some.injEq, Obj.cells.injEq, entCs, Array.mk.injEq, List.cons.injEq, Value.int.injEq, true_and] at h1
    exact ⟨h1.1.1.symm, h1.1.2.2.1.symm⟩
  rw [Bool.eq_iff_iff, List.any_eq_true]
  constructor
  · rintro ⟨e, he, hm⟩
    simp only [Bool.and_eq_true, beq_iff_eq] at hm ⊢
    obtain ⟨h1, h2⟩ := hall e he hm.1
    rw [← h1, ← h2]; exact hm.2
  · intro hm
    exact ⟨es[i], List.getElem_mem hi, by rw [beq_self_eq_true, Bool.true_and]; exact hm⟩
theorem fnd_none {pl : Nat → Option Nat} {mt : Nat → Bool} {sz f j seen : Nat} (h : pl j = none) (hf : 0 < f) : fnd pl mt sz f j seen = (j, seen, false) := by
  cases f with
  | zero => omega
  | succ f => rw [fnd, h]
theorem fnd_hit {pl : Nat → Option Nat} {mt : Nat → Bool} {sz f j seen b : Nat} (h : pl j = some b) (hm : mt b = true) (hf : 0 < f) : fnd pl mt sz f j seen = (j, seen, true) := by
  cases f with
  | zero => omega
  | succ f => rw [fnd, h]; simp [hm]
theorem fnd_next {pl : Nat → Option Nat} {mt : Nat → Bool} {sz f j seen b : Nat} (h : pl j = some b) (hm : mt b = false) (hf : 0 < f) : fnd pl mt sz f j seen = fnd pl mt sz (f - 1) ((j + 1) % sz) (seen + 1) := by
  cases f with
  | zero => omega
  | succ f => rw [fnd, h]; simp [hm]

def FFrame (T : Nat) (key hash : Int) (at_ seen : Value) (a : Act) : Prop := ∃ f : Nat → Value, a = { tmps := #[.pointer (some ⟨T, 0, none⟩), .int .i64 key, .int .u64 hash, f 3, f 4, f 5, .int .i64 0, .int .i64 0, .bool false, at_, seen, f 11, f 12, f 13, f 14, f 15, f 16, f 17, f 18, f 19, f 20, f 21, f 22, f 23, f 24, f 25, f 26, f 27, f 28, f 29, f 30, f 31, f 32, f 33, f 34, f 35, f 36, f 37, f 38, f 39, f 40, f 41, f 42, f 43, f 44, f 45, f 46, f 47, f 48, f 49, f 50, f 51, f 52, f 53, f 54, f 55], defers := [] }
theorem FFrame.mk {T : Nat} {key hash : Int} {at_ seen : Value} {a : Act} (h : a = { tmps := #[.pointer (some ⟨T, 0, none⟩), .int .i64 key, .int .u64 hash, a.tmps.getD 3 undef, a.tmps.getD 4 undef, a.tmps.getD 5 undef, .int .i64 0, .int .i64 0, .bool false, at_, seen, a.tmps.getD 11 undef, a.tmps.getD 12 undef, a.tmps.getD 13 undef, a.tmps.getD 14 undef, a.tmps.getD 15 undef, a.tmps.getD 16 undef, a.tmps.getD 17 undef, a.tmps.getD 18 undef, a.tmps.getD 19 undef, a.tmps.getD 20 undef, a.tmps.getD 21 undef, a.tmps.getD 22 undef, a.tmps.getD 23 undef, a.tmps.getD 24 undef, a.tmps.getD 25 undef, a.tmps.getD 26 undef, a.tmps.getD 27 undef, a.tmps.getD 28 undef, a.tmps.getD 29 undef, a.tmps.getD 30 undef, a.tmps.getD 31 undef, a.tmps.getD 32 undef, a.tmps.getD 33 undef, a.tmps.getD 34 undef, a.tmps.getD 35 undef, a.tmps.getD 36 undef, a.tmps.getD 37 undef, a.tmps.getD 38 undef, a.tmps.getD 39 undef, a.tmps.getD 40 undef, a.tmps.getD 41 undef, a.tmps.getD 42 undef, a.tmps.getD 43 undef, a.tmps.getD 44 undef, a.tmps.getD 45 undef, a.tmps.getD 46 undef, a.tmps.getD 47 undef, a.tmps.getD 48 undef, a.tmps.getD 49 undef, a.tmps.getD 50 undef, a.tmps.getD 51 undef, a.tmps.getD 52 undef, a.tmps.getD 53 undef, a.tmps.getD 54 undef, a.tmps.getD 55 undef], defers := [] }) : FFrame T key hash at_ seen a := ⟨fun i => a.tmps.getD i undef, h⟩
def slotS (a : Act) : Nat := (intOf (a.tmps.getD 10 undef)).toNat
def FJ (T : Nat) (key hash : Int) (pl : Nat → Option Nat) (mt : Nat → Bool) (sz : Nat) (R : Nat × Nat × Bool) (w : World) (l : Nat) (a : Act) (wr : World) : Prop :=
  l = 0 ∧ ∃ j seen : Nat, FFrame T key hash (.int .i64 j) (.int .i64 seen) a ∧ j < sz ∧ 1 ≤ seen ∧ seen ≤ sz ∧ Hid (fnd pl mt sz (sz + 1 - seen) j seen = R) ∧ Hid (∃ d, d < sz + 1 - seen ∧ pl ((j + d) % sz) = none) ∧ Drawn w wr
theorem free_from {pl : Nat → Option Nat} {sz q j : Nat} (hq : q < sz) (hj : j < sz) (h : pl q = none) : ∃ d, d < sz ∧ pl ((j + d) % sz) = none := by
  rcases Nat.lt_or_ge q j with h1 | h1
  · exact ⟨q + sz - j, by omega, by rw [show j + (q + sz - j) = q + sz from by omega, Nat.add_mod_right, Nat.mod_eq_of_lt hq]; exact h⟩
  · exact ⟨q - j, by omega, by rw [show j + (q - j) = q from by omega, Nat.mod_eq_of_lt hq]; exact h⟩
theorem free_next {pl : Nat → Option Nat} {sz j f : Nat} (hj : j < sz) {b : Nat} (hb : pl j = some b) (h : ∃ d, d < f ∧ pl ((j + d) % sz) = none) : ∃ d, d < f - 1 ∧ pl (((j + 1) % sz + d) % sz) = none := by
  obtain ⟨d, hd, hp⟩ := h
  cases d with
  | zero => rw [Nat.add_zero, Nat.mod_eq_of_lt hj, hb] at hp; cases hp
  | succ d => exact ⟨d, by omega, by rw [Nat.mod_add_mod, show j + 1 + d = j + (d + 1) from by omega]; exact hp⟩

set_option maxRecDepth 100000 in
set_option maxHeartbeats 8000000 in
theorem ix_find {w : World} {T P hb sb : Nat} {way : Int} {sz : Nat} {es : List Ent} {pl : Nat → Option Nat} (h : Tab w T P hb sb way sz es pl) (key hash : Int) (h0 : 0 ≤ hash) (h1 : hash < 18446744073709551616) (hfree : ∃ q, q < sz ∧ pl q = none)
    {R : Nat × Nat × Bool} (hR : fnd pl (mtch es way key hash) sz sz (homeN hash sz) 1 = R) :
    Calls Try.prog 47 #[.pointer (some ⟨T, 0, none⟩), .int .i64 key, .int .u64 hash] w fun e w' => e = .returned (.tuple #[.int .i64 R.1, .int .i64 R.2.1, .bool R.2.2]) ∧ Drawn w w' := by
  obtain ⟨z1, z2⟩ := h.hsz
  have hhome : homeN hash sz < sz := Nat.mod_lt _ (by omega)
  obtain ⟨q, hq, hqn⟩ := hfree
  have hd0 := Lib.hid (free_from hq hhome hqn)
  replace hR := Lib.hid hR
  go_enter Try.func47, Try.ntmps47
  go_wp2_with fail
  refine wp_scope_labels1 (fun Y => .seq _ (.seq _ (.seq (.label 0) Y))) (FJ T key hash pl (mtch es way key hash) sz R w) (fun _ a _ => sz + 1 - slotS a) ?_ rfl rfl ?_ ?_
  · rintro l a wr ⟨rfl, _⟩; decide
  · intro Y hY
    go_wp2_with fail
    refine (ix_home h hash h0 h1).mono ?_
    rintro e w1 ⟨rfl, rfl⟩
    go_wp2_with fail
    go_step3
    go_wp2_with fail
    refine hY _ _ ?_
    exact ⟨rfl, homeN hash sz, 1, .mk rfl, hhome, Nat.le_refl _, by omega, by rw [Nat.add_sub_cancel]; exact hR, by rw [Nat.add_sub_cancel]; exact hd0, Drawn.refl _⟩
  · rintro a wr ⟨_, j, seen, ⟨f, rfl⟩, hj, hs1, hs2, hf, hfr, hdr⟩
    have hw := Lib.hid (h.below (hdr.below _))
    have t1 := hw.out.t1
    have t2 := hw.out.t2
    unfold sameV at t1
    have hp := hw.out.place j hj
    have hwj : IntKind.i64.wrap ((j : Int) + 1) = (j : Int) + 1 := IntWalk.i64_in _ (by omega)
    have hws : IntKind.i64.wrap ((seen : Int) + 1) = (seen : Int) + 1 := IntWalk.i64_in _ (by omega)
    have hne : ¬ (sz : Int) = 0 := by omega
    cases hpj : pl j with
    | none =>
      rw [hpj] at hp
      change wr.cell? _ = some (Value.pointer none) at hp
      have hres := Lib.hid (hf.out.symm.trans (fnd_none hpj (by omega)))
      clear hf hfr hpj
      go_wp2
      simp only [Exit.jumps]
      go_ret3
      exact ⟨by rw [hres.out]; rfl, hdr⟩
    | some b =>
      obtain ⟨i, hi, rfl⟩ := h.hpl j hj b hpj
      rw [hpj] at hp
      change wr.cell? _ = some (Value.pointer (some ⟨es[i].b, 0, none⟩)) at hp
      have e0 := hw.out.e0 i hi
      have e2 := hw.out.e2 i hi
      have hm := mtch_at h key hash i hi
      have hfn := Lib.hid (free_next hj hpj hfr.out)
      obtain ⟨B, hB⟩ : ∃ B, es[i].b = B := ⟨_, rfl⟩
      obtain ⟨K, hK⟩ : ∃ K, es[i].key = K := ⟨_, rfl⟩
      obtain ⟨H, hH⟩ : ∃ H, es[i].hash = H := ⟨_, rfl⟩
      rw [hB] at hp e0 e2 hpj hm
      rw [hK] at e0 hm
      rw [hH] at e2 hm
      clear hfr hB hK hH
      have hnext := Lib.hid fun hmf => (fnd_next (f := sz + 1 - seen) (seen := seen) (sz := sz) (mt := mtch es way key hash) hpj hmf (by omega)).symm.trans hf.out
      have hhit := Lib.hid fun hmt => hf.out.symm.trans (fnd_hit (f := sz + 1 - seen) (seen := seen) (sz := sz) (mt := mtch es way key hash) hpj hmt (by omega))
      replace hpj := Lib.hid hpj
      clear hf
      obtain ⟨Sm, hSm⟩ : ∃ Sm, sameF way K key = Sm := ⟨_, rfl⟩
      rw [hSm] at hm
      have q1 : Hid (∀ n, Calls Try.prog 44 #[.int .i64 K, .int .i64 key, .pointer (some ⟨sb, 0, none⟩)] (wr.drewN n) fun e w' => e = .returned (.bool Sm) ∧ ∃ m, w' = wr.drewN m) :=
        fun n => Calls.quiet_of_same ((ix_same way K key sb (wr.drewN n) ((hw.out.below (below_drewN (Below.refl _ _) n)).hS.cell)).mono fun e w' hh => ⟨by rw [← hSm]; exact hh.1, hh.2.symm⟩)
      replace hSm := Lib.hid hSm
      by_cases hhe : H = hash
      · have g1 : (H == hash) = true := beq_iff_eq.2 hhe
        rw [g1, Bool.true_and] at hm
        clear hhe
        go_wp2_with fail
        go_quiet ((go_at_call 44; with_reducible exact q1.out _))
        have hdr2 := Lib.hid (hdr.step nq)
        have t2b : (wr.drewN nq).cell? ⟨T, 2, none⟩ = some (.slice (some ⟨P, 0, none⟩) sz sz) := cell_below (below_drewN (Below.refl _ _) nq) rfl t2
        generalize wr.drewN nq = wq at hdr2 t2b ⊢
        cases Sm with
        | true =>
          have hres := Lib.hid (hhit.out hm)
          clear hnext hhit q1 hp e0 e2 t1 t2
          go_wp2
          simp only [Exit.jumps]
          go_ret3
          exact ⟨by rw [hres.out]; rfl, hdr2.out⟩
        | false =>
          have hres := Lib.hid (hnext.out hm)
          clear hnext hhit q1 hp e0 e2 t1 t2
          obtain ⟨d, hd1, hd2⟩ := hfn.out
          replace hfn := Lib.hid (show ∃ d, d < sz + 1 - (seen + 1) ∧ pl (((j + 1) % sz + d) % sz) = none from ⟨d, by omega, hd2⟩)
          have hs3 : seen + 1 ≤ sz := by omega
          clear hd1 hd2
          rw [show sz + 1 - seen - 1 = sz + 1 - (seen + 1) from by omega] at hres
          go_wp2
          go_step3
          exact ⟨⟨rfl, (j + 1) % sz, seen + 1, .mk rfl, Nat.mod_lt _ (by omega), by omega, hs3, hres, hfn, hdr2.out⟩, by simp [slotS, intOf]; omega⟩
      · have g1 : (H == hash) = false := beq_eq_false_iff_ne.2 hhe
        rw [g1, Bool.false_and] at hm
        clear hhe
        go_wp2_with fail
        go_quiet (fail)
        have hdr2 := Lib.hid (hdr.step nq)
        have t2b : (wr.drewN nq).cell? ⟨T, 2, none⟩ = some (.slice (some ⟨P, 0, none⟩) sz sz) := cell_below (below_drewN (Below.refl _ _) nq) rfl t2
        generalize wr.drewN nq = wq at hdr2 t2b ⊢
        have hres := Lib.hid (hnext.out hm)
        clear hnext hhit q1 hp e0 e2 t1 t2
        obtain ⟨d, hd1, hd2⟩ := hfn.out
        replace hfn := Lib.hid (show ∃ d, d < sz + 1 - (seen + 1) ∧ pl (((j + 1) % sz + d) % sz) = none from ⟨d, by omega, hd2⟩)
        have hs3 : seen + 1 ≤ sz := by omega
        clear hd1 hd2
        rw [show sz + 1 - seen - 1 = sz + 1 - (seen + 1) from by omega] at hres
        go_wp2
        go_step3
        exact ⟨⟨rfl, (j + 1) % sz, seen + 1, .mk rfl, Nat.mod_lt _ (by omega), by omega, hs3, hres, hfn, hdr2.out⟩, by simp [slotS, intOf]; omega⟩

end Go.Proofs.Ytjeeljolhcoeoaa
