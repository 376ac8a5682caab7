/- Plain words for slices of integers, and small laws on lists and worlds; no program in sight. -/
import Derived.WalkKit
import Derived.WalkSpells
import Derived.WalkLawsBesides
import Derived.Lib.Hide
import Derived.WalkSmall
import Derived.Laws.AppendOwnNone
import Derived.Laws.CopyOwn
import Derived.Deep.Draws
namespace Go.Proofs.YtoklbofobcloaaaDoor
open Go.RowKit

/-- The number at a place of a list, 0 beyond it. -/
def nth (l : List Int) (i : Nat) : Int := l.getD i 0

theorem nth_eq (l : List Int) (i : Nat) (h : i < l.length) : nth l i = l[i] := by simp [nth, h]
theorem nth_beyond (l : List Int) (i : Nat) (h : l.length ≤ i) : nth l i = 0 := by simp [nth, h]
theorem drop_nth (l : List Int) (j : Nat) (h : j < l.length) : l.drop j = nth l j :: l.drop (j + 1) := by
  rw [List.drop_eq_getElem_cons h, nth_eq l j h]
theorem take_nth (l : List Int) (j : Nat) (h : j < l.length) : l.take (j + 1) = l.take j ++ [nth l j] := by
  rw [List.take_succ_eq_append_getElem h, nth_eq l j h]

/-- A slice whose cells are at a: the numbers zs, of kind k. -/
structure Ints (k : IntKind) (w : World) (a : Option Addr) (zs : List Int) : Prop where
  len : zs.length ≤ 17592186044200
  cells : ∀ i, i < zs.length → ∃ b off, a = some ⟨b, off, none⟩ ∧ w.cell? ⟨b, off + i, none⟩ = some (.int k (nth zs i))
  wf : ∀ i, i < zs.length → k.wrap (nth zs i) = nth zs i

theorem cell_lt {w : World} {p : Addr} {v : Value} (h : w.cell? p = some v) : p.block < w.heap.size := by
  unfold World.cell? at h
  rcases Nat.lt_or_ge p.block w.heap.size with h' | h'
  · exact h'
  · rw [Array.getElem?_eq_none h'] at h; cases h

theorem cell_below {B : Nat} {w w' : World} (h : Below B w w') (hB : B = w.heap.size) {p : Addr} {v : Value} (hc : w.cell? p = some v) : w'.cell? p = some v := by
  subst hB; rw [h.cell (cell_lt hc)]; exact hc

theorem Ints.below {k : IntKind} {w w' : World} {a : Option Addr} {zs : List Int} (h : Ints k w a zs) (hb : Below w.heap.size w w') : Ints k w' a zs :=
  ⟨h.len, fun i hi => let ⟨b, off, ha, hc⟩ := h.cells i hi; ⟨b, off, ha, cell_below hb rfl hc⟩, h.wf⟩

theorem wrap_i64_bounds {z : Int} (h : IntKind.i64.wrap z = z) : -9223372036854775808 ≤ z ∧ z ≤ 9223372036854775807 := by
  rw [IntKind.wrap_i64] at h; omega
theorem wrap_u64_eq (n : Int) : IntKind.u64.wrap n = n % 18446744073709551616 := by simp [IntKind.wrap, IntKind.bits, IntKind.signed]
theorem wrap_u64_range (n : Int) : 0 ≤ IntKind.u64.wrap n ∧ IntKind.u64.wrap n < 18446744073709551616 := by
  rw [wrap_u64_eq]; omega

theorem ret_int {k : IntKind} {a b : Int} (h : a = b) : Ending.returned (.int k a) = .returned (.int k b) := by rw [h]
theorem ret_bool {a b : Bool} (h : a = b) : Ending.returned (.bool a) = .returned (.bool b) := by rw [h]

/-- The world but for what was drawn from the tape. -/
def Drawn (w w' : World) : Prop := ∃ n, w' = w.drewN n
theorem Drawn.refl (w : World) : Drawn w w := ⟨0, rfl⟩
theorem Drawn.step {w w1 : World} (h : Drawn w w1) (n : Nat) : Drawn w (w1.drewN n) := by
  obtain ⟨m, rfl⟩ := h; exact ⟨m + n, by rw [World.drewN_drewN]⟩
theorem Drawn.drew {w w1 : World} (h : Drawn w w1) : Drawn w w1.drew := h.step 1
theorem Drawn.trans {w w1 w2 : World} (h : Drawn w w1) (k : Drawn w1 w2) : Drawn w w2 := by
  obtain ⟨n, rfl⟩ := k; exact h.step n
theorem Drawn.below {w w' : World} (h : Drawn w w') (B : Nat) : Below B w w' := by
  obtain ⟨n, rfl⟩ := h; exact below_drewN (Below.refl _ _) n

/-- 'append(s, x...)', s nil or the call's own; x whatever slice, nil too. -/
theorem wpList_append_src {P : Program} (w : World) {ops : Array Oper} {rest : List Oper} {o : Oper} {a : Act} {Q : Exit → Act → World → Prop} (hgd : o.guard = none) (s x : Operand) (t : TypeId)
    (ho : o.op = .call { callee := .builtin .append, args := #[s, x], argTypes := #[t, t] })
    (base : Nat) (e : TypeId) (i : TypeInfo) (z : Value) (size bytes : Nat) (ht : P.underlying t = some (.slice e)) (hi : P.info? e = some i) (hz : i.zero = some z)
    (hsize : i.size = size) (hby : i.bytes = bytes) (hzs : z.cells.size = size) (hsz : 0 < size)
    (v : Value) (n : Nat) (xs : List Value) (hs : a.eval s = v) (hown : w.ownsRow base e size v n xs)
    (ao : Option Addr) (m c : Nat) (news : List Value) (hx : a.eval x = .slice ao m c) (hn : ao = none → m = 0 ∧ c = 0) (hl : news.length = m * size)
    (hnews : ∀ ad, ao = some ad → ∀ j u, news[j]? = some u → w.cell? (ad.add j) = some u) (h1 : ∀ u ∈ news, u.oneCell' = true)
    (h63 : n + m ≤ maxLen) (hbytes : (n + m) * bytes ≤ 140737488355328) (hbase : base ≤ w.heap.size)
    (h : ∀ v' w', w'.ownsRow base e size v' (n + m) (xs ++ news) → w.grownBy w' v.ownBlock → (v' = .slice none 0 0 ↔ v = .slice none 0 0 ∧ m = 0) → wpList P ops Q rest (a.put o.dst v') w') : wpList P ops Q (o :: rest) a w := by
  cases ao with
  | some ad => exact wpList_append_own w hgd s x t ho base e i z size bytes ht hi hz hsize hby hzs hsz v n xs hs hown ad m c news hx hl (hnews ad rfl) h1 h63 hbytes hbase h
  | none =>
    obtain ⟨rfl, rfl⟩ := hn rfl
    obtain rfl : news = [] := by simpa using hl
    refine wpList_append_own_none hgd s x t ho base e i size ht hi v n xs hs hown hx ?_
    exact h v w (by simpa using hown) (World.grownBy.refl _ _) (by simp)

/-- the own block of a row lies from its base on. -/
theorem own_ge {w : World} {base : Nat} {e : TypeId} {size : Nat} {v : Value} {n : Nat} {xs : List Value} (h : w.ownsRow base e size v n xs) : ∀ k, v.ownBlock = some k → base ≤ k := fun k hk => (h.lt k hk).1

theorem ints_one (k : IntKind) (zs : List Int) : ∀ u ∈ zs.map (Value.int k), u.oneCell' = true := by
  intro u hu
  obtain ⟨z, _, rfl⟩ := List.mem_map.1 hu
  rfl

theorem addr_add (b off j : Nat) : (⟨b, off, none⟩ : Addr).add j = ⟨b, off + j, none⟩ := by
  unfold Addr.add; split <;> simp_all

theorem Ints.news {k : IntKind} {w : World} {a : Option Addr} {zs : List Int} (h : Ints k w a zs) : ∀ ad, a = some ad → ∀ j u, (zs.map (Value.int k))[j]? = some u → w.cell? (ad.add j) = some u := by
  intro ad had j u hu
  rw [List.getElem?_map] at hu
  obtain ⟨z, hz, rfl⟩ := Option.map_eq_some_iff.1 hu
  obtain ⟨hj, hz⟩ := List.getElem?_eq_some_iff.1 hz
  obtain ⟨b, off, ha, hc⟩ := h.cells j hj
  rw [had] at ha
  injection ha with ha
  subst ha
  rw [addr_add, hc, nth_eq zs j hj, hz]

theorem Ints.of_own {k : IntKind} {w : World} {base : Nat} {e : TypeId} {g n cap : Nat} {zs more : List Int} (h : w.ownsRow base e 1 (.slice (some ⟨g, 0, none⟩) n cap) n ((zs ++ more).map (Value.int k)))
    (hl : zs.length ≤ 17592186044200) (hw : ∀ i, i < zs.length → k.wrap (nth zs i) = nth zs i) : Ints k w (some ⟨g, 0, none⟩) zs := by
  refine ⟨hl, fun i hi => ⟨g, 0, rfl, ?_⟩, hw⟩
  have hn : n = zs.length + more.length := by have := h.1; simp at this; omega
  rw [Nat.zero_add, h.cellAt i (by omega), nth_eq zs i hi]
  simp [List.getElem?_append, hi]

/-- one more number behind an owned row -/
theorem own_cells_one {w : World} {u : Value} {e : TypeId} : ∀ j x, ([u] : List Value)[j]? = some x → (w.alloc (.cells #[u] e)).cell? ((⟨w.heap.size, 0, none⟩ : Addr).add j) = some x := by
  intro j x hx
  match j, hx with
  | 0, hx => simp at hx; subst hx; simp [Addr.add]

theorem not_nil_some {w : World} {base : Nat} {e : TypeId} {size : Nat} {v : Value} {n : Nat} {xs : List Value} (h : w.ownsRow base e size v n xs) (hn : v ≠ .slice none 0 0) :
    ∃ g cap, v = .slice (some ⟨g, 0, none⟩) n cap ∧ base ≤ g ∧ g < w.heap.size ∧ n ≤ cap ∧ cap ≤ maxLen := by
  rcases h.2 with ⟨h1, _⟩ | ⟨g, cap, cur, rfl, hb, hg, hc, hm, _⟩
  · exact absurd h1 hn
  · exact ⟨g, cap, rfl, hb, (Array.getElem?_eq_some_iff.1 hg).1, hc, hm⟩

theorem wpList_store_row {P : Program} {ops : Array Oper} {rest : List Oper} {o : Oper} {a : Act} {w : World} {Q : Exit → Act → World → Prop} (hgd : o.guard = none) (ty : TypeId) (x y : Operand)
    (ho : o.op = .store ty x y) (g : Nat) (cells : Array Value) (hx : a.eval x = .pointer (some ⟨g, 0, none⟩)) (hy : a.eval y = .agg cells) (t : TypeId)
    (old : Array Value) (hg : w.heap[g]? = some (.cells old t)) (hi : (P.info? ty).map (fun x => x.size) = some cells.size) (hold : old.size = cells.size)
    (h1 : (cells.all fun x => x.oneCell') = true) (h : wpList P ops Q rest (a.put o.dst undef) (w.setRow g cells)) : wpList P ops Q (o :: rest) a w :=
  wpList_plain hgd fun _ hK => wp_store_row ty x y ho g cells hx hy t old hg hi hold h1 (hK _ _ h)

theorem all_range_ints : ∀ (xs ys : List Int), xs.length = ys.length → ((List.range xs.length).all fun i => nth xs i == nth ys i) = (xs == ys)
  | [], [], _ => rfl
  | x :: xs, y :: ys, h => by
    have ih := all_range_ints xs ys (by simpa using h)
    have e : (List.range xs.length).all (fun i => nth (x :: xs) (i + 1) == nth (y :: ys) (i + 1)) = (List.range xs.length).all fun i => nth xs i == nth ys i := by
      congr 1
    rw [List.length_cons, List.range_succ_eq_map, List.all_cons, List.all_map]
    show ((nth (x :: xs) 0 == nth (y :: ys) 0) && (List.range xs.length).all fun i => nth (x :: xs) (i + 1) == nth (y :: ys) (i + 1)) = _
    rw [e, ih]
    rfl
  | [], _ :: _, h => by simp at h
  | _ :: _, [], h => by simp at h

theorem run_equalIn_ints {P : Program} (w : World) (d : Nat) (t e : TypeId) (n : Nat) (k : IntKind) (ht : P.underlying t = some (.array n e)) (he : P.underlying e = some (.int k)) (hsz : ∀ w, (sizeOf e).run P w = .ok 1 w)
    (xs ys : List Int) (hx : xs.length = n) (hy : ys.length = n) :
    (Op.equalIn (d + 2) t (.agg (xs.map (Value.int k)).toArray) (.agg (ys.map (Value.int k)).toArray)).run P w = .ok (xs == ys) w := by
  rw [← all_range_ints xs ys (hx.trans hy.symm), hx, List.range_eq_range', Op.equalIn]
  simp only [Sem.run_bind, run_underlying ht, Result.andThen_ok, hsz, Std.Legacy.Range.forIn_eq_forIn_range', Std.Legacy.Range.size, Nat.sub_zero, Nat.add_sub_cancel, Nat.div_one]
  have hl : ∀ i ∈ List.range' 0 n 1, i < n := fun i hi => by simpa using (List.mem_range'_1.1 hi).2
  generalize List.range' 0 n 1 = l at hl ⊢
  induction l with
  | nil => simp
  | cons i l ih =>
    have hi : i < n := hl i (by simp)
    have px : (part e (xs.map (Value.int k)).toArray (i * 1)).run P w = .ok (.int k (nth xs i)) w := by
      simp [part, isAgg, run_underlying he, nth_eq xs i (by omega), List.getElem?_eq_getElem (show i < xs.length by omega)]
    have py : (part e (ys.map (Value.int k)).toArray (i * 1)).run P w = .ok (.int k (nth ys i)) w := by
      simp [part, isAgg, run_underlying he, nth_eq ys i (by omega), List.getElem?_eq_getElem (show i < ys.length by omega)]
    have pe : (Op.equalIn (d + 1) e (.int k (nth xs i)) (.int k (nth ys i))).run P w = .ok (nth xs i == nth ys i) w :=
      run_equalIn_int w d e k k _ _ he
    simp only [List.forIn_cons, Sem.run_bind, px, py, pe, Result.andThen_ok, List.all_cons]
    cases hb : (nth xs i == nth ys i)
    · simp
    · simp only [Bool.not_true, Bool.false_eq_true, if_false, Sem.run_pure, Result.andThen_ok, Bool.true_and]
      exact ih fun j hj => hl j (by simp [hj])

theorem run_eql_ints {P : Program} (w : World) (t e : TypeId) (n : Nat) (k : IntKind) (ht : P.underlying t = some (.array n e)) (he : P.underlying e = some (.int k)) (hsz : ∀ w, (sizeOf e).run P w = .ok 1 w)
    (xs ys : List Int) (hx : xs.length = n) (hy : ys.length = n) :
    (binOp .eql t (.agg (xs.map (Value.int k)).toArray) (.agg (ys.map (Value.int k)).toArray)).run P w = .ok (.bool (xs == ys)) w := by
  rw [run_eql_struct, run_equalIn_ints w 9998 t e n k ht he hsz xs ys hx hy]
  rfl

/-- a whole row stored; of the new world it is said what it holds. -/
theorem wpList_store_rowA {P : Program} {ops : Array Oper} {rest : List Oper} {o : Oper} {a : Act} {w : World} {Q : Exit → Act → World → Prop} (hgd : o.guard = none) (ty : TypeId) (x y : Operand)
    (ho : o.op = .store ty x y) (g : Nat) (cells : Array Value) (hx : a.eval x = .pointer (some ⟨g, 0, none⟩)) (hy : a.eval y = .agg cells) (t : TypeId)
    (old : Array Value) (hg : w.heap[g]? = some (.cells old t)) (hi : (P.info? ty).map (fun x => x.size) = some cells.size) (hold : old.size = cells.size)
    (h1 : (cells.all fun x => x.oneCell') = true)
    (h : ∀ w', Hid (w'.heap[g]? = some (.cells cells t)) → w.grownBy w' (some g) → Hid (w'.heap.size = w.heap.size) → wpList P ops Q rest (a.put o.dst undef) w') : wpList P ops Q (o :: rest) a w :=
  wpList_store_row hgd ty x y ho g cells hx hy t old hg hi hold h1 (h _ (setRow_heap _ _ _ _ _ _ hg)
    ⟨setRow_os _ _ _, setRow_tape _ _ _, setRow_output _ _ _, by rw [setRow_size]; exact Nat.le_refl _, fun k _ hk => setRow_other _ _ _ _ (fun e => hk (by rw [e]))⟩ (setRow_size _ _ _))

theorem _root_.Go.RowKit.Below.drewN {B : Nat} {a w : World} (h : Below B a w) (n : Nat) : Below B a (w.drewN n) := below_drewN h n

theorem _root_.Go.RowKit.Below.al {a w : World} (h : Below a.heap.size a w) (o : Obj) : Below a.heap.size a (w.alloc o) := h.alloc h.size o

theorem own_below {w w' : World} {base : Nat} {e : TypeId} {size : Nat} {v : Value} {n : Nat} {xs : List Value} (h : w.ownsRow base e size v n xs) (hb : Below w.heap.size w w') : w'.ownsRow base e size v n xs := by
  refine ⟨h.1, ?_⟩
  rcases h.2 with hn | ⟨g, cap, cur, rfl, hg, hh, r⟩
  · exact .inl hn
  · exact .inr ⟨g, cap, cur, rfl, hg, (hb.block g (Array.getElem?_eq_some_iff.1 hh).1).trans hh, r⟩
theorem wrap_i64_idem (n : Int) : IntKind.i64.wrap (IntKind.i64.wrap n) = IntKind.i64.wrap n := by
  rw [IntKind.wrap_i64 (IntKind.i64.wrap n), IntKind.wrap_i64 n]; omega

theorem wpList_wanted {P : Program} {ops : Array Oper} {rest : List Oper} {o : Oper} {a : Act} {w : World} {Q : Exit → Act → World → Prop} (hw : Region.wanted o (yielded ops a.tmps) = true)
    (h : ∀ K : Act → World → Prop, (∀ a w, wpList P ops Q rest a w → K a w) → o.wp P a w K Q) : wpList P ops Q (o :: rest) a w :=
  wpList_step fun K hK => by rw [if_pos hw]; exact h K hK

/-- a whole row loaded, under a guard that says yes. -/
theorem wpList_load_rowG {P : Program} {ops : Array Oper} {rest : List Oper} {o : Oper} {a : Act} {w : World} {Q : Exit → Act → World → Prop} (hw : Region.wanted o (yielded ops a.tmps) = true)
    (ty : TypeId) (x : Operand) (ho : o.op = .load ty x) (g : Nat) (hx : a.eval x = .pointer (some ⟨g, 0, none⟩)) (t : TypeId) (cs : Array Value) (fr : Nat × Nat) (d : TypeDesc)
    (hg : w.heap[g]? = some (.cells cs t fr)) (hu : P.underlying ty = some d) (hd : (match d, hu with | .struct _, _ => true | .array _ _, _ => true | _, _ => false) = true)
    (hi : (P.info? ty).map (fun x => x.size) = some cs.size) (h : wpList P ops Q rest (a.put o.dst (.agg cs)) w) : wpList P ops Q (o :: rest) a w :=
  wpList_wanted hw fun _ hK => wp_load_row ty x ho g hx t cs fr d hg hu hd hi (hK _ _ h)

/-- a list written out, just laid. -/
theorem ints_lit (k : IntKind) (w : World) (e : TypeId) (zs : List Int) (hl : zs.length ≤ 17592186044200) (hw : ∀ i, i < zs.length → k.wrap (nth zs i) = nth zs i) :
    Ints k (w.alloc (.cells (zs.map (Value.int k)).toArray e)) (some ⟨w.heap.size, 0, none⟩) zs := by
  refine ⟨hl, fun i hi => ⟨w.heap.size, 0, rfl, ?_⟩, hw⟩
  rw [Nat.zero_add, cell_of_row _ _ _ _ _ (0, 0) (heap_alloc_new w _)]
  simp [nth_eq zs i hi]

theorem Ints.own {k : IntKind} {w : World} {base : Nat} {e : TypeId} {g n cap : Nat} {zs : List Int} (h : w.ownsRow base e 1 (.slice (some ⟨g, 0, none⟩) n cap) n (zs.map (Value.int k)))
    (hl : zs.length ≤ 17592186044200) (hw : ∀ i, i < zs.length → k.wrap (nth zs i) = nth zs i) : Ints k w (some ⟨g, 0, none⟩) zs :=
  Ints.of_own (more := []) (by rw [List.append_nil]; exact h) hl hw

theorem own_shape {w : World} {base : Nat} {e : TypeId} {size : Nat} {v : Value} {n : Nat} {xs : List Value} (h : w.ownsRow base e size v n xs) (hn : 0 < n) :
    ∃ g cap, v = .slice (some ⟨g, 0, none⟩) n cap ∧ base ≤ g ∧ g < w.heap.size ∧ n ≤ cap ∧ cap ≤ maxLen :=
  not_nil_some h (by rintro rfl; rcases h.2 with ⟨_, h2⟩ | ⟨g, cap, cur, h2, _⟩
                     · omega
                     · cases h2)

theorem ints_litA (k : IntKind) (w : World) (e : TypeId) (zs : List Int) (cells : Array Value) (hc : cells = (zs.map (Value.int k)).toArray) (hl : zs.length ≤ 17592186044200) (hw : ∀ i, i < zs.length → k.wrap (nth zs i) = nth zs i) :
    Ints k (w.alloc (.cells cells e)) (some ⟨w.heap.size, 0, none⟩) zs := by subst hc; exact ints_lit k w e zs hl hw

theorem ints_litB (k : IntKind) (w : World) (e : TypeId) (zs : List Int) (cells : Array Value) (b : Nat) (hb : w.heap.size = b) (hc : cells = (zs.map (Value.int k)).toArray) (hl : zs.length ≤ 17592186044200) (hw : ∀ i, i < zs.length → k.wrap (nth zs i) = nth zs i) :
    Ints k (w.alloc (.cells cells e)) (some ⟨b, 0, none⟩) zs := by subst hb; exact ints_litA k w e zs cells hc hl hw

/-- a contract at a length that is written out -/
theorem Calls.len1 {P : Program} {f : FuncId} {a : Option Addr} {cap n : Nat} {zs : List Int} {w : World} {R : Ending → World → Prop} (hn : zs.length = n) (h : Calls P f #[.slice a zs.length cap] w R) : Calls P f #[.slice a n cap] w R := hn ▸ h
theorem Calls.len1v {P : Program} {f : FuncId} {a : Option Addr} {cap n : Nat} {zs : List Int} {v : Value} {w : World} {R : Ending → World → Prop} (hn : zs.length = n) (h : Calls P f #[.slice a zs.length cap, v] w R) : Calls P f #[.slice a n cap, v] w R := hn ▸ h
theorem Calls.len2 {P : Program} {f : FuncId} {a b : Option Addr} {cap cap2 n m : Nat} {zs ys : List Int} {w : World} {R : Ending → World → Prop} (hn : zs.length = n) (hm : ys.length = m) (h : Calls P f #[.slice a zs.length cap, .slice b ys.length cap2] w R) : Calls P f #[.slice a n cap, .slice b m cap2] w R := hn ▸ hm ▸ h

/-! ### texts -/
/-- a text's bytes -/
abbrev bl (s : ByteArray) : List UInt8 := s.data.toList
/-- the byte at a place, 0 beyond the end -/
def bat (s : ByteArray) (i : Nat) : Int := (((bl s).getD i 0).toNat : Int)
theorem bl_length (s : ByteArray) : (bl s).length = s.size := rfl
theorem bat_range (s : ByteArray) (i : Nat) : 0 ≤ bat s i ∧ bat s i < 256 := by
  unfold bat; have := ((bl s).getD i 0).toNat_lt; omega
theorem drop_bl (s : ByteArray) (j : Nat) (h : j < s.size) : (bl s).drop j = (bl s).getD j 0 :: (bl s).drop (j + 1) := by
  have h' : j < (bl s).length := by rw [bl_length]; exact h
  rw [List.drop_eq_getElem_cons h', List.getD_eq_getElem?_getD, List.getElem?_eq_getElem h']
  rfl
theorem drop_bl_end (s : ByteArray) (j : Nat) (h : s.size ≤ j) : (bl s).drop j = [] := List.drop_of_length_le (by rw [bl_length]; exact h)
theorem run_index_str {P : Program} {T : TypeId} (hT : P.underlying T = some .string) (s : ByteArray) (j : Nat) (h : j < s.size) (w : World) :
    (Instr.index T (.string s) (.int .i64 (j : Int))).run P w = .ok (.int .u8 (bat s j)) w := by
  have e : bat s j = ((s[j]'h).toNat : Int) := by
    unfold bat
    have h' : j < (bl s).length := by rw [bl_length]; exact h
    rw [List.getD_eq_getElem?_getD, List.getElem?_eq_getElem h']
    rfl
  rw [e]
  simp [Instr.index, asIntOf, run_underlying hT, h]
/-- a text out of bytes -/
def mk (l : List UInt8) : ByteArray := ⟨l.toArray⟩
theorem bl_mk (l : List UInt8) : bl (mk l) = l := by simp [bl, mk]
theorem mk_bl (s : ByteArray) : mk (bl s) = s := by cases s; simp [bl, mk]

end Go.Proofs.YtoklbofobcloaaaDoor
