/- Parse: rows of numbers moved, places found alike. -/
import Derived.Test.YtclioihichcpiaaKtA
import Derived.Test.YtclioihichcpiaaJoJ
import Derived.Maps.AppendAt
import Derived.Deep.Upon
import Derived.Test.YtclioihichcpiaaPfA
namespace Go.Proofs.Ytclioihichcpiaa
open Go.RowKit Lx
/-- 'append(s, x...)', s nil or the call's own; x whatever slice, nil too -/
theorem wpList_append_anyP {P : Program} {w : World} {ops : Array Oper} {rest : List Oper} {o : Oper} {a : Act} {Q : Exit → Act → World → Prop} (hgd : o.guard = none) (s x : Operand) (t : TypeId)
    (ho : o.op = .call { callee := .builtin .append, args := #[s, x], argTypes := #[t, t] })
    (base : Nat) (e : TypeId) (i : TypeInfo) (z : Value) (size bytes : Nat) (ht : P.underlying t = some (.slice e)) (hi : P.info? e = some i) (hz : i.zero = some z)
    (hsize : i.size = size) (hby : i.bytes = bytes) (hzs : z.cells.size = size) (hsz : 0 < size)
    (v : Value) (n : Nat) (xs : List Value) (hs : a.eval s = v) (hown : w.ownsRow base e size v n xs)
    (ao : Option Addr) (m c : Nat) (news : List Value) (hx : a.eval x = .slice ao m c) (hl : news.length = m * size) (hnews : ∀ j u, news[j]? = some u → ∃ ad, ao = some ad ∧ w.cell? (ad.add j) = some u) (h1 : ∀ u ∈ news, u.oneCell' = true)
    (h63 : n + m ≤ maxLen) (hbytes : (n + m) * bytes ≤ 140737488355328) (hbase : base ≤ w.heap.size)
    (h : ∀ v' w', w'.ownsRow base e size v' (n + m) (xs ++ news) → w.grownBy w' v.ownBlock → wpList P ops Q rest (a.put o.dst v') w') :
    wpList P ops Q (o :: rest) a w := by
  cases ao with
  | some ad =>
    refine wpList_append_own_at w hgd s x t ho base e i z size bytes ht hi hz hsize hby hzs hsz v n xs hs hown ad m c news hx hl (fun j u hj => ?_) h1 h63 hbytes hbase fun v' w' h1 h2 _ _ => h v' w' h1 h2
    obtain ⟨ad', he, hc⟩ := hnews j u hj
    cases he; exact hc
  | none =>
    have hn0 : news = [] := by
      cases news with
      | nil => rfl
      | cons u r => obtain ⟨ad, he, _⟩ := hnews 0 u rfl; cases he
    subst hn0
    have hm0 : m = 0 := by
      rcases Nat.mul_eq_zero.1 hl.symm with h | h
      · exact h
      · omega
    subst hm0
    have hshape : ∃ b cp, v = .slice b n cp ∧ n ≤ cp := by
      rcases hown.2 with ⟨rfl, rfl⟩ | ⟨g, cp, cur, rfl, _, _, hc, _⟩
      · exact ⟨none, 0, rfl, Nat.le_refl _⟩
      · exact ⟨_, _, rfl, hc⟩
    obtain ⟨b, cp, hv, hcp⟩ := hshape
    have hrun : (Builtin.append_ #[t, t] o.type #[v, .slice none 0 c]).run P w = .ok v w := by
      rw [hv]
      exact run_append_nothing w t t o.type e i ht hi b n cp hcp _ (Src.ofNil w ht c)
    refine wpList_plain hgd fun K hK => ?_
    unfold Oper.wp execOp
    simp only [ho, resolve, invoke, builtin, Sem.run_bind, Sem.run_pure, Result.andThen_ok, List.map_toArray, List.map_cons, List.map_nil, hs, hx, hrun]
    exact hK _ _ (h v w (by rw [List.append_nil]; exact hown) ⟨rfl, rfl, rfl, Nat.le_refl _, fun _ _ _ => rfl⟩)
/-- .. in a region that draws its order -/
theorem step_append_anyP {P : Program} {w : World} {ops : Array Oper} {o : Oper} {a : Act} {K : Act → World → Prop} {Q : Exit → Act → World → Prop} {E : Prop} (hgd : o.guard = none) (s x : Operand) (t : TypeId)
    (ho : o.op = .call { callee := .builtin .append, args := #[s, x], argTypes := #[t, t] })
    (base : Nat) (e : TypeId) (i : TypeInfo) (z : Value) (size bytes : Nat) (ht : P.underlying t = some (.slice e)) (hi : P.info? e = some i) (hz : i.zero = some z)
    (hsize : i.size = size) (hby : i.bytes = bytes) (hzs : z.cells.size = size) (hsz : 0 < size)
    (v : Value) (n : Nat) (xs : List Value) (hs : a.eval s = v) (hown : w.ownsRow base e size v n xs)
    (ao : Option Addr) (m c : Nat) (news : List Value) (hx : a.eval x = .slice ao m c) (hl : news.length = m * size) (hnews : ∀ j u, news[j]? = some u → ∃ ad, ao = some ad ∧ w.cell? (ad.add j) = some u) (h1 : ∀ u ∈ news, u.oneCell' = true)
    (h63 : n + m ≤ maxLen) (hbytes : (n + m) * bytes ≤ 140737488355328) (hbase : base ≤ w.heap.size)
    (h : ∀ v' w', w'.ownsRow base e size v' (n + m) (xs ++ news) → w.grownBy w' v.ownBlock → K (a.put o.dst v') w') :
    if Region.wanted o (yielded ops a.tmps) = true then Oper.wp P o a w K Q else E := by
  have hw : Region.wanted o (yielded ops a.tmps) = true := by simp [Region.wanted, hgd]
  rw [if_pos hw]
  cases ao with
  | some ad =>
    obtain ⟨v', w', hr, h2, h3, _, _⟩ := run_append_own_at (P := P) w base t o.type e i z size bytes ht hi hz hsize hby hzs hsz v n xs hown ad m c news hl (fun j u hj => by
      obtain ⟨ad', he, hc⟩ := hnews j u hj
      cases he; exact hc) h1 h63 hbytes hbase
    unfold Oper.wp execOp
    simp only [ho, resolve, invoke, builtin, Sem.run_bind, Sem.run_pure, Result.andThen_ok, List.map_toArray, List.map_cons, List.map_nil, hs, hx, hr]
    exact h v' w' h2 h3
  | none =>
    have hn0 : news = [] := by
      cases news with
      | nil => rfl
      | cons u r => obtain ⟨ad, he, _⟩ := hnews 0 u rfl; cases he
    subst hn0
    have hm0 : m = 0 := by
      rcases Nat.mul_eq_zero.1 hl.symm with h | h
      · exact h
      · omega
    subst hm0
    have hshape : ∃ b cp, v = .slice b n cp ∧ n ≤ cp := by
      rcases hown.2 with ⟨rfl, rfl⟩ | ⟨g, cp, cur, rfl, _, _, hc, _⟩
      · exact ⟨none, 0, rfl, Nat.le_refl _⟩
      · exact ⟨_, _, rfl, hc⟩
    obtain ⟨b, cp, hv, hcp⟩ := hshape
    have hrun : (Builtin.append_ #[t, t] o.type #[v, .slice none 0 c]).run P w = .ok v w := by
      rw [hv]
      exact run_append_nothing w t t o.type e i ht hi b n cp hcp _ (Src.ofNil w ht c)
    unfold Oper.wp execOp
    simp only [ho, resolve, invoke, builtin, Sem.run_bind, Sem.run_pure, Result.andThen_ok, List.map_toArray, List.map_cons, List.map_nil, hs, hx, hrun]
    exact h v w (by rw [List.append_nil]; exact hown) ⟨rfl, rfl, rfl, Nat.le_refl _, fun _ _ _ => rfl⟩
/-! ### rows of places -/
def ia (l : List Nat) : List Int := l.map fun n : Nat => (n : Int)
theorem ia_len (l : List Nat) : (ia l).length = l.length := by simp [ia]
theorem ia_get {l : List Nat} {i : Nat} (h : i < l.length) : nth (ia l) i = (l[i] : Nat) := by
  rw [nth_eq _ _ (by rw [ia_len]; exact h)]; simp [ia]
theorem own_ints {w : World} {lo : Nat} {va : Option Addr} {vc : Nat} {l : List Nat} (h : w.ownsRow lo 3 1 (.slice va l.length vc) l.length (atL l)) (hl : l.length ≤ 4194304) (hz : ∀ x ∈ l, x ≤ 4294967296) : Ints .i64 w va (ia l) := by
  refine ⟨by rw [ia_len]; omega, fun i hi => ?_, fun i hi => ?_⟩
  · rw [ia_len] at hi
    obtain ⟨g, e1, hc⟩ := ats_at h i l[i] (List.getElem?_eq_getElem hi)
    exact ⟨g, 0, e1, by rw [Nat.zero_add, ia_get hi]; exact hc⟩
  · rw [ia_len] at hi
    rw [ia_get hi, IntKind.wrap_i64]
    have := hz l[i] (List.getElem_mem hi)
    omega
theorem ints_news {w : World} {va : Option Addr} {l : List Nat} (h : Ints .i64 w va (ia l)) : ∀ j u, (atL l)[j]? = some u → ∃ ad, va = some ad ∧ w.cell? (ad.add j) = some u := by
  intro j u hu
  unfold atL at hu
  rw [List.getElem?_map] at hu
  cases hx : l[j]? with
  | none => rw [hx] at hu; cases hu
  | some x =>
    rw [hx] at hu
    injection hu with hu
    subst hu
    have hj := (List.getElem?_eq_some_iff.1 hx).1
    obtain ⟨b, off, e1, hc⟩ := h.cells j (by rw [ia_len]; exact hj)
    refine ⟨_, e1, ?_⟩
    rw [addr_add]
    rw [ia_get hj] at hc
    rw [hc]
    have : l[j] = x := by rw [List.getElem?_eq_getElem hj] at hx; injection hx
    rw [this]
theorem atL_one (l : List Nat) : ∀ u ∈ atL l, u.oneCell' = true := by
  intro u hu
  unfold atL at hu
  obtain ⟨x, -, rfl⟩ := List.mem_map.1 hu
  rfl
theorem atL_len (l : List Nat) : (atL l).length = l.length * 1 := by simp [atL]
theorem infoIntP : (Try.prog.info? 3).map (fun i => (i.zero, i.size, i.bytes)) = some (some (.int .i64 0), 1, 8) := by kernel_rfl
end Go.Proofs.Ytclioihichcpiaa


/- Parse: what was read, as rows that are read alone; two texts joined. -/
namespace Go.Proofs.Ytclioihichcpiaa
open Go.RowKit Lx
theorem own_len9 {w : World} {base : Nat} {e : TypeId} {size : Nat} {v : Value} {n : Nat} {xs : List Value} (h : w.ownsRow base e size v n xs) : n ≤ 9223372036854775807 := by
  rcases h.2 with ⟨_, rfl⟩ | ⟨g, cp, cur, _, _, _, hc, hm, _⟩
  · omega
  · unfold maxLen at hm; omega
section
variable {w : World} {lo : Nat} {va : Option Addr} {vc : Nat}
theorem own_RT {l : List (Bool × ByteArray)} (h : w.ownsRow lo 38 2 (.slice va l.length vc) l.length (flatTT l)) : RT w va l := by
  refine ⟨own_len9 h, fun j x hx => ?_⟩
  obtain ⟨hj, rfl⟩ := List.getElem?_eq_some_iff.1 hx
  obtain ⟨g, e1, hc⟩ := row_at (fun x : Bool × ByteArray => [Value.bool x.1, .string x.2]) 2 (fun _ => rfl) h j hj
  refine ⟨_, e1, ?_, ?_⟩
  · rw [addr_add, Nat.zero_add]; exact hc 0 _ (by decide) rfl
  · rw [addr_add, Nat.zero_add]; exact hc 1 _ (by decide) rfl
theorem bod_RL {L : List (PLit × Value)} {n : Nat} (h : Bod w lo (.slice va n vc) L) : RL w va (L.map (·.1)) ∧ n = L.length := by
  obtain ⟨a0, c0, e0, -⟩ := own_slice h.own
  injection e0 with e1 e2 e3
  subst e1 e2 e3
  refine ⟨⟨by rw [List.length_map]; exact own_len9 h.own, fun j x hx => ?_⟩, rfl⟩
  rw [List.getElem?_map] at hx
  cases hy : L[j]? with
  | none => rw [hy] at hx; cases hx
  | some y =>
    rw [hy] at hx
    injection hx with hx
    subst hx
    obtain ⟨hj, rfl⟩ := List.getElem?_eq_some_iff.1 hy
    obtain ⟨g, e1, hc⟩ := row_at litC 7 (fun _ => rfl) h.own j hj
    have hin := h.inner L[j] (List.getElem_mem hj)
    obtain ⟨xa, xc, e2, -⟩ := own_slice hin
    rw [e2] at hin
    refine ⟨_, xa, xc, e1, ?_, ?_, ?_, ?_, ?_, ?_, ?_, own_RT hin⟩
    all_goals rw [addr_add, Nat.zero_add]
    · exact hc 0 _ (by decide) rfl
    · exact hc 1 _ (by decide) rfl
    · exact hc 2 _ (by decide) (by rw [← e2]; rfl)
    · exact hc 3 _ (by decide) rfl
    · exact hc 4 _ (by decide) rfl
    · exact hc 5 _ (by decide) rfl
    · exact hc 6 _ (by decide) rfl
theorem rules_RR {L : List (PRule × Value × Value)} {lo2 : Nat} (h : w.ownsRow lo 27 3 (.slice va L.length vc) L.length (ruL L)) (hin : ∀ y ∈ L, RuleIn w lo2 y.2.1 y.2.2 y.1) : RR w va (L.map fun y => y.1) := by
  refine ⟨by rw [List.length_map]; exact own_len9 h, fun j x hx => ?_⟩
  rw [List.getElem?_map] at hx
  cases hy : L[j]? with
  | none => rw [hy] at hx; cases hx
  | some y =>
    rw [hy] at hx
    injection hx with hx
    subst hx
    obtain ⟨hj, rfl⟩ := List.getElem?_eq_some_iff.1 hy
    obtain ⟨g, e1, hc⟩ := row_at ruC 3 (fun _ => rfl) h j hj
    obtain ⟨ha, L2, hL2, hb, -⟩ := hin L[j] (List.getElem_mem hj)
    obtain ⟨xa, xc, e2, -⟩ := own_slice ha
    obtain ⟨ya, yc, e3, -⟩ := own_slice hb.own
    rw [e2] at ha
    rw [e3] at hb
    have hrl := (bod_RL hb).1
    rw [hL2] at hrl
    have hn : L2.length = (L[j]).1.b.length := by rw [← hL2, List.length_map]
    refine ⟨_, xa, xc, ya, yc, e1, ?_, ?_, ?_, own_RT ha, hrl⟩
    all_goals rw [addr_add, Nat.zero_add]
    · exact hc 0 _ (by decide) rfl
    · exact hc 1 _ (by decide) (by rw [← e2]; rfl)
    · exact hc 2 _ (by decide) (by rw [← hn, ← e3]; rfl)
theorem own_RI {l : List (ByteArray × Int × ByteArray)} (h : w.ownsRow lo 104 3 (.slice va l.length vc) l.length (inL l)) : RI w va l := by
  refine ⟨own_len9 h, fun j x hx => ?_⟩
  obtain ⟨hj, rfl⟩ := List.getElem?_eq_some_iff.1 hx
  obtain ⟨g, e1, hc⟩ := row_at inC 3 (fun _ => rfl) h j hj
  refine ⟨_, e1, ?_, ?_, ?_⟩
  all_goals rw [addr_add, Nat.zero_add]
  · exact hc 0 _ (by decide) rfl
  · exact hc 1 _ (by decide) rfl
  · exact hc 2 _ (by decide) rfl
theorem own_RO {l : List (ByteArray × Int)} (h : w.ownsRow lo 106 2 (.slice va l.length vc) l.length (outL l)) : RO w va l := by
  refine ⟨own_len9 h, fun j x hx => ?_⟩
  obtain ⟨hj, rfl⟩ := List.getElem?_eq_some_iff.1 hx
  obtain ⟨g, e1, hc⟩ := row_at outC 2 (fun _ => rfl) h j hj
  refine ⟨_, e1, ?_, ?_⟩
  all_goals rw [addr_add, Nat.zero_add]
  · exact hc 0 _ (by decide) rfl
  · exact hc 1 _ (by decide) rfl
end
/-- the row that an 'append' copies -/
theorem own_news {w : World} {lo : Nat} {e : TypeId} {k : Nat} {va : Option Addr} {n vc : Nat} {xs : List Value} (h : w.ownsRow lo e k (.slice va n vc) n xs) : ∀ j u, xs[j]? = some u → ∃ ad, va = some ad ∧ w.cell? (ad.add j) = some u := by
  intro j u hu
  rcases Nat.eq_zero_or_pos n with h0 | h0
  · have := h.1
    rw [h0, Nat.zero_mul] at this
    rw [List.length_eq_zero_iff.1 this] at hu
    cases hu
  · obtain ⟨g, c, e1, -⟩ := own_shape h h0
    injection e1 with e1 e2 e3
    subst e1
    exact ⟨_, rfl, h.cells rfl j u hu⟩
/-- the rows of a program that was read -/
structure Rws (w : World) (v0 v1 v2 v3 v4 v5 : Option Addr) (l : List Stmt) : Prop where
  i : RI w v0 (inpsOf l)
  o : RO w v1 (outsOf l)
  r : RR w v2 (rulesOf l)
  a0 : Ints .i64 w v3 (ia (inAts l))
  a1 : Ints .i64 w v4 (ia (outAts l))
  a2 : Ints .i64 w v5 (ia (ruAts l))
theorem Rws.below {w w' : World} {v0 v1 v2 v3 v4 v5 : Option Addr} {l : List Stmt} (h : Rws w v0 v1 v2 v3 v4 v5 l) (hb : Below w.heap.size w w') : Rws w' v0 v1 v2 v3 v4 v5 l :=
  ⟨h.i.below hb, h.o.below hb, h.r.below hb, h.a0.below hb, h.a1.below hb, h.a2.below hb⟩
theorem in_len (l : List Stmt) : (inAts l).length = (inpsOf l).length := by
  induction l with
  | nil => rfl
  | cons x r ih => cases x <;> simp [inAts, inpsOf] at ih ⊢ <;> exact ih
theorem out_len (l : List Stmt) : (outAts l).length = (outsOf l).length := by
  induction l with
  | nil => rfl
  | cons x r ih => cases x <;> simp [outAts, outsOf] at ih ⊢ <;> exact ih
theorem ru_len (l : List Stmt) : (ruAts l).length = (rulesOf l).length := by
  induction l with
  | nil => rfl
  | cons x r ih => cases x <;> simp [ruAts, rulesOf] at ih ⊢ <;> exact ih
theorem parts_le (l : List Stmt) : (inpsOf l).length ≤ l.length ∧ (outsOf l).length ≤ l.length ∧ (rulesOf l).length ≤ l.length :=
  ⟨List.length_filterMap_le _ _, List.length_filterMap_le _ _, List.length_filterMap_le _ _⟩
/-- where a statement stands -/
def atOf : Stmt → Nat
  | .inp _ _ _ a => a
  | .outp _ _ a => a
  | .rule _ a => a
theorem ats_mem (l : List Stmt) : (∀ a ∈ inAts l, ∃ s ∈ l, atOf s = a) ∧ (∀ a ∈ outAts l, ∃ s ∈ l, atOf s = a) ∧ (∀ a ∈ ruAts l, ∃ s ∈ l, atOf s = a) := by
  refine ⟨fun a h => ?_, fun a h => ?_, fun a h => ?_⟩
  all_goals
    obtain ⟨s, hs, he⟩ := List.mem_filterMap.1 h
    refine ⟨s, hs, ?_⟩
    cases s <;> simp at he <;> exact he
theorem progN_at {P : Ps} {tl : Nat} : ∀ (f i : Nat) (l m : List Stmt), psProgN P tl f i l = .ok m → (∀ s ∈ l, ∃ j, atOf s = (P.tok j).at_) → ∀ s ∈ m, ∃ j, atOf s = (P.tok j).at_
  | 0, _, _, _, h, _ => by cases h
  | f + 1, i, l, m, h, hl => by
    unfold psProgN at h
    by_cases hlt : i < P.ts.length
    · rw [if_pos hlt] at h
      cases hs : psStmt P i with
      | error e => rw [hs] at h; cases h
      | ok r =>
        obtain ⟨s, j⟩ := r
        rw [hs] at h
        refine progN_at f j _ _ h fun x hx => ?_
        rcases List.mem_append.1 hx with hx | hx
        · exact hl x hx
        · rw [List.mem_singleton.1 hx]
          refine ⟨i, ?_⟩
          unfold psStmt at hs
          cases ha : P.take i [1, 5, 6] with
          | error e => rw [ha] at hs; cases hs
          | ok r =>
            obtain ⟨t, k⟩ := r
            rw [ha] at hs
            dsimp only at hs
            obtain ⟨-, -, rfl, -⟩ := take_ok (by decide) ha
            by_cases h5 : (P.tok i).kind = 5
            · rw [if_pos h5] at hs
              split at hs
              · cases hs
              · split at hs
                · cases hs
                · split at hs
                  · cases hs
                  · injection hs with hs; injection hs with hs _; subst hs; rfl
            rw [if_neg h5] at hs
            by_cases h6 : (P.tok i).kind = 6
            · rw [if_pos h6] at hs
              split at hs
              · cases hs
              · split at hs
                · cases hs
                · injection hs with hs; injection hs with hs _; subst hs; rfl
            rw [if_neg h6] at hs
            split at hs
            · cases hs
            · injection hs with hs; injection hs with hs _; subst hs; rfl
    · rw [if_neg hlt] at h
      by_cases hc : P.far < tl ∨ P.op.kind ≠ 0
      · rw [if_pos hc] at h; cases h
      · rw [if_neg hc] at h
        injection h with h
        subst h
        exact hl
theorem text_ats {s : ByteArray} {l : List Stmt} (h : psText s = .ok l) (hs : s.size ≤ 4194304) : ∀ x ∈ l, atOf x ≤ 4194304 := fun x hx => by
  obtain ⟨j, e⟩ := progN_at _ _ _ _ h (by simp) x hx
  rw [e]
  exact (psOf_size s hs j).2
theorem prg_rows {w : World} {lo : Nat} {v0 v1 v2 v3 v4 v5 : Option Addr} {n0 n1 n2 n3 n4 n5 c0 c1 c2 c3 c4 c5 : Nat} {s : ByteArray} {l : List Stmt} (hs : s.size ≤ 4194304) (hx : psText s = .ok l) (h : PrgS w lo (.slice v0 n0 c0) (.slice v1 n1 c1) (.slice v2 n2 c2) (.slice v3 n3 c3) (.slice v4 n4 c4) (.slice v5 n5 c5) l) :
    Rws w v0 v1 v2 v3 v4 v5 l := by
  have hsl : ∀ {e : TypeId} {k : Nat} {va : Option Addr} {n m c : Nat} {xs : List Value}, w.ownsRow lo e k (.slice va n c) m xs → n = m := fun h => by
    obtain ⟨_, _, e, -⟩ := own_slice h
    injection e
  have hlen := text_len hx
  obtain ⟨p0, p1, p2⟩ := parts_le l
  obtain ⟨q0, q1, q2⟩ := ats_mem l
  have hat := text_ats hx hs
  have e0 := hsl h.r0
  have e1 := hsl h.r1
  have e3 := hsl h.r3
  have e4 := hsl h.r4
  have e5 := hsl h.r5
  obtain ⟨L, hL, h2, hin⟩ := h.r2
  have e2 := hsl h2
  have r0 := h.r0
  have r1 := h.r1
  have r3 := h.r3
  have r4 := h.r4
  have r5 := h.r5
  subst e0 e1 e2 e3 e4 e5
  have hll := in_len l
  have hlo := out_len l
  have hlr := ru_len l
  refine ⟨own_RI r0, own_RO r1, by rw [← hL]; exact rules_RR h2 hin.inn, own_ints r3 (by omega) fun x hx => ?_, own_ints r4 (by omega) fun x hx => ?_, own_ints r5 (by omega) fun x hx => ?_⟩
  · obtain ⟨s, hs, rfl⟩ := q0 x hx; have := hat s hs; omega
  · obtain ⟨s, hs, rfl⟩ := q1 x hx; have := hat s hs; omega
  · obtain ⟨s, hs, rfl⟩ := q2 x hx; have := hat s hs; omega
/-! ### two texts joined -/
theorem sts_parts {k : Nat} {m z : List Stmt} (h : StsR (movedR k) m z) : inpsOf z = inpsOf m ∧ outsOf z = outsOf m ∧ rulesOf z = rulesOf m ∧ inAts z = (inAts m).map (· + k) ∧ outAts z = (outAts m).map (· + k) ∧ ruAts z = (ruAts m).map (· + k) := by
  induction h with
  | nil => exact ⟨rfl, rfl, rfl, rfl, rfl, rfl⟩
  | cons x y l m hx _ ih =>
    obtain ⟨i0, i1, i2, i3, i4, i5⟩ := ih
    cases hx with
    | inp p n f a b hr => unfold movedR at hr; subst hr; simp [inpsOf, outsOf, rulesOf, inAts, outAts, ruAts] at *; exact ⟨i0, i1, i2, ⟨by omega, i3⟩, i4, i5⟩
    | outp p n a b hr => unfold movedR at hr; subst hr; simp [inpsOf, outsOf, rulesOf, inAts, outAts, ruAts] at *; exact ⟨i0, i1, i2, i3, ⟨by omega, i4⟩, i5⟩
    | rule r a b hr => unfold movedR at hr; subst hr; simp [inpsOf, outsOf, rulesOf, inAts, outAts, ruAts] at *; exact ⟨i0, i1, i2, i3, i4, by omega, i5⟩
theorem parts_app (l m : List Stmt) : inpsOf (l ++ m) = inpsOf l ++ inpsOf m ∧ outsOf (l ++ m) = outsOf l ++ outsOf m ∧ rulesOf (l ++ m) = rulesOf l ++ rulesOf m ∧ inAts (l ++ m) = inAts l ++ inAts m ∧ outAts (l ++ m) = outAts l ++ outAts m ∧ ruAts (l ++ m) = ruAts l ++ ruAts m :=
  ⟨List.filterMap_append, List.filterMap_append, List.filterMap_append, List.filterMap_append, List.filterMap_append, List.filterMap_append⟩
theorem bl_appP (a b : ByteArray) : bl (a ++ b) = bl a ++ bl b := by simp [bl]
theorem text_join {s t : ByteArray} {l : List Stmt} (h : psText s = .ok l) : (∃ m z, psText t = .ok m ∧ psText (s ++ ⟨#[10]⟩ ++ t) = .ok (l ++ z) ∧ StsR (movedR (s.size + 1)) m z) ∨ (∃ x : Int, psText t = .error x ∧ psText (s ++ ⟨#[10]⟩ ++ t) = .error ((s.size : Int) + 1 + x)) := by
  have h1 := eq_prog s
  rw [h] at h1
  cases hr : rProg (bl s) with
  | error e => rw [hr] at h1; exact h1.elim
  | ok y =>
    obtain ⟨y1, y2⟩ := y
    rw [hr] at h1
    have he : l = y1 := h1
    subst he
    have hj := prog_join (t := bl t) hr
    rw [bl_length] at hj
    have h2 := eq_prog t
    have h3 := eq_prog (s ++ ⟨#[10]⟩ ++ t)
    have hb : bl (s ++ ⟨#[10]⟩ ++ t) = bl s ++ 10 :: bl t := by rw [bl_appP, bl_appP, List.append_assoc]; rfl
    rw [hb] at h3
    cases ht : rProg (bl t) with
    | error e =>
      rw [ht] at hj h2
      cases hu : rProg (bl s ++ 10 :: bl t) with
      | ok u => rw [hu] at hj; exact hj.elim
      | error f =>
        rw [hu] at hj h3
        obtain ⟨p, q, rfl, rfl, hm⟩ := hj
        unfold movedR at hm
        cases hx : psText t with
        | ok m => rw [hx] at h2; exact h2.elim
        | error x =>
          rw [hx] at h2
          cases hz : psText (s ++ ⟨#[10]⟩ ++ t) with
          | ok m => rw [hz] at h3; exact h3.elim
          | error z =>
            rw [hz] at h3
            have e2 : x = (p : Int) := h2
            have e3 : z = (q : Int) := h3
            refine .inr ⟨x, rfl, ?_⟩
            rw [e3, e2, hm]; rfl
    | ok y =>
      rw [ht] at hj h2
      cases hu : rProg (bl s ++ 10 :: bl t) with
      | error f => rw [hu] at hj; exact hj.elim
      | ok u =>
        rw [hu] at hj h3
        obtain ⟨⟨z, hz, hst⟩, -⟩ := hj
        cases hx : psText t with
        | error x => rw [hx] at h2; exact h2.elim
        | ok m =>
          rw [hx] at h2
          cases hw : psText (s ++ ⟨#[10]⟩ ++ t) with
          | error x => rw [hw] at h3; exact h3.elim
          | ok v =>
            rw [hw] at h3
            have e2 : m = y.1 := h2
            have e3 : v = u.1 := h3
            exact .inl ⟨m, z, rfl, by rw [e3, hz], by rw [e2]; exact hst⟩
end Go.Proofs.Ytclioihichcpiaa
