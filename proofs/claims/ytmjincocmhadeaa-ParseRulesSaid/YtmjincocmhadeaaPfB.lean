/- Parse: rows of numbers moved, places found alike. -/
import Derived.Test.YtmjincocmhadeaaKtA
import Derived.Test.YtmjincocmhadeaaPdE
import Derived.Maps.AppendAt
import Derived.Deep.Upon
namespace Go.Proofs.Ytmjincocmhadeaa
open Go.RowKit Lx
/-- 'append(s, x...)', s nil or the call's own; x whatever slice, nil too -/
theorem wpList_append_anyP {P : Program} {w : World} {ops : Array Oper} {rest : List Oper} {o : Oper} {a : Act} {Q : Exit → Act → World → Prop} (hgd : o.guard = none) (s x : Operand) (t : TypeId)
    (ho : o.op = .call { callee := .builtin .append, args := #[s, x], argTypes := #[t, t] })
    (base : Nat) (e : TypeId) (i : TypeInfo) (z : Value) (size bytes : Nat) (ht : P.underlying t = some (.slice e)) (hi : P.info? e = some i) (hz : i.zero = some z)
    (hsize : i.size = size) (hby : i.bytes = bytes) (hzs : z.cells.size = size) (hsz : 0 < size)
    (v : Value) (n : Nat) (xs : List Value) (hs : a.eval s = v) (hown : w.ownsRow base e size v n xs)
    (ao : Option Addr) (m c : Nat) (news : List Value) (hx : a.eval x = .slice ao m c) (hl : news.length = m * size) (hnews : ∀ j u, news[j]? = some u → ∃ ad, ao = some ad ∧ w.cell? (ad.add j) = some u) (h1 : ∀ u ∈ news, u.oneCell' = true)
    (h63 : n + m ≤ maxLen) (hbytes : (n + m) * bytes ≤ 140737488355328) (hbase : base ≤ w.heap.size)
    (h : ∀ v' w', w'.ownsRow base e size v' (n + m) (xs ++ news) → w.grownBy w' v.ownBlock → wpList P ops Q rest (a.put o.dst v') w') :
    wpList P ops Q (o :: rest) a w := by
  cases ao with
  | some ad =>
    refine wpList_append_own_at w hgd s x t ho base e i z size bytes ht hi hz hsize hby hzs hsz v n xs hs hown ad m c news hx hl (fun j u hj => ?_) h1 h63 hbytes hbase fun v' w' h1 h2 _ _ => h v' w' h1 h2
    obtain ⟨ad', he, hc⟩ := hnews j u hj
    cases he; exact hc
  | none =>
    have hn0 : news = [] := by
      cases news with
      | nil => rfl
      | cons u r => obtain ⟨ad, he, _⟩ := hnews 0 u rfl; cases he
    subst hn0
    have hm0 : m = 0 := by
      rcases Nat.mul_eq_zero.1 hl.symm with h | h
      · exact h
      · omega
    subst hm0
    have hshape : ∃ b cp, v = .slice b n cp ∧ n ≤ cp := by
      rcases hown.2 with ⟨rfl, rfl⟩ | ⟨g, cp, cur, rfl, _, _, hc, _⟩
      · exact ⟨none, 0, rfl, Nat.le_refl _⟩
      · exact ⟨_, _, rfl, hc⟩
    obtain ⟨b, cp, hv, hcp⟩ := hshape
    have hrun : (Builtin.append_ #[t, t] o.type #[v, .slice none 0 c]).run P w = .ok v w := by
      rw [hv]
      exact run_append_nothing w t t o.type e i ht hi b n cp hcp _ (Src.ofNil w ht c)
    refine wpList_plain hgd fun K hK => ?_
    unfold Oper.wp execOp
    simp only [ho, resolve, invoke, builtin, Sem.run_bind, Sem.run_pure, Result.andThen_ok, List.map_toArray, List.map_cons, List.map_nil, hs, hx, hrun]
    exact hK _ _ (h v w (by rw [List.append_nil]; exact hown) ⟨rfl, rfl, rfl, Nat.le_refl _, fun _ _ _ => rfl⟩)
/-- .. in a region that draws its order -/
theorem step_append_anyP {P : Program} {w : World} {ops : Array Oper} {o : Oper} {a : Act} {K : Act → World → Prop} {Q : Exit → Act → World → Prop} {E : Prop} (hgd : o.guard = none) (s x : Operand) (t : TypeId)
    (ho : o.op = .call { callee := .builtin .append, args := #[s, x], argTypes := #[t, t] })
    (base : Nat) (e : TypeId) (i : TypeInfo) (z : Value) (size bytes : Nat) (ht : P.underlying t = some (.slice e)) (hi : P.info? e = some i) (hz : i.zero = some z)
    (hsize : i.size = size) (hby : i.bytes = bytes) (hzs : z.cells.size = size) (hsz : 0 < size)
    (v : Value) (n : Nat) (xs : List Value) (hs : a.eval s = v) (hown : w.ownsRow base e size v n xs)
    (ao : Option Addr) (m c : Nat) (news : List Value) (hx : a.eval x = .slice ao m c) (hl : news.length = m * size) (hnews : ∀ j u, news[j]? = some u → ∃ ad, ao = some ad ∧ w.cell? (ad.add j) = some u) (h1 : ∀ u ∈ news, u.oneCell' = true)
    (h63 : n + m ≤ maxLen) (hbytes : (n + m) * bytes ≤ 140737488355328) (hbase : base ≤ w.heap.size)
    (h : ∀ v' w', w'.ownsRow base e size v' (n + m) (xs ++ news) → w.grownBy w' v.ownBlock → K (a.put o.dst v') w') :
    if Region.wanted o (yielded ops a.tmps) = true then Oper.wp P o a w K Q else E := by
  have hw : Region.wanted o (yielded ops a.tmps) = true := by simp [Region.wanted, hgd]
  rw [if_pos hw]
  cases ao with
  | some ad =>
    obtain ⟨v', w', hr, h2, h3, _, _⟩ := run_append_own_at (P := P) w base t o.type e i z size bytes ht hi hz hsize hby hzs hsz v n xs hown ad m c news hl (fun j u hj => by
      obtain ⟨ad', he, hc⟩ := hnews j u hj
      cases he; exact hc) h1 h63 hbytes hbase
    unfold Oper.wp execOp
    simp only [ho, resolve, invoke, builtin, Sem.run_bind, Sem.run_pure, Result.andThen_ok, List.map_toArray, List.map_cons, List.map_nil, hs, hx, hr]
    exact h v' w' h2 h3
  | none =>
    have hn0 : news = [] := by
      cases news with
      | nil => rfl
      | cons u r => obtain ⟨ad, he, _⟩ := hnews 0 u rfl; cases he
    subst hn0
    have hm0 : m = 0 := by
      rcases Nat.mul_eq_zero.1 hl.symm with h | h
      · exact h
      · omega
    subst hm0
    have hshape : ∃ b cp, v = .slice b n cp ∧ n ≤ cp := by
      rcases hown.2 with ⟨rfl, rfl⟩ | ⟨g, cp, cur, rfl, _, _, hc, _⟩
      · exact ⟨none, 0, rfl, Nat.le_refl _⟩
      · exact ⟨_, _, rfl, hc⟩
    obtain ⟨b, cp, hv, hcp⟩ := hshape
    have hrun : (Builtin.append_ #[t, t] o.type #[v, .slice none 0 c]).run P w = .ok v w := by
      rw [hv]
      exact run_append_nothing w t t o.type e i ht hi b n cp hcp _ (Src.ofNil w ht c)
    unfold Oper.wp execOp
    simp only [ho, resolve, invoke, builtin, Sem.run_bind, Sem.run_pure, Result.andThen_ok, List.map_toArray, List.map_cons, List.map_nil, hs, hx, hrun]
    exact h v w (by rw [List.append_nil]; exact hown) ⟨rfl, rfl, rfl, Nat.le_refl _, fun _ _ _ => rfl⟩
/-! ### rows of places -/
def ia (l : List Nat) : List Int := l.map fun n : Nat => (n : Int)
theorem ia_len (l : List Nat) : (ia l).length = l.length := by simp [ia]
theorem ia_get {l : List Nat} {i : Nat} (h : i < l.length) : nth (ia l) i = (l[i] : Nat) := by
  rw [nth_eq _ _ (by rw [ia_len]; exact h)]; simp [ia]
theorem own_ints {w : World} {lo : Nat} {va : Option Addr} {vc : Nat} {l : List Nat} (h : w.ownsRow lo 3 1 (.slice va l.length vc) l.length (atL l)) (hl : l.length ≤ 4194304) (hz : ∀ x ∈ l, x ≤ 4294967296) : Ints .i64 w va (ia l) := by
  refine ⟨by rw [ia_len]; omega, fun i hi => ?_, fun i hi => ?_⟩
  · rw [ia_len] at hi
    obtain ⟨g, e1, hc⟩ := ats_at h i l[i] (List.getElem?_eq_getElem hi)
    exact ⟨g, 0, e1, by rw [Nat.zero_add, ia_get hi]; exact hc⟩
  · rw [ia_len] at hi
    rw [ia_get hi, IntKind.wrap_i64]
    have := hz l[i] (List.getElem_mem hi)
    omega
theorem ints_news {w : World} {va : Option Addr} {l : List Nat} (h : Ints .i64 w va (ia l)) : ∀ j u, (atL l)[j]? = some u → ∃ ad, va = some ad ∧ w.cell? (ad.add j) = some u := by
  intro j u hu
  unfold atL at hu
  rw [List.getElem?_map] at hu
  cases hx : l[j]? with
  | none => rw [hx] at hu; cases hu
  | some x =>
    rw [hx] at hu
    injection hu with hu
    subst hu
    have hj := (List.getElem?_eq_some_iff.1 hx).1
    obtain ⟨b, off, e1, hc⟩ := h.cells j (by rw [ia_len]; exact hj)
    refine ⟨_, e1, ?_⟩
    rw [addr_add]
    rw [ia_get hj] at hc
    rw [hc]
    have : l[j] = x := by rw [List.getElem?_eq_getElem hj] at hx; injection hx
    rw [this]
theorem atL_one (l : List Nat) : ∀ u ∈ atL l, u.oneCell' = true := by
  intro u hu
  unfold atL at hu
  obtain ⟨x, -, rfl⟩ := List.mem_map.1 hu
  rfl
theorem atL_len (l : List Nat) : (atL l).length = l.length * 1 := by simp [atL]
set_option maxHeartbeats 2000000 in
set_option maxRecDepth 100000 in
theorem kt_ints (a a' : Option Addr) (l : List Int) (cap cap' : Nat) (w : World) (h1 : Ints .i64 w a l) (h2 : Ints .i64 w a' l) :
    Calls Try.prog 40 #[.slice a l.length cap, .slice a' l.length cap'] w fun e w' => e = .returned (.bool true) ∧ Below w.heap.size w w' := by
  have hlen := h1.len
  go_enter Try.func40, Try.ntmps40
  go_wp2_with fail
  go_loopw [5] (fun i wr => ∃ (k : Nat), k ≤ l.length ∧ i = .int .i64 k ∧ Hid (Below w.heap.size w wr)) (fun i _ => l.length - (intOf i).toNat)
  case atStart => exact ⟨0, Nat.zero_le _, rfl, Lib.hid (Below.refl _ _)⟩
  case round =>
    obtain ⟨k, hk, rfl, hb⟩ := hrel
    by_cases hlt : k < l.length
    · obtain ⟨p, off, rfl, hc1⟩ := (h1.below hb.out).cells k hlt
      obtain ⟨q, off2, rfl, hd1⟩ := (h2.below hb.out).cells k hlt
      generalize nth l k = x at hc1 hd1
      have hq0 : (0 : Int) ≤ (k : Int) := Int.natCast_nonneg _
      have hq1 : (k : Int) < (l.length : Int) := by omega
      go_wp2_with fail
      go_quiet (fail)
      have hb2 := Lib.hid (hb.out.drewN nq)
      generalize wr.drewN nq = wq at hb2 ⊢
      go_wp2_with fail
      go_roundw
      case rel => exact ⟨k + 1, by omega, by go_num, hb2⟩
      case measure => simp [intOf]; omega
    · have hke : k = l.length := by omega
      subst hke
      go_wp2_with fail
      go_ret
      exact ⟨rfl, hb.out⟩
set_option maxHeartbeats 2000000 in
set_option maxRecDepth 100000 in
theorem w8_places (a0 a1 a2 b0 b1 b2 : Option Addr) (l0 l1 l2 : List Int) (c0 c1 c2 d0 d1 d2 : Nat) (w : World) (h0 : Ints .i64 w a0 l0) (h1 : Ints .i64 w a1 l1) (h2 : Ints .i64 w a2 l2) (k0 : Ints .i64 w b0 l0) (k1 : Ints .i64 w b1 l1) (k2 : Ints .i64 w b2 l2) :
    Calls Try.prog 19 #[.agg #[.slice a0 l0.length c0, .slice a1 l1.length c1, .slice a2 l2.length c2], .agg #[.slice b0 l0.length d0, .slice b1 l1.length d1, .slice b2 l2.length d2]] w fun e w' => e = .returned (.bool true) ∧ Below w.heap.size w w' := by
  have i0 := fun w h k => kt_ints a0 b0 l0 c0 d0 w h k
  have i1 := fun w h k => kt_ints a1 b1 l1 c1 d1 w h k
  have i2 := fun w h k => kt_ints a2 b2 l2 c2 d2 w h k
  go_enter Try.func19, Try.ntmps19
  go_wp2_with (first
    | (go_at_call 40
       have hg := hb2
       refine (i2 _ (h2.below hb2.out) (k2.below hb2.out)).mono ?_
       rintro e w3 ⟨rfl, hb30⟩
       have hb3 := Lib.hid (hb2.out.trans (hb30.mono hb2.out.size))
       clear hg hb30)
    | (go_at_call 40
       have hg := hb1
       refine (i1 _ (h1.below hb1.out) (k1.below hb1.out)).mono ?_
       rintro e w2 ⟨rfl, hb20⟩
       have hq := kt_rows ((Below.refl _ _).trans (hb1'.out.trans (hb20.mono hb1'.out.size)))
       obtain ⟨⟨z0, z1, z2⟩, y0, y1, y2⟩ := hq
       have hb2 := Lib.hid (hb1.out.trans (hb20.mono hb1.out.size))
       clear hg hb20)
    | (go_at_call 40
       refine (i0 _ (h0.below (((Below.refl _ _).al _).al _)) (k0.below (((Below.refl _ _).al _).al _))).mono ?_
       rintro e w1 ⟨rfl, hb10⟩
       obtain ⟨⟨z0, z1, z2⟩, y0, y1, y2⟩ := kt_rows hb10
       have hb1 := Lib.hid (kt_cells hb10)
       have hb1' := Lib.hid hb10))
  go_ret
  exact ⟨rfl, hb3.out⟩
theorem infoIntP : (Try.prog.info? 3).map (fun i => (i.zero, i.size, i.bytes)) = some (some (.int .i64 0), 1, 8) := by kernel_rfl
set_option maxHeartbeats 2000000 in
set_option maxRecDepth 100000 in
theorem w8_moved (aa ba : Option Addr) (a b : List Nat) (ca cb k : Nat) (w : World) (ha : Ints .i64 w aa (ia a)) (hb : Ints .i64 w ba (ia b)) (hla : a.length ≤ 4194304) (hlb : b.length ≤ 4194304) (hbv : ∀ x ∈ b, x ≤ 4194304) (hk : k ≤ 4194304) :
    Calls Try.prog 17 #[.slice aa a.length ca, .slice ba b.length cb, .int .i64 (k : Int)] w fun e w' => ∃ v c, e = .returned (.slice v (a ++ b.map (· + k)).length c) ∧ Below w.heap.size w w' ∧ w'.ownsRow w.heap.size 3 1 (.slice v (a ++ b.map (· + k)).length c) (a ++ b.map (· + k)).length (atL (a ++ b.map (· + k))) := by
  obtain ⟨ii, hii, hz0, hz1, hz2⟩ := info_parts infoIntP
  have hown0 := World.ownsRow_lit (e := 3) (base := w.heap.size) (size := 1) w #[] 0 (Nat.le_refl _) (by decide) rfl
  have hnews := ints_news (ha.below ((Below.refl w.heap.size w).al (.cells #[] 3)))
  have h63 : Hid (a.length + b.length ≤ maxLen) := Lib.hid (by unfold maxLen; omega)
  replace hown0 := Lib.hid hown0
  go_enter Try.func17, Try.ntmps17
  go_wp2_with (at_builtin; go_loud (refine wpList_append_anyP rfl (.tmp 9) (.tmp 10) 43 rfl w.heap.size 3 ii (.int .i64 0) 1 8 Try.underlying43 hii hz0 hz1 hz2 rfl (by decide) _ 0 [] rfl hown0.out aa a.length ca (atL a) rfl (atL_len a) hnews (atL_one a) (by have := h63.out; omega) (by omega) (by rw [World.size_alloc]; omega) ?_))
  intro v1 w1 hown1 hgr1
  have hb1 : Hid (Below w.heap.size w w1) := Lib.hid (((Below.refl _ _).al _).grown hgr1 (by rw [World.size_alloc]; omega) (own_ge hown0.out))
  obtain ⟨va, vc, rfl, -⟩ := own_slice hown1
  clear hgr1 hnews
  go_wp2_with fail
  have hst : Hid (w1.ownsRow w.heap.size 3 1 (.slice va (a.length + 0) vc) (a.length + 0) (atL (a ++ (b.take 0).map (· + k)))) := Lib.hid (by simpa using hown1)
  go_loopw [7, 8] (fun r i wr => ∃ (m : Nat) (v : Option Addr) (c : Nat), m ≤ b.length ∧ i = .int .i64 m ∧ r = .slice v (a.length + m) c ∧ Hid (Below w.heap.size w wr) ∧ Hid (wr.ownsRow w.heap.size 3 1 (.slice v (a.length + m) c) (a.length + m) (atL (a ++ (b.take m).map (· + k))))) (fun _ i _ => b.length - (intOf i).toNat)
  case atStart => exact ⟨0, va, vc, Nat.zero_le _, rfl, rfl, hb1, hst⟩
  case round =>
    clear hst hown1 hb1
    obtain ⟨m, v, c, hm, rfl, rfl, hbw, hown⟩ := hrel
    by_cases hlt : m < b.length
    · obtain ⟨p, off, e1, hc⟩ := (hb.below hbw.out).cells m (by rw [ia_len]; exact hlt)
      rw [ia_get hlt] at hc
      subst e1
      have hx := hbv b[m] (List.getElem_mem hlt)
      have hL : atL (a ++ (b.take (m + 1)).map (· + k)) = atL (a ++ (b.take m).map (· + k)) ++ [.int .i64 ((b[m] : Nat) + (k : Int))] := by
        rw [List.take_succ_eq_append_getElem hlt, List.map_append, ← List.append_assoc]
        exact (atL_snoc _ _).trans (by simp)
      have hq0 : (0 : Int) ≤ (m : Int) := Int.natCast_nonneg _
      have hq1 : (m : Int) < (b.length : Int) := by omega
      replace hL := Lib.hid hL
      generalize b[m] = x at hc hx hL
      generalize hg : atL (a ++ (b.take m).map (· + k)) = l at hown hL
      clear hg
      have hsz : Hid (w.heap.size ≤ wr.heap.size) := Lib.hid hbw.out.size
      go_wp2_with (at_builtin; go_loud (refine wpList_append_anyP rfl (.tmp 18) (.tmp 25) 43 rfl w.heap.size 3 ii (.int .i64 0) 1 8 Try.underlying43 hii hz0 hz1 hz2 rfl (by decide) _ (a.length + m) l rfl (hown.out.alloc _) (some ⟨wr.heap.size, 0, none⟩) 1 1 [.int .i64 ((x : Int) + k)] rfl rfl (fun j u hj => ⟨_, rfl, own_cells_row rfl rfl j u hj⟩) (by intro u hu; simp at hu; subst hu; rfl) (by have := h63.out; omega) (by omega) (by rw [World.size_alloc]; have := hsz.out; omega) ?_))
      intro v2 w2 hown2 hgr2
      have hb2 : Hid (Below w.heap.size w w2) := Lib.hid ((hbw.out.al _).grown hgr2 (by rw [World.size_alloc]; have := hsz.out; omega) (own_ge hown.out))
      obtain ⟨v3, c3, rfl, -⟩ := own_slice hown2
      have hown3 : Hid (w2.ownsRow w.heap.size 3 1 (.slice v3 (a.length + m + 1) c3) (a.length + m + 1) (l ++ [.int .i64 ((x : Int) + k)])) := Lib.hid hown2
      clear hgr2 hown2
      go_wp2_with fail
      go_roundw
      case rel => exact ⟨m + 1, v3, c3, by omega, by go_num, rfl, hb2, by rw [hL.out]; exact hown3⟩
      case measure => simp [intOf]; omega
    · have hme : m = b.length := by omega
      subst hme
      rw [List.take_length] at hown
      go_wp2_with fail
      go_ret
      exact ⟨v, c, by simp, hbw.out, by have := hown.out; simpa using this⟩
end Go.Proofs.Ytmjincocmhadeaa
