/- Index: All, the iterator. -/
import Derived.Test.YtjeeljolhcoeoaaUxD
import Derived.Test.YtjeeljolhcoeoaaSxB
import Derived.Deep.AppendLies
namespace Go.Proofs.Ytjeeljolhcoeoaa.Str
open Go.RowKit Go.Shelf
attribute [local go_sem] Oper.semAt_some eql_fn_h eql_nn_h eql_fn_s eql_nn_s eql_fn_i eql_nn_i

theorem infoEnt : (Try.prog.info? 97).map (fun i => (i.zero, i.size, i.bytes)) = some (some (.agg #[.string ⟨#[]⟩, .slice none 0 0, .int .u64 0, .pointer none, .pointer none]), 5, 64) := by kernel_rfl
def entL (es : List Ent) (i : Nat) : List Value := match es[i]? with
  | some e => (entCs es i e).toList
  | none => []
def entsL (es : List Ent) (k : Nat) : List Value := (List.range k).flatMap (entL es)
theorem entsL_succ (es : List Ent) (k : Nat) (h : k < es.length) : entsL es (k + 1) = entsL es k ++ (entCs es k es[k]).toList := by
  unfold entsL
  rw [List.range_succ, List.flatMap_append]
  simp [entL, h]
theorem entsL_length (es : List Ent) : ∀ k, k ≤ es.length → (entsL es k).length = 5 * k
  | 0, _ => rfl
  | k + 1, h => by rw [entsL_succ es k (by omega), List.length_append, entsL_length es k (by omega)]; show 5 * k + 5 = _; omega
theorem entsL_get (es : List Ent) (k j : Nat) (hk : k < es.length) (hj : j < 5) : ∀ n, k < n → n ≤ es.length → (entsL es n)[k * 5 + j]? = (entCs es k es[k]).toList[j]?
  | 0, h, _ => by omega
  | n + 1, h, hn => by
    rw [entsL_succ es n (by omega)]
    rcases Nat.lt_or_ge k n with h1 | h1
    · rw [List.getElem?_append_left (by rw [entsL_length es n (by omega)]; omega)]
      exact entsL_get es k j hk hj n h1 (by omega)
    · obtain rfl : k = n := by omega
      rw [List.getElem?_append_right (by rw [entsL_length es k (by omega)]; omega), entsL_length es k (by omega), show k * 5 + j - 5 * k = j from by omega]
theorem own_sliceI {w : World} {base : Nat} {e : TypeId} {size : Nat} {v : Value} {n : Nat} {xs : List Value} (h : w.ownsRow base e size v n xs) :
    ∃ a c, v = .slice a n c ∧ (a = none → n = 0 ∧ c = 0) := by
  rcases h.2 with ⟨rfl, rfl⟩ | ⟨g, cap, cur, rfl, _⟩
  · exact ⟨none, 0, rfl, fun _ => ⟨rfl, rfl⟩⟩
  · exact ⟨some ⟨g, 0, none⟩, cap, rfl, fun h => by cases h⟩
theorem sizeEnt : (Try.prog.info? 97).map (fun i => i.size) = some 5 := by kernel_rfl
def allL (es : List Ent) : List (ByteArray × SlV) := es.map fun e => (e.key, e.val)

section
variable {T P hb sb : Nat} {way : Int} {sz : Nat} {es : List Ent} {pl : Nat → Option Nat}

/-- what a body keeps while All goes on: rows of two entries or more -/
structure KpA (A B : World) : Prop where
  size : A.heap.size ≤ B.heap.size
  row : ∀ (k : Nat) (c : Array Value) (fr : Nat × Nat), 5 < c.size → A.heap[k]? = some (.cells c 97 fr) → B.heap[k]? = some (.cells c 97 fr)
theorem KpA.refl (A : World) : KpA A A := ⟨Nat.le_refl _, fun _ _ _ _ e => e⟩
theorem KpA.trans {A B C : World} (h : KpA A B) (g : KpA B C) : KpA A C := ⟨Nat.le_trans h.size g.size, fun k c fr hk e => g.row k c fr hk (h.row k c fr hk e)⟩
theorem KpA.put (W : World) (l : Nat) (o o' : Obj) (h : W.heap[l]? = some o) (hc : o.isCells = false) : KpA W (W.putObj l o') :=
  ⟨(grownBy_putObj' W l o').size, fun _ _ _ _ e => by
    rw [World.putObj_heap_other (by intro he; subst he; rw [e] at h; injection h with h; subst h; simp [Obj.isCells] at hc)]; exact e⟩
theorem KpA.below {A B : World} (h : Below A.heap.size A B) : KpA A B := ⟨h.size, fun _ _ _ _ e => (h.block _ (Array.getElem?_eq_some_iff.1 e).1).trans e⟩
theorem KpA.own {A B : World} {base : Nat} {v : Value} {n : Nat} {xs : List Value} (h : A.ownsRow base 97 5 v n xs) (hn : 1 < n) (hk : KpA A B) : B.ownsRow base 97 5 v n xs := by
  obtain ⟨h1, h2⟩ := h
  rcases h2 with hv | ⟨g, cap, cur, hv, hg1, hh, r1, r2, r3, r4⟩
  · exact ⟨h1, .inl hv⟩
  · exact ⟨h1, .inr ⟨g, cap, cur, hv, hg1, hk.row g _ _ (by omega) hh, r1, r2, r3, r4⟩⟩

set_option maxRecDepth 100000 in
set_option maxHeartbeats 8000000 in
theorem all1 (n : Nat) (W : World) (h : Tab W T P hb sb way sz es pl) (h44 : es.length ≤ 1000000000000) (Bt l : Nat) (J Jx : List (ByteArray × SlV) → World → Prop) (hJ : AbidesFrom W.heap.size J)
    (hY : ∀ pre x W1, J pre W1 → pre.length < (allL es).length → YieldAt Fence.wide (n - 1) Try.prog l #[.string x.1, .slice x.2.a x.2.n x.2.c] W1 fun e W' => (e = .returned (.bool true) ∧ J (pre ++ [x]) W' ∧ KpA W1 W') ∨ (e = .returned (.bool false) ∧ Jx (pre ++ [x]) W'))
    (hBt : W.cell? ⟨Bt, 0, none⟩ = some (.pointer (some ⟨T, 0, none⟩))) (h0 : J [] W) :
    CallsIn Fence.wide n Try.prog 41 #[.func (.yield l) #[] #[], .pointer (some ⟨Bt, 0, none⟩)] W fun e W' => (∃ v, e = .returned v) ∧
      ((∃ xs, xs = allL es ∧ J xs W') ∨ (∃ pre, pre <+: allL es ∧ Jx pre W')) := by
  obtain ⟨i0, hi, hz0, hz1, hz2⟩ := info_parts infoEnt
  have t3 := h.t3
  replace hY := Lib.hid hY
  refine callsIn_wide.2 ?_
  go_enter Try.func41, Try.ntmps41
  go_wp2_with (go_at_call 36; refine (ix_none h).mono ?_; rintro e w' ⟨rfl, rfl⟩)
  go_loopw [3, 4] (fun lv ev wr => ∃ k : Nat, k ≤ es.length ∧ ev = .pointer (ptr ((es[k]?).map Ent.b)) ∧ Hid (Below W.heap.size W wr) ∧ Hid (wr.ownsRow W.heap.size 97 5 lv k (entsL es k))) (fun _ ev _ => rankV es ev)
  case atStart => exact ⟨0, Nat.zero_le _, by rw [List.head?_eq_getElem?], Lib.hid (Below.refl _ _), Lib.hid (World.ownsRow_nil _ _ _ _)⟩
  case round =>
    clear t3
    obtain ⟨k, hk, rfl, hb1, hown⟩ := hrel
    by_cases hlt : k < es.length
    · rw [List.getElem?_eq_getElem hlt]
      have hw := h.below hb1.out
      have hEk := hw.hE k hlt
      have hrk := rk_at h.nd k hlt
      have hsucc := Lib.hid (entsL_succ es k hlt)
      have c0 : wr.cell? ⟨es[k].b, 0, none⟩ = some (.string es[k].key) := cell_of_row _ _ _ _ _ _ hEk
      have c1 : wr.cell? ⟨es[k].b, 1, none⟩ = some (.slice es[k].val.a es[k].val.n es[k].val.c) := cell_of_row _ _ _ _ _ _ hEk
      have c2 : wr.cell? ⟨es[k].b, 2, none⟩ = some (.int .u64 es[k].hash) := cell_of_row _ _ _ _ _ _ hEk
      have c3 : wr.cell? ⟨es[k].b, 3, none⟩ = some (.pointer (ptr (prevB es k))) := cell_of_row _ _ _ _ _ _ hEk
      have cW : W.cell? ⟨es[k].b, 4, none⟩ = some (.pointer (ptr (nextB es k))) := cell_of_row _ _ _ _ _ _ (h.hE k hlt)
      have c4 : wr.cell? ⟨es[k].b, 4, none⟩ = some (.pointer (ptr (nextB es k))) := cell_of_row _ _ _ _ _ _ hEk
      have e1 : (entCs es k es[k]).toList = [.string es[k].key, .slice es[k].val.a es[k].val.n es[k].val.c, .int .u64 es[k].hash, .pointer (ptr (prevB es k)), .pointer (ptr (nextB es k))] := rfl
      rw [e1] at hsucc
      have hmeas : Hid (rankV es (.pointer (ptr ((es[k + 1]?).map Ent.b))) < rankV es (.pointer (ptr (some es[k].b)))) := Lib.hid (by
        have e2 : rankV es (.pointer (ptr (some es[k].b))) = es.length - k := by show es.length - rkE es es[k].b = _; rw [hrk]
        rw [e2]
        rcases Nat.lt_or_ge (k + 1) es.length with h1 | h1
        · rw [List.getElem?_eq_getElem h1]
          show es.length - rkE es es[k + 1].b < _
          rw [rk_at h.nd (k + 1) h1]; omega
        · rw [List.getElem?_eq_none h1]
          show 0 < _
          omega)
      have hnext : Hid (Value.pointer (ptr (nextB es k)) = .pointer (ptr ((es[k + 1]?).map Ent.b))) := Lib.hid rfl
      simp only [Option.map_some] at hmeas ⊢
      clear hEk e1 hrk hw
      obtain ⟨B, hB⟩ : ∃ B, es[k].b = B := ⟨_, rfl⟩
      obtain ⟨K, hK⟩ : ∃ K, es[k].key = K := ⟨_, rfl⟩
      obtain ⟨V, hV⟩ : ∃ V, es[k].val = V := ⟨_, rfl⟩
      obtain ⟨H, hH⟩ : ∃ H, es[k].hash = H := ⟨_, rfl⟩
      obtain ⟨pv, hpv⟩ : ∃ pv, ptr (prevB es k) = pv := ⟨_, rfl⟩
      obtain ⟨nx, hnx⟩ : ∃ nx, ptr (nextB es k) = nx := ⟨_, rfl⟩
      rw [hB] at c0 c1 c2 c3 c4 cW hmeas ⊢
      rw [hK] at c0 hsucc
      rw [hV] at c1 hsucc
      rw [hH] at c2 hsucc
      rw [hpv] at c3 hsucc
      rw [hnx] at c4 cW hsucc hnext
      rw [show ptr (some B) = some ⟨B, 0, none⟩ from rfl] at hmeas ⊢
      clear hB hK hV hH hpv hnx
      have hz := Lib.hid hb1.out.size
      go_wp2_with (at_builtin; refine wpList_append_lies _ rfl (.tmp 19) (.tmp 23) 99 rfl W.heap.size 97 i0 _ 5 64 Try.underlying99 hi hz0 hz1 hz2 rfl (by decide) _ k _ rfl (hown.out.alloc _) ⟨wr.heap.size, 0, none⟩ 1 1 [.string K, .slice V.a V.n V.c, .int .u64 H, .pointer pv, .pointer nx] rfl rfl (World.news_of_block (cs := #[.string K, .slice V.a V.n V.c, .int .u64 H, .pointer pv, .pointer nx]) (t := 97) (fr := (0, 0)) (heap_alloc_new wr _)) (by simp [Value.oneCell']) (by decide) (by unfold maxLen; omega) (by omega) (by rw [World.size_alloc]; have := hz.out; omega) (wr.heap.size + 1) (by simp) ?_; intro g c w1 hown1 hgrow hat hlt1; have hb2 := (hb1.out.al _).grown hgrow (by rw [World.size_alloc]; have := hz.out; omega) (own_ge hown.out); have c4b := cell_below hb2 rfl cW)
      have hown2 : Hid (w1.ownsRow W.heap.size 97 5 (.slice (some ⟨g, 0, none⟩) (k + 1) c) (k + 1) (entsL es (k + 1))) := Lib.hid (by rw [hsucc.out]; exact hown1)
      go_roundw
      case rel => exact ⟨k + 1, by omega, hnext.out, Lib.hid hb2, hown2⟩
      case measure => rw [hnext.out]; exact hmeas.out
    · obtain rfl : k = es.length := by omega
      rw [List.getElem?_eq_none (Nat.le_refl _)]
      change Hid (Below W.heap.size W wr) at hb1
      have hJ1 := Lib.hid (abides_below hJ h0 hb1.out)
      have hs1 := Lib.hid hb1.out.size
      obtain ⟨va, ca, rfl, hva⟩ := own_sliceI hown.out
      simp only [Option.map_none]
      rw [show ptr none = none from rfl]
      clear hva hk
      go_wp2
      refine (wpIn_wide (n := n)).1 ?_
      gi_loopw [27] (fun i wr => ∃ k : Nat, k ≤ es.length ∧ i = .int .i64 k ∧ Hid (J ((allL es).take k) wr) ∧ Hid (W.heap.size ≤ wr.heap.size) ∧ Hid (k < es.length → wr.ownsRow W.heap.size 97 5 (.slice va es.length ca) es.length (entsL es es.length))) (fun i _ => es.length - (intOf i).toNat)
      case atStart => exact ⟨0, Nat.zero_le _, rfl, by rw [List.take_zero]; exact hJ1, hs1, Lib.hid fun _ => hown.out⟩
      case round =>
        clear hown hJ1 hs1 hb1
        obtain ⟨k, hk, rfl, hJs, hsz, hrow⟩ := hrel
        by_cases hlt : k < es.length
        · have hrowN := hrow
          replace hrow := Lib.hid (hrowN.out hlt)
          clear hrowN
          obtain ⟨g, cap, hv, _⟩ := own_shape hrow.out (by omega)
          injection hv with hv _ hca
          subst hv
          subst hca
          have hall : (allL es).length = es.length := by simp [allL]
          have htake : Hid ((allL es).take (k + 1) = (allL es).take k ++ [(es[k].key, es[k].val)]) := Lib.hid (by
            rw [List.take_succ_eq_append_getElem (by omega)]; simp [allL])
          have hcs : ∀ j, j < 5 → wr.cell? ⟨g, k * 5 + j, none⟩ = (entCs es k es[k]).toList[j]? := fun j hj => by
            rw [hrow.out.cellAt _ (by omega), entsL_get es k j hlt hj _ hlt (Nat.le_refl _)]
          have k0 : wr.cell? ⟨g, k * 5, none⟩ = some (.string es[k].key) := hcs 0 (by omega)
          have k1 : wr.cell? ⟨g, k * 5 + 1, none⟩ = some (.slice es[k].val.a es[k].val.n es[k].val.c) := hcs 1 (by omega)
          have k2 : wr.cell? ⟨g, k * 5 + 2, none⟩ = some (.int .u64 es[k].hash) := hcs 2 (by omega)
          have k3 : wr.cell? ⟨g, k * 5 + 3, none⟩ = some (.pointer (ptr (prevB es k))) := hcs 3 (by omega)
          have k4 : wr.cell? ⟨g, k * 5 + 4, none⟩ = some (.pointer (ptr (nextB es k))) := hcs 4 (by omega)
          have hY1 := hY.out ((allL es).take k) (es[k].key, es[k].val)
          clear hcs
          obtain ⟨K, hK⟩ : ∃ K, es[k].key = K := ⟨_, rfl⟩
          obtain ⟨V, hV⟩ : ∃ V, es[k].val = V := ⟨_, rfl⟩
          obtain ⟨H, hH⟩ : ∃ H, es[k].hash = H := ⟨_, rfl⟩
          obtain ⟨pv, hpv⟩ : ∃ pv, ptr (prevB es k) = pv := ⟨_, rfl⟩
          obtain ⟨nx, hnx⟩ : ∃ nx, ptr (nextB es k) = nx := ⟨_, rfl⟩
          rw [hK] at k0 hY1 htake
          rw [hV] at k1 hY1 htake
          rw [hH] at k2
          rw [hpv] at k3
          rw [hnx] at k4
          clear hK hV hH hpv hnx
          replace hY1 := Lib.hid hY1
          refine wpIn_wide.2 ?_
          go_upto_region 9 with (refine wpList_store_rowA rfl 97 (.tmp 6) (.tmp 30) rfl wr.heap.size #[.string K, .slice V.a V.n V.c, .int .u64 H, .pointer pv, .pointer nx] rfl rfl 97 #[.string ⟨#[]⟩, .slice none 0 0, .int .u64 0, .pointer none, .pointer none] (heap_alloc_new _ _) sizeEnt rfl (by simp [Value.oneCell']) ?_; intro w3 hg3 hgr hsz3)
          have hb3 : Below wr.heap.size wr w3 := ((Below.refl _ _).al _).grown hgr (by simp) (by intro k hk; injection hk with hk; omega)
          obtain ⟨fn, tmps, assign, body, hy, hR3⟩ := hY1.out w3 (abides_below hJ hJs.out hb3) (by simp [allL]; omega)
          dsimp only at hy
          have c0 : w3.cell? ⟨wr.heap.size, 0, none⟩ = some (.string K) := cell_of_row _ _ _ _ _ _ hg3.out
          have c1 : w3.cell? ⟨wr.heap.size, 1, none⟩ = some (.slice V.a V.n V.c) := cell_of_row _ _ _ _ _ _ hg3.out
          have hrow3 := Lib.hid (own_below hrow.out hb3)
          have hsz3 := Lib.hid (Nat.le_trans hsz.out hb3.size)
          clear hgr k0 k1 k2 k3 k4 hg3 hJs hb3 hrow hsz hall hY1
          refine (wpIn_wide (n := n)).1 ?_
          gi_wp2
          refine ⟨fun h => (by cases h), hR3.mono ?_⟩
          rintro e w4 (⟨rfl, hJ4, hk4⟩ | ⟨rfl, hJx4⟩)
          · have hrow4 : Hid (k + 1 < es.length → w4.ownsRow W.heap.size 97 5 (.slice (some ⟨g, 0, none⟩) es.length ca) es.length (entsL es es.length)) := Lib.hid fun h2 => KpA.own hrow3.out (by omega) hk4
            have hsz4 := Lib.hid (Nat.le_trans hsz3.out hk4.size)
            replace hJ4 := Lib.hid hJ4
            clear hk4 hrow3 hsz3 c0 c1 hy hR3
            gi_wp2
            go_wp2
            go_roundw
            case rel => exact ⟨k + 1, by omega, by go_num, by rw [htake.out]; exact hJ4, hsz4, hrow4⟩
            case measure => simp [intOf]; omega
          · replace hJx4 := Lib.hid hJx4
            clear c0 c1 hy hR3
            gi_wp2
            go_wp2
            refine bodyPost_ret (results_none rfl _ _ _) rfl ?_
            exact ⟨⟨_, rfl⟩, .inr ⟨_, List.take_prefix (k + 1) _, by rw [htake.out]; exact hJx4.out⟩⟩
        · obtain rfl : k = es.length := by omega
          gi_wp2
          go_end0
          exact ⟨⟨_, rfl⟩, .inl ⟨_, rfl, by have := hJs.out; rwa [List.take_of_length_le (by simp [allL])] at this⟩⟩

theorem all_stops (n : Nat) (w : World) (h : Tab w T P hb sb way sz es pl) (h44 : es.length ≤ 1000000000000) (Bt : Nat) (hB : Bt < w.heap.size) (hc : w.cell? ⟨Bt, 0, none⟩ = some (.pointer (some ⟨T, 0, none⟩))) :
    SeqStopsK Fence.wide n Try.prog 41 #[.pointer (some ⟨Bt, 0, none⟩)] (fun x : ByteArray × SlV => #[.string x.1, .slice x.2.a x.2.n x.2.c]) KpA (fun xs => xs = allL es) (fun pre => pre <+: allL es) (allL es).length w :=
  fun l J Jx W hW hJ _ hY h0 => all1 n W (h.below hW) h44 Bt l J Jx hJ hY ((hW.cell (p := ⟨Bt, 0, none⟩) hB).trans hc) h0
end
end Go.Proofs.Ytjeeljolhcoeoaa.Str
