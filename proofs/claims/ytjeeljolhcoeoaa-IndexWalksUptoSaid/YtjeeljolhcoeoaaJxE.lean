/- Index: Layout, the iterator. -/
import Derived.Test.YtjeeljolhcoeoaaJxD
import Derived.Test.YtjeeljolhcoeoaaRange
namespace Go.Proofs.Ytjeeljolhcoeoaa
open Go.RowKit Go.Shelf
attribute [local go_sem] Oper.semAt_some eql_fn_h eql_nn_h eql_fn_s eql_nn_s eql_fn_i eql_nn_i

/-- whatever lies in cells at or beyond M stays -/
def KpM (M : Nat) (A B : World) : Prop := A.heap.size ≤ B.heap.size ∧ ∀ k c t fr, M ≤ k → A.heap[k]? = some (.cells c t fr) → B.heap[k]? = some (.cells c t fr)
theorem KpM.refl (M : Nat) (A : World) : KpM M A A := ⟨Nat.le_refl _, fun _ _ _ _ _ h => h⟩
theorem KpM.trans {M : Nat} {A B C : World} (h : KpM M A B) (g : KpM M B C) : KpM M A C := ⟨Nat.le_trans h.1 g.1, fun k c t fr hk e => g.2 k c t fr hk (h.2 k c t fr hk e)⟩
theorem KpM.put {M : Nat} (W : World) (l : Nat) (o o' : Obj) (h : W.heap[l]? = some o) (hc : o.isCells = false) : KpM M W (W.putObj l o') := by
  refine ⟨(grownBy_putObj' W l o').size, fun k _ _ _ _ e => ?_⟩
  rw [(grownBy_putObj' W l o').block k (Array.getElem?_eq_some_iff.1 e).1 (by intro he; injection he with he; subst he; rw [e] at h; injection h with h; subst h; simp [Obj.isCells] at hc)]
  exact e
theorem KpM.below {M : Nat} {A B : World} (h : Below A.heap.size A B) : KpM M A B := ⟨h.size, fun _ _ _ _ _ e => (h.block _ (Array.getElem?_eq_some_iff.1 e).1).trans e⟩
theorem KpM.set {M : Nat} (A : World) {b i : Nat} (u : Value) (hb : b < M) : KpM M A (A.setCell ⟨b, i, none⟩ u) :=
  ⟨by rw [World.size_setCell]; exact Nat.le_refl _, fun k c t fr hk e => by rw [heap_setCell_other _ _ _ _ (by show k ≠ b; omega)]; exact e⟩
theorem KpM.own {M : Nat} {A B : World} {base : Nat} {e : TypeId} {size : Nat} {v : Value} {n : Nat} {xs : List Value} (h : A.ownsRow base e size v n xs) (hM : M ≤ base) (hk : KpM M A B) : B.ownsRow base e size v n xs := by
  refine ⟨h.1, ?_⟩
  rcases h.2 with hn | ⟨g, cap, cur, rfl, hg1, hh, r⟩
  · exact .inl hn
  · exact .inr ⟨g, cap, cur, rfl, hg1, hk.2 g _ _ _ (by omega) hh, r⟩
theorem grown_of_below {A B : World} (h : Below A.heap.size A B) : A.grownBy B none := ⟨h.os, h.tape, h.output, h.size, fun k hk _ => h.block k hk⟩
theorem abides_below {β : Type} {n : Nat} {J : β → World → Prop} (hJ : AbidesFrom n J) {s : β} {A B : World} (h : J s A) (hb : Below A.heap.size A B) : J s B :=
  hJ s A B none h (grown_of_below hb) (fun r e => by cases e)

/-- block k is not T's places -/
def NotP (T : Nat) (A : World) (k : Nat) : Prop := ∀ ad n c, A.cell? ⟨T, 2, none⟩ = some (.slice (some ad) n c) → ad.block ≠ k
/-- what a body keeps while Layout goes on: rows of places but T's own, and these entries' keys -/
structure KpL (T : Nat) (es : List Ent) (A B : World) : Prop where
  size : A.heap.size ≤ B.heap.size
  row : ∀ k c fr, NotP T A k → A.heap[k]? = some (.cells c 85 fr) → NotP T B k ∧ B.heap[k]? = some (.cells c 85 fr)
  key : ∀ i (hi : i < es.length), A.cell? ⟨es[i].b, 0, none⟩ = some (.int .i64 es[i].key) → B.cell? ⟨es[i].b, 0, none⟩ = some (.int .i64 es[i].key)
theorem KpL.refl (T : Nat) (es : List Ent) (A : World) : KpL T es A A := ⟨Nat.le_refl _, fun _ _ _ h e => ⟨h, e⟩, fun _ _ h => h⟩
theorem KpL.trans {T : Nat} {es : List Ent} {A B C : World} (h : KpL T es A B) (g : KpL T es B C) : KpL T es A C :=
  ⟨Nat.le_trans h.size g.size, fun k c fr hk e => let ⟨h1, h2⟩ := h.row k c fr hk e; g.row k c fr h1 h2, fun i hi e => g.key i hi (h.key i hi e)⟩
theorem cell_put_other {W : World} {l : Nat} {o' : Obj} {k i : Nat} (hk : k ≠ l) : (W.putObj l o').cell? ⟨k, i, none⟩ = W.cell? ⟨k, i, none⟩ := by
  unfold World.cell?; dsimp only; rw [World.putObj_heap_other hk]
theorem KpL.put {T B0 : Nat} {es : List Ent} (hT : T < B0) (W : World) (l : Nat) (o o' : Obj) (hl : B0 ≤ l) (h : W.heap[l]? = some o) (hc : o.isCells = false) : KpL T es W (W.putObj l o') := by
  refine ⟨(grownBy_putObj' W l o').size, fun k c fr hk e => ⟨fun ad n c he => hk ad n c ?_, ?_⟩, fun i hi e => ?_⟩
  · rwa [cell_put_other (by omega)] at he
  · rw [World.putObj_heap_other (by intro he; subst he; rw [e] at h; injection h with h; subst h; simp [Obj.isCells] at hc)]; exact e
  · rw [cell_put_other (by
      intro he
      have : W.heap[l]? = some o := h
      rw [← he] at this
      unfold World.cell? at e
      dsimp only at e
      rw [this] at e
      cases o <;> simp [Obj.isCells] at hc <;> simp at e)]
    exact e
theorem KpL.below {T : Nat} {es : List Ent} {A B : World} (hT : T < A.heap.size) (h : Below A.heap.size A B) : KpL T es A B :=
  ⟨h.size, fun k c fr hk e => ⟨fun ad n c he => hk ad n c (by rw [h.cell (p := ⟨T, 2, none⟩) hT] at he; exact he), (h.block _ (Array.getElem?_eq_some_iff.1 e).1).trans e⟩, fun i hi e => cell_below h rfl e⟩
theorem KpL.own {T : Nat} {es : List Ent} {A B : World} {base g cap : Nat} {size n : Nat} {xs : List Value} (h : A.ownsRow base 85 size (.slice (some ⟨g, 0, none⟩) n cap) n xs) (hn : NotP T A g) (hk : KpL T es A B) : B.ownsRow base 85 size (.slice (some ⟨g, 0, none⟩) n cap) n xs ∧ NotP T B g := by
  obtain ⟨h1, h2⟩ := h
  rcases h2 with ⟨hn, _⟩ | ⟨g', cap', cur, hv, hg1, hh, r⟩
  · cases hn
  · injection hv with hv _ hc
    injection hv with hv
    injection hv with hv _ _
    subst hv hc
    obtain ⟨k1, k2⟩ := hk.row g _ _ hn hh
    exact ⟨⟨h1, .inr ⟨g, _, cur, rfl, hg1, k2, r⟩⟩, k1⟩

/-- the key of the entry of a block -/
def keyOf (es : List Ent) (b : Nat) : Int := ((es.find? fun e => e.b == b).map Ent.key).getD 0
/-- what Layout tells -/
def layL (es : List Ent) (pl : Nat → Option Nat) (n : Nat) : List (Int × Int) := (List.range n).filterMap fun (j : Nat) => (pl j).map fun b => ((j : Int), keyOf es b)
theorem layL_none (es : List Ent) (pl : Nat → Option Nat) (n : Nat) (h : pl n = none) : layL es pl (n + 1) = layL es pl n := by
  unfold layL; rw [List.range_succ, List.filterMap_append]; simp [h]
theorem layL_some (es : List Ent) (pl : Nat → Option Nat) (n b : Nat) (h : pl n = some b) : layL es pl (n + 1) = layL es pl n ++ [((n : Int), keyOf es b)] := by
  unfold layL; rw [List.range_succ, List.filterMap_append]; simp [h]
theorem layL_pre (es : List Ent) (pl : Nat → Option Nat) (k : Nat) : ∀ n, k ≤ n → layL es pl k <+: layL es pl n := by
  intro n h
  induction n with
  | zero => rw [show k = 0 from by omega]; exact List.prefix_refl _
  | succ n ih =>
    rcases Nat.lt_or_ge k (n + 1) with h1 | h1
    · refine List.IsPrefix.trans (ih (by omega)) ?_
      cases hp : pl n with
      | none => rw [layL_none _ _ _ hp]; exact List.prefix_refl _
      | some b => rw [layL_some _ _ _ _ hp]; exact List.prefix_append _ _
    · rw [show k = n + 1 from by omega]; exact List.prefix_refl _
theorem keyOf_at {es : List Ent} (hn : ∀ i j (hi : i < es.length) (hj : j < es.length), es[i].b = es[j].b → i = j) (i : Nat) (hi : i < es.length) : keyOf es es[i].b = es[i].key := by
  unfold keyOf
  cases hf : es.find? (fun e => e.b == es[i].b) with
  | none =>
    rw [List.find?_eq_none] at hf
    exact absurd (by simp) (hf es[i] (List.getElem_mem hi))
  | some x =>
    have h1 := List.find?_some hf
    have h2 := List.mem_of_find?_eq_some hf
    obtain ⟨k, hk, rfl⟩ := List.getElem_of_mem h2
    have := hn k i hk hi (by simpa using h1)
    subst this
    rfl

section
variable {T P hb sb : Nat} {way : Int} {sz : Nat} {es : List Ent} {pl : Nat → Option Nat}

set_option maxRecDepth 100000 in
set_option maxHeartbeats 8000000 in
theorem lay1 (n : Nat) (W : World) (h : Tab W T P hb sb way sz es pl) (h44 : sz ≤ 17592186044416) (Bt l : Nat) (J Jx : List (Int × Int) → World → Prop) (hJ : AbidesFrom W.heap.size J)
    (hY : ∀ pre x W1, J pre W1 → pre.length < (layL es pl sz).length → YieldAt Fence.wide (n - 1) Try.prog l #[.int .i64 x.1, .int .i64 x.2] W1 fun e W' => (e = .returned (.bool true) ∧ J (pre ++ [x]) W' ∧ KpL T es W1 W') ∨ (e = .returned (.bool false) ∧ Jx (pre ++ [x]) W'))
    (hBt : W.cell? ⟨Bt, 0, none⟩ = some (.pointer (some ⟨T, 0, none⟩))) (h0 : J [] W) :
    CallsIn Fence.wide n Try.prog 51 #[.func (.yield l) #[] #[], .pointer (some ⟨Bt, 0, none⟩)] W fun e W' => (∃ v, e = .returned v) ∧
      ((∃ xs, xs = layL es pl sz ∧ J xs W') ∨ (∃ pre, pre <+: layL es pl sz ∧ Jx pre W')) := by
  obtain ⟨z1, z2⟩ := h.hsz
  obtain ⟨i0, hi, hz0, hz1, hz2⟩ := info_parts infoP
  have t2 := h.t2
  replace hY := Lib.hid hY
  have hnews : Hid (∀ ad : Addr, some (⟨P, 0, none⟩ : Addr) = some ad → ∀ j u, (((List.range sz).map fun j => Value.pointer (ptr (pl j))))[j]? = some u → W.cell? (ad.add j) = some u) := Lib.hid (by
    intro ad he j u hu
    injection he with he
    subst he
    rw [addr_add, Nat.zero_add]
    have hj : j < sz := by
      have := (List.getElem?_eq_some_iff.1 hu).1
      simpa using this
    rw [h.place j hj, ← hu]
    simp [hj])
  refine callsIn_wide.2 ?_
  go_enter Try.func51, Try.ntmps51
  go_upto_region 2 with (first
    | (go_at_call 46; refine (ix_none h).mono ?_; rintro e w' ⟨rfl, rfl⟩)
    | (at_builtin; refine wpList_append_src _ rfl (.const (.slice none 0 0)) (.tmp 11) 84 rfl W.heap.size 85 i0 _ 1 8 Try.underlying84 hi hz0 hz1 hz2 rfl (by decide) (.slice none 0 0) 0 [] rfl (World.ownsRow_nil _ _ _ _) (some ⟨P, 0, none⟩) sz sz ((List.range sz).map fun j => Value.pointer (ptr (pl j))) rfl (fun h => by cases h) (by simp) hnews.out (by intro u hu; obtain ⟨j, _, rfl⟩ := List.mem_map.1 hu; rfl) (by unfold maxLen; omega) (by omega) (Nat.le_refl _) ?_; intro v1 w1 hown hgrow hv1))
  rw [Nat.zero_add, List.nil_append] at hown
  obtain ⟨g, cap, rfl⟩ : ∃ g cap, v1 = .slice (some ⟨g, 0, none⟩) sz cap := by
    rcases hown.2 with ⟨_, h0⟩ | ⟨g, cap, cur, hv, _⟩
    · omega
    · exact ⟨g, cap, hv⟩
  have hbw : Below W.heap.size W w1 := ⟨hgrow.os, hgrow.tape, hgrow.output, hgrow.size, fun k hk => hgrow.block k hk (by simp [Value.ownBlock])⟩
  have hJ1 := Lib.hid (abides_below hJ h0 hbw)
  have hnp : Hid (NotP T w1 g) := Lib.hid (by
    intro ad n c he
    rw [hbw.cell (p := ⟨T, 2, none⟩) (Array.getElem?_eq_some_iff.1 h.hT).1, h.t2] at he
    injection he with he; injection he with he _ _; injection he with he; subst he
    have h1 := (Array.getElem?_eq_some_iff.1 h.hP).1
    rcases hown.2 with ⟨hv, _⟩ | ⟨g', _, _, hv, hg1, _⟩
    · cases hv
    · injection hv with hv _ _; injection hv with hv; injection hv with hv _ _; subst hv
      show P ≠ g
      omega)
  have hk1 : Hid (∀ i (hi : i < es.length), w1.cell? ⟨es[i].b, 0, none⟩ = some (.int .i64 es[i].key)) := Lib.hid fun i hi => cell_below hbw rfl (h.e0 i hi)
  have hs1 := Lib.hid hbw.size
  replace hown := Lib.hid hown
  clear hgrow hv1 hnews t2 h0 hbw
  go_wp2
  refine (wpIn_wide (n := n)).1 ?_
  gi_loopw [15] (fun i wr => ∃ k : Nat, k ≤ sz ∧ i = .int .i64 k ∧ Hid (J (layL es pl k) wr) ∧ Hid (W.heap.size ≤ wr.heap.size) ∧ Hid (wr.ownsRow W.heap.size 85 1 (.slice (some ⟨g, 0, none⟩) sz cap) sz ((List.range sz).map fun j => Value.pointer (ptr (pl j)))) ∧ Hid (NotP T wr g) ∧ Hid (∀ i (hi : i < es.length), wr.cell? ⟨es[i].b, 0, none⟩ = some (.int .i64 es[i].key))) (fun i _ => sz - (intOf i).toNat)
  case atStart => exact ⟨0, Nat.zero_le _, rfl, hJ1, hs1, hown, hnp, hk1⟩
  case round =>
    clear hown hJ1 hk1 hs1 hnp
    obtain ⟨k, hk, rfl, hJs, hsz, hrow, hnp, hks⟩ := hrel
    by_cases hlt : k < sz
    · have hc : wr.cell? ⟨g, k, none⟩ = some (.pointer (ptr (pl k))) := by
        have := hrow.out.cells (g := g) rfl k (Value.pointer (ptr (pl k))) (by simp [hlt])
        simpa [addr_add] using this
      cases hp : pl k with
      | none =>
        rw [hp] at hc
        change wr.cell? _ = some (Value.pointer none) at hc
        have hJn : Hid (J (layL es pl (k + 1)) wr) := Lib.hid (by rw [layL_none _ _ _ hp]; exact hJs.out)
        clear hp hJs
        gi_wp2
        refine ⟨fun _ h => (by cases h), ?_⟩
        gi_wp2
        go_roundw
        case rel => exact ⟨k + 1, by omega, by go_num, hJn, hsz, hrow, hnp, hks⟩
        case measure => simp [intOf]; omega
      | some b =>
        rw [hp] at hc
        change wr.cell? _ = some (Value.pointer (some ⟨b, 0, none⟩)) at hc
        obtain ⟨i, hi, rfl⟩ := h.hpl k hlt b hp
        have hkey := keyOf_at h.nd i hi
        have c0 := hks.out i hi
        have hpre := layL_pre es pl (k + 1) sz (by omega)
        have hnx := layL_some es pl k _ hp
        have hlen : (layL es pl k).length < (layL es pl sz).length := by
          have := hpre.length_le
          rw [hnx] at this
          simp at this; omega
        rw [hkey] at hnx
        obtain ⟨fn, tmps, assign, body, hy, hR3⟩ := hY.out (layL es pl k) ((k : Int), es[i].key) wr hJs.out hlen
        dsimp only at hy
        obtain ⟨B, hB⟩ : ∃ B, es[i].b = B := ⟨_, rfl⟩
        obtain ⟨K, hK⟩ : ∃ K, es[i].key = K := ⟨_, rfl⟩
        rw [hB] at hc c0
        rw [hK] at c0 hy hR3 hnx
        replace hnx := Lib.hid hnx
        replace hpre := Lib.hid hpre
        clear hJs hB hK hkey hp hlen
        gi_wp2
        refine ⟨fun h => (by cases h), hR3.mono ?_⟩
        rintro e w4 (⟨rfl, hJ4, hk4⟩ | ⟨rfl, hJx4⟩)
        · obtain ⟨hrow4, hnp4⟩ := KpL.own hrow.out hnp.out hk4
          replace hrow4 := Lib.hid hrow4
          replace hnp4 := Lib.hid hnp4
          have hsz4 := Lib.hid (Nat.le_trans hsz.out hk4.size)
          have hks4 := Lib.hid fun i hi => hk4.key i hi (hks.out i hi)
          have hJ5 : Hid (J (layL es pl (k + 1)) w4) := Lib.hid (by rw [hnx.out]; exact hJ4)
          clear hJ4 hk4 hrow hsz hks hnp hc c0 hy hR3
          gi_wp2
          go_roundw
          case rel => exact ⟨k + 1, by omega, by go_num, hJ5, hsz4, hrow4, hnp4, hks4⟩
          case measure => simp [intOf]; omega
        · have hJ5 : Hid (Jx (layL es pl (k + 1)) w4) := Lib.hid (by rw [hnx.out]; exact hJx4)
          clear hJx4 hc c0 hy hR3
          gi_wp2
          refine bodyPost_ret (results_none rfl _ _ _) rfl ?_
          exact ⟨⟨_, rfl⟩, .inr ⟨_, hpre.out, hJ5.out⟩⟩
    · obtain rfl : k = sz := by omega
      gi_wp2
      go_end0
      exact ⟨⟨_, rfl⟩, .inl ⟨_, rfl, hJs.out⟩⟩

theorem lay_stops (n : Nat) (w : World) (h : Tab w T P hb sb way sz es pl) (h44 : sz ≤ 17592186044416) (Bt : Nat) (hB : Bt < w.heap.size) (hc : w.cell? ⟨Bt, 0, none⟩ = some (.pointer (some ⟨T, 0, none⟩))) :
    SeqStopsK Fence.wide n Try.prog 51 #[.pointer (some ⟨Bt, 0, none⟩)] (fun x : Int × Int => #[.int .i64 x.1, .int .i64 x.2]) (KpL T es) (fun xs => xs = layL es pl sz) (fun pre => pre <+: layL es pl sz) (layL es pl sz).length w :=
  fun l J Jx W hW hJ _ hY h0 => lay1 n W (h.below hW) h44 Bt l J Jx hJ hY ((hW.cell (p := ⟨Bt, 0, none⟩) hB).trans hc) h0
end
end Go.Proofs.Ytjeeljolhcoeoaa
