/- Index: IndexTexts, the walk. -/
import Derived.Test.YtjeeljolhcoeoaaUxH
import Derived.Test.YtjeeljolhcoeoaaUxG
import Derived.Test.YtjeeljolhcoeoaaIxH
import Derived.Deep.RegionLaw
import Derived.Deep.RegionHeld3
import Derived.Deep.CutRange
import Derived.Lib.Builder
namespace Go.Proofs.Ytjeeljolhcoeoaa.Str
open Go.RowKit Go.Shelf
attribute [local go_sem] eql_fn_h eql_nn_h eql_fn_s eql_nn_s eql_fn_i eql_nn_i Oper.semAt_some

structure StrsA (w : World) (a : Option Addr) (ks : List ByteArray) : Prop where
  cells : ∀ i (h : i < ks.length), ∃ b off, a = some ⟨b, off, none⟩ ∧ w.cell? ⟨b, off + i, none⟩ = some (.string ks[i])
structure BoolsA (w : World) (a : Option Addr) (gs : List Bool) : Prop where
  cells : ∀ i (h : i < gs.length), ∃ b off, a = some ⟨b, off, none⟩ ∧ w.cell? ⟨b, off + i, none⟩ = some (.bool gs[i])
structure IS (w0 W : World) (b4 bN bL T k sz P : Nat) (pl : Nat → Option Nat) (es : List Ent) (vn vl : Value) : Prop where
  ir : IR w0 W b4 bN bL vn vl (es.map Ent.key) (es.map Ent.val)
  ts : TS W T P 0 0 0 sz es pl
  ge : ∀ b, tabB T P es b → w0.heap.size ≤ b
  val : ∀ e, e ∈ es → e.val.n = 2 ∧ ∃ g, e.val.a = some ⟨g, 0, none⟩
  ln : es.length ≤ k
theorem IS.below {w0 W W' : World} {b4 bN bL T k sz P : Nat} {pl : Nat → Option Nat} {es : List Ent} {vn vl : Value} (h : IS w0 W b4 bN bL T k sz P pl es vn vl) (hb : Below W.heap.size W W') : IS w0 W' b4 bN bL T k sz P pl es vn vl :=
  ⟨h.ir.below hb, h.ts.below hb, h.ge, h.val, h.ln⟩
/-- the turn of a key among the first j -/
def AT (es : List Ent) (K : ByteArray) (j : Nat) (at_ : Int) : Prop := (at_ = -1 ∧ ∀ i (hi : i < es.length), i < j → es[i].key ≠ K) ∨ ∃ i, ∃ hi : i < es.length, i < j ∧ at_ = i ∧ es[i].key = K
theorem str_ne {a b : ByteArray} (h : (a.toList == b.toList) = false) : a ≠ b := fun e => by rw [e] at h; simp at h
theorem str_eq {a b : ByteArray} (h : (a.toList == b.toList) = true) : a = b := (same_iff 0 a b).1 h
theorem infoStr : (Try.prog.info? 9).map (fun i => (i.zero, i.size, i.bytes)) = some (some (.string ⟨#[]⟩), 1, 16) := by kernel_rfl
theorem infoSl : (Try.prog.info? 28).map (fun i => (i.zero, i.size, i.bytes)) = some (some (.slice none 0 0), 1, 24) := by kernel_rfl
theorem infoIn : (Try.prog.info? 3).map (fun i => (i.zero, i.size, i.bytes)) = some (some (.int .i64 0), 1, 8) := by kernel_rfl
theorem map_erase {α β : Type} (f : α → β) (l : List α) (i : Nat) : (l.eraseIdx i).map f = (l.map f).eraseIdx i := by
  rw [List.eraseIdx_eq_take_drop_succ, List.eraseIdx_eq_take_drop_succ, List.map_append, List.map_take, List.map_drop]
theorem own_al_drewS {w : World} {base : Nat} {e : TypeId} {size : Nat} {v : Value} {n : Nat} {xs : List Value} (ob : Obj) (h : w.ownsRow base e size v n xs) : (w.alloc ob).drew.ownsRow base e size v n xs := (h.alloc ob).drew
theorem own_cells_rowS {w : World} {us : List Value} {cs : Array Value} {e : TypeId} {b : Nat} (hb : w.heap.size = b) (h : cs = us.toArray) : ∀ j x, us[j]? = some x → (w.alloc (.cells cs e)).cell? ((⟨b, 0, none⟩ : Addr).add j) = some x := by
  subst h hb
  intro j x hx
  rw [addr_add, Nat.zero_add, cell_of_row _ _ _ _ _ (0, 0) (heap_alloc_new w _)]
  simpa using hx
theorem own_frozen {w : World} {base : Nat} {e : TypeId} {size n cap g : Nat} {xs : List Value} (h : w.ownsRow base e size (.slice (some ⟨g, 0, none⟩) n cap) n xs) (j : Nat) : w.frozen? ⟨g, j, none⟩ = false := by
  rcases h.2 with ⟨h', _⟩ | ⟨g', cap', cur, h', hb, hg, _⟩
  · cases h'
  · injection h' with h'
    injection h' with h'
    injection h' with h'
    subst h'
    exact frozen_of hg j
theorem set_self {α : Type} {l : List α} {i : Nat} {x : α} (hi : i < l.length) (h : l[i] = x) : l.set i x = l := by
  subst h; exact List.set_getElem_self hi
theorem IR.keptT {w0 W W' : World} {b4 bN bL : Nat} {vn vl : Value} {ns : List ByteArray} {vs : List SlV} {R : Nat → Prop} (h : IR w0 W b4 bN bL vn vl ns vs) (hk : KeptR R W W') (hR : ∀ b t, isTy W b t → t ≠ 3 → ¬ R b) (hge : ∀ b, R b → w0.heap.size ≤ b) : IR w0 W' b4 bN bL vn vl ns vs :=
  ⟨bx_kept h.x4 hk (hR _ _ (bx_ty h.x4) (by decide)), bx_kept h.xN hk (hR _ _ (bx_ty h.xN) (by decide)), bx_kept h.xL hk (hR _ _ (bx_ty h.xL) (by decide)),
    own_keptR h.oN hk fun g e => hR _ _ (own_ty h.oN e) (by decide), own_keptR h.oL hk fun g e => hR _ _ (own_ty h.oL e) (by decide), h.gN, h.gL, keptR_belowK h.bel hk hge h.bel.size⟩
theorem IR.own {w0 W W' : World} {b4 bN bL B : Nat} {vn vl : Value} {ns : List ByteArray} {vs : List SlV} {row : Option Nat} (h : IR w0 W b4 bN bL vn vl ns vs) (hB : w0.heap.size ≤ B) (hg : W.grownBy W' row) (hr : ∀ r, row = some r → B ≤ r ∧ ∃ o : Obj, W.heap[r]? = some o ∧ o.isCells = false) : IR w0 W' b4 bN bL vn vl ns vs :=
  h.keptT (R := fun b => row = some b) ((KeptR.refl _ W).grown hg fun b e => .inl e) (fun b t ht _ e => by
    obtain ⟨_, o, h1, h2⟩ := hr b e
    obtain ⟨cs, fr, h3⟩ := ht
    rw [h3] at h1; injection h1 with h1; subst h1; simp [Obj.isCells] at h2) (fun b e => Nat.le_trans hB (hr b e).1)
theorem kpa_setI {W : World} {b : Nat} {u v : Value} (hb : Boxed W b 3 v) : KpA W (W.setCell ⟨b, 0, none⟩ u) := ⟨by rw [World.size_setCell]; exact Nat.le_refl _, fun k cs fr _ e => by
  rw [heap_setCell_other _ _ _ _ ((show isTy W k 97 from ⟨_, _, e⟩).ne (bx_ty hb) (by decide))]
  exact e⟩
theorem ko_below {A B : World} (h : Below A.heap.size A B) : KeepsOthers A B := ⟨h.size, fun j _ e _ => (h.block j (Array.getElem?_eq_some_iff.1 e).1).trans e⟩
theorem ix_allB (T : Nat) (w : World) : Calls Try.prog 14 #[.pointer (some ⟨T, 0, none⟩)] w fun e w' => ∃ b, e = .returned (.func (.func 41) #[] #[.pointer (some ⟨b, 0, none⟩)]) ∧ Boxed w' b 24 (.pointer (some ⟨T, 0, none⟩)) ∧ Below w.heap.size w w' := by
  go_enter Try.func14, Try.ntmps14
  go_wp2
  go_ret
  exact ⟨w.heap.size, rfl, Boxed.new _ _ _, (Below.refl _ w).al _⟩
theorem take_some {l : List Value} {i j : Nat} {u : Value} (h : (l.take i)[j]? = some u) : l[j]? = some u := by
  rw [List.getElem?_take] at h
  split at h
  · exact h
  · cases h
set_option maxHeartbeats 16000000 in
set_option maxRecDepth 100000 in
theorem law_IndexTexts (a1 : Option Addr) (cap1 : Nat) (a2 : Option Addr) (cap2 : Nat) (ks : List ByteArray) (gs : List Bool) (w : World) (hx1 : StrsA w a1 ks) (hx2 : BoolsA w a2 gs) (hl : ks.length ≤ 1048576) :
    Calls Try.prog 3 #[.slice a1 ks.length cap1, .slice a2 gs.length cap2] w fun e w' => e = .returned (.bool true) ∧ Below w.heap.size w w' := by
  refine callsIn_wide.1 (callsIn_of_wp_marks (n := 9) Try.func3 rfl trivial ?_ rfl)
  simp only [Try.ntmps3, List.size_toArray, List.length_cons, List.length_nil, Nat.reduceAdd, Nat.reduceSub, Array.replicate_succ, Array.replicate_zero, List.push_toArray, List.append_toArray, List.nil_append, List.cons_append]
  refine wpIn_wide.2 ?_
  obtain ⟨is, his, sz0, sz1, sz2⟩ := info_parts infoStr
  obtain ⟨il, hil, lz0, lz1, lz2⟩ := info_parts infoSl
  obtain ⟨ii, hii, -⟩ := info_parts infoIn
  have hneP : Hid (∀ (p : Addr) (w : World), (binOp .neq 34 (.pointer (some p)) (.pointer (some p))).run Try.prog w = .ok (.bool false) w) := Lib.hid fun p w => Lib.run_neq_ptr_same w p Try.underlying34 hii
  replace hx1 := Lib.hid hx1
  replace hx2 := Lib.hid hx2
  obtain ⟨b4, hb4⟩ : ∃ b, w.heap.size = b := ⟨_, rfl⟩
  have h4 : Hid (Boxed (w.alloc (.cells #[.bool false] 4)) b4 4 (.bool false) ∧ Below w.heap.size w (w.alloc (.cells #[.bool false] 4))) := Lib.hid (by rw [← hb4]; exact ⟨Boxed.new _ _ _, (Below.refl _ w).al _⟩)
  go_wp2_with fail
  generalize w.alloc (.cells #[.bool false] 4) = W1 at h4 ⊢
  refine (ix_new (hb := 0) (sb := 0) (way := 0) (w := W1)).mono ?_
  rintro e wn ⟨T, P, rfl, hT, hP, ht, hbn⟩
  obtain ⟨bN, hbN⟩ : ∃ b, wn.heap.size = b := ⟨_, rfl⟩
  have hIS : Hid (IS w ((wn.alloc (.cells #[.slice none 0 0] 22)).alloc (.cells #[.slice none 0 0] 31)) b4 bN (bN + 1) T 0 8 P (fun _ => none) [] (.slice none 0 0) (.slice none 0 0)) := Lib.hid (by
    obtain ⟨x4, hb1⟩ := h4.out
    have e1 := Boxed.new wn 22 (.slice none 0 0)
    have e2 := Boxed.new (wn.alloc (.cells #[.slice none 0 0] 22)) 31 (.slice none 0 0)
    rw [World.size_alloc] at e2
    have hb2 := ((Below.refl wn.heap.size wn).al (.cells #[.slice none 0 0] 22)).al (.cells #[.slice none 0 0] 31)
    have hb3 := hb1.trans (hbn.mono hb1.size)
    have hs1 := hb1.size
    have hs3 := hb3.size
    rw [← hbN]
    refine ⟨⟨bx_below (bx_below x4 hbn) hb2, e1.alloc _, e2, World.ownsRow_nil _ _ _ _, World.ownsRow_nil _ _ _ _, hs3, Nat.le_succ_of_le hs3, hb3.trans (hb2.mono hs3)⟩, ⟨ht.below hb2, Can.nil 8, fun i _ hi => by simp at hi, by simp, 0, rfl⟩, ?_, fun e he => (by cases he), Nat.le_refl _⟩
    rintro b (rfl | rfl | ⟨e, he, _⟩)
    · omega
    · omega
    · cases he)
  clear hT hP ht hbn h4
  go_wp2_with fail
  generalize (wn.alloc (.cells #[.slice none 0 0] 22)).alloc (.cells #[.slice none 0 0] 31) = W2 at hIS ⊢
  obtain ⟨bL, hbL⟩ : ∃ b, bN + 1 = b := ⟨_, rfl⟩
  rw [hbL] at hIS ⊢
  clear hbL hbN
  replace hb4 := Lib.hid hb4
  go_loopw [9] (fun i wr => ∃ k : Nat, k ≤ ks.length ∧ i = .int .i64 k ∧ ∃ sz P pl es vn vl, Hid (IS w wr b4 bN bL T k sz P pl es vn vl)) (fun i _ => ks.length - (intOf i).toNat)
  case atStart => exact ⟨0, Nat.zero_le _, rfl, 8, P, _, [], _, _, hIS⟩
  case round =>
    clear hIS
    obtain ⟨k, hk, rfl, sz, P, pl, es, vn, vl, hIS⟩ := hrel
    by_cases hlt : k < ks.length
    · obtain ⟨kb, koff, rfl, kc⟩ := hx1.out.cells k hlt
      obtain ⟨K, hK⟩ : ∃ K, ks[k] = K := ⟨_, rfl⟩
      rw [hK] at kc
      clear hK
      have kc0 := Lib.hid kc
      replace kc := cell_below hIS.out.ir.bel rfl kc
      obtain ⟨na, nc, rfl, -⟩ := own_sliceI hIS.out.ir.oN
      have hkb : k < 1048576 := by omega
      have hln := hIS.out.ln
      have cN : wr.cell? ⟨bN, 0, none⟩ = some (.slice na es.length nc) := by have := hIS.out.ir.xN.cell; rwa [List.length_map] at this
      go_wp2_with fail
      obtain ⟨wo, hwo⟩ : ∃ wo : World, wo = wr := ⟨_, rfl⟩
      rw [← hwo] at hIS kc cN ⊢
      clear hwo
      go_loopw [10, 11] (fun atv iv wr => ∃ (j : Nat) (at_ : Int), j ≤ es.length ∧ atv = .int .i64 at_ ∧ iv = .int .i64 j ∧ Hid (AT es K j at_) ∧ Hid (Below wo.heap.size wo wr)) (fun _ iv _ => es.length - (intOf iv).toNat)
      case atStart => exact ⟨0, -1, Nat.zero_le _, rfl, rfl, Lib.hid (.inl ⟨rfl, fun i _ h => absurd h (Nat.not_lt_zero _)⟩), Lib.hid (Below.refl _ _)⟩
      case round =>
        obtain ⟨j, at_, hj, rfl, rfl, hat, hb⟩ := hrel
        have kc2 := cell_below hb.out rfl kc
        have cN2 := cell_below hb.out rfl cN
        by_cases hjl : j < es.length
        · obtain ⟨g, c, hv, -⟩ := own_shape hIS.out.ir.oN (by rw [List.length_map]; omega)
          injection hv with hv hv1 hv2
          subst hv hv2
          have cK : wo.cell? ⟨g, j, none⟩ = some (.string es[j].key) := by
            have := hIS.out.ir.oN.cells (g := g) rfl j (.string es[j].key) (by simp [hjl])
            simpa [addr_add] using this
          have cK2 := cell_below hb.out rfl cK
          clear cK kc cN hv1
          obtain ⟨A, hA⟩ : ∃ A, es[j].key = A := ⟨_, rfl⟩
          rw [hA] at cK2
          have hjb : j < 1048576 := by omega
          have hltn : decide ((j : Int) < (es.length : Int)) = true := decide_eq_true (by omega)
          by_cases hS : (A.toList == K.toList) = true
          · have hat2 : Hid (AT es K (j + 1) j) := Lib.hid (.inr ⟨j, hjl, Nat.lt_succ_self j, rfl, hA.trans (str_eq hS)⟩)
            have hb2 : Hid (∀ m, Hid (Below wo.heap.size wo (wr.drewN m))) := Lib.hid fun m => Lib.hid (below_drewN hb.out m)
            replace hA := Lib.hid hA
            clear hat hb
            go_wp2_with fail
            go_quiet (fail)
            go_wp2_with fail
            go_roundw
            case rel => exact ⟨j + 1, j, by omega, rfl, by go_num, hat2, hb2.out _⟩
            case measure => simp [intOf]; omega
          · have hS' : (A.toList == K.toList) = false := by simpa using hS
            have hat2 : Hid (AT es K (j + 1) at_) := Lib.hid (by
              rcases hat.out with ⟨h1, h2⟩ | ⟨i, hi, h1, h2, h3⟩
              · refine .inl ⟨h1, fun i hi h => ?_⟩
                rcases Nat.lt_or_ge i j with h4 | h4
                · exact h2 i hi h4
                · obtain rfl : i = j := by omega
                  rw [hA]; exact str_ne hS'
              · exact .inr ⟨i, hi, by omega, h2, h3⟩)
            have hb2 : Hid (∀ m, Hid (Below wo.heap.size wo (wr.drewN m))) := Lib.hid fun m => Lib.hid (below_drewN hb.out m)
            replace hA := Lib.hid hA
            clear hat hb hS
            go_wp2_with fail
            go_quiet (fail)
            go_wp2_with fail
            go_roundw
            case rel => exact ⟨j + 1, at_, by omega, rfl, by go_num, hat2, hb2.out _⟩
            case measure => simp [intOf]; omega
        · obtain rfl : j = es.length := by omega
          have hI := Lib.hid (hIS.out.below hb.out)
          have hatE := hat
          clear hIS hb hat kc cN hj hjl
          obtain ⟨B, hBv⟩ : ∃ B : Bool, (if h : k < gs.length then gs[k] else false) = B := ⟨_, rfl⟩
          have hgc : Hid (∀ h : k < gs.length, ∃ gb goff, a2 = some ⟨gb, goff, none⟩ ∧ wr.cell? ⟨gb, goff + k, none⟩ = some (.bool B)) := Lib.hid fun h => by
            obtain ⟨gb, goff, h1, h2⟩ := hx2.out.cells k h
            rw [dif_pos h] at hBv
            rw [hBv] at h2
            exact ⟨gb, goff, h1, cell_below hI.out.ir.bel rfl h2⟩
          have hBf : Hid (¬ k < gs.length → B = false) := Lib.hid fun h => by rw [← hBv, dif_neg h]
          clear hBv
          go_upto_region 15 with fail
          go_cut [63] from 42 to 63 (fun v wx => v = .bool B ∧ wx = wr)
          case first =>
            by_cases hg : k < gs.length
            · obtain ⟨gb, goff, rfl, hc⟩ := hgc.out hg
              go_wp2_with fail
              go_meet
              exact ⟨rfl, rfl⟩
            · obtain rfl := hBf.out hg
              go_wp2_with fail
              go_meet
              exact ⟨rfl, rfl⟩
          case rest =>
          obtain ⟨rfl, rfl⟩ := hcut
          clear hgc hBf
          cases B with
          | true =>
            have hp := Lib.hid (ts_take hI.out.ts K (by omega))
            go_wp2_with fail
            with_reducible refine hp.out.mono ?_
            rcases hatE.out with ⟨rfl, hno⟩ | ⟨i, hi, _, rfl, hKi⟩
            · rintro e w1 (⟨i, hi, hm, _⟩ | ⟨_, rfl, hd⟩)
              · exact absurd ((same_iff 0 _ _).1 hm) (hno i hi hi)
              · have hI1 := Lib.hid (hI.out.below (hd.below _))
                clear hI hp hno hd kc2 cN2 hatE
                go_wp2_with fail
                go_quiet (fail)
                have hI2 := Lib.hid (hI1.out.below (below_drewN (Below.refl w1.heap.size w1) nq))
                go_wp2_with fail
                go_roundw
                case rel => exact ⟨k + 1, by omega, by go_num, sz, P, pl, es, _, vl, Lib.hid ⟨hI2.out.ir, hI2.out.ts, hI2.out.ge, hI2.out.val, by omega⟩⟩
                case measure => simp [intOf]; omega
            · rintro e w1 (⟨i2, hi2, hm2, rfl, pl2, hts2, hk2⟩ | ⟨hno, _⟩)
              · obtain rfl : i2 = i := hI.out.ts.na i2 i hi2 hi (by rw [hKi]; exact hm2)
                have hk3 : KeptR (tabB T P es) wc w1 := kr_mono hk2 fun b hb => by
                  rcases hb with e | e | ⟨e, he, h⟩
                  · exact .inl e
                  · exact .inr (.inl e)
                  · exact .inr (.inr ⟨e, List.mem_of_mem_eraseIdx he, h⟩)
                have hR1 := Lib.hid (hI.out.ir.tab hI.out.ts.tab hk3 hI.out.ge)
                obtain ⟨hv1, gv, hv2⟩ := hI.out.val _ (List.getElem_mem hi2)
                obtain ⟨la, lc, rfl, -⟩ := own_sliceI hI.out.ir.oL
                obtain ⟨gl, lc2, hvl, -, -, hlc, -⟩ := own_shape hI.out.ir.oL (by rw [List.length_map]; omega)
                injection hvl with hvl _ hvc
                subst hvl hvc
                obtain ⟨gn, nc2, hvl, -, -, hnc, -⟩ := own_shape hI.out.ir.oN (by rw [List.length_map]; omega)
                injection hvl with hvl _ hvc
                subst hvl hvc
                rw [List.length_map] at hnc hlc
                have cL : w1.cell? ⟨bL, 0, none⟩ = some (.slice (some ⟨gl, 0, none⟩) es.length lc) := by have := hR1.out.xL.cell; rwa [List.length_map] at this
                have cV : w1.cell? ⟨gl, i2, none⟩ = some (.slice es[i2].val.a es[i2].val.n es[i2].val.c) := by
                  have := hR1.out.oL.cells (g := gl) rfl i2 (es[i2].val.v) (by simp [hi2])
                  simpa [addr_add, SlV.v] using this
                rw [hv1, hv2] at cV ⊢
                obtain ⟨vc, hvc⟩ : ∃ c, es[i2].val.c = c := ⟨_, rfl⟩
                rw [hvc] at cV ⊢
                have hib : i2 < 1048576 := by omega
                have hlt2 : decide ((i2 : Int) < (es.length : Int)) = true := decide_eq_true (by omega)
                replace hts2 := Lib.hid hts2
                clear hvc hv1 hv2 hk2 hk3 hm2 hp hatE kc2 cN2 hKi
                go_wp2_with fail
                have hneq := hneP.out ⟨gv, 0, none⟩
                go_quiet (fail)
                clear hneq
                have hR2 := Lib.hid (hR1.out.below (below_drewN (Below.refl w1.heap.size w1) nq))
                have hT2 := Lib.hid (hts2.out.below (below_drewN (Below.refl w1.heap.size w1) nq))
                generalize w1.drewN nq = w2 at hR2 hT2 ⊢
                clear hR1 hts2 cL cV
                have hlen1 : (es.map Ent.key).length = es.length := List.length_map _
                have cN := hR2.out.xN.cell
                rw [hlen1] at cN
                have hsrc : Hid (∀ V, Below w2.heap.size w2 V → ∀ (j : Nat) (u : Value), ((es.map Ent.key).map Value.string)[j]? = some u → V.cell? ⟨gn, j, none⟩ = some u) := Lib.hid fun V hV j u hu => by
                  have := (own_below hR2.out.oN hV).cells (g := gn) rfl j u hu
                  simpa [addr_add] using this
                have hcb : Hid (∀ V, Below w2.heap.size w2 V → V.cell? ⟨bN, 0, none⟩ = some (.slice (some ⟨gn, 0, none⟩) es.length nc)) := Lib.hid fun V hV => cell_below hV rfl cN
                have hw0 : Hid (w.heap.size ≤ w2.heap.size) := Lib.hid hR2.out.bel.size
                have q1 : IntKind.i64.wrap ((i2 : Int) + 1) = (i2 : Int) + 1 := IntWalk.i64_in _ (by omega)
                have q2 : (0 : Int) ≤ (i2 : Int) + 1 := by omega
                have q3 : ((i2 : Int) + 1).toNat = i2 + 1 := by omega
                have q4 : i2 ≤ nc := by omega
                have q5 : i2 + 1 ≤ es.length := by omega
                have q7 : (i2 : Int) ≤ (i2 : Int) + 1 := by omega
                have q6 : (i2 : Int) + 1 ≤ (es.length : Int) := by omega
                have hel : Hid (((es.map Ent.key).eraseIdx i2).map Value.string = ((es.map Ent.key).map Value.string).take i2 ++ ((es.map Ent.key).map Value.string).drop (i2 + 1) ∧ ((es.map Ent.key).eraseIdx i2).length = i2 + (es.length - (i2 + 1))) := Lib.hid (by
                  rw [List.eraseIdx_eq_take_drop_succ, List.map_append, List.map_take, List.map_drop, List.length_append, List.length_take, List.length_drop, hlen1]
                  exact ⟨rfl, by omega⟩)
                go_upto_region 20 with fail
                go_cut [] from 107 to 115 (fun wx => ∃ vn2, Hid (IR w wx b4 bN bL vn2 (.slice (some ⟨gl, 0, none⟩) (es.map Ent.val).length lc) ((es.map Ent.key).eraseIdx i2) (es.map Ent.val)) ∧ Hid (TS wx T P 0 0 0 sz (es.eraseIdx i2) pl2))
                case first =>
                  by_cases hcap : nc = i2 + 1
                  · have hcapT : (nc = i2 + 1) = True := eq_true hcap
                    replace hcap := Lib.hid hcap
                    go_wp2_with fail
                    refine wp_region_noPanic ?_
                    go_region_law (first
                      | (refine step_append_any rfl (.const (.slice none 0 0)) (.tmp 109) 22 rfl w.heap.size 9 is _ 1 16 Try.underlying22 his sz0 sz1 sz2 rfl (by decide) (.slice none 0 0) 0 [] rfl (World.ownsRow_nil _ _ _ _) ⟨gn, 0, none⟩ i2 _ (((es.map Ent.key).map Value.string).take i2) rfl (by rw [List.length_take, List.length_map, List.length_map]; omega) (fun j u hu => by rw [addr_add, Nat.zero_add]; exact hsrc.out _ (below_drewN (Below.refl _ _) 1) j u (take_some hu)) (fun u hu => by obtain ⟨x, _, rfl⟩ := List.mem_map.1 (List.mem_of_mem_take hu); rfl) (by unfold maxLen; omega) (by omega) hw0.out ?_; intro v3 w3 hown3 hgrow3 hat3; have hb3 : Hid (Below w2.heap.size w2 w3) := Lib.hid ((below_drewN (Below.refl w2.heap.size w2) 1).trans ⟨hgrow3.os, hgrow3.tape, hgrow3.output, hgrow3.size, fun k hk => hgrow3.block k hk (fun e => by cases e)⟩); have cN3 := hcb.out w3 hb3.out; have hfr : Hid (∀ b, v3.ownBlock = some b → w2.heap.size ≤ b) := Lib.hid (fun b hb => by rcases hat3 with e | e; (rw [e] at hb; cases hb); (rw [e] at hb; injection hb with hb; exact Nat.le_of_eq hb)); replace hown3 : Hid (w3.ownsRow w.heap.size 9 1 v3 i2 (((es.map Ent.key).map Value.string).take i2)) := Lib.hid (by rwa [Nat.zero_add, List.nil_append] at hown3); clear hgrow3 hat3)
                      | (refine step_append_any rfl (.tmp 110) (.tmp 114) 22 rfl w.heap.size 9 is _ 1 16 Try.underlying22 his sz0 sz1 sz2 rfl (by decide) v3 i2 _ rfl hown3.out _ (es.length - (i2 + 1)) _ (((es.map Ent.key).map Value.string).drop (i2 + 1)) rfl (by rw [List.length_drop, List.length_map, List.length_map, Nat.mul_one]) (fun j u hu => by rw [List.getElem?_eq_none (by rw [List.length_drop, List.length_map, List.length_map]; have := hcap.out; omega)] at hu; cases hu) (fun u hu => by obtain ⟨x, _, rfl⟩ := List.mem_map.1 (List.mem_of_mem_drop hu); rfl) (by unfold maxLen; omega) (by omega) (Nat.le_trans hw0.out hb3.out.size) ?_; intro v4 w4 hown4 hgrow4 hat4; obtain ⟨a4, c4, rfl, -⟩ := own_sliceI hown4; have hm := hR2.out.newN (hb3.out.grown hgrow4 hb3.out.size hfr.out) (show w4.ownsRow w.heap.size 9 1 (.slice a4 _ c4) ((es.map Ent.key).eraseIdx i2).length (((es.map Ent.key).eraseIdx i2).map Value.string) by rw [hel.out.1, hel.out.2]; exact hown4); have cB := hm.1.cell; have fB := hm.1.frozen; replace hm := Lib.hid hm; clear hown4 hgrow4 hat4 hown3 hfr cN3))
                    all_goals
                      refine NoPanic.normal ?_
                      go_wp2_with fail
                      go_meet
                      exact ⟨_, Lib.hid hm.out.2.1, Lib.hid (hT2.out.other hm.out.2.2 (fun b e => ⟨_, e ▸ bx_ty hR2.out.xN, by decide, by decide, by decide⟩))⟩
                  · go_wp2_with fail
                    refine wp_region_noPanic ?_
                    go_region_law (first
                      | (refine step_append_any rfl (.const (.slice none 0 0)) (.tmp 109) 22 rfl w.heap.size 9 is _ 1 16 Try.underlying22 his sz0 sz1 sz2 rfl (by decide) (.slice none 0 0) 0 [] rfl (World.ownsRow_nil _ _ _ _) ⟨gn, 0, none⟩ i2 _ (((es.map Ent.key).map Value.string).take i2) rfl (by rw [List.length_take, List.length_map, List.length_map]; omega) (fun j u hu => by rw [addr_add, Nat.zero_add]; exact hsrc.out _ (below_drewN (Below.refl _ _) 1) j u (take_some hu)) (fun u hu => by obtain ⟨x, _, rfl⟩ := List.mem_map.1 (List.mem_of_mem_take hu); rfl) (by unfold maxLen; omega) (by omega) hw0.out ?_; intro v3 w3 hown3 hgrow3 hat3; have hb3 : Hid (Below w2.heap.size w2 w3) := Lib.hid ((below_drewN (Below.refl w2.heap.size w2) 1).trans ⟨hgrow3.os, hgrow3.tape, hgrow3.output, hgrow3.size, fun k hk => hgrow3.block k hk (fun e => by cases e)⟩); have cN3 := hcb.out w3 hb3.out; have hfr : Hid (∀ b, v3.ownBlock = some b → w2.heap.size ≤ b) := Lib.hid (fun b hb => by rcases hat3 with e | e; (rw [e] at hb; cases hb); (rw [e] at hb; injection hb with hb; exact Nat.le_of_eq hb)); replace hown3 : Hid (w3.ownsRow w.heap.size 9 1 v3 i2 (((es.map Ent.key).map Value.string).take i2)) := Lib.hid (by rwa [Nat.zero_add, List.nil_append] at hown3); clear hgrow3 hat3)
                      | (refine step_append_any rfl (.tmp 110) (.tmp 114) 22 rfl w.heap.size 9 is _ 1 16 Try.underlying22 his sz0 sz1 sz2 rfl (by decide) v3 i2 _ rfl hown3.out _ (es.length - (i2 + 1)) _ (((es.map Ent.key).map Value.string).drop (i2 + 1)) rfl (by rw [List.length_drop, List.length_map, List.length_map, Nat.mul_one]) (fun j u hu => by rw [List.getElem?_drop] at hu; have := hsrc.out _ hb3.out _ u hu; simpa [addr_add] using this) (fun u hu => by obtain ⟨x, _, rfl⟩ := List.mem_map.1 (List.mem_of_mem_drop hu); rfl) (by unfold maxLen; omega) (by omega) (Nat.le_trans hw0.out hb3.out.size) ?_; intro v4 w4 hown4 hgrow4 hat4; obtain ⟨a4, c4, rfl, -⟩ := own_sliceI hown4; have hm := hR2.out.newN (hb3.out.grown hgrow4 hb3.out.size hfr.out) (show w4.ownsRow w.heap.size 9 1 (.slice a4 _ c4) ((es.map Ent.key).eraseIdx i2).length (((es.map Ent.key).eraseIdx i2).map Value.string) by rw [hel.out.1, hel.out.2]; exact hown4); have cB := hm.1.cell; have fB := hm.1.frozen; replace hm := Lib.hid hm; clear hown4 hgrow4 hat4 hown3 hfr cN3))
                    all_goals
                      refine NoPanic.normal ?_
                      go_wp2_with fail
                      go_meet
                      exact ⟨_, Lib.hid hm.out.2.1, Lib.hid (hT2.out.other hm.out.2.2 (fun b e => ⟨_, e ▸ bx_ty hR2.out.xN, by decide, by decide, by decide⟩))⟩
                case rest =>
                obtain ⟨vn2, hR3, hT3⟩ := hcut
                clear hsrc hcb hw0 hel cN q1 q2 q3 q4 q5 q6 q7 hlen1 hR2 hT2
                obtain ⟨vnA, hvnA⟩ : ∃ v, vn2 = v := ⟨_, rfl⟩
                rw [hvnA] at hR3
                clear hvnA
                have hlen1 : (es.map Ent.val).length = es.length := List.length_map _
                have cN := hR3.out.xL.cell
                rw [hlen1] at cN
                have hsrc : Hid (∀ V, Below wc.heap.size wc V → ∀ (j : Nat) (u : Value), ((es.map Ent.val).map SlV.v)[j]? = some u → V.cell? ⟨gl, j, none⟩ = some u) := Lib.hid fun V hV j u hu => by
                  have := (own_below hR3.out.oL hV).cells (g := gl) rfl j u hu
                  simpa [addr_add] using this
                have hcb : Hid (∀ V, Below wc.heap.size wc V → V.cell? ⟨bL, 0, none⟩ = some (.slice (some ⟨gl, 0, none⟩) es.length lc)) := Lib.hid fun V hV => cell_below hV rfl cN
                have hw0 : Hid (w.heap.size ≤ wc.heap.size) := Lib.hid hR3.out.bel.size
                have q1 : IntKind.i64.wrap ((i2 : Int) + 1) = (i2 : Int) + 1 := IntWalk.i64_in _ (by omega)
                have q2 : (0 : Int) ≤ (i2 : Int) + 1 := by omega
                have q3 : ((i2 : Int) + 1).toNat = i2 + 1 := by omega
                have q4 : i2 ≤ lc := by omega
                have q5 : i2 + 1 ≤ es.length := by omega
                have q7 : (i2 : Int) ≤ (i2 : Int) + 1 := by omega
                have q6 : (i2 : Int) + 1 ≤ (es.length : Int) := by omega
                have hel : Hid (((es.map Ent.val).eraseIdx i2).map SlV.v = ((es.map Ent.val).map SlV.v).take i2 ++ ((es.map Ent.val).map SlV.v).drop (i2 + 1) ∧ ((es.map Ent.val).eraseIdx i2).length = i2 + (es.length - (i2 + 1))) := Lib.hid (by
                  rw [List.eraseIdx_eq_take_drop_succ, List.map_append, List.map_take, List.map_drop, List.length_append, List.length_take, List.length_drop, hlen1]
                  exact ⟨rfl, by omega⟩)
                go_upto_region 21 with fail
                go_cut [] from 116 to 124 (fun wx => ∃ vn2, Hid (IR w wx b4 bN bL vnA vn2 ((es.map Ent.key).eraseIdx i2) ((es.map Ent.val).eraseIdx i2)) ∧ Hid (TS wx T P 0 0 0 sz (es.eraseIdx i2) pl2))
                case first =>
                  by_cases hcap : lc = i2 + 1
                  · have hcapT : (lc = i2 + 1) = True := eq_true hcap
                    replace hcap := Lib.hid hcap
                    go_wp2_with fail
                    refine wp_region_noPanic ?_
                    go_region_law (first
                      | (refine step_append_any rfl (.const (.slice none 0 0)) (.tmp 118) 31 rfl w.heap.size 28 il _ 1 24 Try.underlying31 hil lz0 lz1 lz2 rfl (by decide) (.slice none 0 0) 0 [] rfl (World.ownsRow_nil _ _ _ _) ⟨gl, 0, none⟩ i2 _ (((es.map Ent.val).map SlV.v).take i2) rfl (by rw [List.length_take, List.length_map, List.length_map]; omega) (fun j u hu => by rw [addr_add, Nat.zero_add]; exact hsrc.out _ (below_drewN (Below.refl _ _) 1) j u (take_some hu)) (fun u hu => by obtain ⟨x, _, rfl⟩ := List.mem_map.1 (List.mem_of_mem_take hu); rfl) (by unfold maxLen; omega) (by omega) hw0.out ?_; intro v3 w3 hown3 hgrow3 hat3; have hb3 : Hid (Below wc.heap.size wc w3) := Lib.hid ((below_drewN (Below.refl wc.heap.size wc) 1).trans ⟨hgrow3.os, hgrow3.tape, hgrow3.output, hgrow3.size, fun k hk => hgrow3.block k hk (fun e => by cases e)⟩); have cN3 := hcb.out w3 hb3.out; have hfr : Hid (∀ b, v3.ownBlock = some b → wc.heap.size ≤ b) := Lib.hid (fun b hb => by rcases hat3 with e | e; (rw [e] at hb; cases hb); (rw [e] at hb; injection hb with hb; exact Nat.le_of_eq hb)); replace hown3 : Hid (w3.ownsRow w.heap.size 28 1 v3 i2 (((es.map Ent.val).map SlV.v).take i2)) := Lib.hid (by rwa [Nat.zero_add, List.nil_append] at hown3); clear hgrow3 hat3)
                      | (refine step_append_any rfl (.tmp 119) (.tmp 123) 31 rfl w.heap.size 28 il _ 1 24 Try.underlying31 hil lz0 lz1 lz2 rfl (by decide) v3 i2 _ rfl hown3.out _ (es.length - (i2 + 1)) _ (((es.map Ent.val).map SlV.v).drop (i2 + 1)) rfl (by rw [List.length_drop, List.length_map, List.length_map, Nat.mul_one]) (fun j u hu => by rw [List.getElem?_eq_none (by rw [List.length_drop, List.length_map, List.length_map]; have := hcap.out; omega)] at hu; cases hu) (fun u hu => by obtain ⟨x, _, rfl⟩ := List.mem_map.1 (List.mem_of_mem_drop hu); rfl) (by unfold maxLen; omega) (by omega) (Nat.le_trans hw0.out hb3.out.size) ?_; intro v4 w4 hown4 hgrow4 hat4; obtain ⟨a4, c4, rfl, -⟩ := own_sliceI hown4; have hm := hR3.out.newL (hb3.out.grown hgrow4 hb3.out.size hfr.out) (show w4.ownsRow w.heap.size 28 1 (.slice a4 _ c4) ((es.map Ent.val).eraseIdx i2).length (((es.map Ent.val).eraseIdx i2).map SlV.v) by rw [hel.out.1, hel.out.2]; exact hown4); have cB := hm.1.cell; have fB := hm.1.frozen; replace hm := Lib.hid hm; clear hown4 hgrow4 hat4 hown3 hfr cN3))
                    all_goals
                      refine NoPanic.normal ?_
                      go_wp2_with fail
                      go_meet
                      exact ⟨_, Lib.hid hm.out.2.1, Lib.hid (hT3.out.other hm.out.2.2 (fun b e => ⟨_, e ▸ bx_ty hR3.out.xL, by decide, by decide, by decide⟩))⟩
                  · go_wp2_with fail
                    refine wp_region_noPanic ?_
                    go_region_law (first
                      | (refine step_append_any rfl (.const (.slice none 0 0)) (.tmp 118) 31 rfl w.heap.size 28 il _ 1 24 Try.underlying31 hil lz0 lz1 lz2 rfl (by decide) (.slice none 0 0) 0 [] rfl (World.ownsRow_nil _ _ _ _) ⟨gl, 0, none⟩ i2 _ (((es.map Ent.val).map SlV.v).take i2) rfl (by rw [List.length_take, List.length_map, List.length_map]; omega) (fun j u hu => by rw [addr_add, Nat.zero_add]; exact hsrc.out _ (below_drewN (Below.refl _ _) 1) j u (take_some hu)) (fun u hu => by obtain ⟨x, _, rfl⟩ := List.mem_map.1 (List.mem_of_mem_take hu); rfl) (by unfold maxLen; omega) (by omega) hw0.out ?_; intro v3 w3 hown3 hgrow3 hat3; have hb3 : Hid (Below wc.heap.size wc w3) := Lib.hid ((below_drewN (Below.refl wc.heap.size wc) 1).trans ⟨hgrow3.os, hgrow3.tape, hgrow3.output, hgrow3.size, fun k hk => hgrow3.block k hk (fun e => by cases e)⟩); have cN3 := hcb.out w3 hb3.out; have hfr : Hid (∀ b, v3.ownBlock = some b → wc.heap.size ≤ b) := Lib.hid (fun b hb => by rcases hat3 with e | e; (rw [e] at hb; cases hb); (rw [e] at hb; injection hb with hb; exact Nat.le_of_eq hb)); replace hown3 : Hid (w3.ownsRow w.heap.size 28 1 v3 i2 (((es.map Ent.val).map SlV.v).take i2)) := Lib.hid (by rwa [Nat.zero_add, List.nil_append] at hown3); clear hgrow3 hat3)
                      | (refine step_append_any rfl (.tmp 119) (.tmp 123) 31 rfl w.heap.size 28 il _ 1 24 Try.underlying31 hil lz0 lz1 lz2 rfl (by decide) v3 i2 _ rfl hown3.out _ (es.length - (i2 + 1)) _ (((es.map Ent.val).map SlV.v).drop (i2 + 1)) rfl (by rw [List.length_drop, List.length_map, List.length_map, Nat.mul_one]) (fun j u hu => by rw [List.getElem?_drop] at hu; have := hsrc.out _ hb3.out _ u hu; simpa [addr_add] using this) (fun u hu => by obtain ⟨x, _, rfl⟩ := List.mem_map.1 (List.mem_of_mem_drop hu); rfl) (by unfold maxLen; omega) (by omega) (Nat.le_trans hw0.out hb3.out.size) ?_; intro v4 w4 hown4 hgrow4 hat4; obtain ⟨a4, c4, rfl, -⟩ := own_sliceI hown4; have hm := hR3.out.newL (hb3.out.grown hgrow4 hb3.out.size hfr.out) (show w4.ownsRow w.heap.size 28 1 (.slice a4 _ c4) ((es.map Ent.val).eraseIdx i2).length (((es.map Ent.val).eraseIdx i2).map SlV.v) by rw [hel.out.1, hel.out.2]; exact hown4); have cB := hm.1.cell; have fB := hm.1.frozen; replace hm := Lib.hid hm; clear hown4 hgrow4 hat4 hown3 hfr cN3))
                    all_goals
                      refine NoPanic.normal ?_
                      go_wp2_with fail
                      go_meet
                      exact ⟨_, Lib.hid hm.out.2.1, Lib.hid (hT3.out.other hm.out.2.2 (fun b e => ⟨_, e ▸ bx_ty hR3.out.xL, by decide, by decide, by decide⟩))⟩
                case rest =>
                obtain ⟨vn2, hR4, hT4⟩ := hcut
                clear hsrc hcb hw0 hel cN q1 q2 q3 q4 q5 q6 q7 hlen1 hR3 hT3
                have hIS2 : Hid (IS w wc b4 bN bL T (k + 1) sz P pl2 (es.eraseIdx i2) vnA vn2) := Lib.hid ⟨by rw [map_erase, map_erase]; exact hR4.out, hT4.out, fun b hb => hI.out.ge b (by
                  rcases hb with e | e | ⟨e, he, h⟩
                  · exact .inl e
                  · exact .inr (.inl e)
                  · exact .inr (.inr ⟨e, List.mem_of_mem_eraseIdx he, h⟩)), fun e he => hI.out.val e (List.mem_of_mem_eraseIdx he), by rw [List.length_eraseIdx_of_lt hi2]; omega⟩
                clear hI hR4 hT4
                go_wp2_with fail
                go_roundw
                case rel => exact ⟨k + 1, by omega, by go_num, sz, P, pl2, _, _, _, hIS2⟩
                case measure => simp [intOf]; omega
              · exact absurd ((same_iff 0 _ _).2 hKi) (by rw [hno i hi]; decide)
          | false =>
            have kc3 : (wc.alloc (.cells #[.int .i64 (k : Int), .int .i64 (-(k : Int))] 3)).cell? ⟨kb, koff + k, none⟩ = some (.string K) := cell_below ((Below.refl _ wc).al _) rfl kc2
            have hI3 := Lib.hid (hI.out.below ((Below.refl wc.heap.size wc).al (.cells #[.int .i64 (k : Int), .int .i64 (-(k : Int))] 3)))
            have hkc : Hid (∀ V, Below w.heap.size w V → V.cell? ⟨kb, koff + k, none⟩ = some (.string K)) := Lib.hid fun V hV => cell_below hV rfl kc0.out
            obtain ⟨gv, hgv⟩ : ∃ b, wc.heap.size = b := ⟨_, rfl⟩
            clear hI cN2 kc2
            go_wp2_with fail
            clear hgv kc3
            generalize wc.alloc (.cells #[.int .i64 (k : Int), .int .i64 (-(k : Int))] 3) = W3 at hI3 ⊢
            have hp := ts_put hI3.out.ts K ⟨some ⟨gv, 0, none⟩, 2, 2⟩ (by omega)
            dsimp only at hp
            replace hp := Lib.hid hp
            with_reducible refine hp.out.mono ?_
            clear hp
            rcases hatE.out with ⟨rfl, hno⟩ | ⟨i, hi, _, rfl, hKi⟩
            · rintro e w1 (⟨i, hi, hm, _⟩ | ⟨_, rfl, nb, P', pl', hnb, hP', hts, hk⟩)
              · exact absurd ((same_iff 0 _ _).1 hm) (hno i hi hi)
              · have hR1 := Lib.hid (hI3.out.ir.tab hI3.out.ts.tab hk hI3.out.ge)
                replace hts := Lib.hid hts
                have hnb2 : Hid (w.heap.size ≤ nb) := Lib.hid (Nat.le_trans hI3.out.ir.bel.size hnb)
                have hP2 : Hid (P' = P ∨ w.heap.size ≤ P') := Lib.hid (hP'.imp id fun h => Nat.le_trans hI3.out.ir.bel.size h)
                clear hno hk hnb hP' hatE
                go_wp2_with fail
                go_quiet (fail)
                have hR2 := Lib.hid (hR1.out.below (below_drewN (Below.refl w1.heap.size w1) nq))
                have hT2 := Lib.hid (hts.out.below (below_drewN (Below.refl w1.heap.size w1) nq))
                generalize w1.drewN nq = w2 at hR2 hT2 ⊢
                clear hR1 hts
                have hlen1 : (es.map Ent.key).length = es.length := List.length_map _
                have hlen2 : (es.map Ent.val).length = es.length := List.length_map _
                have cN := hR2.out.xN.cell
                rw [hlen1] at cN
                have cK := hkc.out w2 hR2.out.bel
                rw [hlen1] at hR2
                have hR2d := Lib.hid (hR2.out.below (below_drewN (Below.refl w2.heap.size w2) 1))
                have hoN2 : Hid (((w2.alloc (.cells #[.string K] 9)).drew).ownsRow w.heap.size 9 1 (.slice na es.length nc) es.length ((es.map Ent.key).map Value.string)) := Lib.hid (by have := own_al_drewS (.cells #[.string K] 9) hR2.out.oN; rw [hlen1] at this; exact this)
                have hbs : Hid (w.heap.size ≤ ((w2.alloc (.cells #[.string K] 9)).drew).heap.size) := Lib.hid (by
                  show _ ≤ (w2.alloc (.cells #[.string K] 9)).heap.size
                  rw [World.size_alloc]; have := hR2.out.bel.size; omega)
                have hR2a := Lib.hid (hR2.out.below (below_drewN ((Below.refl w2.heap.size w2).al (.cells #[.string K] 9)) 1))
                have cNa : ((w2.alloc (.cells #[.string K] 9)).drew).cell? ⟨bN, 0, none⟩ = some (.slice na es.length nc) := hR2a.out.xN.cell
                go_upto_region 28 with fail
                go_cut [] from 182 to 188 (fun wx => ∃ na2 nc2, Hid (IR w wx b4 bN bL (.slice na2 (es.length + 1) nc2) vl (es.map Ent.key ++ [K]) (es.map Ent.val)) ∧ Hid (TS wx T P' 0 0 0 (if 4 * (es.length + 1) ≤ 3 * sz then sz else 2 * sz) (es ++ [⟨nb, K, ⟨some ⟨gv, 0, none⟩, 2, 2⟩, hashF 0 K⟩]) pl'))
                case first =>
                  go_wp2_with fail
                  refine wp_region_noPanic ?_
                  go_region_law ((refine step_append_lies _ rfl (.tmp 182) (.tmp 187) 22 rfl w.heap.size 9 is _ 1 16 Try.underlying22 his sz0 sz1 sz2 rfl (by decide) (.slice na es.length nc) es.length _ rfl hoN2.out ⟨w2.heap.size, 0, none⟩ 1 1 [.string K] rfl rfl (own_cells_rowS (w := w2) rfl rfl) (by simp [Value.oneCell']) (by decide) (by unfold maxLen; omega) (by omega) hbs.out _ rfl ?_; intro g3 c3 w3 hown1 hgrow hat3 hlt3; have hm := hR2d.out.moreN (by rw [hlen1]; exact hown1) (show (World.alloc w2.drew (.cells #[.string K] 9)).grownBy w3 _ from hgrow); have cB := hm.1.cell; have fB := hm.1.frozen; replace hm := Lib.hid hm; clear hown1 hgrow hat3 hlt3))
                  all_goals
                    refine NoPanic.normal ?_
                    go_wp2_with fail
                    go_meet
                    exact ⟨_, _, Lib.hid hm.out.2.1, Lib.hid ((hT2.out.below (below_drewN (Below.refl w2.heap.size w2) 1)).other hm.out.2.2 (fun b e => by
                      rcases e with e | e
                      · exact ⟨_, e ▸ bx_ty hR2d.out.xN, by decide, by decide, by decide⟩
                      · exact ⟨_, own_ty hR2d.out.oN e, by decide, by decide, by decide⟩))⟩
                case rest =>
                obtain ⟨na2, nc2, hR3, hT3⟩ := hcut
                clear hoN2 hbs hR2a hR2d hR2 hT2 cN cNa cK hkc
                obtain ⟨la, lc, rfl, -⟩ := own_sliceI hR3.out.oL
                rw [hlen2] at hR3
                have cL := hR3.out.xL.cell
                have hoL : Hid (wc.ownsRow w.heap.size 28 1 (.slice la es.length lc) es.length ((es.map Ent.val).map SlV.v)) := Lib.hid (by have := hR3.out.oL; rwa [hlen2] at this)
                have hw0 : Hid (w.heap.size ≤ wc.heap.size) := Lib.hid hR3.out.bel.size
                go_wp2_with (at_builtin; refine wpList_append_own_at _ rfl (.tmp 189) (.tmp 191) 31 rfl w.heap.size 28 il _ 1 24 Try.underlying31 hil lz0 lz1 lz2 rfl (by decide) _ es.length _ rfl (hoL.out.alloc _) ⟨wc.heap.size, 0, none⟩ 1 1 [.slice (some ⟨gv, 0, none⟩) 2 2] rfl rfl own_cells_one (by intro u hu; simp at hu; subst hu; rfl) (by unfold maxLen; omega) (by omega) (by rw [World.size_alloc]; have := hw0.out; omega) ?_)
                intro v5 w5 hown5 hg5 _ hat5
                obtain ⟨a5, c5, rfl, -⟩ := own_sliceI hown5
                obtain ⟨m1, m2, m3⟩ := hR3.out.moreL (x := ⟨some ⟨gv, 0, none⟩, 2, 2⟩) (by rw [hlen2, List.map_map]; exact hown5) hg5
                have cB := m1.cell
                have fB := m1.frozen
                have hIS2 : Hid (IS w (w5.setCell ⟨bL, 0, none⟩ (.slice a5 (es.length + 1) c5)) b4 bN bL T (k + 1) (if 4 * (es.length + 1) ≤ 3 * sz then sz else 2 * sz) P' pl' (es ++ [⟨nb, K, ⟨some ⟨gv, 0, none⟩, 2, 2⟩, hashF 0 K⟩]) (.slice na2 (es.length + 1) nc2) (.slice a5 (es.length + 1) c5)) := Lib.hid ⟨by rw [List.map_append, List.map_append]; exact m2, hT3.out.other m3 (fun b e => by
                    rcases e with e | e
                    · exact ⟨_, e ▸ bx_ty hR3.out.xL, by decide, by decide, by decide⟩
                    · exact ⟨_, own_ty hR3.out.oL e, by decide, by decide, by decide⟩), fun b hb => by
                    rcases hb with e | e | ⟨e, he, h⟩
                    · exact hI3.out.ge b (.inl e)
                    · rcases hP2.out with h | h
                      · exact hI3.out.ge b (.inr (.inl (e.trans h)))
                      · rw [e]; exact h
                    · rcases List.mem_append.1 he with he | he
                      · exact hI3.out.ge b (.inr (.inr ⟨e, he, h⟩))
                      · rw [List.mem_singleton.1 he] at h
                        rw [← h]; exact hnb2.out, fun e he => by
                    rcases List.mem_append.1 he with he | he
                    · exact hI3.out.val e he
                    · rw [List.mem_singleton.1 he]; exact ⟨rfl, gv, rfl⟩, by rw [List.length_append, List.length_singleton]; omega⟩
                clear m1 m2 m3 hown5 hg5 hat5 hoL hR3 hT3 hI3
                go_wp2_with fail
                go_roundw
                case rel => exact ⟨k + 1, by omega, by go_num, _, P', pl', _, _, _, hIS2⟩
                case measure => simp [intOf]; omega
            · rintro e w1 (⟨i2, hi2, hm2, rfl, hts, hk⟩ | ⟨hno, _⟩)
              · obtain rfl : i2 = i := hI3.out.ts.na i2 i hi2 hi (by rw [hKi]; exact hm2)
                have hR1 := Lib.hid (hI3.out.ir.tab hI3.out.ts.tab hk hI3.out.ge)
                obtain ⟨hv1, gw, hv2⟩ := hI3.out.val _ (List.getElem_mem hi2)
                obtain ⟨la, lc, rfl, -⟩ := own_sliceI hI3.out.ir.oL
                obtain ⟨gl, lc2, hvl, -, -, hlc, -⟩ := own_shape hI3.out.ir.oL (by rw [List.length_map]; omega)
                injection hvl with hvl _ hvc
                subst hvl hvc
                have hlen2 : (es.map Ent.val).length = es.length := List.length_map _
                have hR1' := hR1
                rw [hlen2] at hR1
                have cL := hR1.out.xL.cell
                have cV : w1.cell? ⟨gl, i2, none⟩ = some (.slice es[i2].val.a es[i2].val.n es[i2].val.c) := by
                  have := hR1'.out.oL.cells (g := gl) rfl i2 (es[i2].val.v) (by simp [hi2])
                  simpa [addr_add, SlV.v] using this
                rw [hv1, hv2] at cV ⊢
                obtain ⟨vc, hvc⟩ : ∃ c, es[i2].val.c = c := ⟨_, rfl⟩
                rw [hvc] at cV ⊢
                have hib : i2 < 1048576 := by omega
                have hlt2 : decide ((i2 : Int) < (es.length : Int)) = true := decide_eq_true (by omega)
                replace hts := Lib.hid hts
                clear hvc hv1 hv2 hk hm2 hatE hKi hkc
                go_wp2_with fail
                have hneq := hneP.out ⟨gw, 0, none⟩
                go_quiet (fail)
                clear hneq
                have hR2 := Lib.hid (hR1'.out.below (below_drewN (Below.refl w1.heap.size w1) nq))
                have hT2 := Lib.hid (hts.out.below (below_drewN (Below.refl w1.heap.size w1) nq))
                generalize w1.drewN nq = w2 at hR2 hT2 ⊢
                clear hR1 hR1' hts cL cV
                have cL := hR2.out.xL.cell
                rw [hlen2] at cL
                have cV : w2.cell? ⟨gl, i2, none⟩ = some (.slice es[i2].val.a es[i2].val.n es[i2].val.c) := by
                  have := hR2.out.oL.cells (g := gl) rfl i2 (es[i2].val.v) (by simp [hi2])
                  simpa [addr_add, SlV.v] using this
                have fV := own_frozen hR2.out.oL i2
                obtain ⟨m1, m2⟩ := hR2.out.setL (x := ⟨some ⟨gv, 0, none⟩, 2, 2⟩) (j := i2)
                have hIS2 : Hid (IS w (w2.setCell ⟨gl, i2, none⟩ (.slice (some ⟨gv, 0, none⟩) 2 2)) b4 bN bL T (k + 1) sz P pl (es.set i2 { es[i2] with val := ⟨some ⟨gv, 0, none⟩, 2, 2⟩ }) _ _) := Lib.hid ⟨by rw [List.map_set, List.map_set, set_self (by rw [List.length_map]; exact hi2) (by simp)]; exact m1, hT2.out.other m2 (fun b e => ⟨_, e ▸ own_ty hR2.out.oL rfl, by decide, by decide, by decide⟩), fun b hb => hI3.out.ge b (by
                    rcases hb with e | e | ⟨e, he, h⟩
                    · exact .inl e
                    · exact .inr (.inl e)
                    · rcases List.mem_or_eq_of_mem_set he with he | he
                      · exact .inr (.inr ⟨e, he, h⟩)
                      · subst he
                        exact .inr (.inr ⟨es[i2], List.getElem_mem hi2, h⟩)), fun e he => by
                    rcases List.mem_or_eq_of_mem_set he with he | he
                    · exact hI3.out.val e he
                    · subst he; exact ⟨rfl, gv, rfl⟩, by rw [List.length_set]; omega⟩
                clear m1 m2 hI3 hR2 hT2
                go_wp2_with fail
                go_roundw
                case rel => exact ⟨k + 1, by omega, by go_num, _, _, _, _, _, _, hIS2⟩
                case measure => simp [intOf]; omega
              · exact absurd ((same_iff 0 _ _).2 hKi) (by rw [hno i hi]; decide)
    · obtain rfl : k = ks.length := by omega
      clear hx1 hx2
      obtain ⟨na, nc, rfl, -⟩ := own_sliceI hIS.out.ir.oN
      obtain ⟨la, lc, rfl, -⟩ := own_sliceI hIS.out.ir.oL
      have hln := hIS.out.ln
      go_wp2_with fail
      refine (ix_allB T wr).mono ?_
      rintro e w1 ⟨Bt, rfl, hbt, hb1⟩
      have hI1 := Lib.hid (hIS.out.below hb1)
      have hlen1 : (es.map Ent.key).length = es.length := List.length_map _
      have hlen2 : (es.map Ent.val).length = es.length := List.length_map _
      have cN := hI1.out.ir.xN.cell
      rw [hlen1] at cN
      have hL : Hid (∀ n, Calls Try.prog 15 #[.pointer (some ⟨T, 0, none⟩)] (w1.drewN n) fun e w' => e = .returned (.int .i64 es.length) ∧ ∃ m, w' = w1.drewN m) := Lib.hid fun n => (ix_len (hI1.out.ts.tab.below (below_drewN (Below.refl _ _) n))).mono fun e w' h => ⟨h.1, n, h.2.symm⟩
      have hne : ((es.length : Int) != (es.length : Int)) = false := by simp
      clear hb1 hIS
      replace hbt := Lib.hid hbt
      go_wp2_with fail
      go_quiet ((go_at_call 15; with_reducible exact hL.out _))
      have hI2 := Lib.hid (hI1.out.below (below_drewN (Below.refl w1.heap.size w1) nq))
      have hbt2 := Lib.hid (bx_below hbt.out (below_drewN (Below.refl w1.heap.size w1) nq))
      generalize w1.drewN nq = w2 at hI2 hbt2 ⊢
      clear hL hne cN hI1 hbt
      obtain ⟨bn, hbn⟩ : ∃ b, w2.heap.size = b := ⟨_, rfl⟩
      have hI3 := Lib.hid (hI2.out.below ((Below.refl w2.heap.size w2).al (.cells #[.int .i64 0] 3)))
      have hbt3 := Lib.hid (hbt2.out.alloc (.cells #[.int .i64 0] 3))
      have hn3 : Hid (Boxed (w2.alloc (.cells #[.int .i64 0] 3)) bn 3 (.int .i64 0) ∧ w.heap.size ≤ bn) := Lib.hid (by rw [← hbn]; exact ⟨Boxed.new _ _ _, hI2.out.ir.bel.size⟩)
      clear hI2 hbt2
      go_wp2_with fail
      clear hbn
      generalize w2.alloc (.cells #[.int .i64 0] 3) = W0 at hI3 hbt3 hn3 ⊢
      refine name_frame ?_
      intro tm htm
      refine range_wide (P := Try.prog) (tm := tm) (ds := []) (gf := 41) (lb := #[.pointer (some ⟨Bt, 0, none⟩)]) (by rw [htm]; rfl) (enters_of Try.func41 (by kernel_rfl) rfl)
        (all_stopsG 8 W0 hI3.out.ts.tab (by omega) hI3.out.val (lk_at es hI3.out.ts.na) Bt hbt3.out.lt hbt3.out.cell) KpA.trans (fun W l o o' _ h hc _ => KpA.put W l o o' h hc) (fun _ => rfl)
        (fun pre V => IR w V b4 bN bL (.slice na (es.map Ent.key).length nc) (.slice la (es.map Ent.val).length lc) (es.map Ent.key) (es.map Ent.val) ∧ Boxed V bn 3 (.int .i64 pre.length))
        (fun c pre V => c = .ret ∧ ¬ pre <+: allK es)
        (fun pre A B row hs hg hr => ⟨hs.1.own hI3.out.ir.bel.size hg hr, bx_own hs.2 hg fun r e => (hr r e).2⟩)
        (fun c pre A B row hs hg hr => hs)
        ⟨hI3.out.ir, hn3.out.1⟩
        (fun _ _ _ => True) (fun _ _ _ _ _ _ _ _ _ => trivial)
        (fun x _ tm => ((((tm.setIfInBounds 205 (.string x)).setIfInBounds 206 (.slice (some ⟨gK es x, 0, none⟩) 2 (cK es x))).setIfInBounds 20 (.string x)).setIfInBounds 21 (.slice (some ⟨gK es x, 0, none⟩) 2 (cK es x))))
        ?assignA ?bodyA ?doneA ?stopA
      case assignA =>
        rintro l pre x V K hi hK
        rw [htm] at hK ⊢
        gi_wp2
        exact hK 0 V ((KeepsOthers.refl V).from _) (KpA.refl _) hi trivial
      case bodyA =>
        as_aux_lemma =>
        rintro l pre X b V hlo hr ⟨hR, hbn⟩ _ hlt
        rw [htm]
        have hjl : pre.length < es.length := by simpa [allK] using hlt
        obtain ⟨gn, nc2, hvl, -⟩ := own_shape hR.oN (by rw [hlen1]; omega)
        injection hvl with hvl _ hvc
        subst hvl hvc
        obtain ⟨gl, lc2, hvl, -⟩ := own_shape hR.oL (by rw [hlen2]; omega)
        injection hvl with hvl _ hvc
        subst hvl hvc
        obtain ⟨hv1, gw, hv2⟩ := hI3.out.val _ (List.getElem_mem hjl)
        have hlk := lk_at es hI3.out.ts.na pre.length hjl
        have hv3 : gB es[pre.length].val = gw := by unfold gB; rw [hv2]
        obtain ⟨K', hK'⟩ : ∃ K, es[pre.length].key = K := ⟨_, rfl⟩
        rw [hK', hv3] at hlk
        have cN := hR.xN.cell
        have cL := hR.xL.cell
        rw [hlen1] at cN
        rw [hlen2] at cL
        have cK : V.cell? ⟨gn, pre.length, none⟩ = some (.string K') := by
          have := hR.oN.cells (g := gn) rfl pre.length (.string es[pre.length].key) (by simp [hjl])
          rw [hK'] at this
          simpa [addr_add] using this
        have cV : V.cell? ⟨gl, pre.length, none⟩ = some (.slice (some ⟨gw, 0, none⟩) 2 es[pre.length].val.c) := by
          have := hR.oL.cells (g := gl) rfl pre.length (es[pre.length].val.v) (by simp [hjl])
          unfold SlV.v at this
          rw [hv1, hv2] at this
          simpa [addr_add] using this
        obtain ⟨vc, hvc⟩ : ∃ c, es[pre.length].val.c = c := ⟨_, rfl⟩
        rw [hvc] at cV
        have cn := hbn.cell
        have hpb : pre.length < 1048576 := by omega
        have hge : decide ((es.length : Int) ≤ (pre.length : Int)) = false := decide_eq_false (by omega)
        have hge2 : decide (es.length ≤ pre.length) = false := decide_eq_false (by omega)
        have hwn : IntKind.i64.wrap ((pre.length : Int) + 1) = (pre.length : Int) + 1 := IntWalk.i64_in _ (by omega)
        have ecast : (((pre.length + 1 : Nat)) : Int) = (pre.length : Int) + 1 := by omega
        have hnot : Hid (X ≠ K' → ¬ pre ++ [X] <+: allK es) := Lib.hid fun hne hp => by
          obtain ⟨t, ht⟩ := hp
          have h1 : (allK es)[pre.length]? = some X := by rw [← ht]; simp
          rw [allK, List.getElem?_map, List.getElem?_eq_getElem hjl] at h1
          simp only [Option.map_some, hK', Option.some.injEq] at h1
          exact hne h1.symm
        replace hK' := Lib.hid hK'
        clear hv1 hv2 hv3 hvc
        simp only [List.setIfInBounds_toArray, List.set_cons_succ, List.set_cons_zero]
        by_cases hk : (X.toList == K'.toList) = true
        · have hX := str_eq hk
          subst hX
          rw [hlk.1]
          clear hk hnot hlk
          have hneq := hneP.out ⟨gw, 0, none⟩
          have hself : (X.toList != X.toList) = false := by simp
          gi_wp2
          refine wpIn_region_quiet_round (by kernel_rfl) (by kernel_rfl) (by kernel_rfl) ?_
          repeat (first | go_big_quiet_step (fail) | quiet_step (fail))
          refine wpQuiet_nil ?_
          rintro _ ⟨nq, rfl⟩
          have hdr : Below V.heap.size V (V.drewN nq) := below_drewN (Below.refl _ _) _
          have hR1 := hR.below hdr
          have hbn1 := bx_below hbn hdr
          have hko := ko_below hdr
          have hkp := KpA.below hdr
          generalize V.drewN nq = V1 at hR1 hbn1 hko hkp ⊢
          clear cN cL cK cV cn hneq hself
          have cn := hbn1.cell
          have fn := hbn1.frozen
          have hfin : Hid (KeepsFrom W0.heap.size V (V1.setCell ⟨bn, 0, none⟩ (.int .i64 ((pre.length : Int) + 1))) ∧ KpA V (V1.setCell ⟨bn, 0, none⟩ (.int .i64 ((pre.length : Int) + 1))) ∧ IR w (V1.setCell ⟨bn, 0, none⟩ (.int .i64 ((pre.length : Int) + 1))) b4 bN bL (.slice (some ⟨gn, 0, none⟩) (es.map Ent.key).length nc) (.slice (some ⟨gl, 0, none⟩) (es.map Ent.val).length lc) (es.map Ent.key) (es.map Ent.val) ∧ Boxed (V1.setCell ⟨bn, 0, none⟩ (.int .i64 ((pre.length : Int) + 1))) bn 3 (.int .i64 ((pre ++ [X]).length : Nat))) := Lib.hid (by
            refine ⟨(hko.trans (KeepsOthers.setCell _ _ _)).from _, hkp.trans (kpa_setI hbn1), hR1.keptT (R := fun b => b = bn) ((KeptR.refl _ V1).set (.inl rfl)) (fun b t ht hne e => ht.ne (bx_ty hbn1) hne e) (fun b e => by rw [e]; exact hn3.out.2), ?_⟩
            rw [List.length_append, List.length_singleton, ecast]
            exact hbn1.set _)
          clear hko hkp hR hR1 hbn hbn1 hdr
          gi_wp2
          exact hfin.out
        · have hk' : (X.toList == K'.toList) = false := by simpa using hk
          have hk2 : (X.toList != K'.toList) = true := by simp [bne, hk']
          have hno := Lib.hid (hnot.out (str_ne hk'))
          obtain ⟨ga, hga⟩ : ∃ g, gK es X = g := ⟨_, rfl⟩
          rw [hga]
          clear hk hnot hlk hga
          gi_wp2
          refine wpIn_region_quiet_round (by kernel_rfl) (by kernel_rfl) (by kernel_rfl) ?_
          repeat (first | go_big_quiet_step (fail) | quiet_step (fail))
          refine wpQuiet_nil ?_
          rintro _ ⟨nq, rfl⟩
          have hdr : Below V.heap.size V (V.drewN nq) := below_drewN (Below.refl _ _) _
          have hR1 := hR.below hdr
          have hko := ko_below hdr
          generalize V.drewN nq = V1 at hR1 hko ⊢
          clear cN cL cK cV cn
          have c4 := hR1.x4.cell
          have f4 := hR1.x4.frozen
          replace hko := Lib.hid hko
          clear hdr hR hR1
          gi_wp2
          exact ⟨(hko.out.trans (KeepsOthers.setCell _ _ _)).from _, rfl, hno.out⟩
      case stopA =>
        rintro D c pre V hDl hsp ⟨rfl, hno⟩ hD
        exact absurd hsp hno
      case doneA =>
        rintro D pre V hDl hxs ⟨hR, hbn⟩ hD
        have hpl : pre.length = es.length := by rw [show pre = allK es from hxs]; simp [allK]
        rw [hpl] at hbn
        rw [htm]
        have cN := hR.xN.cell
        rw [hlen1] at cN
        have cn := hbn.cell
        have heq : ((es.length : Int) == (es.length : Int)) = true := by simp
        have hge := hI3.out.ir.bel.size
        replace hge : w.heap.size ≤ D := Nat.le_trans hge hDl
        clear hI3 hbt3 hn3 hxs hbn
        go_wp2_with (go_at_call 16; refine (ix_known _).mono ?_; rintro e w9 ⟨rfl, hb9⟩; have h9 := hR.below hb9; have hD9 := (hb9.block _ (Array.getElem?_eq_some_iff.1 hD).1).trans hD; have c4 := h9.x4.cell; have f4 := h9.x4.frozen; clear hb9 hR hD)
        have hD2 := set_def (u := .bool true) hD9 h9.x4
        have b10 := h9.x4.set (.bool true)
        have h4w : w.heap.size ≤ b4 := by rw [hb4.out]; exact Nat.le_refl _
        have bel10 := h9.bel.setCell (p := ⟨b4, 0, none⟩) h4w (.bool true)
        clear h9 hD9 c4 f4
        generalize w9.setCell ⟨b4, 0, none⟩ (.bool true) = w10 at hD2 b10 bel10 ⊢
        refine ⟨by simp, .inl ⟨D, _, rfl, run_takeDeferred hD2, ?_⟩⟩
        have bR3 := put_box (o := .deferred none) b10 hD2
        have hb3 := bel10.trans (belowK_b (w := w) (Nat.le_refl _) w10 D _ (.deferred none) hge hD2 rfl rfl)
        exact ⟨.bool true, results_bool rfl Try.underlying4 _ _ _ _ rfl bR3.cell, rfl, hb3⟩
end Go.Proofs.Ytjeeljolhcoeoaa.Str
