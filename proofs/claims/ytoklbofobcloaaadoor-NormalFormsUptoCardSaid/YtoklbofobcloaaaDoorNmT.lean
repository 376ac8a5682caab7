/- Normal: Rename. -/
import Derived.Test.YtoklbofobcloaaaDoorNmS
import Derived.Test.YtoklbofobcloaaaDoorNmItoa
import Derived.Lib.SmallJoins
import Derived.OwnWalk
namespace Go.Proofs.YtoklbofobcloaaaDoor
open Go.RowKit Go.Sort Go.Shelf
attribute [local go_sem ↓] Go.wp_at_zero Go.wp_at_succ
theorem decB_small {n : Nat} (h : n < 10) : decB n = [UInt8.ofNat (48 + n)] := by rw [decB, dif_pos h]
theorem decB_len : ∀ (k n : Nat), 0 < k → n < 10 ^ k → (decB n).length ≤ k
  | 0, _, h, _ => by omega
  | k + 1, n, _, hn => by
    rw [decB]
    split
    · simp
    · rename_i h
      have hk : 0 < k := by
        rcases Nat.eq_zero_or_pos k with rfl | h0
        · omega
        · exact h0
      have h1 := decB_len k (n / 10) hk (by rw [Nat.pow_succ] at hn; omega)
      rw [List.length_append, decB_small (Nat.mod_lt _ (by omega))]
      simp; omega
theorem decB_eq (n : Nat) : decB n = Lib.decDigits n := by
  induction n using Nat.strongRecOn with
  | _ n ih =>
    rw [decB, Lib.decDigits]
    split
    · rfl
    · rw [ih (n / 10) (by omega), decB_small (Nat.mod_lt _ (by omega))]
theorem vName_eq (i : Nat) : (⟨#[86]⟩ : ByteArray) ++ ⟨(Lib.itoa (i : Int)).toArray⟩ = vName i := by
  unfold vName Lib.itoa
  rw [if_neg (by omega), Int.toNat_natCast, ← decB_eq]
  apply ba_ext
  show ((⟨#[86]⟩ : ByteArray) ++ ⟨(decB i).toArray⟩).data.toList = _
  simp
theorem vName_size (i : Nat) (h : i < 100000000000000) : (vName i).size ≤ 16 := by
  have := decB_len 14 i (by omega) (by omega)
  unfold vName
  simp [ByteArray.size]; omega
theorem flatT_set : ∀ (l : List Tm) (k : Nat) (x : Tm), k < l.length → flatT (l.set k x) = ((flatT l).set (k * 2) (.bool x.1)).set (k * 2 + 1) (.string x.2)
  | [], _, _, h => by simp at h
  | y :: l, 0, x, _ => by simp [flatT, cellT]
  | y :: l, k + 1, x, h => by
    have ih := flatT_set l k x (by simpa using h)
    simp only [List.set_cons_succ, flatT, List.flatMap_cons] at ih ⊢
    rw [ih]
    have e : (k + 1) * 2 = k * 2 + 1 + 1 := by omega
    rw [e]
    simp [cellT]
theorem toList_madeT (n : Nat) : (madeCells #[.bool false, .string ⟨#[]⟩] (n * 2)).toList = flatT (List.replicate n (false, ⟨#[]⟩)) := by
  apply List.ext_getElem?
  intro j
  by_cases hj : j < n * 2
  · have h1 : (madeCells #[.bool false, .string ⟨#[]⟩] (n * 2)).toList[j]? = some ((#[.bool false, .string ⟨#[]⟩] : Array Value)[j % 2]!) := by simp [madeCells, hj]
    rw [h1]
    have h2 := pr_flat_get cellT 2 (fun _ => rfl) (List.replicate n (false, (⟨#[]⟩ : ByteArray))) (j / 2) (j % 2) (Nat.mod_lt _ (by omega))
    rw [show j / 2 * 2 + j % 2 = j from by omega, List.getElem?_replicate, if_pos (by omega)] at h2
    refine Eq.trans ?_ h2.symm
    rcases Nat.mod_two_eq_zero_or_one j with e | e <;> rw [e] <;> rfl
  · rw [List.getElem?_eq_none (by simp [madeCells]; omega), List.getElem?_eq_none (by rw [flatT_len, List.length_replicate]; omega)]
def vPart (n k : Nat) : List Tm := vTerms k ++ List.replicate (n - k) (false, ⟨#[]⟩)
theorem vPart_len {n k : Nat} (h : k ≤ n) : (vPart n k).length = n := by simp [vPart, vTerms]; omega
theorem vPart_succ {n k : Nat} (h : k < n) : (vPart n k).set k (true, vName k) = vPart n (k + 1) := by
  unfold vPart vTerms
  obtain ⟨m, rfl⟩ : ∃ m, n = k + 1 + m := ⟨n - (k + 1), by omega⟩
  rw [show k + 1 + m - k = m + 1 from by omega, show k + 1 + m - (k + 1) = m from by omega, List.replicate_succ, List.range_succ, List.map_append, List.set_append]
  simp
theorem vPart_all (n : Nat) : vPart n n = vTerms n := by simp [vPart]
theorem own_txts {w : World} {base n : Nat} {a : Option Addr} {c : Nat} {l : List ByteArray} (h : w.ownsRow base 9 1 (.slice a n c) l.length (l.map Value.string)) (hl : l.length ≤ 1048576) (hs : ∀ x ∈ l, x.size ≤ 1048576) : Txts w a l := by
  refine ⟨hl, fun j x hj => ?_, hs⟩
  rcases h.2 with ⟨e, h0⟩ | ⟨g, cap, cur, e, -, -, -⟩
  · have : l = [] := List.eq_nil_of_length_eq_zero h0
    subst this
    cases hj
  · injection e with e _ _
    refine ⟨_, e, h.cells (g := g) (by rw [e]; rfl) j _ ?_⟩
    rw [List.getElem?_map, hj]; rfl
theorem tmRow_put {w : World} {base g n c : Nat} {l : List Tm} (h : w.ownsRow base 33 2 (.slice (some ⟨g, 0, none⟩) n c) n (flatT l)) (k : Nat) (x : Tm) (hk : k < l.length) : ((w.setCell ⟨g, k * 2, none⟩ (.bool x.1)).setCell ⟨g, k * 2 + 1, none⟩ (.string x.2)).ownsRow base 33 2 (.slice (some ⟨g, 0, none⟩) n c) n (flatT (l.set k x)) := by
  rw [flatT_set l k x hk]
  exact own_putI (own_putI h)
set_option maxHeartbeats 8000000 in
set_option maxRecDepth 100000 in
theorem nm_Rename (r : Rul) (a b : Option Addr) (c d : Nat) (w : World) (ha : Terms w a r.a) (hb : Lits w b r.b) (hnv : (everyR r).length ≤ 1048576) (htab : Lib.TabIs Tryd.prog w "internal/strconv.uint64pow10" .u64 Lib.pow10Tab) :
    Calls Tryd.prog 12 #[.agg #[.string r.h, .slice a r.a.length c, .slice b r.b.length d]] w fun e w' => ∃ va vb, e = .returned (.agg #[.string r.h, va, vb]) ∧ RRow w' w.heap.size va vb (renR r) ∧ Below w.heap.size w w' := by
  obtain ⟨it, hit, hz0, hz1, hz2⟩ := info_parts pr_infoTerm
  have hvl : (varsR r).length ≤ 1048576 := Nat.le_trans (varsOf_len _) hnv
  have hvs : Hid (∀ x ∈ varsR r, x.size ≤ 1048576) := Lib.hid fun x hx => every_size ha hb _ ((mem_varsOf _ _).1 hx)
  have hes := Lib.hid (every_size ha hb)
  have htb : Hid (∀ W, Below w.heap.size w W → Lib.TabIs Tryd.prog W "internal/strconv.uint64pow10" .u64 Lib.pow10Tab) := Lib.hid fun W hW => Go.Joins.tab_stays (g := 0) (by kernel_rfl) htab hW (Nat.le_refl _)
  have hVars := fun W ha hb => nm_Vars r a b c d W ha hb
  have hPut := fun na nc ta tc W ha hb hn ht => nm_Put r a b c d (varsR r) (vTerms (varsR r).length) na ta nc tc W ha hb hn ht hes.out
  obtain ⟨n, hn⟩ : ∃ n, (varsR r).length = n := ⟨_, rfl⟩
  rw [hn] at hvl hPut hVars
  rw [show (vTerms n).length = n from by simp [vTerms]] at hPut
  replace ha := Lib.hid ha
  replace hb := Lib.hid hb
  replace hPut := Lib.hid hPut
  replace hn := Lib.hid hn
  clear htab
  obtain ⟨W0, hW0⟩ : ∃ W0, W0 = (w.alloc (.cells #[.string r.h, .slice a r.a.length c, .slice b r.b.length d] 27)).alloc (.cells #[.string ⟨#[]⟩, .slice none 0 0, .slice none 0 0] 27) := ⟨_, rfl⟩
  have hkp : Hid (∀ w', Below W0.heap.size W0 w' → w'.heap[w.heap.size]? = some (.cells #[.string r.h, .slice a r.a.length c, .slice b r.b.length d] 27) ∧ w'.heap[w.heap.size + 1]? = some (.cells #[.string ⟨#[]⟩, .slice none 0 0, .slice none 0 0] 27) ∧ Below w.heap.size w w') := Lib.hid (by
    subst hW0; intro w' hb; obtain ⟨h1, h2, h3⟩ := two_cells hb; exact ⟨h2, h3, h1⟩)
  have hW0s : W0.heap.size = w.heap.size + 2 := by rw [hW0, World.size_alloc, World.size_alloc]
  have hB0 := (hkp.out W0 (Below.refl _ _)).2.2
  have h0 := hkp.out W0 (Below.refl _ _)
  have q0 : W0.cell? ⟨w.heap.size, 0, none⟩ = some (.string r.h) := by simp [World.cell?, h0.1]
  have q1 : W0.cell? ⟨w.heap.size, 1, none⟩ = some (.slice a r.a.length c) := by simp [World.cell?, h0.1]
  have q2 : W0.cell? ⟨w.heap.size, 2, none⟩ = some (.slice b r.b.length d) := by simp [World.cell?, h0.1]
  clear h0
  replace hW0s := Lib.hid hW0s
  go_enter Tryd.func12, Tryd.ntmps12
  go_upto_region 1 with fail
  rw [← hW0]
  clear hW0
  go_wp2_with (first
    | (go_at_call 10
       go_loud (refine (hVars W0 (ha.out.below hB0) (hb.out.below hB0)).mono ?_)
       rintro e w1 ⟨v, rfl, hown, hbb⟩
       obtain ⟨na, nc, rfl, -⟩ := own_slice hown
       have hV := Lib.hid hown
       have hb1 := Lib.hid hbb
       clear hown hbb)
    | ((refine wpList_make_full _ rfl (.tmp 9) (.tmp 9) 22 rfl W0.heap.size 33 it (.agg #[.bool false, .string ⟨#[]⟩]) 2 Tryd.underlying22 hit hz0 hz1 .i64 .i64 _ _ n rfl rfl rfl rfl (by rw [hz2]; omega) (by unfold maxLen; omega) hb1.out.size ?_)))
  intro w2 hown2 hg2
  have hb2 := Lib.hid (hb1.out.grown hg2 hb1.out.size (fun k e => by cases e))
  have hV2 := Lib.hid (hV.out.kept hg2 (by
    cases ho : (Value.slice na n nc).ownBlock with
    | none => exact .inl rfl
    | some k => exact .inr (by simp)))
  obtain ⟨G, hG⟩ : ∃ G, w1.heap.size = G := ⟨_, rfl⟩
  have hGe : Hid (W0.heap.size ≤ G) := Lib.hid (by rw [← hG]; exact hb1.out.size)
  have hGne : Hid ((Value.slice na n nc).ownBlock ≠ some G) := Lib.hid (fun e => by have := (hV.out.lt _ e).2; omega)
  rw [hG] at hown2 ⊢
  have hrow : Hid (w2.ownsRow W0.heap.size 33 2 (.slice (some ⟨G, 0, none⟩) n n) n (flatT (vPart n 0))) := Lib.hid (by
    rw [toList_madeT] at hown2
    rw [show vPart n 0 = List.replicate n (false, ⟨#[]⟩) from by simp [vPart, vTerms]]
    exact hown2)
  clear hown2 hg2 hV hb1 hG w1 q0 q1 q2
  go_wp2_with fail
  go_loopw [13, 5] (fun i _ wr => ∃ k : Nat, k ≤ n ∧ i = .int .i64 k ∧ Hid (wr.ownsRow W0.heap.size 33 2 (.slice (some ⟨G, 0, none⟩) n n) n (flatT (vPart n k))) ∧ Hid (wr.ownsRow W0.heap.size 9 1 (.slice na n nc) n ((varsR r).map Value.string)) ∧ Hid (Below W0.heap.size W0 wr)) (fun i _ _ => n - (intOf i).toNat)
  case atStart => exact ⟨0, Nat.zero_le _, rfl, hrow, hV2, hb2⟩
  case round =>
    clear hrow hV2 hb2
    obtain ⟨k, hk, rfl, hrow, hV, hbw⟩ := hrel
    have hW := Lib.hid (hkp.out wr hbw.out)
    by_cases hlt : k < n
    · have hq0 : (0 : Int) ≤ (k : Int) := Int.natCast_nonneg _
      have hq1 : (k : Int) < (n : Int) := by omega
      have hit2 := fun W ht => Tryd.strconv_Itoa (k : Int) (by omega) (by omega) W ht
      have hvn := vName_eq k
      have hvsz := vName_size k (by omega)
      have hsz1 : ¬ (9223372036854775807 < (⟨#[86]⟩ : ByteArray).size + (⟨(Lib.itoa (k : Int)).toArray⟩ : ByteArray).size) := by
        rw [← hvn, ByteArray.size_append] at hvsz
        omega
      generalize (⟨(Lib.itoa (k : Int)).toArray⟩ : ByteArray) = S at hit2 hvn hsz1
      generalize hvN : vName k = vn at hvn hvsz
      replace hit2 := Lib.hid hit2
      go_wp2_with (go_at_call 38
                   go_loud (refine (hit2.out _ (htb.out _ hW.out.2.2)).mono ?_)
                   rintro e w3 ⟨rfl, kk, os, hw3⟩
                   have hgw : Grw wr w3 := ⟨kk, os, hw3⟩
                   have hb3 := Lib.hid hgw.below
                   have hrow3 := Lib.hid (own_below hrow.out hb3.out)
                   have hV3 := Lib.hid (own_below hV.out hb3.out)
                   obtain ⟨u0, z0⟩ : ∃ u, w3.cell? ⟨G, k * 2, none⟩ = some u := ⟨_, (hrow3.out.cellAt (k * 2) (by omega)).trans (List.getElem?_eq_getElem (by rw [flatT_len, vPart_len hk]; omega))⟩
                   obtain ⟨u1, z1⟩ : ∃ u, w3.cell? ⟨G, k * 2 + 1, none⟩ = some u := ⟨_, (hrow3.out.cellAt (k * 2 + 1) (by omega)).trans (List.getElem?_eq_getElem (by rw [flatT_len, vPart_len hk]; omega))⟩
                   have f0 := hrow3.out.frozenAt (k * 2)
                   have f1 := hrow3.out.frozenAt (k * 2 + 1)
                   clear hw3 hgw)
      have hrow4 : Hid (((w3.setCell ⟨G, k * 2, none⟩ (.bool true)).setCell ⟨G, k * 2 + 1, none⟩ (.string vn)).ownsRow W0.heap.size 33 2 (.slice (some ⟨G, 0, none⟩) n n) n (flatT (vPart n (k + 1)))) := Lib.hid (by
        have := tmRow_put hrow3.out k (true, vn) (by rw [vPart_len hk]; exact hlt)
        rw [← hvN, vPart_succ hlt] at this
        rw [← hvN]
        exact this)
      have hV4 : Hid (((w3.setCell ⟨G, k * 2, none⟩ (.bool true)).setCell ⟨G, k * 2 + 1, none⟩ (.string vn)).ownsRow W0.heap.size 9 1 (.slice na n nc) n ((varsR r).map Value.string)) := Lib.hid (own_setOther (own_setOther hV3.out hGne.out) hGne.out)
      have hb4 : Hid (Below W0.heap.size W0 ((w3.setCell ⟨G, k * 2, none⟩ (.bool true)).setCell ⟨G, k * 2 + 1, none⟩ (.string vn))) := Lib.hid (((hbw.out.trans (hb3.out.mono hbw.out.size)).setCell (p := ⟨G, k * 2, none⟩) hGe.out _).setCell (p := ⟨G, k * 2 + 1, none⟩) hGe.out _)
      clear z0 z1 f0 f1
      go_roundw
      case rel => exact ⟨k + 1, by omega, by go_num, hrow4, hV4, hb4⟩
      case measure => simp [intOf]; omega
    · have hke : k = n := by omega
      subst hke
      rw [vPart_all] at hrow
      have hTx : Hid (Txts wr na (varsR r)) := Lib.hid (own_txts (by rw [hn.out]; exact hV.out) (by rw [hn.out]; exact hvl) hvs.out)
      have hTm : Hid (Terms wr (some ⟨G, 0, none⟩) (vTerms k)) := Lib.hid (flat_terms (r := []) (by simp [vTerms]; exact hvl) (fun x hx => by
        obtain ⟨i, hi, rfl⟩ := List.mem_map.1 hx
        have := vName_size i (by rw [List.mem_range] at hi; omega)
        show (vName i).size ≤ 1048576
        omega) (fun j u hj => by
        rw [List.append_nil] at hj
        have := hrow.out.cells (g := G) rfl j u hj
        rw [addr_add, Nat.zero_add] at this
        exact this))
      have q0 : wr.cell? ⟨w.heap.size, 0, none⟩ = some (.string r.h) := by simp [World.cell?, hW.out.1]
      have q1 : wr.cell? ⟨w.heap.size, 1, none⟩ = some (.slice a r.a.length c) := by simp [World.cell?, hW.out.1]
      have q2 : wr.cell? ⟨w.heap.size, 2, none⟩ = some (.slice b r.b.length d) := by simp [World.cell?, hW.out.1]
      have hlt1 := (Array.getElem?_eq_some_iff.1 hW.out.2.1).1
      have hsw : w.heap.size ≤ wr.heap.size := hW.out.2.2.size
      go_wp2_with (go_at_call 13
                   go_loud (refine (hPut.out _ _ _ _ wr (ha.out.below hW.out.2.2) (hb.out.below hW.out.2.2) hTx.out hTm.out).mono ?_)
                   rintro e w4 ⟨va, vb, rfl, hr2, hbb⟩
                   obtain ⟨xa, xc, xb, xd, rfl, rfl, -, -⟩ := hr2.form
                   have hr3 := Lib.hid hr2
                   have hb3 := Lib.hid hbb
                   have hbx := (hbb.block _ hlt1).trans hW.out.2.1
                   have y0 : w4.cell? ⟨w.heap.size + 1, 0, none⟩ = some (.string ⟨#[]⟩) := by simp [World.cell?, hbx]
                   have y1 : w4.cell? ⟨w.heap.size + 1, 1, none⟩ = some (.slice none 0 0) := by simp [World.cell?, hbx]
                   have y2 : w4.cell? ⟨w.heap.size + 1, 2, none⟩ = some (.slice none 0 0) := by simp [World.cell?, hbx]
                   have f0 : w4.frozen? ⟨w.heap.size + 1, 0, none⟩ = false := by simp [World.frozen?, hbx]
                   have f1 : w4.frozen? ⟨w.heap.size + 1, 1, none⟩ = false := by simp [World.frozen?, hbx]
                   have f2 : w4.frozen? ⟨w.heap.size + 1, 2, none⟩ = false := by simp [World.frozen?, hbx]
                   replace hbx := Lib.hid hbx
                   clear hr2 hbb)
      have hren : putR (varsR r) (vTerms k) r = renR r := by unfold renR; rw [hn.out]
      rw [hren] at hr3 ⊢
      obtain ⟨V, hV, hVb, hVg, hVw⟩ := rule_stored hbx.out (.string r.h) (.slice xa (renR r).a.length xc) (.slice xb (renR r).b.length xd) (Nat.le_refl w.heap.size) (Nat.le_succ _) (hW.out.2.2.trans (hb3.out.mono hsw))
      rw [← hV]
      refine bodyPost_ret (v := .agg #[.string r.h, .slice xa (renR r).a.length xc, .slice xb (renR r).b.length xd]) (results_cell_row rfl _ _ (w.heap.size + 1) 27 _ (0, 0) _ rfl hVb Tryd.underlying27 rfl pr_sizeRule) rfl ?_
      exact ⟨_, _, rfl, (hr3.out.keepR hbx.out hVg).mono hsw, hVw⟩
end Go.Proofs.YtoklbofobcloaaaDoor
