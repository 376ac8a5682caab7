/- Normal: Put walked. -/
import Derived.Test.YtoklbofobcloaaaDoorNmN
namespace Go.Proofs.YtoklbofobcloaaaDoor
open Go.RowKit Go.Sort
attribute [local go_sem ↓] Go.wp_at_zero Go.wp_at_succ
set_option maxRecDepth 10000
theorem one1_size {names : List ByteArray} {terms : List Tm} (hz : ∀ x ∈ terms, x.2.size ≤ 1048576) {t : Tm} (ht : t.2.size ≤ 1048576) : (one1 names terms t).2.size ≤ 1048576 := by
  have key : ∀ (names : List ByteArray) (terms : List Tm) (s : ByteArray) (x : Tm), (∀ x ∈ terms, x.2.size ≤ 1048576) → find1 names terms s = some x → x.2.size ≤ 1048576 := by
    intro names
    induction names with
    | nil => intro terms s x _ h; cases h
    | cons n l ih =>
      intro terms s x hz h
      unfold find1 at h
      split at h
      · exact hz x (List.mem_of_mem_head? h)
      · exact ih terms.tail s x (fun y hy => hz y (List.mem_of_mem_tail hy)) h
  unfold one1
  split
  · cases h : find1 names terms t.2 with
    | none => exact ht
    | some x => exact key _ _ _ _ hz h
  · exact ht
theorem rule_stored {w0 w : World} {g B : Nat} {u1 u2 u3 : Value} (h : w.heap[g]? = some (.cells #[u1, u2, u3] 27)) (v1 v2 v3 : Value) (hB : w0.heap.size ≤ B) (hg : B ≤ g) (hb : Below w0.heap.size w0 w) :
    ∃ V, V = ((w.setCell ⟨g, 0, none⟩ v1).setCell ⟨g, 1, none⟩ v2).setCell ⟨g, 2, none⟩ v3 ∧ V.heap[g]? = some (.cells #[v1, v2, v3] 27) ∧ w.grownBy V (some g) ∧ Below w0.heap.size w0 V := by
  refine ⟨_, rfl, Go.heap_setCell_same _ _ _ _ _ _ (Go.heap_setCell_same _ _ _ _ _ _ (Go.heap_setCell_same _ _ _ _ _ _ h)), ((grown_set _ _ _ _).trans (grown_set _ _ _ _)).trans (grown_set _ _ _ _), ?_⟩
  exact ((hb.setCell (p := ⟨g, 0, none⟩) (Nat.le_trans hB hg) _).setCell (p := ⟨g, 1, none⟩) (Nat.le_trans hB hg) _).setCell (p := ⟨g, 2, none⟩) (Nat.le_trans hB hg) _
theorem RRow.keepR {w w' : World} {base : Nat} {va vb : Value} {r : Rul} (h : RRow w base va vb r) {G : Nat} {cs : Array Value} (hG : w.heap[G]? = some (.cells cs 27)) (hg : w.grownBy w' (some G)) : RRow w' base va vb r := by
  have hT : ∀ cs' fz, (Obj.cells cs 27) ≠ .cells cs' 33 fz := fun cs' fz e => by injection e with _ e; exact absurd e (by decide)
  have hL : ∀ cs' fz, (Obj.cells cs 27) ≠ .cells cs' 44 fz := fun cs' fz e => by injection e with _ e; exact absurd e (by decide)
  obtain ⟨h1, L, h2, h3⟩ := h
  exact ⟨h1.keep hG hT hg, L, h2.keep hG hL hT hg, h3⟩
set_option maxHeartbeats 8000000 in
set_option maxRecDepth 100000 in
theorem nm_Put (r : Rul) (a b : Option Addr) (c d : Nat) (names : List ByteArray) (terms : List Tm) (na ta : Option Addr) (nc tc : Nat) (w : World) (ha : Terms w a r.a) (hb : Lits w b r.b) (hn : Txts w na names) (ht : Terms w ta terms) (hr : ∀ x ∈ everyR r, x.2.size ≤ 1048576) :
    Calls Tryd.prog 13 #[.agg #[.string r.h, .slice a r.a.length c, .slice b r.b.length d], .slice na names.length nc, .slice ta terms.length tc] w fun e w' => ∃ va vb, e = .returned (.agg #[.string r.h, va, vb]) ∧ RRow w' w.heap.size va vb (putR names terms r) ∧ Below w.heap.size w w' := by
  have hmm := @run_makeMap Tryd.prog
  have hlen := hn.len
  have hlenT := ht.len
  obtain ⟨W0, hW0⟩ : ∃ W0, W0 = (((w.alloc (.cells #[.string r.h, .slice a r.a.length c, .slice b r.b.length d] 27)).alloc (.cells #[.string ⟨#[]⟩, .slice none 0 0, .slice none 0 0] 27)).alloc (.map #[] 0)).alloc (.cells #[.map (some (w.heap.size + 1 + 1))] 62) := ⟨_, rfl⟩
  have hfour := Lib.hid (four_new (Below.refl _ ((((w.alloc (.cells #[.string r.h, .slice a r.a.length c, .slice b r.b.length d] 27)).alloc (.cells #[.string ⟨#[]⟩, .slice none 0 0, .slice none 0 0] 27)).alloc (.map #[] 0)).alloc (.cells #[.map (some (w.heap.size + 1 + 1))] 62))))
  rw [← hW0] at hfour
  have hP0 : Hid (PutMap W0 (w.heap.size + 1 + 1) (w.heap.size + 1 + 1 + 1) names terms 0 0 W0) := Lib.hid (by
    obtain ⟨-, -, -, h4, -⟩ := hfour.out
    have hm := ((MapIs.made ((w.alloc (.cells #[.string r.h, .slice a r.a.length c, .slice b r.b.length d] 27)).alloc (.cells #[.string ⟨#[]⟩, .slice none 0 0, .slice none 0 0] 27)) Tryd.prog 9 tKey).below ((Below.refl _ _).al (.cells #[.map (some (w.heap.size + 1 + 1))] 62)))
    rw [← hW0] at hm
    rw [World.size_alloc, World.size_alloc] at hm
    exact ⟨KeptR.refl _ _, hm.congr fun s => (putM_nil terms s).symm, by simp [World.cell?, h4], Nat.le_refl _⟩)
  replace ha := Lib.hid ha
  replace hb := Lib.hid hb
  replace hr := Lib.hid hr
  have hnW : Hid (Txts W0 na names) := Lib.hid (hn.below hfour.out.2.2.2.2.1)
  have htW : Hid (Terms W0 ta terms) := Lib.hid (ht.below hfour.out.2.2.2.2.1)
  have htlt : Hid (∀ (wr : World) (n k : Nat), PutMap W0 (w.heap.size + 1 + 1) (w.heap.size + 1 + 1 + 1) names terms n k wr → Below w.heap.size w wr) := Lib.hid fun wr n k h => h.kept.below hfour.out.2.2.2.2.1 (fun j e => by subst e; omega)
  replace hn := Lib.hid hn
  replace ht := Lib.hid ht
  go_enter Tryd.func13, Tryd.ntmps13
  go_upto_region 2 with fail
  rw [← hW0]
  clear hW0
  go_wp2_with fail
  go_loopw [15, 8, 9] (fun i _ _ wr => ∃ (k n : Nat), k ≤ names.length ∧ i = .int .i64 k ∧ Hid (PutMap W0 (w.heap.size + 1 + 1) (w.heap.size + 1 + 1 + 1) names terms n k wr)) (fun i _ _ _ => names.length - (intOf i).toNat)
  case atStart => exact ⟨0, 0, Nat.zero_le _, rfl, hP0⟩
  case round =>
    clear hP0
    obtain ⟨k, n, hk, rfl, hP⟩ := hrel
    have hbox := hP.out.box
    have hW := Lib.hid (htlt.out _ _ _ hP.out)
    by_cases hlt : k < names.length
    · obtain ⟨x, e1⟩ : ∃ x, names[k]? = some x := ⟨_, List.getElem?_eq_getElem hlt⟩
      obtain ⟨p, rfl, hc1⟩ := (hn.out.below hW.out).cells k _ e1
      have hxs := hn.out.size x (List.mem_of_getElem? e1)
      have hkey := Lib.hid (tKey_of (s := x) (by unfold maxLen; omega))
      have hq0 : (0 : Int) ≤ (k : Int) := Int.natCast_nonneg _
      have hq1 : (k : Int) < (names.length : Int) := by omega
      have hnl : Hid (n + 1 ≤ 1048577) := Lib.hid (by have := hP.out.le; omega)
      by_cases hin : x ∈ names.take k
      · obtain ⟨y, hσ⟩ : ∃ y, putM (names.take k) terms x = some (tmV y) := ⟨_, if_pos hin⟩
        have hP2 := Lib.hid (hP.out.old e1 hin)
        obtain ⟨yv, ys⟩ := y
        unfold tmV at hσ
        dsimp only at hσ
        replace hσ := Lib.hid hσ
        clear e1 hin
        by_cases hkt : k < terms.length
        · have hkt1 : ¬ ((terms.length : Int) ≤ (k : Int)) := by omega
          go_wp2_with (at_lookup; go_loud (refine wp_look_ok _ rfl _ _ 62 rfl 9 33 strKeyed Tryd.underlying62 (zeroTm _) _ n _ rfl hP.out.map_ _ x rfl hkey.out ?_); rw [hσ.out]; dsimp only [Option.getD, Option.isSome])
          go_roundw
          case rel => exact ⟨k + 1, n, by omega, by go_num, Lib.hid (hP2.out.below ((Below.refl _ _).al _))⟩
          case measure => simp [intOf]; omega
        · have hkt1 : (terms.length : Int) ≤ (k : Int) := by omega
          go_wp2_with (at_lookup; go_loud (refine wp_look_ok _ rfl _ _ 62 rfl 9 33 strKeyed Tryd.underlying62 (zeroTm _) _ n _ rfl hP.out.map_ _ x rfl hkey.out ?_); rw [hσ.out]; dsimp only [Option.getD, Option.isSome])
          go_roundw
          case rel => exact ⟨k + 1, n, by omega, by go_num, Lib.hid (hP2.out.below ((Below.refl _ _).al _))⟩
          case measure => simp [intOf]; omega
      · have hσ : Hid (putM (names.take k) terms x = none) := Lib.hid (if_neg hin)
        have hPa := Lib.hid (hP.out.below ((Below.refl wr.heap.size wr).al (.cells #[.bool false, .string ⟨#[]⟩] 33)))
        by_cases hkt : k < terms.length
        · obtain ⟨y, e2⟩ : ∃ y, terms[k]? = some y := ⟨_, List.getElem?_eq_getElem hkt⟩
          have hkt1 : ¬ ((terms.length : Int) ≤ (k : Int)) := by omega
          have hkt2 : (k : Int) < (terms.length : Int) := by omega
          obtain ⟨q, rfl, hd1, hd2⟩ := (ht.out.below (hW.out.trans (((Below.refl wr.heap.size wr).al (.cells #[.bool false, .string ⟨#[]⟩] 33)).drew.mono hW.out.size))).cells k _ e2
          have hbx2 := hPa.out.below ((Below.refl _ _).drew)
          obtain ⟨w2, hrun, hm2, hg2⟩ := hbx2.map_.update tKey_law strKeyed Tryd.underlying62 (by have := hnl.out; unfold maxLen; omega) hkey.out (tmV y)
          have hP2 := Lib.hid (hbx2.new (w2 := w2) e1 hin (by omega) hg2 (by rw [e2]; exact hm2))
          have hbx3 := hbx2.box
          have hqlt : (q.add (k * 2)).block < w.heap.size := by
            obtain ⟨q', e', h1', h2'⟩ := ht.out.cells k _ e2
            injection e' with e'
            subst e'
            exact cell_lt h1'
          have hd1' : w2.cell? (q.add (k * 2)) = some (.bool y.1) := (World.cell?_of_block (a := q.add (k * 2)) (hg2.block _ (cell_lt hd1) (fun e => by injection e with e; omega))).trans hd1
          have hd2' : w2.cell? ⟨(q.add (k * 2)).block, (q.add (k * 2)).off + 1, none⟩ = some (.string y.2) := (World.cell?_of_block (a := ⟨(q.add (k * 2)).block, (q.add (k * 2)).off + 1, none⟩) (hg2.block _ (cell_lt hd2) (fun e => by injection e with e; simp only at e; omega))).trans hd2
          have hbx4 := hP2.out.box
          obtain ⟨yv, ys⟩ := y
          unfold tmV at hrun
          dsimp only at hrun hd1 hd2 hd1' hd2'
          clear e1 e2 hin
          have hbxA := hPa.out.box
          go_wp2_with (at_lookup; go_loud (refine wp_look_ok _ rfl _ _ 62 rfl 9 33 strKeyed Tryd.underlying62 (zeroTm _) _ n _ rfl hP.out.map_ _ x rfl hkey.out ?_); rw [hσ.out]; dsimp only [Option.getD, Option.isSome])
          go_region_held3 (fun w' => w'.cell? ⟨w.heap.size + 1 + 1 + 1, 0, none⟩ = some (.map (some (w.heap.size + 1 + 1))) ∧ w'.cell? (q.add (k * 2)) = some (.bool yv) ∧ w'.cell? ⟨(q.add (k * 2)).block, (q.add (k * 2)).off + 1, none⟩ = some (.string ys))
            (first
              | exact ⟨hbx3, hd1, hd2⟩
              | exact ⟨hbx4, hd1', hd2'⟩)
            (fail)
          go_wp2_with fail
          go_roundw
          case rel => exact ⟨k + 1, n + 1, by omega, by go_num, hP2⟩
          case measure => simp [intOf]; omega
        · have hkt1 : (terms.length : Int) ≤ (k : Int) := by omega
          have e2 : terms[k]? = none := List.getElem?_eq_none (by omega)
          have hnew := Lib.hid fun w2 h1 h2 => hPa.out.new (w2 := w2) e1 hin (by omega) h1 h2
          rw [e2] at hnew
          unfold tmV at hnew
          dsimp only [Option.getD] at hnew
          clear e1 e2 hin
          have hbxA := hPa.out.box
          go_wp2_with (first
            | (at_lookup; go_loud (refine wp_look_ok _ rfl _ _ 62 rfl 9 33 strKeyed Tryd.underlying62 (zeroTm _) _ n _ rfl hP.out.map_ _ x rfl hkey.out ?_); rw [hσ.out]; dsimp only [Option.getD, Option.isSome])
            | (at_mapUpdate; go_loud (refine wp_upd _ tKey_law rfl _ _ _ 62 rfl 9 33 strKeyed Tryd.underlying62 (w.heap.size + 1 + 1) n _ rfl hPa.out.map_ (by have := hnl.out; unfold maxLen; omega) _ _ x rfl rfl hkey.out ?_)))
          intro w2 hm2 hg2
          have hP2 := Lib.hid (hnew.out w2 hg2 hm2)
          go_wp2_with fail
          go_roundw
          case rel => exact ⟨k + 1, n + 1, by omega, by go_num, hP2⟩
          case measure => simp [intOf]; omega
    · have hke : k = names.length := by omega
      subst hke
      have hput : Hid (∀ W, Below wr.heap.size wr W → Calls Tryd.prog 39 #[.agg #[.string r.h, .slice a r.a.length c, .slice b r.b.length d], .func (.func 40) #[] #[.pointer (some ⟨w.heap.size + 1 + 1 + 1, 0, none⟩)]] W fun e w' => ∃ va vb, e = .returned (.agg #[.string r.h, va, vb]) ∧ RRow w' W.heap.size va vb (putR names terms r) ∧ Below W.heap.size W w') := Lib.hid fun W hWr => by
        have h1 := hP.out.below hWr
        have h2 := htlt.out _ _ _ h1
        refine nm_put (F := one1 names terms) (enters_of Tryd.func40 rfl rfl) r a b c d W (ha.out.below h2) (hb.out.below h2) (fun W' x hx hW' => ?_) (fun x hx => one1_size ht.out.size (hr.out x hx))
        have h3 := h1.below hW'
        have h4 := h3.map_
        rw [List.take_of_length_le (Nat.le_refl _)] at h4
        exact nm_put1 _ _ n names terms x W' h3.box h4 (hr.out x hx)
      have hfr := hfour.out
      have hk0 := hP.out.kept
      have hlt0 := hfr.2.2.2.2.2
      have hb0 : wr.heap[w.heap.size]? = some (.cells #[.string r.h, .slice a r.a.length c, .slice b r.b.length d] 27) := (hk0.block _ (by omega) (by omega)).trans hfr.1
      have hb1 : wr.heap[w.heap.size + 1]? = some (.cells #[.string ⟨#[]⟩, .slice none 0 0, .slice none 0 0] 27) := (hk0.block _ (by omega) (by omega)).trans hfr.2.1
      have q0 : wr.cell? ⟨w.heap.size, 0, none⟩ = some (.string r.h) := by simp [World.cell?, hb0]
      have q1 : wr.cell? ⟨w.heap.size, 1, none⟩ = some (.slice a r.a.length c) := by simp [World.cell?, hb0]
      have q2 : wr.cell? ⟨w.heap.size, 2, none⟩ = some (.slice b r.b.length d) := by simp [World.cell?, hb0]
      have hb1lt : Hid (w.heap.size + 1 < wr.heap.size) := Lib.hid ((Array.getElem?_eq_some_iff.1 hb1).1)
      replace hb1 := Lib.hid hb1
      clear hb0 hfr hk0 hlt0
      go_wp2_with (go_at_call 39; go_loud (refine (hput.out _ (Below.refl _ _)).mono ?_); rintro e w2 ⟨va, vb, rfl, hr2, hb2⟩
                   obtain ⟨xa, xc, xb, xd, rfl, rfl, -, -⟩ := hr2.form
                   have hr3 := Lib.hid hr2
                   have hb3 := Lib.hid hb2
                   have hbx := (hb2.block _ hb1lt.out).trans hb1.out
                   have y0 : w2.cell? ⟨w.heap.size + 1, 0, none⟩ = some (.string ⟨#[]⟩) := by simp [World.cell?, hbx]
                   have y1 : w2.cell? ⟨w.heap.size + 1, 1, none⟩ = some (.slice none 0 0) := by simp [World.cell?, hbx]
                   have y2 : w2.cell? ⟨w.heap.size + 1, 2, none⟩ = some (.slice none 0 0) := by simp [World.cell?, hbx]
                   have f0 : w2.frozen? ⟨w.heap.size + 1, 0, none⟩ = false := by simp [World.frozen?, hbx]
                   have f1 : w2.frozen? ⟨w.heap.size + 1, 1, none⟩ = false := by simp [World.frozen?, hbx]
                   have f2 : w2.frozen? ⟨w.heap.size + 1, 2, none⟩ = false := by simp [World.frozen?, hbx]
                   replace hbx := Lib.hid hbx
                   clear hr2 hb2)
      have hlen1 : (putR names terms r).a.length = r.a.length := by simp [putR, mapR]
      have hlen2 : (putR names terms r).b.length = r.b.length := by simp [putR, mapR]
      obtain ⟨V, hV, hVb, hVg, hVw⟩ := rule_stored hbx.out (.string r.h) (.slice xa (putR names terms r).a.length xc) (.slice xb (putR names terms r).b.length xd) (Nat.le_refl w.heap.size) (Nat.le_succ _) (hW.out.trans (hb3.out.mono hW.out.size))
      rw [← hV]
      refine bodyPost_ret (v := .agg #[.string r.h, .slice xa (putR names terms r).a.length xc, .slice xb (putR names terms r).b.length xd]) (results_cell_row rfl _ _ (w.heap.size + 1) 27 _ (0, 0) _ rfl hVb Tryd.underlying27 rfl pr_sizeRule) rfl ?_
      exact ⟨_, _, rfl, (hr3.out.keepR hbx.out hVg).mono hW.out.size, hVw⟩
end Go.Proofs.YtoklbofobcloaaaDoor
