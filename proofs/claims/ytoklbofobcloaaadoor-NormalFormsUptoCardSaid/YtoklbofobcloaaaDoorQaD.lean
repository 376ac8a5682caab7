/- Normal: the document's Rule. -/
import Derived.Test.YtoklbofobcloaaaDoorNpK
import Derived.Test.YtoklbofobcloaaaDoorNoA
import Derived.Test.YtoklbofobcloaaaDoorNpF
import Derived.Test.YtoklbofobcloaaaDoorNpJ
import Derived.Test.YtoklbofobcloaaaDoorRegT
namespace Go.Proofs.YtoklbofobcloaaaDoor
open Go.RowKit Go.Sort Go.Shelf
set_option linter.unusedVariables false
set_option maxHeartbeats 4000000 in
set_option maxRecDepth 100000 in
theorem rn_Rule (r : Rul) (a b : Option Addr) (c d : Nat) (w : World) (ha : Terms w a r.a) (hb : Lits w b r.b) (hnv : (everyR r).length ≤ 1048576) :
    Calls Tryd.prog 19 #[.agg #[.string r.h, .slice a r.a.length c, .slice b r.b.length d]] w fun e w' => ∃ va vb, e = .returned (.agg #[.string r.h, va, vb]) ∧ Rl w' w.heap.size w'.heap.size va vb (ruleR r) ∧ Below w.heap.size w w' := by
  obtain ⟨W0, hW0⟩ : ∃ W0, W0 = (w.alloc (.cells #[.string r.h, .slice a r.a.length c, .slice b r.b.length d] 27)).alloc (.cells #[.string ⟨#[]⟩, .slice none 0 0, .slice none 0 0] 27) := ⟨_, rfl⟩
  have hkp : Hid (∀ w', Below W0.heap.size W0 w' → w'.heap[w.heap.size]? = some (.cells #[.string r.h, .slice a r.a.length c, .slice b r.b.length d] 27) ∧ w'.heap[w.heap.size + 1]? = some (.cells #[.string ⟨#[]⟩, .slice none 0 0, .slice none 0 0] 27) ∧ Below w.heap.size w w') := Lib.hid (by
    subst hW0; intro w' hb; obtain ⟨h1, h2, h3⟩ := two_cells hb; exact ⟨h2, h3, h1⟩)
  have hB0 := (hkp.out W0 (Below.refl _ _)).2.2
  have hB1 : Hid (w.heap.size + 1 < W0.heap.size) := Lib.hid (Array.getElem?_eq_some_iff.1 (hkp.out W0 (Below.refl _ _)).2.1).1
  have h0 := hkp.out W0 (Below.refl _ _)
  have q0 : W0.cell? ⟨w.heap.size, 0, none⟩ = some (.string r.h) := by simp [World.cell?, h0.1]
  have q1 : W0.cell? ⟨w.heap.size, 1, none⟩ = some (.slice a r.a.length c) := by simp [World.cell?, h0.1]
  have q2 : W0.cell? ⟨w.heap.size, 2, none⟩ = some (.slice b r.b.length d) := by simp [World.cell?, h0.1]
  clear h0
  have hbod := Lib.hid (rn_Body r a b c d W0 (ha.below hB0) (hb.below hB0))
  have hlen := Nat.le_trans (every_body r) hnv
  have hren := fun va ca vb cb W h1 h2 => rn_Rename (bodyR r) va vb ca cb W h1 h2 hlen
  rw [show (bodyR r).h = r.h from rfl] at hren
  have hsp : Hid (renR (bodyR r) = ruleR r) := Lib.hid rfl
  have hsp2 : (bodyR r).a.length = r.a.length := rfl
  generalize bodyR r = R at hbod hren hsp hlen hsp2
  replace hren := Lib.hid hren
  clear ha hb hsp2 hlen
  go_enter Tryd.func19, Tryd.ntmps19
  go_upto_region 1 with fail
  rw [← hW0]
  clear hW0
  go_wp2_with (first
    | (go_at_call 18
       go_loud (refine hbod.out.mono ?_)
       rintro e w1 ⟨va, vb, rfl, hr0, hbb⟩
       obtain ⟨xa, xc, xb, xd, rfl, rfl, t1, t2⟩ := hr0.form
       have hb1 := Lib.hid hbb
       replace t1 := Lib.hid t1
       replace t2 := Lib.hid t2
       clear hr0 hbb)
    | (go_at_call 16
       go_loud (refine (hren.out xa xc xb xd w1 t1.out t2.out).mono ?_)
       rintro e w2 ⟨va, vb, rfl, hr2, hbb⟩
       obtain ⟨za, zc, zb, zd, rfl, rfl, -, -⟩ := hr2.form
       have hb2 := Lib.hid (hb1.out.trans (hbb.mono hb1.out.size))
       have hx := (hkp.out _ hb2.out).2.1
       obtain ⟨x0, x1, x2⟩ := box_cells hx
       have g0 : w2.frozen? ⟨w.heap.size + 1, 0, none⟩ = false := by simp [World.frozen?, hx]
       have g1 : w2.frozen? ⟨w.heap.size + 1, 1, none⟩ = false := by simp [World.frozen?, hx]
       have g2 : w2.frozen? ⟨w.heap.size + 1, 2, none⟩ = false := by simp [World.frozen?, hx]
       replace hx := Lib.hid hx
       have hr3 := Lib.hid hr2
       clear hr2 hbb))
  obtain ⟨V, hV, hVb, hVg, hVw⟩ := rule_stored hx.out (.string r.h) (.slice za (renR R).a.length zc) (.slice zb (renR R).b.length zd) (Nat.le_refl w.heap.size) (Nat.le_succ _) (hkp.out _ hb2.out).2.2
  rw [← hV]
  refine bodyPost_ret (v := .agg #[.string r.h, .slice za (renR R).a.length zc, .slice zb (renR R).b.length zd]) (results_cell_row rfl _ _ (w.heap.size + 1) 27 _ (0, 0) _ rfl hVb Tryd.underlying27 rfl pr_sizeRule) rfl ?_
  exact ⟨_, _, rfl, by rw [← hsp.out]; exact (hr3.out.stay (fun j h1 h2 => hVg.block j h2 (fun e => by injection e with e; have := hB1.out; have := hb1.out.size; omega))).mono (Nat.le_trans hB0.size hb1.out.size) hVg.size, hVw⟩
end Go.Proofs.YtoklbofobcloaaaDoor


/- Normal: the law's many. -/
namespace Go.Proofs.YtoklbofobcloaaaDoor
open Go.RowKit Go.Sort Go.Shelf
set_option linter.unusedVariables false
/-- a bool is told -/
def IsBool (e : Ending) : Prop := ∃ m, e = .returned (.bool m)
set_option maxHeartbeats 4000000 in
set_option maxRecDepth 100000 in
theorem lw_many (r : Rul) (a b : Option Addr) (c d : Nat) (w : World) (hb : Lits w b r.b) (hla : r.a.length ≤ 1048576) :
    Calls Tryd.prog 7 #[.agg #[.string r.h, .slice a r.a.length c, .slice b r.b.length d]] w fun e w' => IsBool e ∧ Below w.heap.size w w' := by
  obtain ⟨W0, hW0⟩ : ∃ W0, W0 = (w.alloc (.cells #[.string r.h, .slice a r.a.length c, .slice b r.b.length d] 27)) := ⟨_, rfl⟩
  have hB0 : Hid (Below w.heap.size w W0) := Lib.hid (by subst hW0; exact (Below.refl _ _).al _)
  have hbx : W0.heap[w.heap.size]? = some (.cells #[.string r.h, .slice a r.a.length c, .slice b r.b.length d] 27) := by subst hW0; exact heap_alloc_new _ _
  obtain ⟨q0, q1, q2⟩ := box_cells hbx
  have hbW := Lib.hid (hb.below hB0.out)
  have hlb := hb.len
  clear hb hbx
  go_enter Tryd.func7, Tryd.ntmps7
  go_upto_region 1 with fail
  rw [← hW0]
  clear hW0
  go_wp2
  go_loopw [3, 4] (fun z i wr => ∃ (k : Nat) (n : Int), k ≤ r.b.length ∧ i = .int .i64 k ∧ z = .int .i64 n ∧ wr = W0) (fun _ i _ => r.b.length - (intOf i).toNat)
  case atStart => exact ⟨0, _, Nat.zero_le _, rfl, rfl, rfl⟩
  case round =>
    obtain ⟨k, n, hk, rfl, rfl, rfl⟩ := hrel
    have hq0 : (0 : Int) ≤ (k : Int) := Int.natCast_nonneg _
    by_cases hlt : k < r.b.length
    · have hq1 : (k : Int) < (r.b.length : Int) := by omega
      by_cases h3 : (k : Int) ≤ 300
      · have h3d : decide ((k : Int) ≤ 300) = true := decide_eq_true h3
        obtain ⟨x, ex⟩ : ∃ x, r.b[k]? = some x := ⟨_, List.getElem?_eq_getElem hlt⟩
        obtain ⟨q, ad, acap, rfl, hd1, hd2, hd3, hd4, hd5, hd6, hd7, hat0⟩ := hbW.out.cells k x ex
        go_wp2
        go_roundw
        case rel => exact ⟨k + 1, _, by omega, by go_num, rfl, trivial⟩
        case measure => simp [intOf]; omega
      · have h3d : decide ((k : Int) ≤ 300) = false := decide_eq_false h3
        go_wp2
        all_goals (go_ret; exact ⟨⟨_, rfl⟩, hB0.out⟩)
    · have hq1 : ¬ (k : Int) < (r.b.length : Int) := by omega
      go_wp2
      all_goals (go_ret; exact ⟨⟨_, rfl⟩, hB0.out⟩)
end Go.Proofs.YtoklbofobcloaaaDoor


/- Normal: the law's spoilt: a rule is written over. -/
namespace Go.Proofs.YtoklbofobcloaaaDoor
open Go.RowKit Go.Sort Go.Shelf
set_option linter.unusedVariables false
theorem Fr.set {lo hi : Nat} {w w1 : World} (h : Fr lo hi w w1) (g j : Nat) (u : Value) (h1 : lo ≤ g) (h2 : g < hi) : Fr lo hi w (w1.setCell ⟨g, j, none⟩ u) := h.one (grown_set w1 g j u) (fun k e => by injection e with e; subst e; exact .inl ⟨h1, h2⟩)
theorem Any.live {w : World} {lo hi size n g c : Nat} {e : TypeId} (h : Any w lo hi e size (.slice (some ⟨g, 0, none⟩) n c) n) (j : Nat) : w.frozen? ⟨g, j, none⟩ = false := own_live h.1.choose_spec j
def gone : Blk := (⟨99, ⟨#[]⟩, [], (false, ⟨#[]⟩), (false, ⟨#[]⟩)⟩, 0, 0)
/-- what stands while a rule is written over -/
structure SpS (lo hi : Nat) (w1 : World) (box : Array Value) (va : Value) (na : Nat) (vb : Value) (L : List LV) (wr : World) (k : Nat) : Prop where
  rw' : Wr wr lo hi va na vb L k
  fr : Fr lo hi w1 wr
  box : wr.heap[w1.heap.size - 1]? = some (.cells box 27)
  lt : hi < w1.heap.size
section
variable {lo hi na k : Nat} {w1 wr w' : World} {box : Array Value} {va vb : Value} {L : List LV}
theorem SpS.inset (h : SpS lo hi w1 box va na vb L wr k) {v : Value} {n g c : Nat} (hv : Any wr lo hi 33 2 v n) (e : v = .slice (some ⟨g, 0, none⟩) n c) (j : Nat) (x y : Value) : SpS lo hi w1 box va na vb L ((wr.setCell ⟨g, j, none⟩ x).setCell ⟨g, j + 1, none⟩ y) k := by
  subst e
  have hg : lo ≤ g ∧ g < hi := by
    rcases hv.form with ⟨e, -⟩ | ⟨g', c', e, h1, h2⟩
    · cases e
    · injection e with e
      injection e with e
      injection e with e
      subst e
      exact ⟨h1, h2⟩
  refine ⟨(h.rw'.inset hv rfl).inset (hv.set g j x) rfl, (h.fr.set g j x hg.1 hg.2).set g (j + 1) y hg.1 hg.2, ?_, h.lt⟩
  have hlt := h.lt
  have hne : w1.heap.size - 1 ≠ g := by omega
  rw [heap_setCell_other _ _ _ _ hne, heap_setCell_other _ _ _ _ hne]
  exact h.box
theorem SpS.bodset (h : SpS lo hi w1 box va na vb L wr k) {g d : Nat} (hv : vb = .slice (some ⟨g, 0, none⟩) L.length d) (u0 u1 u2 u3 u4 u5 u6 : Value) :
    SpS lo hi w1 box va na vb L (((((((wr.setCell ⟨g, k * 7, none⟩ u0).setCell ⟨g, k * 7 + 1, none⟩ u1).setCell ⟨g, k * 7 + 2, none⟩ u2).setCell ⟨g, k * 7 + 3, none⟩ u3).setCell ⟨g, k * 7 + 4, none⟩ u4).setCell ⟨g, k * 7 + 5, none⟩ u5).setCell ⟨g, k * 7 + 6, none⟩ u6) (k + 1) := by
  have hg : lo ≤ g ∧ g < hi := by
    rcases h.rw'.bod.form with ⟨e, -⟩ | ⟨g', c', e, h1, h2⟩
    · rw [hv] at e; cases e
    · rw [hv] at e
      injection e with e
      injection e with e
      injection e with e
      subst e
      exact ⟨h1, h2⟩
  have h1 := h.rw'.next (Nat.le_succ k)
  refine ⟨((((((h1.set hv (by omega)).set hv (by omega)).set hv (by omega)).set hv (by omega)).set hv (by omega)).set hv (by omega)).set hv (by omega), ((((((h.fr.set g _ u0 hg.1 hg.2).set g _ u1 hg.1 hg.2).set g _ u2 hg.1 hg.2).set g _ u3 hg.1 hg.2).set g _ u4 hg.1 hg.2).set g _ u5 hg.1 hg.2).set g _ u6 hg.1 hg.2, ?_, h.lt⟩
  have hlt := h.lt
  have hne : w1.heap.size - 1 ≠ g := by omega
  rw [heap_setCell_other _ _ _ _ hne, heap_setCell_other _ _ _ _ hne, heap_setCell_other _ _ _ _ hne, heap_setCell_other _ _ _ _ hne, heap_setCell_other _ _ _ _ hne, heap_setCell_other _ _ _ _ hne, heap_setCell_other _ _ _ _ hne]
  exact h.box
end
set_option maxHeartbeats 4000000 in
set_option maxRecDepth 100000 in
theorem lw_spoilt (p : ByteArray) (a b : Option Addr) (na c d lo hi : Nat) (L : List LV) (w : World) (h : Wr w lo hi (.slice a na c) na (.slice b L.length d) L 0) (hlo : lo ≤ w.heap.size) (hhi : hi ≤ w.heap.size) (hna : na ≤ 1048576) (hnL : L.length ≤ 1048576) (hni : ∀ y ∈ L, y.1.a.length ≤ 1048576) :
    Calls Tryd.prog 21 #[.agg #[.string p, .slice a na c, .slice b L.length d]] w fun e w' => e = .returned (.tuple #[]) ∧ Fr lo hi w w' := by
  obtain ⟨w1, hw1⟩ : ∃ w1, w1 = (w.alloc (.cells #[.string p, .slice a na c, .slice b L.length d] 27)) := ⟨_, rfl⟩
  obtain ⟨B, hB⟩ : ∃ B, w.heap.size = B := ⟨_, rfl⟩
  have hB1 : Hid (B = w1.heap.size - 1) := Lib.hid (by rw [hw1, World.size_alloc, hB]; rfl)
  have hal : Below w.heap.size w w1 := by subst hw1; exact (Below.refl _ _).al _
  have hS : Hid (SpS lo hi w1 #[.string p, .slice a na c, .slice b L.length d] (.slice a na c) na (.slice b L.length d) L w1 0) := Lib.hid ⟨h.stay (Stay.of hal hhi), Fr.refl _ _ _, by rw [← hB1.out, hw1, ← hB]; exact heap_alloc_new _ _, by rw [hw1, World.size_alloc]; omega⟩
  have hFr : Hid (∀ w', Fr lo hi w1 w' → Fr lo hi w w') := Lib.hid fun w' h' => (Fr.of hal).trans h'
  have hbc : Hid (∀ (wr : World) (k : Nat), SpS lo hi w1 #[.string p, .slice a na c, .slice b L.length d] (.slice a na c) na (.slice b L.length d) L wr k → wr.cell? ⟨B, 0, none⟩ = some (.string p) ∧ wr.cell? ⟨B, 1, none⟩ = some (.slice a na c) ∧ wr.cell? ⟨B, 2, none⟩ = some (.slice b L.length d)) := Lib.hid fun wr k h => box_cells (by rw [hB1.out]; exact h.box)
  obtain ⟨q0, q1, q2⟩ := hbc.out _ _ hS.out
  replace hni := Lib.hid hni
  clear h hal
  go_enter Tryd.func21, Tryd.ntmps21
  go_upto_region 1 with fail
  rw [← hw1]
  clear hw1
  go_wp2
  go_loopw [2] (fun i wr => ∃ k : Nat, k ≤ na ∧ i = .int .i64 k ∧ Hid (SpS lo hi w1 #[.string p, .slice a na c, .slice b L.length d] (.slice a na c) na (.slice b L.length d) L wr 0)) (fun i _ => na - (intOf i).toNat)
  case atStart => exact ⟨0, Nat.zero_le _, rfl, hS⟩
  case round =>
    clear hS q0 q1 q2
    obtain ⟨k, hk, rfl, hS⟩ := hrel
    obtain ⟨q0, q1, q2⟩ := hbc.out _ _ hS.out
    have hq0 : (0 : Int) ≤ (k : Int) := Int.natCast_nonneg _
    by_cases hlt : k < na
    · have hq1 : (k : Int) < (na : Int) := by omega
      have hA := hS.out.rw'.args
      obtain ⟨g, c', e0⟩ : ∃ g c', a = some ⟨g, 0, none⟩ ∧ c = c' := by
        rcases hA.form with ⟨-, e⟩ | ⟨g, c', e, -, -⟩
        · omega
        · injection e with e1 e2 e3
          exact ⟨g, c', e1, e3⟩
      obtain ⟨rfl, rfl⟩ := e0
      obtain ⟨u0, e0⟩ := hA.cell (k * 2) (by omega)
      obtain ⟨u1, e1⟩ := hA.cell (k * 2 + 1) (by omega)
      have hlv := hA.live
      have hS2 := Lib.hid (hS.out.inset hA rfl (k * 2) (.bool false) (.string ⟨#[103, 111, 110, 101]⟩))
      clear hA
      go_wp2
      go_roundw
      case rel => exact ⟨k + 1, by omega, by go_num, hS2⟩
      case measure => simp [intOf]; omega
    · have hq1 : ¬ (k : Int) < (na : Int) := by omega
      go_wp2
      go_loopw [3, 4] (fun i _ wr => ∃ k : Nat, k ≤ L.length ∧ i = .int .i64 k ∧ Hid (SpS lo hi w1 #[.string p, .slice a na c, .slice b L.length d] (.slice a na c) na (.slice b L.length d) L wr k)) (fun i _ _ => L.length - (intOf i).toNat)
      case atStart => exact ⟨0, Nat.zero_le _, rfl, hS⟩
      case round =>
        clear hS q0 q1 q2 hq0 hq1 hlt hk
        obtain ⟨k, hk, rfl, hS⟩ := hrel
        obtain ⟨q0, q1, q2⟩ := hbc.out _ _ hS.out
        have hq0 : (0 : Int) ≤ (k : Int) := Int.natCast_nonneg _
        by_cases hlt : k < L.length
        · have hq1 : (k : Int) < (L.length : Int) := by omega
          obtain ⟨g, d', e0, hold⟩ := hS.out.rw'.old k hlt (Nat.le_refl _)
          injection e0 with e0 e3 e4
          clear e3
          subst e0 e4
          obtain ⟨y, ey⟩ : ∃ y, L[k]? = some y := ⟨_, List.getElem?_eq_getElem hlt⟩
          have hym := List.mem_of_getElem? ey
          have hyn := hni.out y hym
          rw [(List.getElem?_eq_some_iff.1 ey).2] at hold
          have hyA := hS.out.rw'.inner y hym
          obtain ⟨ya, yc, hya⟩ : ∃ ya yc, y.2 = .slice ya y.1.a.length yc := by
            rcases hyA.form with ⟨e, h0⟩ | ⟨g, c', e, -, -⟩
            · exact ⟨none, 0, by rw [e, h0]⟩
            · exact ⟨_, _, e⟩
          rw [hya] at hold
          clear hyA
          have hyL := Lib.hid hym
          obtain ⟨m, hm⟩ : ∃ m, y.1.a.length = m := ⟨_, rfl⟩
          have hyI : Hid (∀ wr' : World, SpS lo hi w1 #[.string p, .slice a na c, .slice (some ⟨g, 0, none⟩) L.length d] (.slice a na c) na (.slice (some ⟨g, 0, none⟩) L.length d) L wr' k → Any wr' lo hi 33 2 (.slice ya m yc) m ∧ wr'.cell? ⟨g, k * 7 + 2, none⟩ = some (.slice ya m yc)) := Lib.hid fun wr' h' => by
            have h1 := h'.rw'.inner y hym
            obtain ⟨g2, d2, e2, h2⟩ := h'.rw'.old k hlt (Nat.le_refl _)
            injection e2 with e2
            injection e2 with e2
            injection e2 with e2
            subst e2
            rw [(List.getElem?_eq_some_iff.1 ey).2] at h2
            rw [hya, hm] at h1 h2
            exact ⟨h1, h2⟩
          rw [hm] at hold hyn
          clear hm hya hym ey hyL
          clear y
          go_wp2
          go_loopw [4] (fun i wt => ∃ j : Nat, j ≤ m ∧ i = .int .i64 j ∧ Hid (SpS lo hi w1 #[.string p, .slice a na c, .slice (some ⟨g, 0, none⟩) L.length d] (.slice a na c) na (.slice (some ⟨g, 0, none⟩) L.length d) L wt k)) (fun i _ => m - (intOf i).toNat)
          case atStart => exact ⟨0, Nat.zero_le _, rfl, hS⟩
          case round =>
            clear hS q0 q1 q2 hold
            obtain ⟨j, hj, rfl, hS⟩ := hrel
            obtain ⟨q0, q1, q2⟩ := hbc.out _ _ hS.out
            obtain ⟨hA, hold⟩ := hyI.out _ hS.out
            have hp0 : (0 : Int) ≤ (j : Int) := Int.natCast_nonneg _
            by_cases hlt2 : j < m
            · have hp1 : (j : Int) < (m : Int) := by omega
              obtain ⟨g2, c2, e0⟩ : ∃ g2 c2, ya = some ⟨g2, 0, none⟩ ∧ yc = c2 := by
                rcases hA.form with ⟨-, e⟩ | ⟨g, c', e, -, -⟩
                · omega
                · injection e with e1 e2 e3
                  exact ⟨g, c', e1, e3⟩
              obtain ⟨rfl, rfl⟩ := e0
              obtain ⟨u0, e0⟩ := hA.cell (j * 2) (by omega)
              obtain ⟨u1, e1⟩ := hA.cell (j * 2 + 1) (by omega)
              have hlv := hA.live
              have hS2 := Lib.hid (hS.out.inset hA rfl (j * 2) (.bool false) (.string ⟨#[103, 111, 110, 101]⟩))
              clear hA
              go_wp2
              go_roundw
              case rel => exact ⟨j + 1, by omega, by go_num, hS2⟩
              case measure => simp [intOf]; omega
            · have hp1 : ¬ (j : Int) < (m : Int) := by omega
              have hA2 := hS.out.rw'.bod
              obtain ⟨u0, e0⟩ : ∃ u, _ = some u := hA2.cell (k * 7) (by omega)
              obtain ⟨u1, e1⟩ := hA2.cell (k * 7 + 1) (by omega)
              obtain ⟨u3, e3⟩ := hA2.cell (k * 7 + 3) (by omega)
              obtain ⟨u4, e4⟩ := hA2.cell (k * 7 + 4) (by omega)
              obtain ⟨u5, e5⟩ := hA2.cell (k * 7 + 5) (by omega)
              obtain ⟨u6, e6⟩ := hA2.cell (k * 7 + 6) (by omega)
              have hlv := hA2.live
              have hS2 := Lib.hid (hS.out.bodset rfl (.int .i64 99) (.string ⟨#[]⟩) (.slice none 0 0) (.bool false) (.string ⟨#[]⟩) (.bool false) (.string ⟨#[]⟩))
              clear hA hA2
              go_wp2
              go_roundw
              case rel => exact ⟨k + 1, by omega, by go_num, hS2⟩
              case measure => simp [intOf]; omega
        · have hq1 : ¬ (k : Int) < (L.length : Int) := by omega
          have hf := hFr.out _ hS.out.fr
          go_wp2
          refine bodyPost_end (results_none rfl _ _ _) rfl ?_
          exact ⟨rfl, hf⟩
end Go.Proofs.YtoklbofobcloaaaDoor


/- Normal: four rules in an array: how they lie apart. -/
namespace Go.Proofs.YtoklbofobcloaaaDoor
open Go.RowKit Go.Sort Go.Shelf
set_option linter.unusedVariables false
section
variable {P : Program} {ops : Array Oper} {Q : Exit → Act → World → Prop} {md : Region.Mode} {S : World → Prop} {T : List Nat}
/-- two operations may come up -/
theorem wpAnyT_two {i j : Nat} {o p : Oper} {fuel : Nat} {listed : Array Bool} {a : Act} {w : World} (hr : Region.ready md ops listed = [i, j]) (ho : ops[i]? = some o) (hp : ops[j]? = some p)
    (h : ∀ K' : Act → World → Prop, Shut (∀ a w, S w → wpAnyT P md ops Q S T fuel (listed.setIfInBounds i true) a w → K' a w) → if Region.wanted o (yielded ops a.tmps) = true then Oper.wp P o a w K' Q else K' (a.put o.dst undef) w)
    (h2 : ∀ K' : Act → World → Prop, Shut (∀ a w, S w → wpAnyT P md ops Q S T fuel (listed.setIfInBounds j true) a w → K' a w) → if Region.wanted p (yielded ops a.tmps) = true then Oper.wp P p a w K' Q else K' (a.put p.dst undef) w) :
    wpAnyT P md ops Q S T (fuel + 1) listed a w :=
  ⟨fun h0 => (by rw [hr] at h0; cases h0), fun k hk => by
    rw [hr] at hk
    rcases List.mem_cons.1 hk with e | e
    · rw [e]
      exact wpOp_step ho fun K' hK => h K' fun a w hS hW => hK a w ⟨fun _ => hS, hW⟩
    · rw [List.mem_singleton.1 e]
      exact wpOp_step hp fun K' hK => h2 K' fun a w hS hW => hK a w ⟨fun _ => hS, hW⟩⟩
end
/-- a rule's lists as they lie -/
structure RV where
  a : Option Addr
  c : Nat
  b : Option Addr
  d : Nat
  r : Rul
def RV.va (x : RV) : Value := .slice x.a x.r.a.length x.c
def RV.vb (x : RV) : Value := .slice x.b x.r.b.length x.d
def RV.cells (x : RV) : List Value := [.string x.r.h, x.va, x.vb]
def RV.val (x : RV) : Value := .agg #[.string x.r.h, x.va, x.vb]
def Seg (o : Bool) (W : World) (lo hi : Nat) (x : RV) : Prop :=
  hi ≤ W.heap.size ∧ Rl W lo hi x.va x.vb x.r ∧ (o = true → ∃ L : List LV, L.length = x.r.b.length ∧ (∀ y ∈ L, y.1.a.length ≤ 1048576) ∧ Wr W lo hi x.va x.r.a.length x.vb L 0)
theorem Seg.stay {o : Bool} {W W' : World} {lo hi : Nat} {x : RV} (h : Seg o W lo hi x) (hs : Stay lo hi W W') (hz : W.heap.size ≤ W'.heap.size) : Seg o W' lo hi x :=
  ⟨Nat.le_trans h.1 hz, h.2.1.stay hs, fun ho => let ⟨L, h1, h2, h3⟩ := h.2.2 ho; ⟨L, h1, h2, h3.stay hs⟩⟩
/-- rules one behind the other between lo and hi; block A lies in none's -/
def Segs (o : Bool) (W : World) (oA : Option Nat) (hi : Nat) : Nat → List RV → Prop
  | lo, [] => lo ≤ hi ∧ hi ≤ W.heap.size
  | lo, x :: l => ∃ m n, lo ≤ m ∧ m ≤ n ∧ Seg o W m n x ∧ (∀ A, oA = some A → A < m ∨ n ≤ A) ∧ Segs o W oA hi n l
section
variable {o : Bool} {W W' : World} {oA : Option Nat} {hi : Nat}
theorem Segs.le : ∀ {l : List RV} {lo : Nat}, Segs o W oA hi lo l → lo ≤ hi ∧ hi ≤ W.heap.size
  | [], _, h => h
  | _ :: _, _, ⟨m, n, h1, h2, _, _, h3⟩ => ⟨by have := h3.le; omega, h3.le.2⟩
theorem Segs.stay : ∀ {l : List RV} {lo : Nat}, Segs o W oA hi lo l → Stay lo hi W W' → W.heap.size ≤ W'.heap.size → Segs o W' oA hi lo l
  | [], _, h, _, hz => ⟨h.1, Nat.le_trans h.2 hz⟩
  | _ :: _, lo, ⟨m, n, h1, h2, h3, h4, h5⟩, hs, hz =>
    ⟨m, n, h1, h2, h3.stay (fun k a b => hs k (by omega) (by have := h5.le; omega)) hz, h4, h5.stay (fun k a b => hs k (by omega) b) hz⟩
theorem Segs.set {A : Nat} : ∀ {l : List RV} {lo : Nat}, Segs o W (some A) hi lo l → (∀ b, b ≠ A → W'.heap[b]? = W.heap[b]?) → W.heap.size ≤ W'.heap.size → Segs o W' (some A) hi lo l
  | [], _, h, _, hz => ⟨h.1, Nat.le_trans h.2 hz⟩
  | _ :: _, lo, ⟨m, n, h1, h2, h3, h4, h5⟩, hs, hz =>
    ⟨m, n, h1, h2, h3.stay (fun k a b => hs k (by have := h4 A rfl; omega)) hz, h4, h5.set hs hz⟩
theorem Segs.push {x : RV} (hb : Below W.heap.size W W') (hx : Seg o W' W.heap.size W'.heap.size x) (hA : ∀ A, oA = some A → A < W.heap.size) : ∀ {l : List RV} {lo : Nat}, Segs o W oA W.heap.size lo l → Segs o W' oA W'.heap.size lo (l ++ [x])
  | [], lo, h => ⟨W.heap.size, W'.heap.size, h.1, hb.size, hx, fun A e => .inl (hA A e), Nat.le_refl _, Nat.le_refl _⟩
  | _ :: _, lo, ⟨m, n, h1, h2, h3, h4, h5⟩ =>
    ⟨m, n, h1, h2, h3.stay (Stay.of hb h3.1) hb.size, h4, Segs.push hb hx hA h5⟩
theorem Segs.alloc {ob : Obj} : ∀ {l : List RV} {lo : Nat}, Segs o W none W.heap.size lo l → Segs o (W.alloc ob) (some W.heap.size) (W.alloc ob).heap.size lo l
  | [], _, h => ⟨Nat.le_trans h.1 (by rw [World.size_alloc]; omega), Nat.le_refl _⟩
  | _ :: _, lo, ⟨m, n, h1, h2, h3, h4, h5⟩ =>
    ⟨m, n, h1, h2, h3.stay (Stay.of ((Below.refl _ _).al ob) h3.1) (by rw [World.size_alloc]; omega), fun A e => by injection e with e; subst e; exact .inr h3.1, h5.alloc⟩
theorem Segs.at : ∀ {l : List RV} {lo k : Nat} {x : RV}, Segs o W oA hi lo l → l[k]? = some x → ∃ m n, lo ≤ m ∧ n ≤ hi ∧ Seg o W m n x
  | [], _, _, _, _, h => by simp at h
  | _ :: _, lo, 0, x, ⟨m, n, h1, h2, h3, h4, h5⟩, h => by
    simp at h
    subst h
    exact ⟨m, n, h1, h5.le.1, h3⟩
  | _ :: _, lo, k + 1, x, ⟨m, n, h1, h2, h3, h4, h5⟩, h => by
    obtain ⟨m', n', h6, h7, h8⟩ := h5.at (by simpa using h)
    exact ⟨m', n', by omega, h7, h8⟩
end
def zero12 : Array Value := #[.string ⟨#[]⟩, .slice none 0 0, .slice none 0 0, .string ⟨#[]⟩, .slice none 0 0, .slice none 0 0, .string ⟨#[]⟩, .slice none 0 0, .slice none 0 0, .string ⟨#[]⟩, .slice none 0 0, .slice none 0 0]
/-- what stands while four rules are made: those that are there, and the array's box, if it is there -/
structure Mk (o : Bool) (W5 : World) (lo : Nat) (l : List RV) (oA : Option Nat) (W : World) : Prop where
  bel : Below lo W5 W
  segs : Segs o W oA W.heap.size lo l
  box : ∀ A, oA = some A → lo ≤ A ∧ W.heap[A]? = some (.cells zero12 36)
section
variable {o : Bool} {W5 W W' : World} {lo : Nat} {l : List RV} {oA : Option Nat}
theorem Mk.start (o : Bool) {W5 W : World} {lo : Nat} (hb : Below lo W5 W) (h : lo ≤ W.heap.size) : Mk o W5 lo [] none W := ⟨hb, ⟨h, Nat.le_refl _⟩, fun A e => by cases e⟩
theorem Mk.push (h : Mk o W5 lo l oA W) {x : RV} (hx : Seg o W' W.heap.size W'.heap.size x) (hb : Below W.heap.size W W') : Mk o W5 lo (l ++ [x]) oA W' :=
  ⟨h.bel.trans (hb.mono h.segs.le.1), h.segs.push hb hx (fun A e => (Array.getElem?_eq_some_iff.1 (h.box A e).2).1), fun A e => ⟨(h.box A e).1, (hb.block A (Array.getElem?_eq_some_iff.1 (h.box A e).2).1).trans (h.box A e).2⟩⟩
theorem Mk.alloc (h : Mk o W5 lo l none W) : Mk o W5 lo l (some W.heap.size) (W.alloc (.cells zero12 36)) :=
  ⟨h.bel.trans (((Below.refl _ _).al _).mono h.segs.le.1), h.segs.alloc, fun A e => by injection e with e; subst e; exact ⟨h.segs.le.1, heap_alloc_new _ _⟩⟩
end
/-- four rules in an array at A, all between lo and hi -/
structure Four (o : Bool) (lo hi A : Nat) (l : List RV) (W : World) : Prop where
  box : W.heap[A]? = some (.cells (l.flatMap RV.cells).toArray 36)
  segs : Segs o W (some A) hi lo l
  ge : lo ≤ A
  lt : A < hi
section
variable {o : Bool} {W W' : World} {lo hi A : Nat} {l : List RV}
theorem Four.stay (h : Four o lo hi A l W) (hs : Stay lo hi W W') (hz : W.heap.size ≤ W'.heap.size) : Four o lo hi A l W' :=
  ⟨(hs A h.ge h.lt).trans h.box, h.segs.stay hs hz, h.ge, h.lt⟩
theorem Four.below (h : Four o lo hi A l W) (hb : Below W.heap.size W W') : Four o lo hi A l W' := h.stay (Stay.of hb h.segs.le.2) hb.size
theorem Four.cell (h : Four o lo hi A l W) {k : Nat} {x : RV} (hk : l[k]? = some x) : W.cell? ⟨A, k * 3, none⟩ = some (.string x.r.h) ∧ W.cell? ⟨A, k * 3 + 1, none⟩ = some (.slice x.a x.r.a.length x.c) ∧ W.cell? ⟨A, k * 3 + 2, none⟩ = some (.slice x.b x.r.b.length x.d) := by
  have key : ∀ j u, j < 3 → (RV.cells x)[j]? = some u → W.cell? ⟨A, k * 3 + j, none⟩ = some u := fun j u hj hu => by
    have h1 := pr_flat_get RV.cells 3 (fun _ => rfl) l k j hj
    rw [hk] at h1
    have h2 : (l.flatMap RV.cells).toArray[k * 3 + j]? = some u := by rw [List.getElem?_toArray]; exact h1.trans hu
    simp [World.cell?, h.box, h2]
  exact ⟨key 0 _ (by decide) rfl, key 1 _ (by decide) rfl, key 2 _ (by decide) rfl⟩
theorem Four.terms (h : Four o lo hi A l W) {k : Nat} {x : RV} (hk : l[k]? = some x) : Terms W x.a x.r.a ∧ Lits W x.b x.r.b := by
  obtain ⟨m, n, -, -, hs⟩ := h.segs.at hk
  obtain ⟨a, c, b, d, e1, e2, h1, h2⟩ := hs.2.1.form
  unfold RV.va at e1
  unfold RV.vb at e2
  injection e1 with e1
  injection e2 with e2
  rw [e1, e2]
  exact ⟨h1, h2⟩
end
/-- a rule is told, in new memory -/
def Gives (o : Bool) (r : Rul) (W : World) (e : Ending) (w' : World) : Prop :=
  ∃ a c b d, e = .returned (.agg #[.string r.h, .slice a r.a.length c, .slice b r.b.length d]) ∧ Seg o w' W.heap.size w'.heap.size ⟨a, c, b, d, r⟩ ∧ Below W.heap.size W w'
theorem gives_row {W : World} {h : ByteArray} {r : Rul} (hh : r.h = h := by rfl) : ∀ e w', (∃ va vb, e = .returned (.agg #[.string h, va, vb]) ∧ RRow w' W.heap.size va vb r ∧ Below W.heap.size W w') → Gives true r W e w' := by
  rintro e w' ⟨va, vb, rfl, hr, hb⟩
  obtain ⟨a, c, b, d, rfl, rfl, -, -⟩ := hr.form
  subst hh
  exact ⟨a, c, b, d, rfl, ⟨Nat.le_refl _, hr.rl, fun _ => hr.wr⟩, hb⟩
theorem gives_rl {W : World} {h : ByteArray} {r : Rul} (hh : r.h = h := by rfl) : ∀ e w', (∃ va vb, e = .returned (.agg #[.string h, va, vb]) ∧ Rl w' W.heap.size w'.heap.size va vb r ∧ Below W.heap.size W w') → Gives false r W e w' := by
  rintro e w' ⟨va, vb, rfl, hr, hb⟩
  obtain ⟨a, c, b, d, rfl, rfl, -, -⟩ := hr.form
  subst hh
  exact ⟨a, c, b, d, rfl, ⟨Nat.le_refl _, hr, fun h => by cases h⟩, hb⟩
theorem zero_cells {w : World} {A : Nat} (h : w.heap[A]? = some (.cells zero12 36)) : w.cell? ⟨A, 0, none⟩ = some (.string ⟨#[]⟩) ∧ w.cell? ⟨A, 1, none⟩ = some (.slice none 0 0) ∧ w.cell? ⟨A, 2, none⟩ = some (.slice none 0 0) ∧ w.cell? ⟨A, 3, none⟩ = some (.string ⟨#[]⟩) ∧ w.cell? ⟨A, 4, none⟩ = some (.slice none 0 0) ∧ w.cell? ⟨A, 5, none⟩ = some (.slice none 0 0) ∧ w.cell? ⟨A, 6, none⟩ = some (.string ⟨#[]⟩) ∧ w.cell? ⟨A, 7, none⟩ = some (.slice none 0 0) ∧ w.cell? ⟨A, 8, none⟩ = some (.slice none 0 0) ∧ w.cell? ⟨A, 9, none⟩ = some (.string ⟨#[]⟩) ∧ w.cell? ⟨A, 10, none⟩ = some (.slice none 0 0) ∧ w.cell? ⟨A, 11, none⟩ = some (.slice none 0 0) := by
  simp [World.cell?, h, zero12]
/-- the array is written -/
def put12 (W : World) (A : Nat) (x0 x1 x2 x3 : RV) : World :=
  (((((((((((W.setCell ⟨A, 0, none⟩ (.string x0.r.h)).setCell ⟨A, 1, none⟩ x0.va).setCell ⟨A, 2, none⟩ x0.vb).setCell ⟨A, 3, none⟩ (.string x1.r.h)).setCell ⟨A, 4, none⟩ x1.va).setCell ⟨A, 5, none⟩ x1.vb).setCell ⟨A, 6, none⟩ (.string x2.r.h)).setCell ⟨A, 7, none⟩ x2.va).setCell ⟨A, 8, none⟩ x2.vb).setCell ⟨A, 9, none⟩ (.string x3.r.h)).setCell ⟨A, 10, none⟩ x3.va).setCell ⟨A, 11, none⟩ x3.vb
theorem four_put {o : Bool} {W5 W : World} {lo A : Nat} {x0 x1 x2 x3 : RV} {l : List RV} (hs : Segs o W (some A) W.heap.size lo l) (hb : Below lo W5 W) (hA : lo ≤ A) (hx : W.heap[A]? = some (.cells zero12 36)) (hl : l = [x0, x1, x2, x3]) : (∃ hi, Four o lo hi A [x0, x1, x2, x3] (put12 W A x0 x1 x2 x3)) ∧ Below lo W5 (put12 W A x0 x1 x2 x3) := by
  subst hl
  have hg : W.grownBy (put12 W A x0 x1 x2 x3) (some A) := (((((((((((grown_set _ _ _ _).trans (grown_set _ _ _ _)).trans (grown_set _ _ _ _)).trans (grown_set _ _ _ _)).trans (grown_set _ _ _ _)).trans (grown_set _ _ _ _)).trans (grown_set _ _ _ _)).trans (grown_set _ _ _ _)).trans (grown_set _ _ _ _)).trans (grown_set _ _ _ _)).trans (grown_set _ _ _ _)).trans (grown_set _ _ _ _)
  have hk := (Array.getElem?_eq_some_iff.1 hx).1
  refine ⟨⟨W.heap.size, ?_, ?_, hA, hk⟩, hb.grown hg hs.le.1 (fun k e => by injection e with e; omega)⟩
  · have h1 := Go.heap_setCell_same _ _ 11 _ _ x3.vb (Go.heap_setCell_same _ _ 10 _ _ x3.va (Go.heap_setCell_same _ _ 9 _ _ (.string x3.r.h) (Go.heap_setCell_same _ _ 8 _ _ x2.vb (Go.heap_setCell_same _ _ 7 _ _ x2.va (Go.heap_setCell_same _ _ 6 _ _ (.string x2.r.h) (Go.heap_setCell_same _ _ 5 _ _ x1.vb (Go.heap_setCell_same _ _ 4 _ _ x1.va (Go.heap_setCell_same _ _ 3 _ _ (.string x1.r.h) (Go.heap_setCell_same _ _ 2 _ _ x0.vb (Go.heap_setCell_same _ _ 1 _ _ x0.va (Go.heap_setCell_same _ _ 0 _ _ (.string x0.r.h) hx)))))))))))
    simp only [zero12, List.setIfInBounds_toArray, List.set_cons_succ, List.set_cons_zero] at h1
    unfold put12
    rw [h1]
    rfl
  · refine hs.set (fun b hb => ?_) hg.size
    unfold put12
    have hne : ∀ (w : World) (j : Nat) (v : Value), (w.setCell ⟨A, j, none⟩ v).heap[b]? = w.heap[b]? := fun w j v => heap_setCell_other _ _ _ _ hb
    simp only [hne]
theorem arr_cell {W : World} {A : Nat} {l : List RV} (h : W.heap[A]? = some (.cells (l.flatMap RV.cells).toArray 36)) {k : Nat} {x : RV} (hk : l[k]? = some x) : W.cell? ⟨A, k * 3, none⟩ = some (.string x.r.h) ∧ W.cell? ⟨A, k * 3 + 1, none⟩ = some (.slice x.a x.r.a.length x.c) ∧ W.cell? ⟨A, k * 3 + 2, none⟩ = some (.slice x.b x.r.b.length x.d) := by
  have key : ∀ j u, j < 3 → (RV.cells x)[j]? = some u → W.cell? ⟨A, k * 3 + j, none⟩ = some u := fun j u hj hu => by
    have h1 := pr_flat_get RV.cells 3 (fun _ => rfl) l k j hj
    rw [hk] at h1
    have h2 : (l.flatMap RV.cells).toArray[k * 3 + j]? = some u := by rw [List.getElem?_toArray]; exact h1.trans hu
    simp [World.cell?, h, h2]
  exact ⟨key 0 _ (by decide) rfl, key 1 _ (by decide) rfl, key 2 _ (by decide) rfl⟩
/-- four rules of which the first k have been written over -/
structure SpA (lo hi A : Nat) (l : List RV) (k : Nat) (W : World) : Prop where
  box : W.heap[A]? = some (.cells (l.flatMap RV.cells).toArray 36)
  segs : ∃ lo', lo ≤ lo' ∧ Segs true W (some A) hi lo' (l.drop k)
theorem Four.spa {lo hi A : Nat} {l : List RV} {W : World} (h : Four true lo hi A l W) : SpA lo hi A l 0 W := ⟨h.box, lo, Nat.le_refl _, h.segs⟩
theorem SpA.step {lo hi A k : Nat} {l : List RV} {W : World} (h : SpA lo hi A l k W) {x : RV} (hk : l[k]? = some x) : ∃ m n L, lo ≤ m ∧ m ≤ n ∧ n ≤ hi ∧ n ≤ W.heap.size ∧ L.length = x.r.b.length ∧ (∀ y ∈ L, y.1.a.length ≤ 1048576) ∧ x.r.a.length ≤ 1048576 ∧ x.r.b.length ≤ 1048576 ∧ Wr W m n x.va x.r.a.length x.vb L 0 ∧ ∀ W', Fr m n W W' → SpA lo hi A l (k + 1) W' := by
  obtain ⟨hb, lo', h1, h2⟩ := h
  obtain ⟨hlt, e⟩ := List.getElem?_eq_some_iff.1 hk
  rw [List.drop_eq_getElem_cons hlt, e] at h2
  obtain ⟨m, n, h3, h4, h5, h6, h7⟩ := h2
  obtain ⟨L, h8, h9, h10⟩ := h5.2.2 rfl
  obtain ⟨a, c, b, d, -, -, t1, t2⟩ := h5.2.1.form
  refine ⟨m, n, L, by omega, h4, h7.le.1, h5.1, h8, h9, t1.len, t2.len, h10, fun W' hW => ⟨?_, n, by omega, h7.stay (hW.stay (.inr (Nat.le_refl _)) h7.le.2) hW.size⟩⟩
  exact (hW.block A (Array.getElem?_eq_some_iff.1 hb).1 (h6 A rfl)).trans hb
theorem four_alloc {o : Bool} {W5 W : World} {lo : Nat} {x0 x1 x2 x3 : RV} {l : List RV} (h : Mk o W5 lo l none W) (hl : l = [x0, x1, x2, x3]) : (∃ hi, Four o lo hi W.heap.size [x0, x1, x2, x3] (W.alloc (.cells #[.string x0.r.h, x0.va, x0.vb, .string x1.r.h, x1.va, x1.vb, .string x2.r.h, x2.va, x2.vb, .string x3.r.h, x3.va, x3.vb] 36))) ∧ Below lo W5 (W.alloc (.cells #[.string x0.r.h, x0.va, x0.vb, .string x1.r.h, x1.va, x1.vb, .string x2.r.h, x2.va, x2.vb, .string x3.r.h, x3.va, x3.vb] 36)) := by
  subst hl
  have hle := h.segs.le.1
  refine ⟨⟨W.heap.size + 1, by rw [heap_alloc_new]; rfl, ?_, hle, Nat.lt_succ_self _⟩, h.bel.trans (((Below.refl _ _).al _).mono hle)⟩
  have := h.segs.alloc (ob := .cells #[.string x0.r.h, x0.va, x0.vb, .string x1.r.h, x1.va, x1.vb, .string x2.r.h, x2.va, x2.vb, .string x3.r.h, x3.va, x3.vb] 36)
  rw [World.size_alloc] at this
  exact this
end Go.Proofs.YtoklbofobcloaaaDoor
