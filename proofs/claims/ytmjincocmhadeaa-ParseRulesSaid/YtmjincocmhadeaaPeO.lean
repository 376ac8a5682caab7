/- Parse: the document's reader: a rule by itself. (gen_peo.py) -/
import Derived.Test.YtmjincocmhadeaaPmM
import Derived.Test.YtmjincocmhadeaaPfC
namespace Go.Proofs.Ytmjincocmhadeaa
open Go.RowKit Lx
/-- a rule of the call's own -/
def RuleV (w : World) (lo : Nat) (av bv : Value) (r : PRule) : Prop := w.ownsRow lo 64 2 av r.a.length (flatTT r.a) ∧ ∃ L : List (PLit × Value), L.map (·.1) = r.b ∧ Bod w lo bv L
theorem RuleV.of {w : World} {lo : Nat} {av bv : Value} {r : PRule} (h : RuleIn w lo av bv r) : RuleV w lo av bv r := ⟨h.args, (let ⟨L, h1, h2, _⟩ := h.body; ⟨L, h1, h2⟩)⟩
theorem RuleV.below {w w' : World} {lo : Nat} {av bv : Value} {r : PRule} (h : RuleV w lo av bv r) (hb : Below w.heap.size w w') : RuleV w' lo av bv r := by
  obtain ⟨h1, L, h2, h3⟩ := h
  exact ⟨own_below h1 hb, L, h2, own_below h3.own hb, fun y hy => own_below (h3.inner y hy) hb⟩
theorem RuleV.base {w : World} {lo lo' : Nat} {av bv : Value} {r : PRule} (h : RuleV w lo av bv r) (hb : lo' ≤ lo) : RuleV w lo' av bv r := by
  obtain ⟨h1, L, h2, h3⟩ := h
  exact ⟨own_baseP h1 hb, L, h2, own_baseP h3.own hb, fun y hy => own_baseP (h3.inner y hy) hb⟩
theorem RuleV.reads {w : World} {lo : Nat} {av bv : Value} {r : PRule} (h : RuleV w lo av bv r) : ∃ xa xc ya yc, av = .slice xa r.a.length xc ∧ bv = .slice ya r.b.length yc ∧ RT w xa r.a ∧ RL w ya r.b := by
  obtain ⟨h1, L, h2, h3⟩ := h
  obtain ⟨xa, xc, rfl, -⟩ := own_slice h1
  obtain ⟨ya, yc, rfl, -⟩ := own_slice h3.own
  have hn : L.length = r.b.length := by rw [← h2, List.length_map]
  refine ⟨xa, xc, ya, yc, rfl, by rw [hn], own_RT h1, ?_⟩
  have := (bod_RL h3).1
  rw [h2] at this; exact this
def RrPost (w0 : World) (R : Except Int (PRule × Nat)) (e : Ending) (w' : World) : Prop :=
  match R with
  | .ok r => ∃ av bv, e = .returned (.tuple #[.agg #[.string r.1.p, av, bv], .int .i64 0, .bool true]) ∧ Below w0.heap.size w0 w' ∧ RuleV w' w0.heap.size av bv r.1
  | .error x => e = .returned (.tuple #[.agg #[.string ⟨#[]⟩, .slice none 0 0, .slice none 0 0], .int .i64 x, .bool false]) ∧ Below w0.heap.size w0 w'
theorem rRule_err {L : Bs} {e : Int} (h : (((((rAtom L (rSkip L 0)).map (·.2)).bind (rBody L)).map (·.2)).map (rSkip L)) = .error e) : rRule L = .error e := by
  unfold rRule
  cases hA : rAtom L (rSkip L 0) with
  | error x => rw [hA] at h; injection h with h; rw [h]; rfl
  | ok a =>
    rw [hA] at h
    have h' : (((rBody L a.2).map (·.2)).map (rSkip L)) = .error e := h
    show (rBody L a.2).bind _ = _
    cases hB : rBody L a.2 with
    | error x => rw [hB] at h'; injection h' with h'; rw [h']; rfl
    | ok y => rw [hB] at h'; cases h'
theorem rRule_end {L : Bs} {q : Nat} (h : (((((rAtom L (rSkip L 0)).map (·.2)).bind (rBody L)).map (·.2)).map (rSkip L)) = .ok q) : ∃ a b, rAtom L (rSkip L 0) = .ok a ∧ ((rAtom L (rSkip L 0)).map (·.2)).bind (rBody L) = .ok b ∧ rRule L = if pk L q = -1 then .ok (⟨a.1.1, a.1.2, b.1⟩, q) else .error (q : Int) := by
  unfold rRule
  cases hA : rAtom L (rSkip L 0) with
  | error x => rw [hA] at h; cases h
  | ok a =>
    rw [hA] at h
    have h' : (((rBody L a.2).map (·.2)).map (rSkip L)) = .ok q := h
    cases hB : rBody L a.2 with
    | error x => rw [hB] at h'; cases h'
    | ok y =>
      rw [hB] at h'
      have hq : rSkip L y.2 = q := by injection h'
      refine ⟨a, y, rfl, hB, ?_⟩
      show (rBody L a.2).bind _ = _
      rw [hB]
      show (if pk L (rSkip L y.2) = -1 then _ else _) = _
      rw [hq]
theorem three_new {w1 : World} {a b c : Value} {t : TypeId} {g : Nat} (h : w1.heap[g]? = some (.cells #[a, b, c] t)) : (w1.cell? ⟨g, 0, none⟩ = some a ∧ w1.cell? ⟨g, 1, none⟩ = some b ∧ w1.cell? ⟨g, 2, none⟩ = some c) ∧ w1.frozen? ⟨g, 0, none⟩ = false ∧ w1.frozen? ⟨g, 1, none⟩ = false ∧ w1.frozen? ⟨g, 2, none⟩ = false :=
  ⟨⟨by simp [World.cell?, h], by simp [World.cell?, h], by simp [World.cell?, h]⟩, by simp [World.frozen?, h], by simp [World.frozen?, h], by simp [World.frozen?, h]⟩
theorem keepB {w w' : World} {r g : Nat} {o : Obj} (hm : Mvd r w w') (hg : w.heap[g]? = some o) (hne : g ≠ r) : w'.heap[g]? = some o :=
  (hm.block g (Array.getElem?_eq_some_iff.1 hg).1 (fun e => by injection e with e; exact hne e)).trans hg
set_option maxHeartbeats 4000000 in
set_option maxRecDepth 100000 in
theorem re_Rule_bad (s : ByteArray) (w : World) (hs : s.size ≤ 4194304) {er : Int} {S3 : Except Int Nat} (he : S3 = .error er) (h3 : (((((rAtom (bl s) (rSkip (bl s) 0)).map (·.2)).bind (rBody (bl s))).map (·.2)).map (rSkip (bl s))) = S3) :
    Calls Try.prog 11 #[.string s] w (RrPost w (rRule (bl s))) := by
  have hR : Hid (rRule (bl s) = .error er) := Lib.hid (rRule_err (by rw [h3, he]))
  have hW0 : Hid (Rs ((w.alloc (.cells #[.string ⟨#[]⟩, .slice none 0 0, .slice none 0 0] 29)).alloc (.cells #[.string s, .int .i64 0, .bool false] 82)) (w.heap.size + 1) s (.ok 0)) := Lib.hid ⟨kt_second _ _ _, by decide, Int.natCast_nonneg _, hs⟩
  have hbW0 : Hid (Below w.heap.size w ((w.alloc (.cells #[.string ⟨#[]⟩, .slice none 0 0, .slice none 0 0] 29)).alloc (.cells #[.string s, .int .i64 0, .bool false] 82))) := Lib.hid (((Below.refl _ _).al _).al _)
  have hres0 : Hid (((w.alloc (.cells #[.string ⟨#[]⟩, .slice none 0 0, .slice none 0 0] 29)).alloc (.cells #[.string s, .int .i64 0, .bool false] 82)).heap[w.heap.size]? = some (.cells #[.string ⟨#[]⟩, .slice none 0 0, .slice none 0 0] 29)) := Lib.hid (by
    rw [heap_alloc_old _ _ (by rw [World.size_alloc]; omega)]; exact heap_alloc_new _ _)
  obtain ⟨A, hA⟩ : ∃ A, A = rAtom (bl s) (rSkip (bl s) 0) := ⟨_, rfl⟩
  obtain ⟨B, hB⟩ : ∃ B, B = (A.map (·.2)).bind (rBody (bl s)) := ⟨_, rfl⟩
  have hsk1 := Lib.hid fun wA h => re_skip (w := wA) (b := w.heap.size + 1) (s := s) (S := .ok 0) h
  have hat := fun wA h => re_atom (w := wA) (b := w.heap.size + 1) (s := s) (S := .ok (rSkip (bl s) 0)) h
  have hateq : ∀ S : Except Int Nat, S = .ok (rSkip (bl s) 0) → S.bind (rAtom (bl s)) = A := fun S h => by rw [h, hA]; rfl
  rw [hateq _ rfl] at hat
  have hbo := fun wA h => re_body (w := wA) (b := w.heap.size + 1) (s := s) (S := A.map (·.2)) h
  rw [← hB] at hbo
  have hsk2 := fun wA h => re_skip (w := wA) (b := w.heap.size + 1) (s := s) (S := B.map (·.2)) h
  rw [show (B.map (·.2)).map (rSkip (bl s)) = S3 from by rw [← h3, hB, hA]] at hsk2
  unfold RePost VAtom at hat
  unfold RePost VBody at hbo
  replace hat := Lib.hid hat
  replace hbo := Lib.hid hbo
  replace hsk2 := Lib.hid hsk2
  clear hA hB hateq h3
  subst he
  go_enter Try.func11, Try.ntmps11
  go_wp2_with (first
    | (go_at_call 31
       have hg := hsk1
       refine (hsk1.out _ hW0.out).mono ?_
       rintro e w1 ⟨rfl, hr10, hm10⟩
       have hr1 := Lib.hid (Rs.below hr10 ((Below.refl w1.heap.size w1).al (.cells #[.string ⟨#[]⟩, .slice none 0 0, .slice none 0 0] 29)))
       have hbw1 := Lib.hid (hbW0.out.trans (Below.of_grown hm10 (B := w.heap.size) (by omega) (by simp only [World.size_alloc]; omega)))
       have hr0 : Hid ((w1.alloc (.cells #[.string ⟨#[]⟩, .slice none 0 0, .slice none 0 0] 29)).heap[w.heap.size]? = some (.cells #[.string ⟨#[]⟩, .slice none 0 0, .slice none 0 0] 29)) := Lib.hid (by
         have h1 := keepB hm10 hres0.out (by omega)
         rw [heap_alloc_old _ _ (Array.getElem?_eq_some_iff.1 h1).1]; exact h1)
       have hz1 := Lib.hid (heap_alloc_new w1 (.cells #[.string ⟨#[]⟩, .slice none 0 0, .slice none 0 0] 29))
       have hlt1 : Hid (w.heap.size + 1 < w1.heap.size) := Lib.hid (by have := Rd.lt hr10; omega)
       clear hg hsk1 hr10 hm10)
    | (refine wpList_store_rowA rfl 29 (.tmp 6) (.tmp 12) rfl w1.heap.size #[.string ⟨#[]⟩, .slice none 0 0, .slice none 0 0] rfl rfl 29 #[.string ⟨#[]⟩, .slice none 0 0, .slice none 0 0] hz1.out sizeRule rfl (by simp [Value.oneCell']) ?_))
  intro w2 hg2 hgr2 hsz2
  have hr2 := Lib.hid (hr1.out.other hgr2 (by have := hlt1.out; omega))
  have hbw2 := Lib.hid ((hbw1.out.al (.cells #[.string ⟨#[]⟩, .slice none 0 0, .slice none 0 0] 29)).trans (Below.of_grown hgr2 (B := w.heap.size) (by have := hlt1.out; omega) (by rw [World.size_alloc]; have := hlt1.out; omega)))
  have hr02 := Lib.hid (keepB hgr2 hr0.out (by have := hlt1.out; omega))
  have hsz : Hid (w2.heap.size = w1.heap.size + 1) := Lib.hid hsz2.out
  generalize w1.heap.size = g6 at hg2 hlt1 hsz ⊢
  clear hgr2 hsz2 hz1 hr1 hbw1 hr0
  go_wp2_with (first
    | (go_at_call 32
       refine (hat.out _ hr2.out).mono ?_
       rintro e w3 ⟨v3, x3, rfl, ⟨av, rfl, hv3⟩, hx30, hr30, hm30⟩
       obtain ⟨va, vc, rfl, -⟩ := own_slice hv3
       have hx3 := Lib.hid hx30
       have hg3 := keepB hm30 hg2.out (by have := hlt1.out; omega)
       obtain ⟨⟨c0, c1, c2⟩, f0, f1, f2⟩ := three_new hg3
       have hg4 := Go.heap_setCell_same _ g6 1 _ _ (.slice va x3.2.length vc) (Go.heap_setCell_same w3 g6 0 _ _ (.string x3.1) hg3)
       have hmm : Mvd g6 w3 ((w3.setCell ⟨g6, 0, none⟩ (.string x3.1)).setCell ⟨g6, 1, none⟩ (.slice va x3.2.length vc)) := ((Mvd.refl g6 w3).set _ _).set _ _
       have hr4 := Lib.hid (Rs.other hr30 hmm (by have := hlt1.out; omega))
       have hbw4 := Lib.hid ((hbw2.out.trans (Below.of_grown hm30 (B := w.heap.size) (by omega) hbw2.out.size)).trans (Below.of_grown hmm (B := w.heap.size) (by have := hlt1.out; omega) (Nat.le_trans hbw2.out.size hm30.size)))
       have hr04 := Lib.hid (keepB hmm (keepB hm30 hr02.out (by omega)) (by have := hlt1.out; omega))
       have hown4 := Lib.hid (own_stays hv3 hmm (fun k hk e => by have := (hv3.lt k hk).1; have := hsz.out; injection e with e; omega))
       replace hg4 := Lib.hid hg4
       have hsz4 : Hid (w2.heap.size ≤ ((w3.setCell ⟨g6, 0, none⟩ (.string x3.1)).setCell ⟨g6, 1, none⟩ (.slice va x3.2.length vc)).heap.size) := Lib.hid (Nat.le_trans hm30.size hmm.size)
       clear hx30 hr30 hm30 hmm hv3)
    | (go_at_call 33
       refine (hbo.out _ hr4.out).mono ?_
       rintro e w5 ⟨v5, x5, rfl, ⟨L5, hL5, hv5⟩, hx50, hr50, hm50⟩
       obtain ⟨vb, vd, rfl, -⟩ := own_slice hv5.own
       have hx5 := Lib.hid hx50
       have hg5 := keepB hm50 hg4.out (by have := hlt1.out; omega)
       obtain ⟨⟨c0, c1, c2⟩, f0, f1, f2⟩ := three_new hg5
       have hg6 := Go.heap_setCell_same w5 g6 2 _ _ (.slice vb L5.length vd) hg5
       have hmm : Mvd g6 w5 (w5.setCell ⟨g6, 2, none⟩ (.slice vb L5.length vd)) := (Mvd.refl g6 w5).set _ _
       have hr6 := Lib.hid (Rs.other hr50 hmm (by have := hlt1.out; omega))
       have hbw6 := Lib.hid ((hbw4.out.trans (Below.of_grown hm50 (B := w.heap.size) (by omega) hbw4.out.size)).trans (Below.of_grown hmm (B := w.heap.size) (by have := hlt1.out; omega) (Nat.le_trans hbw4.out.size hm50.size)))
       have hr06 := Lib.hid (keepB hmm (keepB hm50 hr04.out (by omega)) (by have := hlt1.out; omega))
       have hown6 := Lib.hid (own_stays (own_mvd hown4.out hm50 (by have := hlt1.out; have := hsz.out; omega)) hmm (fun k hk e => by have := (hown4.out.lt k hk).1; have := hsz.out; injection e with e; omega))
       have hbod6 : Hid (Bod (w5.setCell ⟨g6, 2, none⟩ (.slice vb L5.length vd)) _ (.slice vb L5.length vd) L5) := Lib.hid (hv5.rule hmm hg5)
       replace hg6 := Lib.hid hg6
       replace hL5 := Lib.hid hL5
       clear hx50 hr50 hm50 hmm hv5 hg5)
    | (go_at_call 31
       refine (hsk2.out _ hr6.out).mono ?_
       rintro e w7 ⟨rfl, hr70, hm70⟩
       have hr7 : Rd w7 (w.heap.size + 1) s _ _ := hr70
       obtain ⟨e0, e1, e2, e3, e4⟩ := hr7.cells
       have hbw7 := Lib.hid (hbw6.out.trans (Below.of_grown hm70 (B := w.heap.size) (by omega) hbw6.out.size))
       have hr07 := Lib.hid (keepB hm70 hr06.out (by omega))
       have hg7 := Lib.hid (keepB hm70 hg6.out (by have := hlt1.out; omega))
       have hown7 := Lib.hid (own_mvd hown6.out hm70 (by have := hlt1.out; have := hsz.out; omega))
       have hbod7 := Lib.hid (hbod6.out.mvd hm70 (by have := hlt1.out; have := hsz.out; have := hsz4.out; omega))
       clear hr70 hm70))
  have hzz : w7.drew.heap[w.heap.size]? = some (.cells #[.string ⟨#[]⟩, .slice none 0 0, .slice none 0 0] 29) := hr07.out
  refine wp_region_T (fun w' => w'.cell? ⟨w.heap.size + 1, 1, none⟩ = some (.int .i64 er)) [0, 1, 2, 3, 4] (by kernel_rfl) e1 (fun hHeld => ?_)
  refine wpAnyT_take (i := 0) (oi := _) (v := ?_) rfl rfl (by kernel_rfl) (by kernel_rfl) (by kernel_rfl) (fun _ _ _ h => h) (Or.inl ⟨by rfl, ?_⟩) (by assumption) ?_
  rotate_left
  · intro w hSw
    try dsimp only at hSw
    go_simp
    try with_reducible rfl
  refine wpAnyT_take (i := 1) (oi := _) (v := ?_) rfl rfl (by kernel_rfl) (by kernel_rfl) (by kernel_rfl) (fun _ _ _ h => h) (Or.inl ⟨by rfl, ?_⟩) (by assumption) ?_
  rotate_left
  · intro w hSw
    try dsimp only at hSw
    go_simp
    try with_reducible rfl
  refine wpAnyT_take (i := 2) (oi := _) (v := ?_) rfl rfl (by kernel_rfl) (by kernel_rfl) (by kernel_rfl) (fun _ _ _ h => h) (Or.inl ⟨by rfl, ?_⟩) (by assumption) ?_
  rotate_left
  · intro w hSw
    try dsimp only at hSw
    go_simp
    try with_reducible rfl
  refine wpAnyT_take (i := 3) (oi := _) (v := ?_) rfl rfl (by kernel_rfl) (by kernel_rfl) (by kernel_rfl) (fun _ _ _ h => h) (Or.inl ⟨by rfl, ?_⟩) (by assumption) ?_
  rotate_left
  · intro w hSw
    try dsimp only at hSw
    go_simp
    try with_reducible rfl
  refine wpAnyT_take (i := 4) (oi := _) (v := ?_) rfl rfl (by kernel_rfl) (by kernel_rfl) (by kernel_rfl) (fun _ _ _ h => h) (Or.inl ⟨by rfl, ?_⟩) (by assumption) ?_
  rotate_left
  · intro w hSw
    try dsimp only at hSw
    go_simp
    try with_reducible rfl
  refine wpAnyT_one (i := 5) (o := _) (by kernel_rfl) rfl (fun K hK => ?_)
  with_reducible refine step_store_row ?gZ8 29 (.tmp 2) (.tmp 41) ?oZ8 w.heap.size #[.string ⟨#[]⟩, .slice none 0 0, .slice none 0 0] ?xZ8 ?yZ8 29 #[.string ⟨#[]⟩, .slice none 0 0, .slice none 0 0] hzz ?sZ8 ?dZ8 ?nZ8 ?rZ8
  case gZ8 => rfl
  case oZ8 => rfl
  case xZ8 => kernel_rfl
  case yZ8 => kernel_rfl
  case sZ8 => exact sizeRule
  case dZ8 => kernel_rfl
  case nZ8 => simp [Value.oneCell']
  intro wz hgz hgrz hszz
  have hbz := Lib.hid (hbw7.out.drew.trans ((Below.of_grown hgrz (B := w.heap.size) (by omega) (Below.size hbw7.out.drew))))
  have hcz : wz.cell? ⟨w.heap.size + 1, 1, none⟩ = some (.int .i64 er) := mvd_cell hgrz e1 (by omega)
  refine hK.out _ _ hcz ?_
  clear hK K
  refine wpAnyT_free (i := 6) (o := _) (by kernel_rfl) rfl (by kernel_rfl) (fun K hK => ?_)
  go_simp
  refine hK.out _ _ ?_
  clear hK K
  refine wpAnyT_free (i := 7) (o := _) (by kernel_rfl) rfl (by kernel_rfl) (fun K hK => ?_)
  go_simp
  refine hK.out _ _ ?_
  clear hK K
  refine wpAnyT_done (by kernel_rfl) ?_ _
  clear hHeld hzz
  go_wp2_with fail
  refine bodyPost_ret (results_cellA3 rfl _ _ w.heap.size 29 _ (0, 0) _ rfl hgz.out Try.underlying29 rfl sizeRule _ _ rfl rfl) rfl ?_
  rw [hR.out]
  exact ⟨rfl, hbz.out⟩

set_option maxHeartbeats 4000000 in
set_option maxRecDepth 100000 in
theorem re_Rule_stop (s : ByteArray) (w : World) (hs : s.size ≤ 4194304) {q : Nat} {S3 : Except Int Nat} (he : S3 = .ok q) (hq : q < s.size) (h3 : (((((rAtom (bl s) (rSkip (bl s) 0)).map (·.2)).bind (rBody (bl s))).map (·.2)).map (rSkip (bl s))) = S3) :
    Calls Try.prog 11 #[.string s] w (RrPost w (rRule (bl s))) := by
  have hR : Hid (rRule (bl s) = .error (q : Int)) := Lib.hid (by
    obtain ⟨a, b, -, -, h⟩ := rRule_end (q := q) (by rw [h3, he])
    have hk := pe_in s q hq
    rw [h, if_neg]
    rw [pk_bat, if_pos hq]; have := bat_range s q; omega)
  have hW0 : Hid (Rs ((w.alloc (.cells #[.string ⟨#[]⟩, .slice none 0 0, .slice none 0 0] 29)).alloc (.cells #[.string s, .int .i64 0, .bool false] 82)) (w.heap.size + 1) s (.ok 0)) := Lib.hid ⟨kt_second _ _ _, by decide, Int.natCast_nonneg _, hs⟩
  have hbW0 : Hid (Below w.heap.size w ((w.alloc (.cells #[.string ⟨#[]⟩, .slice none 0 0, .slice none 0 0] 29)).alloc (.cells #[.string s, .int .i64 0, .bool false] 82))) := Lib.hid (((Below.refl _ _).al _).al _)
  have hres0 : Hid (((w.alloc (.cells #[.string ⟨#[]⟩, .slice none 0 0, .slice none 0 0] 29)).alloc (.cells #[.string s, .int .i64 0, .bool false] 82)).heap[w.heap.size]? = some (.cells #[.string ⟨#[]⟩, .slice none 0 0, .slice none 0 0] 29)) := Lib.hid (by
    rw [heap_alloc_old _ _ (by rw [World.size_alloc]; omega)]; exact heap_alloc_new _ _)
  obtain ⟨A, hA⟩ : ∃ A, A = rAtom (bl s) (rSkip (bl s) 0) := ⟨_, rfl⟩
  obtain ⟨B, hB⟩ : ∃ B, B = (A.map (·.2)).bind (rBody (bl s)) := ⟨_, rfl⟩
  have hsk1 := Lib.hid fun wA h => re_skip (w := wA) (b := w.heap.size + 1) (s := s) (S := .ok 0) h
  have hat := fun wA h => re_atom (w := wA) (b := w.heap.size + 1) (s := s) (S := .ok (rSkip (bl s) 0)) h
  have hateq : ∀ S : Except Int Nat, S = .ok (rSkip (bl s) 0) → S.bind (rAtom (bl s)) = A := fun S h => by rw [h, hA]; rfl
  rw [hateq _ rfl] at hat
  have hbo := fun wA h => re_body (w := wA) (b := w.heap.size + 1) (s := s) (S := A.map (·.2)) h
  rw [← hB] at hbo
  have hsk2 := fun wA h => re_skip (w := wA) (b := w.heap.size + 1) (s := s) (S := B.map (·.2)) h
  rw [show (B.map (·.2)).map (rSkip (bl s)) = S3 from by rw [← h3, hB, hA]] at hsk2
  unfold RePost VAtom at hat
  unfold RePost VBody at hbo
  replace hat := Lib.hid hat
  replace hbo := Lib.hid hbo
  replace hsk2 := Lib.hid hsk2
  clear hA hB hateq h3
  subst he
  have hen := fun wA h => re_end (w := wA) (b := w.heap.size + 1) (s := s) (p := (q : Int)) (d := false) h
  rw [show decide ((s.size : Int) ≤ (q : Int)) = false from decide_eq_false (by omega)] at hen
  go_enter Try.func11, Try.ntmps11
  go_wp2_with (first
    | (go_at_call 31
       have hg := hsk1
       refine (hsk1.out _ hW0.out).mono ?_
       rintro e w1 ⟨rfl, hr10, hm10⟩
       have hr1 := Lib.hid (Rs.below hr10 ((Below.refl w1.heap.size w1).al (.cells #[.string ⟨#[]⟩, .slice none 0 0, .slice none 0 0] 29)))
       have hbw1 := Lib.hid (hbW0.out.trans (Below.of_grown hm10 (B := w.heap.size) (by omega) (by simp only [World.size_alloc]; omega)))
       have hr0 : Hid ((w1.alloc (.cells #[.string ⟨#[]⟩, .slice none 0 0, .slice none 0 0] 29)).heap[w.heap.size]? = some (.cells #[.string ⟨#[]⟩, .slice none 0 0, .slice none 0 0] 29)) := Lib.hid (by
         have h1 := keepB hm10 hres0.out (by omega)
         rw [heap_alloc_old _ _ (Array.getElem?_eq_some_iff.1 h1).1]; exact h1)
       have hz1 := Lib.hid (heap_alloc_new w1 (.cells #[.string ⟨#[]⟩, .slice none 0 0, .slice none 0 0] 29))
       have hlt1 : Hid (w.heap.size + 1 < w1.heap.size) := Lib.hid (by have := Rd.lt hr10; omega)
       clear hg hsk1 hr10 hm10)
    | (refine wpList_store_rowA rfl 29 (.tmp 6) (.tmp 12) rfl w1.heap.size #[.string ⟨#[]⟩, .slice none 0 0, .slice none 0 0] rfl rfl 29 #[.string ⟨#[]⟩, .slice none 0 0, .slice none 0 0] hz1.out sizeRule rfl (by simp [Value.oneCell']) ?_))
  intro w2 hg2 hgr2 hsz2
  have hr2 := Lib.hid (hr1.out.other hgr2 (by have := hlt1.out; omega))
  have hbw2 := Lib.hid ((hbw1.out.al (.cells #[.string ⟨#[]⟩, .slice none 0 0, .slice none 0 0] 29)).trans (Below.of_grown hgr2 (B := w.heap.size) (by have := hlt1.out; omega) (by rw [World.size_alloc]; have := hlt1.out; omega)))
  have hr02 := Lib.hid (keepB hgr2 hr0.out (by have := hlt1.out; omega))
  have hsz : Hid (w2.heap.size = w1.heap.size + 1) := Lib.hid hsz2.out
  generalize w1.heap.size = g6 at hg2 hlt1 hsz ⊢
  clear hgr2 hsz2 hz1 hr1 hbw1 hr0
  go_wp2_with (first
    | (go_at_call 32
       refine (hat.out _ hr2.out).mono ?_
       rintro e w3 ⟨v3, x3, rfl, ⟨av, rfl, hv3⟩, hx30, hr30, hm30⟩
       obtain ⟨va, vc, rfl, -⟩ := own_slice hv3
       have hx3 := Lib.hid hx30
       have hg3 := keepB hm30 hg2.out (by have := hlt1.out; omega)
       obtain ⟨⟨c0, c1, c2⟩, f0, f1, f2⟩ := three_new hg3
       have hg4 := Go.heap_setCell_same _ g6 1 _ _ (.slice va x3.2.length vc) (Go.heap_setCell_same w3 g6 0 _ _ (.string x3.1) hg3)
       have hmm : Mvd g6 w3 ((w3.setCell ⟨g6, 0, none⟩ (.string x3.1)).setCell ⟨g6, 1, none⟩ (.slice va x3.2.length vc)) := ((Mvd.refl g6 w3).set _ _).set _ _
       have hr4 := Lib.hid (Rs.other hr30 hmm (by have := hlt1.out; omega))
       have hbw4 := Lib.hid ((hbw2.out.trans (Below.of_grown hm30 (B := w.heap.size) (by omega) hbw2.out.size)).trans (Below.of_grown hmm (B := w.heap.size) (by have := hlt1.out; omega) (Nat.le_trans hbw2.out.size hm30.size)))
       have hr04 := Lib.hid (keepB hmm (keepB hm30 hr02.out (by omega)) (by have := hlt1.out; omega))
       have hown4 := Lib.hid (own_stays hv3 hmm (fun k hk e => by have := (hv3.lt k hk).1; have := hsz.out; injection e with e; omega))
       replace hg4 := Lib.hid hg4
       have hsz4 : Hid (w2.heap.size ≤ ((w3.setCell ⟨g6, 0, none⟩ (.string x3.1)).setCell ⟨g6, 1, none⟩ (.slice va x3.2.length vc)).heap.size) := Lib.hid (Nat.le_trans hm30.size hmm.size)
       clear hx30 hr30 hm30 hmm hv3)
    | (go_at_call 33
       refine (hbo.out _ hr4.out).mono ?_
       rintro e w5 ⟨v5, x5, rfl, ⟨L5, hL5, hv5⟩, hx50, hr50, hm50⟩
       obtain ⟨vb, vd, rfl, -⟩ := own_slice hv5.own
       have hx5 := Lib.hid hx50
       have hg5 := keepB hm50 hg4.out (by have := hlt1.out; omega)
       obtain ⟨⟨c0, c1, c2⟩, f0, f1, f2⟩ := three_new hg5
       have hg6 := Go.heap_setCell_same w5 g6 2 _ _ (.slice vb L5.length vd) hg5
       have hmm : Mvd g6 w5 (w5.setCell ⟨g6, 2, none⟩ (.slice vb L5.length vd)) := (Mvd.refl g6 w5).set _ _
       have hr6 := Lib.hid (Rs.other hr50 hmm (by have := hlt1.out; omega))
       have hbw6 := Lib.hid ((hbw4.out.trans (Below.of_grown hm50 (B := w.heap.size) (by omega) hbw4.out.size)).trans (Below.of_grown hmm (B := w.heap.size) (by have := hlt1.out; omega) (Nat.le_trans hbw4.out.size hm50.size)))
       have hr06 := Lib.hid (keepB hmm (keepB hm50 hr04.out (by omega)) (by have := hlt1.out; omega))
       have hown6 := Lib.hid (own_stays (own_mvd hown4.out hm50 (by have := hlt1.out; have := hsz.out; omega)) hmm (fun k hk e => by have := (hown4.out.lt k hk).1; have := hsz.out; injection e with e; omega))
       have hbod6 : Hid (Bod (w5.setCell ⟨g6, 2, none⟩ (.slice vb L5.length vd)) _ (.slice vb L5.length vd) L5) := Lib.hid (hv5.rule hmm hg5)
       replace hg6 := Lib.hid hg6
       replace hL5 := Lib.hid hL5
       clear hx50 hr50 hm50 hmm hv5 hg5)
    | (go_at_call 31
       refine (hsk2.out _ hr6.out).mono ?_
       rintro e w7 ⟨rfl, hr70, hm70⟩
       have hr7 : Rd w7 (w.heap.size + 1) s _ _ := hr70
       obtain ⟨e0, e1, e2, e3, e4⟩ := hr7.cells
       have hbw7 := Lib.hid (hbw6.out.trans (Below.of_grown hm70 (B := w.heap.size) (by omega) hbw6.out.size))
       have hr07 := Lib.hid (keepB hm70 hr06.out (by omega))
       have hg7 := Lib.hid (keepB hm70 hg6.out (by have := hlt1.out; omega))
       have hown7 := Lib.hid (own_mvd hown6.out hm70 (by have := hlt1.out; have := hsz.out; omega))
       have hbod7 := Lib.hid (hbod6.out.mvd hm70 (by have := hlt1.out; have := hsz.out; have := hsz4.out; omega))
       clear hr70 hm70)
    | (go_at_call 34
       refine (hen _ hr7).mono ?_
       rintro e w8 ⟨rfl, hd8⟩
       have hr8 := hr7.drawn hd8
       obtain ⟨k0, k1, k2, k3, k4⟩ := hr8.cells
       have hbw8 := Lib.hid (hbw7.out.trans ((hd8.below w7.heap.size).mono hbw7.out.size))
       have hr08 := Lib.hid (((hd8.below w7.heap.size).block _ (Array.getElem?_eq_some_iff.1 hr07.out).1).trans hr07.out)
       have hg8 := Lib.hid (((hd8.below w7.heap.size).block _ (Array.getElem?_eq_some_iff.1 hg7.out).1).trans hg7.out)
       have hown8 := Lib.hid (own_below hown7.out (hd8.below _))
       have hbod8 := Lib.hid (hbod7.out.mvd (b := w.heap.size + 1) (Mvd.of (hd8.below _)) (by have := hlt1.out; have := hsz.out; have := hsz4.out; omega))
       clear hd8)
    | (go_at_call 35
       refine (re_stop hr8 _ hr8.le0 hr8.le).mono ?_
       rintro e w9 ⟨rfl, hr9, hm90⟩
       obtain ⟨l0, l1, l2, l3, l4⟩ := hr9.cells
       have hbw9 := Lib.hid (hbw8.out.trans (Below.of_grown hm90 (B := w.heap.size) (by omega) hbw8.out.size))
       have hr09 := Lib.hid (keepB hm90 hr08.out (by omega))
       clear hm90))
  have hzz : w9.drew.heap[w.heap.size]? = some (.cells #[.string ⟨#[]⟩, .slice none 0 0, .slice none 0 0] 29) := hr09.out
  refine wp_region_T (fun w' => w'.cell? ⟨w.heap.size + 1, 1, none⟩ = some (.int .i64 (q : Int))) [0, 1, 2, 3, 4] (by kernel_rfl) l1 (fun hHeld => ?_)
  refine wpAnyT_take (i := 0) (oi := _) (v := ?_) rfl rfl (by kernel_rfl) (by kernel_rfl) (by kernel_rfl) (fun _ _ _ h => h) (Or.inl ⟨by rfl, ?_⟩) (by assumption) ?_
  rotate_left
  · intro w hSw
    try dsimp only at hSw
    go_simp
    try with_reducible rfl
  refine wpAnyT_take (i := 1) (oi := _) (v := ?_) rfl rfl (by kernel_rfl) (by kernel_rfl) (by kernel_rfl) (fun _ _ _ h => h) (Or.inl ⟨by rfl, ?_⟩) (by assumption) ?_
  rotate_left
  · intro w hSw
    try dsimp only at hSw
    go_simp
    try with_reducible rfl
  refine wpAnyT_take (i := 2) (oi := _) (v := ?_) rfl rfl (by kernel_rfl) (by kernel_rfl) (by kernel_rfl) (fun _ _ _ h => h) (Or.inl ⟨by rfl, ?_⟩) (by assumption) ?_
  rotate_left
  · intro w hSw
    try dsimp only at hSw
    go_simp
    try with_reducible rfl
  refine wpAnyT_take (i := 3) (oi := _) (v := ?_) rfl rfl (by kernel_rfl) (by kernel_rfl) (by kernel_rfl) (fun _ _ _ h => h) (Or.inl ⟨by rfl, ?_⟩) (by assumption) ?_
  rotate_left
  · intro w hSw
    try dsimp only at hSw
    go_simp
    try with_reducible rfl
  refine wpAnyT_take (i := 4) (oi := _) (v := ?_) rfl rfl (by kernel_rfl) (by kernel_rfl) (by kernel_rfl) (fun _ _ _ h => h) (Or.inl ⟨by rfl, ?_⟩) (by assumption) ?_
  rotate_left
  · intro w hSw
    try dsimp only at hSw
    go_simp
    try with_reducible rfl
  refine wpAnyT_one (i := 5) (o := _) (by kernel_rfl) rfl (fun K hK => ?_)
  with_reducible refine step_store_row ?gZ8 29 (.tmp 2) (.tmp 41) ?oZ8 w.heap.size #[.string ⟨#[]⟩, .slice none 0 0, .slice none 0 0] ?xZ8 ?yZ8 29 #[.string ⟨#[]⟩, .slice none 0 0, .slice none 0 0] hzz ?sZ8 ?dZ8 ?nZ8 ?rZ8
  case gZ8 => rfl
  case oZ8 => rfl
  case xZ8 => kernel_rfl
  case yZ8 => kernel_rfl
  case sZ8 => exact sizeRule
  case dZ8 => kernel_rfl
  case nZ8 => simp [Value.oneCell']
  intro wz hgz hgrz hszz
  have hbz := Lib.hid (hbw9.out.drew.trans ((Below.of_grown hgrz (B := w.heap.size) (by omega) (Below.size hbw9.out.drew))))
  have hcz : wz.cell? ⟨w.heap.size + 1, 1, none⟩ = some (.int .i64 (q : Int)) := mvd_cell hgrz l1 (by omega)
  refine hK.out _ _ hcz ?_
  clear hK K
  refine wpAnyT_free (i := 6) (o := _) (by kernel_rfl) rfl (by kernel_rfl) (fun K hK => ?_)
  go_simp
  refine hK.out _ _ ?_
  clear hK K
  refine wpAnyT_free (i := 7) (o := _) (by kernel_rfl) rfl (by kernel_rfl) (fun K hK => ?_)
  go_simp
  refine hK.out _ _ ?_
  clear hK K
  refine wpAnyT_done (by kernel_rfl) ?_ _
  clear hHeld hzz
  go_wp2_with fail
  refine bodyPost_ret (results_cellA3 rfl _ _ w.heap.size 29 _ (0, 0) _ rfl hgz.out Try.underlying29 rfl sizeRule _ _ rfl rfl) rfl ?_
  rw [hR.out]
  exact ⟨rfl, hbz.out⟩

set_option maxHeartbeats 4000000 in
set_option maxRecDepth 100000 in
theorem re_Rule_end (s : ByteArray) (w : World) (hs : s.size ≤ 4194304) {q : Nat} {S3 : Except Int Nat} (he : S3 = .ok q) (hq : ¬ q < s.size) (h3 : (((((rAtom (bl s) (rSkip (bl s) 0)).map (·.2)).bind (rBody (bl s))).map (·.2)).map (rSkip (bl s))) = S3) :
    Calls Try.prog 11 #[.string s] w (RrPost w (rRule (bl s))) := by
  have hR : Hid (∃ a b, rAtom (bl s) (rSkip (bl s) 0) = .ok a ∧ ((rAtom (bl s) (rSkip (bl s) 0)).map (·.2)).bind (rBody (bl s)) = .ok b ∧ rRule (bl s) = .ok (⟨a.1.1, a.1.2, b.1⟩, q)) := Lib.hid (by
    obtain ⟨a, b, ha, hb, h⟩ := rRule_end (q := q) (by rw [h3, he])
    exact ⟨a, b, ha, hb, by rw [h, if_pos (pe_out s q hq).2]⟩)
  have hW0 : Hid (Rs ((w.alloc (.cells #[.string ⟨#[]⟩, .slice none 0 0, .slice none 0 0] 29)).alloc (.cells #[.string s, .int .i64 0, .bool false] 82)) (w.heap.size + 1) s (.ok 0)) := Lib.hid ⟨kt_second _ _ _, by decide, Int.natCast_nonneg _, hs⟩
  have hbW0 : Hid (Below w.heap.size w ((w.alloc (.cells #[.string ⟨#[]⟩, .slice none 0 0, .slice none 0 0] 29)).alloc (.cells #[.string s, .int .i64 0, .bool false] 82))) := Lib.hid (((Below.refl _ _).al _).al _)
  have hres0 : Hid (((w.alloc (.cells #[.string ⟨#[]⟩, .slice none 0 0, .slice none 0 0] 29)).alloc (.cells #[.string s, .int .i64 0, .bool false] 82)).heap[w.heap.size]? = some (.cells #[.string ⟨#[]⟩, .slice none 0 0, .slice none 0 0] 29)) := Lib.hid (by
    rw [heap_alloc_old _ _ (by rw [World.size_alloc]; omega)]; exact heap_alloc_new _ _)
  obtain ⟨A, hA⟩ : ∃ A, A = rAtom (bl s) (rSkip (bl s) 0) := ⟨_, rfl⟩
  obtain ⟨B, hB⟩ : ∃ B, B = (A.map (·.2)).bind (rBody (bl s)) := ⟨_, rfl⟩
  have hsk1 := Lib.hid fun wA h => re_skip (w := wA) (b := w.heap.size + 1) (s := s) (S := .ok 0) h
  have hat := fun wA h => re_atom (w := wA) (b := w.heap.size + 1) (s := s) (S := .ok (rSkip (bl s) 0)) h
  have hateq : ∀ S : Except Int Nat, S = .ok (rSkip (bl s) 0) → S.bind (rAtom (bl s)) = A := fun S h => by rw [h, hA]; rfl
  rw [hateq _ rfl] at hat
  have hbo := fun wA h => re_body (w := wA) (b := w.heap.size + 1) (s := s) (S := A.map (·.2)) h
  rw [← hB] at hbo
  have hsk2 := fun wA h => re_skip (w := wA) (b := w.heap.size + 1) (s := s) (S := B.map (·.2)) h
  rw [show (B.map (·.2)).map (rSkip (bl s)) = S3 from by rw [← h3, hB, hA]] at hsk2
  unfold RePost VAtom at hat
  unfold RePost VBody at hbo
  replace hat := Lib.hid hat
  replace hbo := Lib.hid hbo
  replace hsk2 := Lib.hid hsk2
  rw [← hA] at hR
  rw [← hB] at hR
  clear hA hB hateq h3
  subst he
  have hen := fun wA h => re_end (w := wA) (b := w.heap.size + 1) (s := s) (p := (q : Int)) (d := false) h
  rw [show decide ((s.size : Int) ≤ (q : Int)) = true from decide_eq_true (by omega)] at hen
  go_enter Try.func11, Try.ntmps11
  go_wp2_with (first
    | (go_at_call 31
       have hg := hsk1
       refine (hsk1.out _ hW0.out).mono ?_
       rintro e w1 ⟨rfl, hr10, hm10⟩
       have hr1 := Lib.hid (Rs.below hr10 ((Below.refl w1.heap.size w1).al (.cells #[.string ⟨#[]⟩, .slice none 0 0, .slice none 0 0] 29)))
       have hbw1 := Lib.hid (hbW0.out.trans (Below.of_grown hm10 (B := w.heap.size) (by omega) (by simp only [World.size_alloc]; omega)))
       have hr0 : Hid ((w1.alloc (.cells #[.string ⟨#[]⟩, .slice none 0 0, .slice none 0 0] 29)).heap[w.heap.size]? = some (.cells #[.string ⟨#[]⟩, .slice none 0 0, .slice none 0 0] 29)) := Lib.hid (by
         have h1 := keepB hm10 hres0.out (by omega)
         rw [heap_alloc_old _ _ (Array.getElem?_eq_some_iff.1 h1).1]; exact h1)
       have hz1 := Lib.hid (heap_alloc_new w1 (.cells #[.string ⟨#[]⟩, .slice none 0 0, .slice none 0 0] 29))
       have hlt1 : Hid (w.heap.size + 1 < w1.heap.size) := Lib.hid (by have := Rd.lt hr10; omega)
       clear hg hsk1 hr10 hm10)
    | (refine wpList_store_rowA rfl 29 (.tmp 6) (.tmp 12) rfl w1.heap.size #[.string ⟨#[]⟩, .slice none 0 0, .slice none 0 0] rfl rfl 29 #[.string ⟨#[]⟩, .slice none 0 0, .slice none 0 0] hz1.out sizeRule rfl (by simp [Value.oneCell']) ?_))
  intro w2 hg2 hgr2 hsz2
  have hr2 := Lib.hid (hr1.out.other hgr2 (by have := hlt1.out; omega))
  have hbw2 := Lib.hid ((hbw1.out.al (.cells #[.string ⟨#[]⟩, .slice none 0 0, .slice none 0 0] 29)).trans (Below.of_grown hgr2 (B := w.heap.size) (by have := hlt1.out; omega) (by rw [World.size_alloc]; have := hlt1.out; omega)))
  have hr02 := Lib.hid (keepB hgr2 hr0.out (by have := hlt1.out; omega))
  have hsz : Hid (w2.heap.size = w1.heap.size + 1) := Lib.hid hsz2.out
  generalize w1.heap.size = g6 at hg2 hlt1 hsz ⊢
  clear hgr2 hsz2 hz1 hr1 hbw1 hr0
  go_wp2_with (first
    | (go_at_call 32
       refine (hat.out _ hr2.out).mono ?_
       rintro e w3 ⟨v3, x3, rfl, ⟨av, rfl, hv3⟩, hx30, hr30, hm30⟩
       obtain ⟨va, vc, rfl, -⟩ := own_slice hv3
       have hx3 := Lib.hid hx30
       have hg3 := keepB hm30 hg2.out (by have := hlt1.out; omega)
       obtain ⟨⟨c0, c1, c2⟩, f0, f1, f2⟩ := three_new hg3
       have hg4 := Go.heap_setCell_same _ g6 1 _ _ (.slice va x3.2.length vc) (Go.heap_setCell_same w3 g6 0 _ _ (.string x3.1) hg3)
       have hmm : Mvd g6 w3 ((w3.setCell ⟨g6, 0, none⟩ (.string x3.1)).setCell ⟨g6, 1, none⟩ (.slice va x3.2.length vc)) := ((Mvd.refl g6 w3).set _ _).set _ _
       have hr4 := Lib.hid (Rs.other hr30 hmm (by have := hlt1.out; omega))
       have hbw4 := Lib.hid ((hbw2.out.trans (Below.of_grown hm30 (B := w.heap.size) (by omega) hbw2.out.size)).trans (Below.of_grown hmm (B := w.heap.size) (by have := hlt1.out; omega) (Nat.le_trans hbw2.out.size hm30.size)))
       have hr04 := Lib.hid (keepB hmm (keepB hm30 hr02.out (by omega)) (by have := hlt1.out; omega))
       have hown4 := Lib.hid (own_stays hv3 hmm (fun k hk e => by have := (hv3.lt k hk).1; have := hsz.out; injection e with e; omega))
       replace hg4 := Lib.hid hg4
       have hsz4 : Hid (w2.heap.size ≤ ((w3.setCell ⟨g6, 0, none⟩ (.string x3.1)).setCell ⟨g6, 1, none⟩ (.slice va x3.2.length vc)).heap.size) := Lib.hid (Nat.le_trans hm30.size hmm.size)
       clear hx30 hr30 hm30 hmm hv3)
    | (go_at_call 33
       refine (hbo.out _ hr4.out).mono ?_
       rintro e w5 ⟨v5, x5, rfl, ⟨L5, hL5, hv5⟩, hx50, hr50, hm50⟩
       obtain ⟨vb, vd, rfl, -⟩ := own_slice hv5.own
       have hx5 := Lib.hid hx50
       have hg5 := keepB hm50 hg4.out (by have := hlt1.out; omega)
       obtain ⟨⟨c0, c1, c2⟩, f0, f1, f2⟩ := three_new hg5
       have hg6 := Go.heap_setCell_same w5 g6 2 _ _ (.slice vb L5.length vd) hg5
       have hmm : Mvd g6 w5 (w5.setCell ⟨g6, 2, none⟩ (.slice vb L5.length vd)) := (Mvd.refl g6 w5).set _ _
       have hr6 := Lib.hid (Rs.other hr50 hmm (by have := hlt1.out; omega))
       have hbw6 := Lib.hid ((hbw4.out.trans (Below.of_grown hm50 (B := w.heap.size) (by omega) hbw4.out.size)).trans (Below.of_grown hmm (B := w.heap.size) (by have := hlt1.out; omega) (Nat.le_trans hbw4.out.size hm50.size)))
       have hr06 := Lib.hid (keepB hmm (keepB hm50 hr04.out (by omega)) (by have := hlt1.out; omega))
       have hown6 := Lib.hid (own_stays (own_mvd hown4.out hm50 (by have := hlt1.out; have := hsz.out; omega)) hmm (fun k hk e => by have := (hown4.out.lt k hk).1; have := hsz.out; injection e with e; omega))
       have hbod6 : Hid (Bod (w5.setCell ⟨g6, 2, none⟩ (.slice vb L5.length vd)) _ (.slice vb L5.length vd) L5) := Lib.hid (hv5.rule hmm hg5)
       replace hg6 := Lib.hid hg6
       replace hL5 := Lib.hid hL5
       clear hx50 hr50 hm50 hmm hv5 hg5)
    | (go_at_call 31
       refine (hsk2.out _ hr6.out).mono ?_
       rintro e w7 ⟨rfl, hr70, hm70⟩
       have hr7 : Rd w7 (w.heap.size + 1) s _ _ := hr70
       obtain ⟨e0, e1, e2, e3, e4⟩ := hr7.cells
       have hbw7 := Lib.hid (hbw6.out.trans (Below.of_grown hm70 (B := w.heap.size) (by omega) hbw6.out.size))
       have hr07 := Lib.hid (keepB hm70 hr06.out (by omega))
       have hg7 := Lib.hid (keepB hm70 hg6.out (by have := hlt1.out; omega))
       have hown7 := Lib.hid (own_mvd hown6.out hm70 (by have := hlt1.out; have := hsz.out; omega))
       have hbod7 := Lib.hid (hbod6.out.mvd hm70 (by have := hlt1.out; have := hsz.out; have := hsz4.out; omega))
       clear hr70 hm70)
    | (go_at_call 34
       refine (hen _ hr7).mono ?_
       rintro e w8 ⟨rfl, hd8⟩
       have hr8 := hr7.drawn hd8
       obtain ⟨k0, k1, k2, k3, k4⟩ := hr8.cells
       have hbw8 := Lib.hid (hbw7.out.trans ((hd8.below w7.heap.size).mono hbw7.out.size))
       have hr08 := Lib.hid (((hd8.below w7.heap.size).block _ (Array.getElem?_eq_some_iff.1 hr07.out).1).trans hr07.out)
       have hg8 := Lib.hid (((hd8.below w7.heap.size).block _ (Array.getElem?_eq_some_iff.1 hg7.out).1).trans hg7.out)
       have hown8 := Lib.hid (own_below hown7.out (hd8.below _))
       have hbod8 := Lib.hid (hbod7.out.mvd (b := w.heap.size + 1) (Mvd.of (hd8.below _)) (by have := hlt1.out; have := hsz.out; have := hsz4.out; omega))
       obtain ⟨⟨m0, m1, m2⟩, -⟩ := three_new hg8.out
       clear hd8)
    | (refine wpList_store_rowA rfl 29 (.tmp 2) (.tmp 46) rfl w.heap.size #[.string x3.1, .slice va x3.2.length vc, .slice vb L5.length vd] rfl rfl 29 #[.string ⟨#[]⟩, .slice none 0 0, .slice none 0 0] hr08.out sizeRule rfl (by simp [Value.oneCell']) ?_))
  intro w9 hg9 hgr9 hsz9
  have hbw9 := Lib.hid (hbw8.out.trans (Below.of_grown hgr9 (B := w.heap.size) (by omega) hbw8.out.size))
  have hown9 := Lib.hid (own_stays hown8.out hgr9 (fun k hk e => by have := (hown8.out.lt k hk).1; have := hlt1.out; have := hsz.out; injection e with e; omega))
  have hbod9 := Lib.hid (hbod8.out.mvd (b := w.heap.size) hgr9 (by have := hlt1.out; have := hsz.out; have := hsz4.out; omega))
  clear hgr9 hsz9
  go_wp2_with fail
  refine bodyPost_ret (results_cellA3 rfl _ _ w.heap.size 29 _ (0, 0) _ rfl hg9.out Try.underlying29 rfl sizeRule _ _ rfl rfl) rfl ?_
  obtain ⟨a, b, h1, h2, h3⟩ := hR.out
  have e3 := hx3.out _ h1
  have e5 := hx5.out _ h2
  rw [h3]
  refine ⟨.slice va x3.2.length vc, .slice vb L5.length vd, (by rw [e3]; rfl), hbw9.out, ?_, L5, ?_, ?_⟩
  · have := own_baseP hown9.out (show w.heap.size ≤ w2.heap.size by have := hlt1.out; have := hsz.out; omega)
    rw [e3] at this ⊢; exact this
  · rw [hL5.out, e5]
  · exact ⟨own_baseP hbod9.out.own (by have := hlt1.out; have := hsz.out; have := hsz4.out; omega), fun y hy => own_baseP (hbod9.out.inner y hy) (by have := hlt1.out; have := hsz.out; have := hsz4.out; omega)⟩
theorem re_Rule (s : ByteArray) (w : World) (hs : s.size ≤ 4194304) :
    Calls Try.prog 11 #[.string s] w (RrPost w (rRule (bl s))) := by
  cases h3 : (((((rAtom (bl s) (rSkip (bl s) 0)).map (·.2)).bind (rBody (bl s))).map (·.2)).map (rSkip (bl s))) with
  | error er => exact re_Rule_bad s w hs rfl h3
  | ok q =>
    by_cases hq : q < s.size
    · exact re_Rule_stop s w hs rfl hq h3
    · exact re_Rule_end s w hs rfl hq h3
end Go.Proofs.Ytmjincocmhadeaa
