/- Parse: ParseRules. (gen_peq.py) -/
import Derived.Test.YtmjincocmhadeaaPeP
import Derived.Test.YtmjincocmhadeaaPeO
import Derived.Test.YtmjincocmhadeaaPdA
namespace Go.Proofs.Ytmjincocmhadeaa
open Go.RowKit Lx
/-- a rule that may be written over: all its rows lie in lo .. hi -/
def RA (w : World) (lo hi : Nat) (x1 y1 : Option Addr) (c1 d1 : Nat) (r : PRule) : Prop :=
  w.ownsRow lo 64 2 (.slice x1 r.a.length c1) r.a.length (flatTT r.a) ∧ ∃ L : List (PLit × Value), L.map (·.1) = r.b ∧ Bod w lo (.slice y1 r.b.length d1) L ∧ Sep (.slice x1 r.a.length c1) L ∧
    (∀ k, (Value.slice x1 r.a.length c1).ownBlock = some k → k < hi) ∧ (∀ k, (Value.slice y1 r.b.length d1).ownBlock = some k → k < hi) ∧ ∀ y ∈ L, ∀ k, y.2.ownBlock = some k → k < hi
/-- a rule of small lists -/
def Small (r : PRule) : Prop := r.a.length ≤ 4194304 ∧ r.b.length ≤ 4194304 ∧ ∀ x ∈ r.b, x.a.length ≤ 4194304
theorem small_of {r : PRule} (h : okRule r) : Small r := by
  obtain ⟨⟨_, h1, _⟩, h2, h3⟩ := h
  refine ⟨by omega, by omega, fun x hx => ?_⟩
  rcases h3 x hx with ⟨_, _, _, _, e⟩ | ⟨_, ⟨_, h4, _⟩, _⟩
  · rw [e]; exact Nat.zero_le _
  · omega
theorem RA.of {w : World} {lo : Nat} {av bv : Value} {r : PRule} (h : RuleIn w lo av bv r) : ∃ x1 c1 y1 d1, av = .slice x1 r.a.length c1 ∧ bv = .slice y1 r.b.length d1 ∧ RA w lo w.heap.size x1 y1 c1 d1 r := by
  obtain ⟨x1, c1, y1, d1, rfl, rfl, -⟩ := (RuleV.of h).reads
  obtain ⟨h1, L, h2, h3, h4⟩ := h
  exact ⟨x1, c1, y1, d1, rfl, rfl, h1, L, h2, h3, h4, fun k hk => (h1.lt k hk).2, fun k hk => (h3.own.lt k hk).2, fun y hy k hk => ((h3.inner y hy).lt k hk).2⟩
theorem RA.below {w w' : World} {lo hi : Nat} {x1 y1 : Option Addr} {c1 d1 : Nat} {r : PRule} (h : RA w lo hi x1 y1 c1 d1 r) (hb : Below w.heap.size w w') : RA w' lo hi x1 y1 c1 d1 r := by
  obtain ⟨h1, L, h2, h3, h4⟩ := h
  exact ⟨own_below h1 hb, L, h2, ⟨own_below h3.own hb, fun y hy => own_below (h3.inner y hy) hb⟩, h4⟩
theorem RA.v {w : World} {lo hi : Nat} {x1 y1 : Option Addr} {c1 d1 : Nat} {r : PRule} (h : RA w lo hi x1 y1 c1 d1 r) : RuleV w lo (.slice x1 r.a.length c1) (.slice y1 r.b.length d1) r := by
  obtain ⟨h1, L, h2, h3, h4⟩ := h
  exact ⟨h1, L, h2, h3⟩
theorem RuleV.rt {w : World} {lo : Nat} {x1 y1 : Option Addr} {c1 d1 : Nat} {r : PRule} (h : RuleV w lo (.slice x1 r.a.length c1) (.slice y1 r.b.length d1) r) : RT w x1 r.a ∧ RL w y1 r.b := by
  obtain ⟨h1, L, h2, h3⟩ := h
  refine ⟨own_RT h1, ?_⟩
  have := (bod_RL h3).1
  rw [h2] at this; exact this
theorem RuleV.fr {w w' : World} {lo hi lo2 : Nat} {x1 y1 : Option Addr} {c1 d1 : Nat} {r : PRule} (h : RuleV w lo2 (.slice x1 r.a.length c1) (.slice y1 r.b.length d1) r) (hf : Fr lo hi w w') (hle : hi ≤ lo2) : RuleV w' lo2 (.slice x1 r.a.length c1) (.slice y1 r.b.length d1) r := by
  obtain ⟨h1, L, h2, h3⟩ := h
  exact ⟨hf.own h1 hle, L, h2, hf.bod h3 hle⟩
theorem RA.spoil {w : World} {lo hi : Nat} {x1 y1 : Option Addr} {c1 d1 : Nat} {r : PRule} (h : RA w lo hi x1 y1 c1 d1 r) (hs : Small r) (hlo : lo ≤ w.heap.size) (hhi : hi ≤ w.heap.size) :
    Calls Try.prog 14 #[.agg #[.string r.p, .slice x1 r.a.length c1, .slice y1 r.b.length d1]] w fun e w' => e = .returned (.tuple #[]) ∧ Fr lo hi w w' := by
  obtain ⟨h1, L, h2, h3, h4, h5, h6, h7⟩ := h
  obtain ⟨hs1, hs2, hs3⟩ := hs
  have hn : r.b.length = L.length := by rw [← h2, List.length_map]
  rw [hn] at h3 h6 hs2 ⊢
  exact sp_rule w lo hi r.p x1 r.a.length c1 y1 d1 L _ h1 h3 h4 h5 h6 h7 hlo hhi hs1 hs2 fun y hy => hs3 y.1 (by rw [← h2]; exact List.mem_map_of_mem hy)
/-- what the two readers say of a text, as one -/
def Say (s : ByteArray) (r : PRule) (at_ er : Int) (ok : Bool) : Prop :=
  (∀ w, Calls Try.prog 10 #[.string s] w fun e w' => ∃ x1 c1 y1 d1, e = .returned (.tuple #[.agg #[.string r.p, .slice x1 r.a.length c1, .slice y1 r.b.length d1], .int .i64 at_, .int .i64 er]) ∧ Below w.heap.size w w' ∧ RA w' w.heap.size w'.heap.size x1 y1 c1 d1 r) ∧
  (∀ w, Calls Try.prog 11 #[.string s] w fun e w' => ∃ x1 c1 y1 d1, e = .returned (.tuple #[.agg #[.string r.p, .slice x1 r.a.length c1, .slice y1 r.b.length d1], .int .i64 at_, .bool ok]) ∧ Below w.heap.size w w' ∧ RuleV w' w.heap.size (.slice x1 r.a.length c1) (.slice y1 r.b.length d1) r) ∧ Small r
theorem none_in (w : World) (lo : Nat) : RuleIn w lo (.slice none 0 0) (.slice none 0 0) ⟨⟨#[]⟩, [], []⟩ :=
  ⟨⟨rfl, .inl ⟨rfl, rfl⟩⟩, [], rfl, ⟨⟨rfl, .inl ⟨rfl, rfl⟩⟩, (fun y hy => by cases hy)⟩, ⟨(fun y hy => by cases hy), List.Pairwise.nil⟩⟩
theorem rule_ok {s : ByteArray} {r : PRule} (h : psRuleText s = .ok r) : okRule r := by
  unfold psRuleText at h
  unfold psRuleTop at h
  cases ht : (psOf s).take 0 [1] with
  | error e => rw [ht] at h; cases h
  | ok x =>
    obtain ⟨t, j⟩ := x
    rw [ht] at h
    dsimp only at h
    obtain ⟨_, hlt, rfl, hk⟩ := take_ok (by decide) ht
    cases ha : psRule (psOf s) j (mk ((psOf s).tok 0).text) with
    | error e => rw [ha] at h; cases h
    | ok y =>
      obtain ⟨y, k⟩ := y
      rw [ha] at h
      dsimp only at h
      split at h
      · cases h
      · injection h with h
        subst h
        exact (rule_form (tokOk s) ha (by rw [bl_mk]; exact ((tokOk s 0 hlt).name (by simpa using hk)).1)).1
theorem say_of (s : ByteArray) (hs : s.size ≤ 4194304) : ∃ r at_, Say s r at_ 0 true ∨ Say s r at_ 11 false := by
  have he := eq_rule s
  have h1 := fun w => pa_Rule s w hs
  have h2 := fun w => re_Rule s w hs
  cases hA : psRuleText s with
  | ok r =>
    have hok := small_of (rule_ok hA)
    rw [hA] at he h1
    cases hB : rRule (bl s) with
    | error y => rw [hB] at he; exact he.elim
    | ok z =>
      rw [hB] at he h2
      have he' : r = z.1 := he
      subst he'
      refine ⟨z.1, 0, .inl ⟨fun w => (h1 w).mono ?_, fun w => (h2 w).mono ?_, hok⟩⟩
      · rintro e w' ⟨av, bv, rfl, hb, hr⟩
        obtain ⟨x1, c1, y1, d1, rfl, rfl, hra⟩ := RA.of hr
        exact ⟨x1, c1, y1, d1, rfl, hb, hra⟩
      · rintro e w' ⟨av, bv, rfl, hb, hr⟩
        obtain ⟨x1, c1, y1, d1, rfl, rfl, -⟩ := hr.reads
        exact ⟨x1, c1, y1, d1, rfl, hb, hr⟩
  | error x =>
    rw [hA] at he h1
    cases hB : rRule (bl s) with
    | ok z => rw [hB] at he; exact he.elim
    | error y =>
      rw [hB] at he h2
      have he' : x = y := he
      subst he'
      refine ⟨⟨⟨#[]⟩, [], []⟩, x, .inr ⟨fun w => (h1 w).mono ?_, fun w => (h2 w).mono ?_, ⟨Nat.zero_le _, Nat.zero_le _, fun x hx => by cases hx⟩⟩⟩
      · rintro e w' ⟨rfl, hb⟩
        obtain ⟨x1, c1, y1, d1, e1, e2, hra⟩ := RA.of (none_in w' w.heap.size)
        injection e1 with a1 _ a3
        injection e2 with b1 _ b3
        subst a1 a3 b1 b3
        exact ⟨none, 0, none, 0, rfl, hb, hra⟩
      · rintro e w' ⟨rfl, hb⟩
        have hr := RuleV.of (none_in w' w.heap.size)
        exact ⟨none, 0, none, 0, rfl, hb, hr⟩
/-- the second rule and the document's -/
structure P2 (w : World) (hi g2 g3 : Nat) (r : PRule) (x2 y2 : Option Addr) (c2 d2 : Nat) (x3 y3 : Option Addr) (c3 d3 : Nat) : Prop where
  le2 : hi ≤ g2
  le3 : hi ≤ g3
  b2 : w.heap[g2]? = some (.cells #[.string r.p, .slice x2 r.a.length c2, .slice y2 r.b.length d2] 29)
  b3 : w.heap[g3]? = some (.cells #[.string r.p, .slice x3 r.a.length c3, .slice y3 r.b.length d3] 29)
  v2 : RuleV w hi (.slice x2 r.a.length c2) (.slice y2 r.b.length d2) r
  v3 : RuleV w hi (.slice x3 r.a.length c3) (.slice y3 r.b.length d3) r
theorem P2.below {w w' : World} {hi g2 g3 : Nat} {r : PRule} {x2 y2 : Option Addr} {c2 d2 : Nat} {x3 y3 : Option Addr} {c3 d3 : Nat} (h : P2 w hi g2 g3 r x2 y2 c2 d2 x3 y3 c3 d3) (hb : Below w.heap.size w w') : P2 w' hi g2 g3 r x2 y2 c2 d2 x3 y3 c3 d3 :=
  ⟨h.le2, h.le3, (hb.block _ (Array.getElem?_eq_some_iff.1 h.b2).1).trans h.b2, (hb.block _ (Array.getElem?_eq_some_iff.1 h.b3).1).trans h.b3, h.v2.below hb, h.v3.below hb⟩
theorem P2.fr {w w' : World} {lo hi g2 g3 : Nat} {r : PRule} {x2 y2 : Option Addr} {c2 d2 : Nat} {x3 y3 : Option Addr} {c3 d3 : Nat} (h : P2 w hi g2 g3 r x2 y2 c2 d2 x3 y3 c3 d3) (hb : Fr lo hi w w') : P2 w' hi g2 g3 r x2 y2 c2 d2 x3 y3 c3 d3 :=
  ⟨h.le2, h.le3, (hb.block _ (Array.getElem?_eq_some_iff.1 h.b2).1 (.inr h.le2)).trans h.b2, (hb.block _ (Array.getElem?_eq_some_iff.1 h.b3).1 (.inr h.le3)).trans h.b3, h.v2.fr hb (Nat.le_refl _), h.v3.fr hb (Nat.le_refl _)⟩
/-- and the first, whole yet -/
structure P3 (w : World) (lo hi g1 g2 g3 : Nat) (r : PRule) (x1 y1 : Option Addr) (c1 d1 : Nat) (x2 y2 : Option Addr) (c2 d2 : Nat) (x3 y3 : Option Addr) (c3 d3 : Nat) : Prop where
  b1 : w.heap[g1]? = some (.cells #[.string r.p, .slice x1 r.a.length c1, .slice y1 r.b.length d1] 29)
  v1 : RA w lo hi x1 y1 c1 d1 r
  p : P2 w hi g2 g3 r x2 y2 c2 d2 x3 y3 c3 d3
theorem P3.below {w w' : World} {lo hi g1 g2 g3 : Nat} {r : PRule} {x1 y1 : Option Addr} {c1 d1 : Nat} {x2 y2 : Option Addr} {c2 d2 : Nat} {x3 y3 : Option Addr} {c3 d3 : Nat} (h : P3 w lo hi g1 g2 g3 r x1 y1 c1 d1 x2 y2 c2 d2 x3 y3 c3 d3) (hb : Below w.heap.size w w') : P3 w' lo hi g1 g2 g3 r x1 y1 c1 d1 x2 y2 c2 d2 x3 y3 c3 d3 :=
  ⟨(hb.block _ (Array.getElem?_eq_some_iff.1 h.b1).1).trans h.b1, h.v1.below hb, h.p.below hb⟩
set_option maxHeartbeats 4000000
set_option maxRecDepth 100000
theorem three_rules {w w1 w2 w3 : World} {r : PRule} {x1 y1 : Option Addr} {c1 d1 : Nat} {x2 y2 : Option Addr} {c2 d2 : Nat} {x3 y3 : Option Addr} {c3 d3 : Nat} (h1 : RA w1 w.heap.size w1.heap.size x1 y1 c1 d1 r)
    (hb2 : Below (w1.alloc (.cells #[.string r.p, .slice x1 r.a.length c1, .slice y1 r.b.length d1] 29)).heap.size (w1.alloc (.cells #[.string r.p, .slice x1 r.a.length c1, .slice y1 r.b.length d1] 29)) w2) (h2 : RA w2 (w1.alloc (.cells #[.string r.p, .slice x1 r.a.length c1, .slice y1 r.b.length d1] 29)).heap.size w2.heap.size x2 y2 c2 d2 r)
    (hb3 : Below (w2.alloc (.cells #[.string r.p, .slice x2 r.a.length c2, .slice y2 r.b.length d2] 29)).heap.size (w2.alloc (.cells #[.string r.p, .slice x2 r.a.length c2, .slice y2 r.b.length d2] 29)) w3) (h3 : RuleV w3 (w2.alloc (.cells #[.string r.p, .slice x2 r.a.length c2, .slice y2 r.b.length d2] 29)).heap.size (.slice x3 r.a.length c3) (.slice y3 r.b.length d3) r) : P3 (w3.alloc (.cells #[.string r.p, .slice x3 r.a.length c3, .slice y3 r.b.length d3] 29)) w.heap.size w1.heap.size w1.heap.size w2.heap.size w3.heap.size r x1 y1 c1 d1 x2 y2 c2 d2 x3 y3 c3 d3 := by
  have k1 : Below w1.heap.size w1 (w1.alloc (.cells #[.string r.p, .slice x1 r.a.length c1, .slice y1 r.b.length d1] 29)) := (Below.refl _ _).al _
  have k2 : Below w2.heap.size w2 (w2.alloc (.cells #[.string r.p, .slice x2 r.a.length c2, .slice y2 r.b.length d2] 29)) := (Below.refl _ _).al _
  have k3 : Below w3.heap.size w3 (w3.alloc (.cells #[.string r.p, .slice x3 r.a.length c3, .slice y3 r.b.length d3] 29)) := (Below.refl _ _).al _
  have e1 : Below w2.heap.size w2 (w3.alloc (.cells #[.string r.p, .slice x3 r.a.length c3, .slice y3 r.b.length d3] 29)) := k2.trans ((hb3.trans (k3.mono hb3.size)).mono k2.size)
  have e2 : Below (w1.alloc (.cells #[.string r.p, .slice x1 r.a.length c1, .slice y1 r.b.length d1] 29)).heap.size (w1.alloc (.cells #[.string r.p, .slice x1 r.a.length c1, .slice y1 r.b.length d1] 29)) (w3.alloc (.cells #[.string r.p, .slice x3 r.a.length c3, .slice y3 r.b.length d3] 29)) := hb2.trans (e1.mono hb2.size)
  have e3 : Below w1.heap.size w1 (w3.alloc (.cells #[.string r.p, .slice x3 r.a.length c3, .slice y3 r.b.length d3] 29)) := k1.trans (e2.mono k1.size)
  have s1 : w1.heap.size ≤ (w1.alloc (.cells #[.string r.p, .slice x1 r.a.length c1, .slice y1 r.b.length d1] 29)).heap.size := k1.size
  have s2 := hb2.size
  have s3 := k2.size
  have s4 := hb3.size
  have n1 : (w1.alloc (.cells #[.string r.p, .slice x1 r.a.length c1, .slice y1 r.b.length d1] 29)).heap[w1.heap.size]? = some (.cells #[.string r.p, .slice x1 r.a.length c1, .slice y1 r.b.length d1] 29) := heap_alloc_new _ _
  have n2 : (w2.alloc (.cells #[.string r.p, .slice x2 r.a.length c2, .slice y2 r.b.length d2] 29)).heap[w2.heap.size]? = some (.cells #[.string r.p, .slice x2 r.a.length c2, .slice y2 r.b.length d2] 29) := heap_alloc_new _ _
  have n3 : (w3.alloc (.cells #[.string r.p, .slice x3 r.a.length c3, .slice y3 r.b.length d3] 29)).heap[w3.heap.size]? = some (.cells #[.string r.p, .slice x3 r.a.length c3, .slice y3 r.b.length d3] 29) := heap_alloc_new _ _
  exact ⟨(e2.block _ (Array.getElem?_eq_some_iff.1 n1).1).trans n1, h1.below e3, by omega, by omega, ((hb3.trans (k3.mono hb3.size)).block _ (Array.getElem?_eq_some_iff.1 n2).1).trans n2, n3, (h2.v.base s1).below e1, (h3.base (by omega)).below k3⟩
theorem rules_true (s : ByteArray) (w : World) (hs : s.size ≤ 20000) (r : PRule) (at_ : Int) (h : Say s r at_ 0 true) :
    Calls Try.prog 3 #[.string s] w fun e w' => e = .returned (.bool true) ∧ Below w.heap.size w w' := by
  obtain ⟨hp, hr, hsm⟩ := h
  have hp2 := Lib.hid hp
  replace hp := Lib.hid hp
  replace hr := Lib.hid hr
  replace hsm := Lib.hid hsm
  have hwk := Lib.hid w8_works
  have hnum := Lib.hid w8_num
  have hli : ¬ ((20000 : Int) < (s.size : Int)) := by omega
  go_enter Try.func3, Try.ntmps3
  go_wp2_with (first
    | (go_at_call 8
       refine (w8_long _ _).mono ?_
       rintro e wl ⟨rfl, rfl⟩)
    | (go_at_call 10
       have hg := hp
       refine (hp.out _).mono ?_
       rintro e w1 ⟨x1, c1, y1, d1, rfl, hb1, h1⟩
       replace hb1 := Lib.hid hb1
       replace h1 := Lib.hid h1
       clear hg hp)
    | (go_at_call 10
       have hg := hp2
       refine (hp2.out _).mono ?_
       rintro e w2 ⟨x2, c2, y2, d2, rfl, hb2, h2⟩
       have hbB := Lib.hid ((hb1.out.al (.cells #[.string r.p, .slice x1 r.a.length c1, .slice y1 r.b.length d1] 29)).trans (hb2.mono (hb1.out.al (.cells #[.string r.p, .slice x1 r.a.length c1, .slice y1 r.b.length d1] 29)).size))
       replace hb2 := Lib.hid hb2
       replace h2 := Lib.hid h2
       clear hg hp2)
    | (go_at_call 11
       refine (hr.out _).mono ?_
       rintro e w3 ⟨x3, c3, y3, d3, rfl, hb3, h3⟩
       have hbC := Lib.hid ((hbB.out.al (.cells #[.string r.p, .slice x2 r.a.length c2, .slice y2 r.b.length d2] 29)).trans (hb3.mono (hbB.out.al (.cells #[.string r.p, .slice x2 r.a.length c2, .slice y2 r.b.length d2] 29)).size))
       have hA : Hid (P3 (w3.alloc (.cells #[.string r.p, .slice x3 r.a.length c3, .slice y3 r.b.length d3] 29)) w.heap.size w1.heap.size w1.heap.size w2.heap.size w3.heap.size r x1 y1 c1 d1 x2 y2 c2 d2 x3 y3 c3 d3) := Lib.hid (three_rules h1.out hb2.out h2.out hb3 h3)
       have hbD := Lib.hid (hbC.out.al (.cells #[.string r.p, .slice x3 r.a.length c3, .slice y3 r.b.length d3] 29))
       have q10 := (cell_of_row _ _ 0 _ _ _ hA.out.b1).trans rfl
       have q11 := (cell_of_row _ _ 1 _ _ _ hA.out.b1).trans rfl
       have q12 := (cell_of_row _ _ 2 _ _ _ hA.out.b1).trans rfl
       have q20 := (cell_of_row _ _ 0 _ _ _ hA.out.p.b2).trans rfl
       have q21 := (cell_of_row _ _ 1 _ _ _ hA.out.p.b2).trans rfl
       have q22 := (cell_of_row _ _ 2 _ _ _ hA.out.p.b2).trans rfl
       have q30 := (cell_of_row _ _ 0 _ _ _ hA.out.p.b3).trans rfl
       have q31 := (cell_of_row _ _ 1 _ _ _ hA.out.p.b3).trans rfl
       have q32 := (cell_of_row _ _ 2 _ _ _ hA.out.p.b3).trans rfl
       clear hb3 h3 hb1 h1 hb2 h2 hbB hr)
    | (go_at_call 12
       have hg := hbD
       refine (kt_rule _ _ _ _ _ _ _ _ _ _ _ _ hA.out.v1.v.rt.1 hA.out.p.v3.rt.1 hA.out.v1.v.rt.2 hA.out.p.v3.rt.2).mono ?_
       rintro e w4 ⟨rfl, hb4⟩
       have hA4 : Hid (P3 w4 w.heap.size w1.heap.size w1.heap.size w2.heap.size w3.heap.size r x1 y1 c1 d1 x2 y2 c2 d2 x3 y3 c3 d3) := Lib.hid (hA.out.below hb4)
       have hbE := Lib.hid (hbD.out.trans (hb4.mono hbD.out.size))
       clear q10 q11 q12 q20 q21 q22 q30 q31 q32 hA hb4
       have q10 := (cell_of_row _ _ 0 _ _ _ hA4.out.b1).trans rfl
       have q11 := (cell_of_row _ _ 1 _ _ _ hA4.out.b1).trans rfl
       have q12 := (cell_of_row _ _ 2 _ _ _ hA4.out.b1).trans rfl
       have q20 := (cell_of_row _ _ 0 _ _ _ hA4.out.p.b2).trans rfl
       have q21 := (cell_of_row _ _ 1 _ _ _ hA4.out.p.b2).trans rfl
       have q22 := (cell_of_row _ _ 2 _ _ _ hA4.out.p.b2).trans rfl
       have q30 := (cell_of_row _ _ 0 _ _ _ hA4.out.p.b3).trans rfl
       have q31 := (cell_of_row _ _ 1 _ _ _ hA4.out.p.b3).trans rfl
       have q32 := (cell_of_row _ _ 2 _ _ _ hA4.out.p.b3).trans rfl
       clear hg hbD hbC)
    | (go_at_call 12
       have hg := hbE
       refine (kt_rule _ _ _ _ _ _ _ _ _ _ _ _ hA4.out.p.v2.rt.1 hA4.out.p.v3.rt.1 hA4.out.p.v2.rt.2 hA4.out.p.v3.rt.2).mono ?_
       rintro e w5 ⟨rfl, hb5⟩
       have hA5 : Hid (P3 w5 w.heap.size w1.heap.size w1.heap.size w2.heap.size w3.heap.size r x1 y1 c1 d1 x2 y2 c2 d2 x3 y3 c3 d3) := Lib.hid (hA4.out.below hb5)
       have hbF := Lib.hid (hbE.out.trans (hb5.mono hbE.out.size))
       clear q10 q11 q12 q20 q21 q22 q30 q31 q32 hA4 hb5
       have q10 := (cell_of_row _ _ 0 _ _ _ hA5.out.b1).trans rfl
       have q11 := (cell_of_row _ _ 1 _ _ _ hA5.out.b1).trans rfl
       have q12 := (cell_of_row _ _ 2 _ _ _ hA5.out.b1).trans rfl
       have q20 := (cell_of_row _ _ 0 _ _ _ hA5.out.p.b2).trans rfl
       have q21 := (cell_of_row _ _ 1 _ _ _ hA5.out.p.b2).trans rfl
       have q22 := (cell_of_row _ _ 2 _ _ _ hA5.out.p.b2).trans rfl
       have q30 := (cell_of_row _ _ 0 _ _ _ hA5.out.p.b3).trans rfl
       have q31 := (cell_of_row _ _ 1 _ _ _ hA5.out.p.b3).trans rfl
       have q32 := (cell_of_row _ _ 2 _ _ _ hA5.out.p.b3).trans rfl
       clear hg hbE)
    | (go_at_call 13
       refine (hnum.out _ _).mono ?_
       rintro e wn ⟨rfl, rfl⟩)
    | (go_at_call 14
       refine (hA5.out.v1.spoil hsm.out ((hbF.out).size) (by have := hA5.out.p.le2; have := (Array.getElem?_eq_some_iff.1 hA5.out.p.b2).1; omega)).mono ?_
       rintro e w6 ⟨rfl, hf⟩
       have hA6 : Hid (P2 w6 w1.heap.size w2.heap.size w3.heap.size r x2 y2 c2 d2 x3 y3 c3 d3) := Lib.hid (hA5.out.p.fr hf)
       have hbG := Lib.hid (hbF.out.trans (hf.bel (Nat.le_refl _) hbF.out.size))
       clear q10 q11 q12 q20 q21 q22 q30 q31 q32 hA5 hf
       have q20 := (cell_of_row _ _ 0 _ _ _ hA6.out.b2).trans rfl
       have q21 := (cell_of_row _ _ 1 _ _ _ hA6.out.b2).trans rfl
       have q22 := (cell_of_row _ _ 2 _ _ _ hA6.out.b2).trans rfl
       have q30 := (cell_of_row _ _ 0 _ _ _ hA6.out.b3).trans rfl
       have q31 := (cell_of_row _ _ 1 _ _ _ hA6.out.b3).trans rfl
       have q32 := (cell_of_row _ _ 2 _ _ _ hA6.out.b3).trans rfl
       clear hbF)
    | (go_at_call 12
       have hg := hbG
       refine (kt_rule _ _ _ _ _ _ _ _ _ _ _ _ hA6.out.v2.rt.1 hA6.out.v3.rt.1 hA6.out.v2.rt.2 hA6.out.v3.rt.2).mono ?_
       rintro e w7 ⟨rfl, hb7⟩
       have hbH := Lib.hid (hbG.out.trans (hb7.mono hbG.out.size))
       clear q20 q21 q22 q30 q31 q32 hA6 hb7
       clear hg hbG)
    | (go_at_call 9
       refine (hwk.out _).mono ?_
       rintro e w8 ⟨rfl, hb8⟩
       have hbI := Lib.hid (hbH.out.trans (hb8.mono hbH.out.size))
       clear hb8))
  go_ret
  exact ⟨rfl, hbI.out⟩
theorem rules_false (s : ByteArray) (w : World) (hs : s.size ≤ 20000) (r : PRule) (at_ : Int) (h : Say s r at_ 11 false) :
    Calls Try.prog 3 #[.string s] w fun e w' => e = .returned (.bool true) ∧ Below w.heap.size w w' := by
  obtain ⟨hp, hr, hsm⟩ := h
  have hp2 := Lib.hid hp
  replace hp := Lib.hid hp
  replace hr := Lib.hid hr
  replace hsm := Lib.hid hsm
  have hwk := Lib.hid w8_works
  have hnum := Lib.hid w8_num
  have hli : ¬ ((20000 : Int) < (s.size : Int)) := by omega
  go_enter Try.func3, Try.ntmps3
  go_wp2_with (first
    | (go_at_call 8
       refine (w8_long _ _).mono ?_
       rintro e wl ⟨rfl, rfl⟩)
    | (go_at_call 10
       have hg := hp
       refine (hp.out _).mono ?_
       rintro e w1 ⟨x1, c1, y1, d1, rfl, hb1, h1⟩
       replace hb1 := Lib.hid hb1
       replace h1 := Lib.hid h1
       clear hg hp)
    | (go_at_call 10
       have hg := hp2
       refine (hp2.out _).mono ?_
       rintro e w2 ⟨x2, c2, y2, d2, rfl, hb2, h2⟩
       have hbB := Lib.hid ((hb1.out.al (.cells #[.string r.p, .slice x1 r.a.length c1, .slice y1 r.b.length d1] 29)).trans (hb2.mono (hb1.out.al (.cells #[.string r.p, .slice x1 r.a.length c1, .slice y1 r.b.length d1] 29)).size))
       replace hb2 := Lib.hid hb2
       replace h2 := Lib.hid h2
       clear hg hp2)
    | (go_at_call 11
       refine (hr.out _).mono ?_
       rintro e w3 ⟨x3, c3, y3, d3, rfl, hb3, h3⟩
       have hbC := Lib.hid ((hbB.out.al (.cells #[.string r.p, .slice x2 r.a.length c2, .slice y2 r.b.length d2] 29)).trans (hb3.mono (hbB.out.al (.cells #[.string r.p, .slice x2 r.a.length c2, .slice y2 r.b.length d2] 29)).size))
       have hA : Hid (P3 (w3.alloc (.cells #[.string r.p, .slice x3 r.a.length c3, .slice y3 r.b.length d3] 29)) w.heap.size w1.heap.size w1.heap.size w2.heap.size w3.heap.size r x1 y1 c1 d1 x2 y2 c2 d2 x3 y3 c3 d3) := Lib.hid (three_rules h1.out hb2.out h2.out hb3 h3)
       have hbD := Lib.hid (hbC.out.al (.cells #[.string r.p, .slice x3 r.a.length c3, .slice y3 r.b.length d3] 29))
       have q10 := (cell_of_row _ _ 0 _ _ _ hA.out.b1).trans rfl
       have q11 := (cell_of_row _ _ 1 _ _ _ hA.out.b1).trans rfl
       have q12 := (cell_of_row _ _ 2 _ _ _ hA.out.b1).trans rfl
       have q20 := (cell_of_row _ _ 0 _ _ _ hA.out.p.b2).trans rfl
       have q21 := (cell_of_row _ _ 1 _ _ _ hA.out.p.b2).trans rfl
       have q22 := (cell_of_row _ _ 2 _ _ _ hA.out.p.b2).trans rfl
       have q30 := (cell_of_row _ _ 0 _ _ _ hA.out.p.b3).trans rfl
       have q31 := (cell_of_row _ _ 1 _ _ _ hA.out.p.b3).trans rfl
       have q32 := (cell_of_row _ _ 2 _ _ _ hA.out.p.b3).trans rfl
       clear hb3 h3 hb1 h1 hb2 h2 hbB hr)
    | (go_at_call 12
       have hg := hbD
       refine (kt_rule _ _ _ _ _ _ _ _ _ _ _ _ hA.out.v1.v.rt.1 hA.out.p.v3.rt.1 hA.out.v1.v.rt.2 hA.out.p.v3.rt.2).mono ?_
       rintro e w4 ⟨rfl, hb4⟩
       have hA4 : Hid (P3 w4 w.heap.size w1.heap.size w1.heap.size w2.heap.size w3.heap.size r x1 y1 c1 d1 x2 y2 c2 d2 x3 y3 c3 d3) := Lib.hid (hA.out.below hb4)
       have hbE := Lib.hid (hbD.out.trans (hb4.mono hbD.out.size))
       clear q10 q11 q12 q20 q21 q22 q30 q31 q32 hA hb4
       have q10 := (cell_of_row _ _ 0 _ _ _ hA4.out.b1).trans rfl
       have q11 := (cell_of_row _ _ 1 _ _ _ hA4.out.b1).trans rfl
       have q12 := (cell_of_row _ _ 2 _ _ _ hA4.out.b1).trans rfl
       have q20 := (cell_of_row _ _ 0 _ _ _ hA4.out.p.b2).trans rfl
       have q21 := (cell_of_row _ _ 1 _ _ _ hA4.out.p.b2).trans rfl
       have q22 := (cell_of_row _ _ 2 _ _ _ hA4.out.p.b2).trans rfl
       have q30 := (cell_of_row _ _ 0 _ _ _ hA4.out.p.b3).trans rfl
       have q31 := (cell_of_row _ _ 1 _ _ _ hA4.out.p.b3).trans rfl
       have q32 := (cell_of_row _ _ 2 _ _ _ hA4.out.p.b3).trans rfl
       clear hg hbD hbC)
    | (go_at_call 12
       have hg := hbE
       refine (kt_rule _ _ _ _ _ _ _ _ _ _ _ _ hA4.out.p.v2.rt.1 hA4.out.p.v3.rt.1 hA4.out.p.v2.rt.2 hA4.out.p.v3.rt.2).mono ?_
       rintro e w5 ⟨rfl, hb5⟩
       have hA5 : Hid (P3 w5 w.heap.size w1.heap.size w1.heap.size w2.heap.size w3.heap.size r x1 y1 c1 d1 x2 y2 c2 d2 x3 y3 c3 d3) := Lib.hid (hA4.out.below hb5)
       have hbF := Lib.hid (hbE.out.trans (hb5.mono hbE.out.size))
       clear q10 q11 q12 q20 q21 q22 q30 q31 q32 hA4 hb5
       have q10 := (cell_of_row _ _ 0 _ _ _ hA5.out.b1).trans rfl
       have q11 := (cell_of_row _ _ 1 _ _ _ hA5.out.b1).trans rfl
       have q12 := (cell_of_row _ _ 2 _ _ _ hA5.out.b1).trans rfl
       have q20 := (cell_of_row _ _ 0 _ _ _ hA5.out.p.b2).trans rfl
       have q21 := (cell_of_row _ _ 1 _ _ _ hA5.out.p.b2).trans rfl
       have q22 := (cell_of_row _ _ 2 _ _ _ hA5.out.p.b2).trans rfl
       have q30 := (cell_of_row _ _ 0 _ _ _ hA5.out.p.b3).trans rfl
       have q31 := (cell_of_row _ _ 1 _ _ _ hA5.out.p.b3).trans rfl
       have q32 := (cell_of_row _ _ 2 _ _ _ hA5.out.p.b3).trans rfl
       clear hg hbE)
    | (go_at_call 13
       refine (hnum.out _ _).mono ?_
       rintro e wn ⟨rfl, rfl⟩)
    | (go_at_call 14
       refine (hA5.out.v1.spoil hsm.out ((hbF.out).size) (by have := hA5.out.p.le2; have := (Array.getElem?_eq_some_iff.1 hA5.out.p.b2).1; omega)).mono ?_
       rintro e w6 ⟨rfl, hf⟩
       have hA6 : Hid (P2 w6 w1.heap.size w2.heap.size w3.heap.size r x2 y2 c2 d2 x3 y3 c3 d3) := Lib.hid (hA5.out.p.fr hf)
       have hbG := Lib.hid (hbF.out.trans (hf.bel (Nat.le_refl _) hbF.out.size))
       clear q10 q11 q12 q20 q21 q22 q30 q31 q32 hA5 hf
       have q20 := (cell_of_row _ _ 0 _ _ _ hA6.out.b2).trans rfl
       have q21 := (cell_of_row _ _ 1 _ _ _ hA6.out.b2).trans rfl
       have q22 := (cell_of_row _ _ 2 _ _ _ hA6.out.b2).trans rfl
       have q30 := (cell_of_row _ _ 0 _ _ _ hA6.out.b3).trans rfl
       have q31 := (cell_of_row _ _ 1 _ _ _ hA6.out.b3).trans rfl
       have q32 := (cell_of_row _ _ 2 _ _ _ hA6.out.b3).trans rfl
       clear hbF)
    | (go_at_call 12
       have hg := hbG
       refine (kt_rule _ _ _ _ _ _ _ _ _ _ _ _ hA6.out.v2.rt.1 hA6.out.v3.rt.1 hA6.out.v2.rt.2 hA6.out.v3.rt.2).mono ?_
       rintro e w7 ⟨rfl, hb7⟩
       have hbH := Lib.hid (hbG.out.trans (hb7.mono hbG.out.size))
       clear q20 q21 q22 q30 q31 q32 hA6 hb7
       clear hg hbG)
    | (go_at_call 9
       refine (hwk.out _).mono ?_
       rintro e w8 ⟨rfl, hb8⟩
       have hbI := Lib.hid (hbH.out.trans (hb8.mono hbH.out.size))
       clear hb8))
  go_ret
  exact ⟨rfl, hbI.out⟩
theorem law_ParseRules (s : ByteArray) (w : World) (_ : s.size ≤ 140737488351232) :
    Calls Try.prog 3 #[.string s] w fun e w' => e = .returned (.bool true) ∧ Below w.heap.size w w' := by
  by_cases hs : s.size ≤ 20000
  · obtain ⟨r, at_, h | h⟩ := say_of s (by omega)
    · exact rules_true s w hs r at_ h
    · exact rules_false s w hs r at_ h
  · have hwk := Lib.hid w8_works
    have hli : (20000 : Int) < (s.size : Int) := by omega
    go_enter Try.func3, Try.ntmps3
    go_wp2_with (first
      | (go_at_call 8
         refine (w8_long _ _).mono ?_
         rintro e wl ⟨rfl, rfl⟩)
      | (go_at_call 9
         refine (hwk.out _).mono ?_
         rintro e w8 ⟨rfl, hb8⟩
         replace hb8 := Lib.hid hb8))
    go_ret
    exact ⟨rfl, hb8.out⟩
end Go.Proofs.Ytmjincocmhadeaa
