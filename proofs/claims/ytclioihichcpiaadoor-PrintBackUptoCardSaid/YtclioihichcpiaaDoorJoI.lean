/- Print: a literal of an atom; any literal. -/
import Derived.Test.YtclioihichcpiaaDoorJoH
namespace Go.Proofs.YtclioihichcpiaaDoor
open Go.RowKit Go.Shelf Lx
theorem atom_size (p : ByteArray) (l : List (Bool × ByteArray)) (hp : p.size ≤ 1048576) (h : ∀ x ∈ l, x.2.size ≤ 1048576) (ha : atomOk p l = true) : (atomL p l).size ≤ 268435456 := by
  have h16 : l.length ≤ 16 := by unfold atomOk at ha; simp at ha; omega
  have := commas_size l h h16
  unfold atomL
  split
  · omega
  · rw [ByteArray.size_append, ByteArray.size_append, ByteArray.size_append]
    show p.size + 1 + _ + 1 ≤ _
    omega
set_option maxHeartbeats 1000000 in
set_option maxRecDepth 100000 in
theorem pt_Literal_1 (p : ByteArray) (a : Option Addr) (l : List (Bool × ByteArray)) (cap : Nat) (lv rv : Bool) (lt rt : ByteArray) (w : World) (hp : p.size ≤ 1048576) (ht : Terms w a l) :
    Calls Tryd.prog 46 #[.agg #[.int .i64 1, .string p, .slice a l.length cap, .bool lv, .string lt, .bool rv, .string rt]] w fun e w' => e = .returned (.tuple #[.string (litS ⟨1, p, l, (lv, lt), (rv, rt)⟩), .int .i64 (litE ⟨1, p, l, (lv, lt), (rv, rt)⟩)]) ∧ Below w.heap.size w w' := by
  have hat := fun w ht => pt_Atom p a l cap w hp ht
  cases ha : atomOk p l with
  | false =>
    have hS : Hid (litS ⟨1, p, l, (lv, lt), (rv, rt)⟩ = ⟨#[]⟩ ∧ litE ⟨1, p, l, (lv, lt), (rv, rt)⟩ = 2) := Lib.hid (lit_no (by unfold litOk; rw [if_neg (show ¬ ((1 : Int) = 3) from by decide)]; dsimp only; rw [ha, Bool.and_false, Bool.false_and]))
    have hA : atomS p l = ⟨#[]⟩ ∧ atomE p l = 2 := by unfold atomS atomE; rw [ha]; exact ⟨rfl, rfl⟩
    rw [hA.1, hA.2] at hat
    clear hA ha
    cases lv <;> cases rv
    all_goals go_enter Tryd.func46, Tryd.ntmps46
    all_goals go_wp2_with (go_at_call 44; refine (hat _ (ht.new _)).mono ?_; rintro e w1 ⟨rfl, hb1⟩; replace hb1 := Lib.hid hb1)
    all_goals (go_ret2; rw [hS.out.1, hS.out.2]; exact ⟨rfl, ((Below.refl _ _).al _).trans (hb1.out.mono (by rw [World.size_alloc]; omega))⟩)
  | true =>
    have hA : atomS p l = atomL p l ∧ atomE p l = 0 := by unfold atomS atomE; rw [ha]; exact ⟨rfl, rfl⟩
    have hsz := atom_size p l hp ht.size ha
    rw [hA.1, hA.2] at hat
    clear hA
    cases hz : zeroT (lv, lt) && zeroT (rv, rt) with
    | true =>
      have hz1 := (Bool.and_eq_true_iff.1 hz).1
      have hz2 := (Bool.and_eq_true_iff.1 hz).2
      unfold zeroT at hz1 hz2
      simp at hz1 hz2
      obtain ⟨rfl, h1⟩ := hz1
      obtain ⟨rfl, h2⟩ := hz2
      have hS : Hid (litS ⟨1, p, l, (false, lt), (false, rt)⟩ = atomL p l ∧ litE ⟨1, p, l, (false, lt), (false, rt)⟩ = 0) := Lib.hid ((lit_yes (by unfold litOk; rw [if_neg (show ¬ ((1 : Int) = 3) from by decide)]; dsimp only; rw [ha, hz]; rfl)).imp (fun h => h.trans (by unfold litL; rw [if_neg (show ¬ ((1 : Int) = 3) from by decide), if_neg (show ¬ ((1 : Int) = 2) from by decide)])) id)
      generalize atomL p l = X at hat hS hsz
      clear hz ha
      go_enter Tryd.func46, Tryd.ntmps46
      go_wp2_with (go_at_call 44; refine (hat _ (ht.new _)).mono ?_; rintro e w1 ⟨rfl, hb1⟩; replace hb1 := Lib.hid hb1)
      go_ret2
      rw [hS.out.1, hS.out.2]
      exact ⟨by rw [show (⟨#[]⟩ : ByteArray) ++ X = X from ByteArray.empty_append]; rfl, ((Below.refl _ _).al _).trans (hb1.out.mono (by rw [World.size_alloc]; omega))⟩
    | false =>
      have hS : Hid (litS ⟨1, p, l, (lv, lt), (rv, rt)⟩ = ⟨#[]⟩ ∧ litE ⟨1, p, l, (lv, lt), (rv, rt)⟩ = 2) := Lib.hid (lit_no (by unfold litOk; rw [if_neg (show ¬ ((1 : Int) = 3) from by decide)]; dsimp only; rw [hz, Bool.and_false]))
      generalize atomL p l = X at hat hsz
      clear ha
      unfold zeroT at hz
      have hz' : lv = true ∨ (lv = false ∧ ¬ lt.toList = []) ∨ (lv = false ∧ lt.toList = [] ∧ rv = true) ∨ (lv = false ∧ lt.toList = [] ∧ rv = false ∧ ¬ rt.toList = []) := by
        cases lv <;> cases rv <;> simp at hz ⊢
        · by_cases h : lt.toList = []
          · exact .inr ⟨h, hz h⟩
          · exact .inl h
        · by_cases h : lt.toList = []
          · exact .inr h
          · exact .inl h
      clear hz
      rcases hz' with rfl | ⟨rfl, h1⟩ | ⟨rfl, h1, rfl⟩ | ⟨rfl, h1, rfl, h2⟩
      all_goals go_enter Tryd.func46, Tryd.ntmps46
      all_goals go_wp2_with (go_at_call 44; refine (hat _ (ht.new _)).mono ?_; rintro e w1 ⟨rfl, hb1⟩; replace hb1 := Lib.hid hb1)
      all_goals (go_ret2; rw [hS.out.1, hS.out.2]; exact ⟨rfl, ((Below.refl _ _).al _).trans (hb1.out.mono (by rw [World.size_alloc]; omega))⟩)
set_option maxHeartbeats 1000000 in
set_option maxRecDepth 100000 in
theorem pt_Literal_2 (p : ByteArray) (a : Option Addr) (l : List (Bool × ByteArray)) (cap : Nat) (lv rv : Bool) (lt rt : ByteArray) (w : World) (hp : p.size ≤ 1048576) (ht : Terms w a l) :
    Calls Tryd.prog 46 #[.agg #[.int .i64 2, .string p, .slice a l.length cap, .bool lv, .string lt, .bool rv, .string rt]] w fun e w' => e = .returned (.tuple #[.string (litS ⟨2, p, l, (lv, lt), (rv, rt)⟩), .int .i64 (litE ⟨2, p, l, (lv, lt), (rv, rt)⟩)]) ∧ Below w.heap.size w w' := by
  have hat := fun w ht => pt_Atom p a l cap w hp ht
  cases ha : atomOk p l with
  | false =>
    have hS : Hid (litS ⟨2, p, l, (lv, lt), (rv, rt)⟩ = ⟨#[]⟩ ∧ litE ⟨2, p, l, (lv, lt), (rv, rt)⟩ = 2) := Lib.hid (lit_no (by unfold litOk; rw [if_neg (show ¬ ((2 : Int) = 3) from by decide)]; dsimp only; rw [ha, Bool.and_false, Bool.false_and]))
    have hA : atomS p l = ⟨#[]⟩ ∧ atomE p l = 2 := by unfold atomS atomE; rw [ha]; exact ⟨rfl, rfl⟩
    rw [hA.1, hA.2] at hat
    clear hA ha
    cases lv <;> cases rv
    all_goals go_enter Tryd.func46, Tryd.ntmps46
    all_goals go_wp2_with (go_at_call 44; refine (hat _ (ht.new _)).mono ?_; rintro e w1 ⟨rfl, hb1⟩; replace hb1 := Lib.hid hb1)
    all_goals (go_ret2; rw [hS.out.1, hS.out.2]; exact ⟨rfl, ((Below.refl _ _).al _).trans (hb1.out.mono (by rw [World.size_alloc]; omega))⟩)
  | true =>
    have hA : atomS p l = atomL p l ∧ atomE p l = 0 := by unfold atomS atomE; rw [ha]; exact ⟨rfl, rfl⟩
    have hsz := atom_size p l hp ht.size ha
    rw [hA.1, hA.2] at hat
    clear hA
    cases hz : zeroT (lv, lt) && zeroT (rv, rt) with
    | true =>
      have hz1 := (Bool.and_eq_true_iff.1 hz).1
      have hz2 := (Bool.and_eq_true_iff.1 hz).2
      unfold zeroT at hz1 hz2
      simp at hz1 hz2
      obtain ⟨rfl, h1⟩ := hz1
      obtain ⟨rfl, h2⟩ := hz2
      have hS : Hid (litS ⟨2, p, l, (false, lt), (false, rt)⟩ = (⟨#[110, 111, 116, 32]⟩ ++ atomL p l) ∧ litE ⟨2, p, l, (false, lt), (false, rt)⟩ = 0) := Lib.hid ((lit_yes (by unfold litOk; rw [if_neg (show ¬ ((2 : Int) = 3) from by decide)]; dsimp only; rw [ha, hz]; rfl)).imp (fun h => h.trans (by unfold litL; rw [if_neg (show ¬ ((2 : Int) = 3) from by decide), if_pos rfl])) id)
      generalize atomL p l = X at hat hS hsz
      clear hz ha
      go_enter Tryd.func46, Tryd.ntmps46
      go_wp2_with (go_at_call 44; refine (hat _ (ht.new _)).mono ?_; rintro e w1 ⟨rfl, hb1⟩; replace hb1 := Lib.hid hb1)
      go_ret2
      rw [hS.out.1, hS.out.2]
      exact ⟨rfl, ((Below.refl _ _).al _).trans (hb1.out.mono (by rw [World.size_alloc]; omega))⟩
    | false =>
      have hS : Hid (litS ⟨2, p, l, (lv, lt), (rv, rt)⟩ = ⟨#[]⟩ ∧ litE ⟨2, p, l, (lv, lt), (rv, rt)⟩ = 2) := Lib.hid (lit_no (by unfold litOk; rw [if_neg (show ¬ ((2 : Int) = 3) from by decide)]; dsimp only; rw [hz, Bool.and_false]))
      generalize atomL p l = X at hat hsz
      clear ha
      unfold zeroT at hz
      have hz' : lv = true ∨ (lv = false ∧ ¬ lt.toList = []) ∨ (lv = false ∧ lt.toList = [] ∧ rv = true) ∨ (lv = false ∧ lt.toList = [] ∧ rv = false ∧ ¬ rt.toList = []) := by
        cases lv <;> cases rv <;> simp at hz ⊢
        · by_cases h : lt.toList = []
          · exact .inr ⟨h, hz h⟩
          · exact .inl h
        · by_cases h : lt.toList = []
          · exact .inr h
          · exact .inl h
      clear hz
      rcases hz' with rfl | ⟨rfl, h1⟩ | ⟨rfl, h1, rfl⟩ | ⟨rfl, h1, rfl, h2⟩
      all_goals go_enter Tryd.func46, Tryd.ntmps46
      all_goals go_wp2_with (go_at_call 44; refine (hat _ (ht.new _)).mono ?_; rintro e w1 ⟨rfl, hb1⟩; replace hb1 := Lib.hid hb1)
      all_goals (go_ret2; rw [hS.out.1, hS.out.2]; exact ⟨rfl, ((Below.refl _ _).al _).trans (hb1.out.mono (by rw [World.size_alloc]; omega))⟩)
set_option maxHeartbeats 1000000 in
set_option maxRecDepth 100000 in
theorem pt_Literal_0 (k : Int) (p : ByteArray) (a : Option Addr) (l : List (Bool × ByteArray)) (cap : Nat) (lv rv : Bool) (lt rt : ByteArray) (w : World) (h1 : ¬ k = 1) (h2 : ¬ k = 2) (h3 : ¬ k = 3) :
    Calls Tryd.prog 46 #[.agg #[.int .i64 k, .string p, .slice a l.length cap, .bool lv, .string lt, .bool rv, .string rt]] w fun e w' => e = .returned (.tuple #[.string (litS ⟨k, p, l, (lv, lt), (rv, rt)⟩), .int .i64 (litE ⟨k, p, l, (lv, lt), (rv, rt)⟩)]) ∧ Below w.heap.size w w' := by
  have hS : Hid (litS ⟨k, p, l, (lv, lt), (rv, rt)⟩ = ⟨#[]⟩ ∧ litE ⟨k, p, l, (lv, lt), (rv, rt)⟩ = 2) := Lib.hid (lit_no (by unfold litOk; rw [if_neg h3]; dsimp only; rw [decide_eq_false h1, decide_eq_false h2]; rfl))
  have k1 : (k == 1) = false := by rw [beq_eq_false_iff_ne]; exact h1
  have k2 : (k == 2) = false := by rw [beq_eq_false_iff_ne]; exact h2
  have k3 : (k == 3) = false := by rw [beq_eq_false_iff_ne]; exact h3
  clear h1 h2 h3
  cases lv <;> cases rv
  all_goals go_enter Tryd.func46, Tryd.ntmps46
  all_goals go_wp2_with fail
  all_goals (go_ret2; rw [hS.out.1, hS.out.2]; exact ⟨rfl, (Below.refl _ _).al _⟩)
theorem pt_Literal (x : Lit) (a : Option Addr) (cap : Nat) (w : World) (hp : x.p.size ≤ 1048576) (ht : Terms w a x.a) (hl : x.l.2.size ≤ 1048576) (hr : x.r.2.size ≤ 1048576) :
    Calls Tryd.prog 46 #[.agg (litV x a cap)] w fun e w' => e = .returned (.tuple #[.string (litS x), .int .i64 (litE x)]) ∧ Below w.heap.size w w' := by
  obtain ⟨k, p, l, ⟨lv, lt⟩, ⟨rv, rt⟩⟩ := x
  unfold litV
  dsimp only at hp ht hl hr ⊢
  by_cases h1 : k = 1
  · subst h1; exact pt_Literal_1 p a l cap lv rv lt rt w hp ht
  · by_cases h2 : k = 2
    · subst h2; exact pt_Literal_2 p a l cap lv rv lt rt w hp ht
    · by_cases h3 : k = 3
      · subst h3; exact pt_Literal_3 p a l cap lv rv lt rt w hl hr
      · exact pt_Literal_0 k p a l cap lv rv lt rt w h1 h2 h3
end Go.Proofs.YtclioihichcpiaaDoor


/- Print: a list of literals. (gen_prl.py) -/
namespace Go.Proofs.YtclioihichcpiaaDoor
open Go.RowKit Go.Shelf Lx
/-- a row of literals in memory -/
structure Lits (w : World) (a : Option Addr) (l : List Lit) : Prop where
  len : l.length ≤ 1048576
  cells : ∀ j x, l[j]? = some x → ∃ p ad cap, a = some p ∧ w.cell? (p.add (j * 7)) = some (.int .i64 x.k) ∧ w.cell? ⟨(p.add (j * 7)).block, (p.add (j * 7)).off + 1, none⟩ = some (.string x.p) ∧ w.cell? ⟨(p.add (j * 7)).block, (p.add (j * 7)).off + 2, none⟩ = some (.slice ad x.a.length cap) ∧ w.cell? ⟨(p.add (j * 7)).block, (p.add (j * 7)).off + 3, none⟩ = some (.bool x.l.1) ∧ w.cell? ⟨(p.add (j * 7)).block, (p.add (j * 7)).off + 4, none⟩ = some (.string x.l.2) ∧ w.cell? ⟨(p.add (j * 7)).block, (p.add (j * 7)).off + 5, none⟩ = some (.bool x.r.1) ∧ w.cell? ⟨(p.add (j * 7)).block, (p.add (j * 7)).off + 6, none⟩ = some (.string x.r.2) ∧ Terms w ad x.a
  size : ∀ x ∈ l, x.p.size ≤ 1048576 ∧ x.l.2.size ≤ 1048576 ∧ x.r.2.size ≤ 1048576
theorem Lits.below {w w' : World} {a : Option Addr} {l : List Lit} (h : Lits w a l) (hb : Below w.heap.size w w') : Lits w' a l :=
  ⟨h.len, fun j x hj => by
    obtain ⟨p, ad, cap, hp, h1, h2, h3, h4, h5, h6, h7, ht⟩ := h.cells j x hj
    exact ⟨p, ad, cap, hp, cell_below hb rfl h1, cell_below hb rfl h2, cell_below hb rfl h3, cell_below hb rfl h4, cell_below hb rfl h5, cell_below hb rfl h6, cell_below hb rfl h7, ht.below hb⟩, h.size⟩
theorem Lits.new {w : World} {a : Option Addr} {l : List Lit} (h : Lits w a l) (ob : Obj) : Lits (w.alloc ob) a l := h.below ((Below.refl _ _).al _)
theorem Lits.argsize {w : World} {a : Option Addr} {l : List Lit} (h : Lits w a l) : ∀ x ∈ l, ∀ y ∈ x.a, y.2.size ≤ 1048576 := by
  intro x hx
  obtain ⟨j, hj⟩ := List.getElem?_of_mem hx
  obtain ⟨p, ad, cap, hp, h1, h2, h3, h4, h5, h6, h7, ht⟩ := h.cells j x hj
  exact ht.size
def textsL (l : List Lit) : List ByteArray := l.map litS
def okL (l : List Lit) : Bool := l.all litOk
theorem variableB_len {l : Bs} (h : variableB l = true) : l.length ≤ 1024 := by
  unfold variableB writtenB at h
  simp at h
  omega
theorem termL_small (v : Bool) (l : Bs) : (termL v l).length ≤ 8192 := by
  unfold termL
  split
  · rename_i h
    have hl : l.length ≤ 1024 := by
      cases v
      · simpa [termOk] using h
      · have : variableB l = true := by simpa [termOk] using h
        exact variableB_len this
    have := (escs_len l).2
    unfold quoteL
    split
    · omega
    · rw [List.length_cons, List.length_append]; show _ + 1 + 1 ≤ _; omega
  · simp
theorem textsT_small (l : List (Bool × ByteArray)) : ∀ t ∈ (textsT l).map (·.data.toList), t.length ≤ 8192 := by
  intro t ht
  obtain ⟨u, hu, rfl⟩ := List.mem_map.1 ht
  obtain ⟨x, hx, rfl⟩ := List.mem_map.1 hu
  have h1 := termL_small x.1 (bl x.2)
  simpa [mk] using h1
theorem commas_small (l : List (Bool × ByteArray)) (hn : l.length ≤ 16) : (commas l).size ≤ 262144 := by
  have h1 := join_bound [44, 32] _ 8192 (textsT_small l)
  rw [List.length_map, textsT, List.length_map] at h1
  have h2 : l.length * ([44, 32].length + 8192) ≤ 16 * (2 + 8192) := Nat.mul_le_mul hn (Nat.le_refl _)
  have h3 : (commas l).size = (Lib.join ((textsT l).map (·.data.toList)) [44, 32]).length := by show (Array.size _) = _; simp
  rw [h3]
  exact Nat.le_trans h1 (Nat.le_trans h2 (by decide))
theorem atom_small (p : ByteArray) (l : List (Bool × ByteArray)) (hp : p.size ≤ 1048576) (ha : atomOk p l = true) : (atomL p l).size ≤ 2097152 := by
  have h16 : l.length ≤ 16 := by unfold atomOk at ha; simp at ha; omega
  have := commas_small l h16
  unfold atomL
  split
  · omega
  · rw [ByteArray.size_append, ByteArray.size_append, ByteArray.size_append]
    show p.size + 1 + _ + 1 ≤ _
    omega
theorem bothL_size (x y : Bool × ByteArray) : (bothL x y).size ≤ 32768 := by
  have h1 := join_bound [32, 33, 61, 32] _ 8192 (textsT_small [x, y])
  rw [List.length_map, textsT, List.length_map] at h1
  have h3 : (bothL x y).size = (Lib.join ((textsT [x, y]).map (·.data.toList)) [32, 33, 61, 32]).length := by show (Array.size _) = _; simp
  rw [h3]
  exact Nat.le_trans h1 (by show 2 * (4 + 8192) ≤ _; decide)
theorem litS_size (x : Lit) (hp : x.p.size ≤ 1048576) : (litS x).size ≤ 4194304 := by
  unfold litS
  split
  · rename_i h
    unfold litOk at h
    unfold litL
    split
    · have := bothL_size x.l x.r; omega
    · rename_i h3
      rw [if_neg h3] at h
      have h4 : atomOk x.p x.a = true := by
        cases ho : atomOk x.p x.a
        · rw [ho, Bool.and_false, Bool.false_and] at h; cases h
        · rfl
      have := atom_small x.p x.a hp h4
      split
      · rw [ByteArray.size_append]; show 4 + _ ≤ _; omega
      · omega
  · show 0 ≤ _; omega
theorem textsL_size (l : List Lit) (h : ∀ x ∈ l, x.p.size ≤ 1048576) : ∀ t ∈ textsL l, t.size ≤ 4194304 := by
  intro t ht
  obtain ⟨x, hx, rfl⟩ := List.mem_map.1 ht
  exact litS_size x (h x hx)
theorem own_joinB {w : World} {base n : Nat} {v : Value} {ts : List ByteArray} {sep : ByteArray} (h : w.ownsRow base 9 1 v n (ts.map Value.string)) (hn : ts.length ≤ 1048576) (hs : sep.size ≤ 1048576) (hm : ∀ t ∈ ts, t.size ≤ 4194304) :
    Calls Tryd.prog 40 #[v, .string sep] w fun e w' => e = .returned (.string ⟨(Lib.join (ts.map (·.data.toList)) sep.data.toList).toArray⟩) ∧ Below w.heap.size w w' := by
  have hl : ts.length = n := by have := h.1; rw [List.length_map] at this; omega
  rcases h.2 with ⟨rfl, rfl⟩ | ⟨g, cap, cur, rfl, hg, hb, hc, hcm, hcz, hx⟩
  · have : ts = [] := List.eq_nil_of_length_eq_zero hl
    subst this
    exact (Tryd.strings_Join_none none 0 sep w).mono fun e w' ⟨h1, h2⟩ => ⟨h1, h2 ▸ Below.refl _ _⟩
  · subst hl
    refine Tryd.strings_Join g 0 cap ts sep w (fun j x hj => ?_) (Array.getElem?_eq_some_iff.1 hb).1 (by omega) hc ?_
    · have h1 : (ts.map Value.string)[j]? = some (.string x) := by rw [List.getElem?_map, hj]; rfl
      rw [← hx, List.getElem?_take] at h1
      have hj2 : j < ts.length * 1 := by have := (List.getElem?_eq_some_iff.1 hj).1; omega
      rw [if_pos hj2, Array.getElem?_toList] at h1
      simp [World.cell?, hb, h1]
    · have h1 := join_bound sep.data.toList (ts.map (·.data.toList)) 4194304 (by
        intro l hl
        obtain ⟨t, ht, rfl⟩ := List.mem_map.1 hl
        rw [Array.length_toList]; exact hm t ht)
      rw [List.length_map, Array.length_toList] at h1
      have h2 : ts.length * (sep.data.size + 4194304) ≤ 1048576 * (1048576 + 4194304) := Nat.mul_le_mul hn (Nat.add_le_add_right hs _)
      exact Nat.le_trans h1 (Nat.le_trans h2 (by decide))
set_option maxHeartbeats 1000000 in
set_option maxRecDepth 100000 in
theorem pt_listed_Literal (a : Option Addr) (l : List Lit) (cap : Nat) (sep : ByteArray) (w : World) (ht : Lits w a l) (hsep : sep.size ≤ 1048576) :
    Calls Tryd.prog 45 #[.slice a l.length cap, .string sep, .func (.func 46) #[] #[]] w fun e w' => e = .returned (.tuple #[.string (if okL l then ⟨(Lib.join ((textsL l).map (·.data.toList)) sep.data.toList).toArray⟩ else ⟨#[]⟩), .bool (okL l)]) ∧ Below w.heap.size w w' := by
  obtain ⟨ib, hib, hz0, hz1, hz2⟩ := info_parts infoStr
  obtain ⟨RT, hRT⟩ : ∃ x, Hid ((if okL l then (⟨(Lib.join ((textsL l).map (·.data.toList)) sep.data.toList).toArray⟩ : ByteArray) else ⟨#[]⟩) = x) := ⟨_, Lib.hid rfl⟩
  obtain ⟨OT, hOT⟩ : ∃ x, Hid (okL l = x) := ⟨_, Lib.hid rfl⟩
  rw [hRT.out, hOT.out]
  go_enter Tryd.func45, Tryd.ntmps45
  go_wp2_with fail
  go_loopw [8, 10, 11, 12, 15] (fun b _ _ _ i wr => ∃ (k : Nat), k ≤ l.length ∧ i = .int .i64 k ∧ Hid (okL (l.take k) = true) ∧ Hid (wr.ownsRow w.heap.size 9 1 b k ((textsL (l.take k)).map Value.string)) ∧ Hid (Below w.heap.size w wr)) (fun _ _ _ _ i _ => l.length - (intOf i).toNat)
  case atStart => exact ⟨0, Nat.zero_le _, rfl, Lib.hid rfl, Lib.hid (World.ownsRow_nil _ _ _ _), Lib.hid (Below.refl _ _)⟩
  case round =>
    obtain ⟨k, hk, rfl, hok, hown, hb⟩ := hrel
    by_cases hlt : k < l.length
    · obtain ⟨p, ad, acap, rfl, hc1, hc2, hc3, hc4, hc5, hc6, hc7, hat⟩ := (ht.below hb.out).cells k l[k] (List.getElem?_eq_getElem hlt)
      obtain ⟨hy1, hy2, hy3⟩ := ht.size l[k] (List.getElem_mem hlt)
      generalize hxk : l[k] = x at hc1 hc2 hc3 hc4 hc5 hc6 hc7 hat hy1 hy2 hy3
      have hpt := fun w ht => pt_Literal x ad acap w hy1 ht hy2 hy3
      unfold litV at hpt
      cases hx : litOk x with
      | true =>
        have hr : litE x = 0 := by unfold litE; rw [hx]; rfl
        rw [hr] at hpt
        have hok1 : Hid (okL (l.take (k + 1)) = true) := Lib.hid (by
          have := hok.out
          unfold okL at this ⊢
          rw [List.take_succ_eq_append_getElem hlt, List.all_append, this, hxk]; simp [hx])
        have hS : Hid (litS x = litS l[k]) := Lib.hid (by rw [hxk])
        clear hx hr hok hxk
        obtain ⟨xk, xp, xa, ⟨xlv, xlt⟩, ⟨xrv, xrt⟩⟩ := x
        dsimp only at hc1 hc2 hc3 hc4 hc5 hc6 hc7 hat hpt
        generalize litS ⟨xk, xp, xa, (xlv, xlt), (xrv, xrt)⟩ = S at hpt hS
        obtain ⟨va, vc, rfl, hva⟩ := own_slice hown.out
        clear hva
        have hlen := ht.len
        have h63 : Hid (k + 1 ≤ maxLen) := Lib.hid (by unfold maxLen; omega)
        have h64 : Hid ((k + 1) * 16 ≤ 140737488355328) := Lib.hid (by omega)
        go_wp2_with (first
          | (go_at_call 46; refine (hpt _ (hat.new _)).mono ?_; rintro e w2 ⟨rfl, hb2⟩; have hown2 := Lib.hid (own_below (hown.out.alloc _) hb2); replace hb2 := Lib.hid ((hb.out.al _).trans (hb2.mono (by rw [World.size_alloc]; have := hb.out.size; omega))))
          | (at_builtin; refine wpList_append_own _ rfl (.tmp 27) (.tmp 29) 68 rfl w.heap.size 9 ib (.string ⟨#[]⟩) 1 16 Tryd.underlying68 hib hz0 hz1 hz2 rfl (by decide) _ k _ rfl (hown2.out.alloc _) ⟨w2.heap.size, 0, none⟩ 1 1 [.string S] rfl rfl (own_cells_row rfl rfl) (by intro u hu; simp at hu; subst hu; rfl) h63.out h64.out (by rw [World.size_alloc]; have := hb2.out.size; omega) ?_))
        intro v3 w3 hown3 hgrow3 hv3
        have hb3 : Hid (Below w.heap.size w w3) := own_grown hown2.out hb2.out hgrow3
        have hown4 : Hid (w3.ownsRow w.heap.size 9 1 v3 (k + 1) ((textsL (l.take (k + 1))).map Value.string)) := Lib.hid (by
          rw [List.take_succ_eq_append_getElem hlt, textsL, List.map_append, List.map_append]; rw [hS.out] at hown3; exact hown3)
        clear hown3 hgrow3 hv3
        go_wp2_with fail
        go_roundw
        case rel => exact ⟨k + 1, by omega, by go_num, hok1, hown4, hb3⟩
        case measure => simp [intOf]; omega
      | false =>
        have hr : litE x = 2 := by unfold litE; rw [hx]; rfl
        rw [hr] at hpt
        have hR : Hid (RT = ByteArray.mk #[] ∧ OT = false) := Lib.hid (by
          have : okL l = false := by
            unfold okL; rw [List.all_eq_false]; exact ⟨l[k], List.getElem_mem hlt, by rw [hxk]; simp [hx]⟩
          rw [← hRT.out, ← hOT.out, this]; exact ⟨rfl, rfl⟩)
        clear hx hr hok hxk
        obtain ⟨xk, xp, xa, ⟨xlv, xlt⟩, ⟨xrv, xrt⟩⟩ := x
        dsimp only at hc1 hc2 hc3 hc4 hc5 hc6 hc7 hat hpt
        go_wp2_with (go_at_call 46; refine (hpt _ (hat.new _)).mono ?_; rintro e w2 ⟨rfl, hb2⟩; replace hb2 := Lib.hid hb2)
        go_ret2
        rw [hR.out.1, hR.out.2]
        exact ⟨rfl, (hb.out.al _).trans (hb2.out.mono (by rw [World.size_alloc]; have := hb.out.size; omega))⟩
    · have hke : k = l.length := by omega
      subst hke
      rw [List.take_length] at hok hown
      have hR : Hid (RT = ⟨(Lib.join ((textsL l).map (·.data.toList)) sep.data.toList).toArray⟩ ∧ OT = true) := Lib.hid (by rw [← hRT.out, ← hOT.out, hok.out]; exact ⟨rfl, rfl⟩)
      have hjn := own_joinB hown.out (by rw [textsL, List.length_map]; exact ht.len) hsep (textsL_size l fun x hx => (ht.size x hx).1)
      rw [← hR.out.1] at hjn
      go_wp2_with (go_at_call 40; refine hjn.mono ?_; rintro e w2 ⟨rfl, hb2⟩; replace hb2 := Lib.hid hb2)
      go_ret2
      rw [hR.out.2]
      exact ⟨rfl, hb.out.trans (hb2.out.mono hb.out.size)⟩
end Go.Proofs.YtclioihichcpiaaDoor


/- Print: a rule. -/
namespace Go.Proofs.YtclioihichcpiaaDoor
open Go.RowKit Go.Shelf Lx
structure Rul where
  h : ByteArray
  a : List (Bool × ByteArray)
  b : List Lit
def commasL (b : List Lit) : ByteArray := ⟨(Lib.join ((textsL b).map (·.data.toList)) [44, 32]).toArray⟩
def ruleOk (r : Rul) : Bool := atomOk r.h r.a && okL r.b && decide (r.b.length ≤ 256)
def ruleL (r : Rul) : ByteArray := if r.b.length = 0 then atomL r.h r.a ++ ⟨#[46]⟩ else atomL r.h r.a ++ (⟨#[32, 58, 45, 32]⟩ ++ commasL r.b) ++ ⟨#[46]⟩
def ruleS (r : Rul) : ByteArray := if ruleOk r then ruleL r else ⟨#[]⟩
def ruleE (r : Rul) : Int := if ruleOk r then 0 else 2
theorem rule_no {x : Rul} (h : ruleOk x = false) : ruleS x = ⟨#[]⟩ ∧ ruleE x = 2 := by unfold ruleS ruleE; rw [h]; exact ⟨rfl, rfl⟩
theorem rule_yes {x : Rul} (h : ruleOk x = true) : ruleS x = ruleL x ∧ ruleE x = 0 := by unfold ruleS ruleE; rw [h]; exact ⟨rfl, rfl⟩
theorem commasL_size (b : List Lit) (h : ∀ x ∈ b, x.p.size ≤ 1048576) (hn : b.length ≤ 256) : (commasL b).size ≤ 1073742336 := by
  have h1 := join_bound [44, 32] ((textsL b).map (·.data.toList)) 4194304 (by
    intro t ht
    obtain ⟨u, hu, rfl⟩ := List.mem_map.1 ht
    rw [Array.length_toList]; exact textsL_size b h u hu)
  rw [List.length_map, textsL, List.length_map] at h1
  have h2 : b.length * ([44, 32].length + 4194304) ≤ 256 * (2 + 4194304) := Nat.mul_le_mul hn (Nat.le_refl _)
  have h3 : (commasL b).size = (Lib.join ((textsL b).map (·.data.toList)) [44, 32]).length := by show (Array.size _) = _; simp
  rw [h3]
  exact Nat.le_trans h1 (Nat.le_trans h2 (by decide))
theorem new_cells3 {w w1 : World} {a b c : Value} {t : TypeId} (hb : Below (w.alloc (.cells #[a, b, c] t)).heap.size (w.alloc (.cells #[a, b, c] t)) w1) : w1.cell? ⟨w.heap.size, 0, none⟩ = some a ∧ w1.cell? ⟨w.heap.size, 1, none⟩ = some b ∧ w1.cell? ⟨w.heap.size, 2, none⟩ = some c := by
  have h : w1.heap[w.heap.size]? = some (.cells #[a, b, c] t) := (hb.block _ (by rw [World.size_alloc]; omega)).trans (heap_alloc_new _ _)
  exact ⟨by simp [World.cell?, h], by simp [World.cell?, h], by simp [World.cell?, h]⟩
set_option maxHeartbeats 1000000 in
set_option maxRecDepth 100000 in
theorem pt_Rule (h : ByteArray) (a : Option Addr) (l : List (Bool × ByteArray)) (cap : Nat) (ba : Option Addr) (b : List Lit) (bcap : Nat) (w : World) (hh : h.size ≤ 1048576) (ht : Terms w a l) (hb : Lits w ba b) :
    Calls Tryd.prog 25 #[.agg #[.string h, .slice a l.length cap, .slice ba b.length bcap]] w fun e w' => e = .returned (.tuple #[.string (ruleS ⟨h, l, b⟩), .int .i64 (ruleE ⟨h, l, b⟩)]) ∧ Below w.heap.size w w' := by
  have hat := fun w ht => pt_Atom h a l cap w hh ht
  have hls := fun w hb => pt_listed_Literal ba b bcap ⟨#[44, 32]⟩ w hb (by decide)
  cases ha : atomOk h l with
  | false =>
    have hS : Hid (ruleS ⟨h, l, b⟩ = ⟨#[]⟩ ∧ ruleE ⟨h, l, b⟩ = 2) := Lib.hid (rule_no (by unfold ruleOk; dsimp only; rw [ha, Bool.false_and, Bool.false_and]))
    have hA : atomS h l = ⟨#[]⟩ ∧ atomE h l = 2 := by unfold atomS atomE; rw [ha]; exact ⟨rfl, rfl⟩
    rw [hA.1, hA.2] at hat
    clear hA ha
    generalize (if okL b = true then (⟨(Lib.join ((textsL b).map (·.data.toList)) (ByteArray.mk #[44, 32]).data.toList).toArray⟩ : ByteArray) else ⟨#[]⟩) = X at hls
    generalize okL b = O at hls
    go_enter Tryd.func25, Tryd.ntmps25
    go_wp2_with (first
      | (go_at_call 45; refine (hls _ ((hb.new _).below hb1.out)).mono ?_; rintro e w2 ⟨rfl, hb2⟩; replace hb2 := Lib.hid (hb1.out.trans (hb2.mono hb1.out.size)); obtain ⟨hc4, hc5, hc6⟩ := new_cells3 hb2.out)
      | (go_at_call 44; refine (hat _ (ht.new _)).mono ?_; rintro e w1 ⟨rfl, hb1⟩; obtain ⟨hc1, hc2, hc3⟩ := new_cells3 hb1; replace hb1 := Lib.hid hb1))
    go_ret2
    rw [hS.out.1, hS.out.2]
    exact ⟨rfl, ((Below.refl _ _).al _).trans (hb2.out.mono (by rw [World.size_alloc]; omega))⟩
  | true =>
    have hA : atomS h l = atomL h l ∧ atomE h l = 0 := by unfold atomS atomE; rw [ha]; exact ⟨rfl, rfl⟩
    have hsz := atom_small h l hh ha
    rw [hA.1, hA.2] at hat
    clear hA
    cases ho : okL b with
    | false =>
      have hS : Hid (ruleS ⟨h, l, b⟩ = ⟨#[]⟩ ∧ ruleE ⟨h, l, b⟩ = 2) := Lib.hid (rule_no (by unfold ruleOk; dsimp only; rw [ho, Bool.and_false, Bool.false_and]))
      rw [ho] at hls
      clear ha
      generalize atomL h l = S at hat hsz
      go_enter Tryd.func25, Tryd.ntmps25
      go_wp2_with (first
        | (go_at_call 45; refine (hls _ ((hb.new _).below hb1.out)).mono ?_; rintro e w2 ⟨rfl, hb2⟩; replace hb2 := Lib.hid (hb1.out.trans (hb2.mono hb1.out.size)); obtain ⟨hc4, hc5, hc6⟩ := new_cells3 hb2.out)
        | (go_at_call 44; refine (hat _ (ht.new _)).mono ?_; rintro e w1 ⟨rfl, hb1⟩; obtain ⟨hc1, hc2, hc3⟩ := new_cells3 hb1; replace hb1 := Lib.hid hb1))
      go_ret2
      rw [hS.out.1, hS.out.2]
      exact ⟨rfl, ((Below.refl _ _).al _).trans (hb2.out.mono (by rw [World.size_alloc]; omega))⟩
    | true =>
      rw [ho, if_pos rfl, show (⟨(Lib.join ((textsL b).map (·.data.toList)) (ByteArray.mk #[44, 32]).data.toList).toArray⟩ : ByteArray) = commasL b from rfl] at hls
      by_cases h256 : b.length ≤ 256
      · have hcs := commasL_size b (fun x hx => (hb.size x hx).1) h256
        have hok : ruleOk ⟨h, l, b⟩ = true := by unfold ruleOk; dsimp only; rw [ha, ho, decide_eq_true h256]; rfl
        by_cases h0 : b.length = 0
        · have hS : Hid (ruleS ⟨h, l, b⟩ = atomL h l ++ ⟨#[46]⟩ ∧ ruleE ⟨h, l, b⟩ = 0) := Lib.hid ((rule_yes hok).imp (fun h => h.trans (by unfold ruleL; dsimp only; rw [if_pos h0])) id)
          clear ha ho hok
          generalize atomL h l = S at hat hsz hS
          have hg : Hid (ruleS ⟨h, l, b⟩ = S ++ ⟨#[46]⟩ ∧ ruleE ⟨h, l, b⟩ = 0) := hS
          rw [h0] at hls
          rw [h0]
          go_enter Tryd.func25, Tryd.ntmps25
          go_wp2_with (first
            | (go_at_call 45; refine (hls _ ((hb.new _).below hb1.out)).mono ?_; rintro e w2 ⟨rfl, hb2⟩; replace hb2 := Lib.hid (hb1.out.trans (hb2.mono hb1.out.size)); obtain ⟨hc4, hc5, hc6⟩ := new_cells3 hb2.out)
            | (go_at_call 44; refine (hat _ (ht.new _)).mono ?_; rintro e w1 ⟨rfl, hb1⟩; obtain ⟨hc1, hc2, hc3⟩ := new_cells3 hb1; replace hb1 := Lib.hid hb1))
          go_ret2
          rw [hS.out.1, hS.out.2]
          exact ⟨rfl, ((Below.refl _ _).al _).trans (hb2.out.mono (by rw [World.size_alloc]; omega))⟩
        · have hS : Hid (ruleS ⟨h, l, b⟩ = atomL h l ++ (⟨#[32, 58, 45, 32]⟩ ++ commasL b) ++ ⟨#[46]⟩ ∧ ruleE ⟨h, l, b⟩ = 0) := Lib.hid ((rule_yes hok).imp (fun h => h.trans (by unfold ruleL; dsimp only; rw [if_neg h0])) id)
          have h0' : 0 < b.length := by omega
          clear ha ho hok h0
          generalize atomL h l = S at hat hsz hS
          generalize commasL b = B at hls hcs hS
          go_enter Tryd.func25, Tryd.ntmps25
          go_wp2_with (first
            | (go_at_call 45; refine (hls _ ((hb.new _).below hb1.out)).mono ?_; rintro e w2 ⟨rfl, hb2⟩; replace hb2 := Lib.hid (hb1.out.trans (hb2.mono hb1.out.size)); obtain ⟨hc4, hc5, hc6⟩ := new_cells3 hb2.out)
            | (go_at_call 44; refine (hat _ (ht.new _)).mono ?_; rintro e w1 ⟨rfl, hb1⟩; obtain ⟨hc1, hc2, hc3⟩ := new_cells3 hb1; replace hb1 := Lib.hid hb1))
          go_ret2
          rw [hS.out.1, hS.out.2]
          exact ⟨rfl, ((Below.refl _ _).al _).trans (hb2.out.mono (by rw [World.size_alloc]; omega))⟩
      · have hS : Hid (ruleS ⟨h, l, b⟩ = ⟨#[]⟩ ∧ ruleE ⟨h, l, b⟩ = 2) := Lib.hid (rule_no (by unfold ruleOk; dsimp only; rw [decide_eq_false h256, Bool.and_false]))
        clear ha ho
        generalize atomL h l = S at hat hsz
        generalize commasL b = B at hls
        go_enter Tryd.func25, Tryd.ntmps25
        go_wp2_with (first
          | (go_at_call 45; refine (hls _ ((hb.new _).below hb1.out)).mono ?_; rintro e w2 ⟨rfl, hb2⟩; replace hb2 := Lib.hid (hb1.out.trans (hb2.mono hb1.out.size)); obtain ⟨hc4, hc5, hc6⟩ := new_cells3 hb2.out)
          | (go_at_call 44; refine (hat _ (ht.new _)).mono ?_; rintro e w1 ⟨rfl, hb1⟩; obtain ⟨hc1, hc2, hc3⟩ := new_cells3 hb1; replace hb1 := Lib.hid hb1))
        go_ret2
        rw [hS.out.1, hS.out.2]
        exact ⟨rfl, ((Below.refl _ _).al _).trans (hb2.out.mono (by rw [World.size_alloc]; omega))⟩
end Go.Proofs.YtclioihichcpiaaDoor
