/- Print: atoms and literals, in the document. (gen_prr.py) -/
import Derived.Test.YtclioihichcpiaaPrQ
import Derived.Deep.RegionWith
namespace Go.Proofs.Ytclioihichcpiaa
open Go.RowKit Go.Shelf Lx
set_option maxHeartbeats 1000000 in
set_option maxRecDepth 100000 in
theorem rq_Atom (p : ByteArray) (a : Option Addr) (l : List (Bool × ByteArray)) (cap : Nat) (w : World) (hp : p.size ≤ 1048576) (ht : Terms w a l) :
    Calls Try.prog 13 #[.agg #[.string p, .slice a l.length cap]] w fun e w' => e = .returned (.tuple #[.string (atomS p l), .int .i64 (atomE p l)]) ∧ Below w.heap.size w w' := by
  have hk := fun w ht => rk_Atom p a l cap w hp ht
  cases ha : atomOk p l with
  | false =>
    have hS : Hid (atomS p l = ⟨#[]⟩ ∧ atomE p l = 2) := Lib.hid (by unfold atomS atomE; rw [ha]; exact ⟨rfl, rfl⟩)
    rw [ha] at hk
    go_enter Try.func13, Try.ntmps13
    go_wp2_with (go_at_call 36; refine (hk _ (ht.new _)).mono ?_; rintro e w1 ⟨rfl, hb1⟩; obtain ⟨hc1, hc2⟩ := new_cells hb1; replace hb1 := Lib.hid hb1)
    go_ret2
    rw [hS.out.1, hS.out.2]
    exact ⟨rfl, atom_cells hb1.out⟩
  | true =>
    have hS : Hid (atomS p l = atomL p l ∧ atomE p l = 0) := Lib.hid (by unfold atomS atomE; rw [ha]; exact ⟨rfl, rfl⟩)
    have hq := fun w ht => rq_atom p a l cap w hp ht (by unfold atomOk at ha; simp at ha; omega) (by unfold atomOk at ha; simp at ha; exact ha.1.1)
    rw [ha] at hk
    generalize atomL p l = X at hS hq
    go_enter Try.func13, Try.ntmps13
    go_wp2_with (first
      | (go_at_call 37; refine (hq _ ((ht.new _).below hb1.out)).mono ?_; rintro e w2 ⟨rfl, hb2⟩; replace hb2 := Lib.hid (hb1.out.trans (hb2.mono hb1.out.size)))
      | (go_at_call 36; refine (hk _ (ht.new _)).mono ?_; rintro e w1 ⟨rfl, hb1⟩; obtain ⟨hc1, hc2⟩ := new_cells hb1; replace hb1 := Lib.hid hb1))
    go_ret2
    rw [hS.out.1, hS.out.2]
    exact ⟨rfl, atom_cells hb2.out⟩
theorem new_cells7 {w w1 : World} {a b c d e f g x y : Value} {t u : TypeId} (hb : Below ((w.alloc (.cells #[a, b, c, d, e, f, g] t)).alloc (.cells #[x, y] u)).heap.size ((w.alloc (.cells #[a, b, c, d, e, f, g] t)).alloc (.cells #[x, y] u)) w1) : (w1.cell? ⟨w.heap.size, 0, none⟩ = some a ∧ w1.cell? ⟨w.heap.size, 1, none⟩ = some b ∧ w1.cell? ⟨w.heap.size, 2, none⟩ = some c ∧ w1.cell? ⟨w.heap.size, 3, none⟩ = some d ∧ w1.cell? ⟨w.heap.size, 4, none⟩ = some e ∧ w1.cell? ⟨w.heap.size, 5, none⟩ = some f ∧ w1.cell? ⟨w.heap.size, 6, none⟩ = some g) ∧ w1.cell? ⟨w.heap.size + 1, 0, none⟩ = some x ∧ w1.cell? ⟨w.heap.size + 1, 1, none⟩ = some y := by
  have h : w1.heap[w.heap.size]? = some (.cells #[a, b, c, d, e, f, g] t) := (hb.block _ (by rw [World.size_alloc, World.size_alloc]; omega)).trans (by rw [heap_alloc_old]; exact heap_alloc_new _ _; rw [World.size_alloc]; omega)
  have h2 : w1.heap[w.heap.size + 1]? = some (.cells #[x, y] u) := (hb.block _ (by rw [World.size_alloc, World.size_alloc]; omega)).trans (heap_second _ _ _)
  exact ⟨⟨by simp [World.cell?, h], by simp [World.cell?, h], by simp [World.cell?, h], by simp [World.cell?, h], by simp [World.cell?, h], by simp [World.cell?, h], by simp [World.cell?, h]⟩, by simp [World.cell?, h2], by simp [World.cell?, h2]⟩
theorem lit_cells {w w1 : World} {o o2 : Obj} (hb : Below ((w.alloc o).alloc o2).heap.size ((w.alloc o).alloc o2) w1) : Below w.heap.size w w1 := (((Below.refl _ _).al _).al _).trans (hb.mono (by rw [World.size_alloc, World.size_alloc]; omega))
set_option maxHeartbeats 1000000 in
set_option maxRecDepth 100000 in
theorem rk_Literal_1 (p : ByteArray) (a : Option Addr) (l : List (Bool × ByteArray)) (cap : Nat) (lv rv : Bool) (lt rt : ByteArray) (w : World) (hp : p.size ≤ 1048576) (ht : Terms w a l) :
    Calls Try.prog 33 #[.agg #[.int .i64 1, .string p, .slice a l.length cap, .bool lv, .string lt, .bool rv, .string rt]] w fun e w' => e = .returned (.bool (litOk ⟨1, p, l, (lv, lt), (rv, rt)⟩)) ∧ Below w.heap.size w w' := by
  have hk := fun w ht => rk_Atom p a l cap w hp ht
  cases ha : atomOk p l with
  | false =>
    have hS : Hid (litOk ⟨1, p, l, (lv, lt), (rv, rt)⟩ = false) := Lib.hid (by unfold litOk; rw [if_neg (show ¬ ((1 : Int) = 3) from by decide)]; dsimp only; rw [ha, Bool.and_false, Bool.false_and])
    rw [ha] at hk
    go_enter Try.func33, Try.ntmps33
    go_wp2_with (go_at_call 36; refine (hk _ ((ht.new _).new _)).mono ?_; rintro e w1 ⟨rfl, hb1⟩; obtain ⟨⟨hc1, hc2, hc3, hc4, hc5, hc6, hc7⟩, hc8, hc9⟩ := new_cells7 hb1; replace hb1 := Lib.hid hb1)
    all_goals (go_ret; rw [hS.out]; exact ⟨rfl, lit_cells hb1.out⟩)
  | true =>
    rw [ha] at hk
    cases hz : zeroT (lv, lt) && zeroT (rv, rt) with
    | true =>
      have hz1 := (Bool.and_eq_true_iff.1 hz).1
      have hz2 := (Bool.and_eq_true_iff.1 hz).2
      unfold zeroT at hz1 hz2
      simp at hz1 hz2
      obtain ⟨rfl, h1⟩ := hz1
      obtain ⟨rfl, h2⟩ := hz2
      have hS : Hid (litOk ⟨1, p, l, (false, lt), (false, rt)⟩ = true) := Lib.hid (by unfold litOk; rw [if_neg (show ¬ ((1 : Int) = 3) from by decide)]; dsimp only; rw [ha, hz]; rfl)
      clear hz ha
      go_enter Try.func33, Try.ntmps33
      go_wp2_with (go_at_call 36; refine (hk _ ((ht.new _).new _)).mono ?_; rintro e w1 ⟨rfl, hb1⟩; obtain ⟨⟨hc1, hc2, hc3, hc4, hc5, hc6, hc7⟩, hc8, hc9⟩ := new_cells7 hb1; replace hb1 := Lib.hid hb1)
      all_goals (go_ret; rw [hS.out]; exact ⟨rfl, lit_cells hb1.out⟩)
    | false =>
      have hS : Hid (litOk ⟨1, p, l, (lv, lt), (rv, rt)⟩ = false) := Lib.hid (by unfold litOk; rw [if_neg (show ¬ ((1 : Int) = 3) from by decide)]; dsimp only; rw [hz, Bool.and_false])
      clear ha
      unfold zeroT at hz
      have hz' : lv = true ∨ (lv = false ∧ ¬ lt.toList = []) ∨ (lv = false ∧ lt.toList = [] ∧ rv = true) ∨ (lv = false ∧ lt.toList = [] ∧ rv = false ∧ ¬ rt.toList = []) := by
        cases lv <;> cases rv <;> simp at hz ⊢
        · by_cases h : lt.toList = []
          · exact .inr ⟨h, hz h⟩
          · exact .inl h
        · by_cases h : lt.toList = []
          · exact .inr h
          · exact .inl h
      clear hz
      rcases hz' with rfl | ⟨rfl, h1⟩ | ⟨rfl, h1, rfl⟩ | ⟨rfl, h1, rfl, h2⟩
      all_goals go_enter Try.func33, Try.ntmps33
      all_goals go_wp2_with (go_at_call 36; refine (hk _ ((ht.new _).new _)).mono ?_; rintro e w1 ⟨rfl, hb1⟩; obtain ⟨⟨hc1, hc2, hc3, hc4, hc5, hc6, hc7⟩, hc8, hc9⟩ := new_cells7 hb1; replace hb1 := Lib.hid hb1)
      all_goals (go_ret; rw [hS.out]; exact ⟨rfl, lit_cells hb1.out⟩)
set_option maxHeartbeats 1000000 in
set_option maxRecDepth 100000 in
theorem rk_Literal_2 (p : ByteArray) (a : Option Addr) (l : List (Bool × ByteArray)) (cap : Nat) (lv rv : Bool) (lt rt : ByteArray) (w : World) (hp : p.size ≤ 1048576) (ht : Terms w a l) :
    Calls Try.prog 33 #[.agg #[.int .i64 2, .string p, .slice a l.length cap, .bool lv, .string lt, .bool rv, .string rt]] w fun e w' => e = .returned (.bool (litOk ⟨2, p, l, (lv, lt), (rv, rt)⟩)) ∧ Below w.heap.size w w' := by
  have hk := fun w ht => rk_Atom p a l cap w hp ht
  cases ha : atomOk p l with
  | false =>
    have hS : Hid (litOk ⟨2, p, l, (lv, lt), (rv, rt)⟩ = false) := Lib.hid (by unfold litOk; rw [if_neg (show ¬ ((2 : Int) = 3) from by decide)]; dsimp only; rw [ha, Bool.and_false, Bool.false_and])
    rw [ha] at hk
    go_enter Try.func33, Try.ntmps33
    go_wp2_with (go_at_call 36; refine (hk _ ((ht.new _).new _)).mono ?_; rintro e w1 ⟨rfl, hb1⟩; obtain ⟨⟨hc1, hc2, hc3, hc4, hc5, hc6, hc7⟩, hc8, hc9⟩ := new_cells7 hb1; replace hb1 := Lib.hid hb1)
    all_goals (go_ret; rw [hS.out]; exact ⟨rfl, lit_cells hb1.out⟩)
  | true =>
    rw [ha] at hk
    cases hz : zeroT (lv, lt) && zeroT (rv, rt) with
    | true =>
      have hz1 := (Bool.and_eq_true_iff.1 hz).1
      have hz2 := (Bool.and_eq_true_iff.1 hz).2
      unfold zeroT at hz1 hz2
      simp at hz1 hz2
      obtain ⟨rfl, h1⟩ := hz1
      obtain ⟨rfl, h2⟩ := hz2
      have hS : Hid (litOk ⟨2, p, l, (false, lt), (false, rt)⟩ = true) := Lib.hid (by unfold litOk; rw [if_neg (show ¬ ((2 : Int) = 3) from by decide)]; dsimp only; rw [ha, hz]; rfl)
      clear hz ha
      go_enter Try.func33, Try.ntmps33
      go_wp2_with (go_at_call 36; refine (hk _ ((ht.new _).new _)).mono ?_; rintro e w1 ⟨rfl, hb1⟩; obtain ⟨⟨hc1, hc2, hc3, hc4, hc5, hc6, hc7⟩, hc8, hc9⟩ := new_cells7 hb1; replace hb1 := Lib.hid hb1)
      all_goals (go_ret; rw [hS.out]; exact ⟨rfl, lit_cells hb1.out⟩)
    | false =>
      have hS : Hid (litOk ⟨2, p, l, (lv, lt), (rv, rt)⟩ = false) := Lib.hid (by unfold litOk; rw [if_neg (show ¬ ((2 : Int) = 3) from by decide)]; dsimp only; rw [hz, Bool.and_false])
      clear ha
      unfold zeroT at hz
      have hz' : lv = true ∨ (lv = false ∧ ¬ lt.toList = []) ∨ (lv = false ∧ lt.toList = [] ∧ rv = true) ∨ (lv = false ∧ lt.toList = [] ∧ rv = false ∧ ¬ rt.toList = []) := by
        cases lv <;> cases rv <;> simp at hz ⊢
        · by_cases h : lt.toList = []
          · exact .inr ⟨h, hz h⟩
          · exact .inl h
        · by_cases h : lt.toList = []
          · exact .inr h
          · exact .inl h
      clear hz
      rcases hz' with rfl | ⟨rfl, h1⟩ | ⟨rfl, h1, rfl⟩ | ⟨rfl, h1, rfl, h2⟩
      all_goals go_enter Try.func33, Try.ntmps33
      all_goals go_wp2_with (go_at_call 36; refine (hk _ ((ht.new _).new _)).mono ?_; rintro e w1 ⟨rfl, hb1⟩; obtain ⟨⟨hc1, hc2, hc3, hc4, hc5, hc6, hc7⟩, hc8, hc9⟩ := new_cells7 hb1; replace hb1 := Lib.hid hb1)
      all_goals (go_ret; rw [hS.out]; exact ⟨rfl, lit_cells hb1.out⟩)
set_option maxHeartbeats 1000000 in
set_option maxRecDepth 100000 in
theorem rk_Literal_3 (p : ByteArray) (a : Option Addr) (l : List (Bool × ByteArray)) (cap : Nat) (lv rv : Bool) (lt rt : ByteArray) (w : World) (hl : lt.size ≤ 1048576) (hr : rt.size ≤ 1048576) :
    Calls Try.prog 33 #[.agg #[.int .i64 3, .string p, .slice a l.length cap, .bool lv, .string lt, .bool rv, .string rt]] w fun e w' => e = .returned (.bool (litOk ⟨3, p, l, (lv, lt), (rv, rt)⟩)) ∧ Below w.heap.size w w' := by
  have hr1 := fun w => rk_Term lv lt w hl
  have hr2 := fun w => rk_Term rv rt w hr
  have hL : Hid (litOk ⟨3, p, l, (lv, lt), (rv, rt)⟩ = (termOk lv (bl lt) && termOk rv (bl rt) && decide (p.toList = []) && decide (l.length = 0))) := Lib.hid (by unfold litOk okT; rw [if_pos rfl]; simp)
  generalize termOk lv (bl lt) = o1 at hr1 hL
  generalize termOk rv (bl rt) = o2 at hr2 hL
  cases o1 with
  | false =>
    go_enter Try.func33, Try.ntmps33
    go_wp2_with (go_at_call 39; refine (hr1 _).mono ?_; rintro e w1 ⟨rfl, hb1⟩; obtain ⟨⟨hc1, hc2, hc3, hc4, hc5, hc6, hc7⟩, hc8, hc9⟩ := new_cells7 hb1; replace hb1 := Lib.hid hb1)
    all_goals (go_ret; rw [hL.out]; exact ⟨rfl, lit_cells hb1.out⟩)
  | true =>
    cases o2 with
    | false =>
      go_enter Try.func33, Try.ntmps33
      go_wp2_with (first
      | (go_at_call 39; have hg := hb1.out; clear hg; refine (hr2 _).mono ?_; rintro e w2 ⟨rfl, hb2⟩; replace hb2 := Lib.hid (hb1.out.trans (hb2.mono hb1.out.size)); obtain ⟨⟨hd1, hd2, hd3, hd4, hd5, hd6, hd7⟩, hd8, hd9⟩ := new_cells7 hb2.out)
      | (go_at_call 39; refine (hr1 _).mono ?_; rintro e w1 ⟨rfl, hb1⟩; obtain ⟨⟨hc1, hc2, hc3, hc4, hc5, hc6, hc7⟩, hc8, hc9⟩ := new_cells7 hb1; replace hb1 := Lib.hid hb1))
      all_goals (go_ret; rw [hL.out]; exact ⟨rfl, lit_cells hb2.out⟩)
    | true =>
      by_cases hp : p.toList = []
      · by_cases h0 : l.length = 0
        · have hS := Lib.hid (hL.out.trans (by rw [decide_eq_true hp, decide_eq_true h0]))
          have h0' : ((l.length : Int) == 0) = true := by rw [beq_iff_eq]; omega
          go_enter Try.func33, Try.ntmps33
          go_wp2_with (first
      | (go_at_call 39; have hg := hb1.out; clear hg; refine (hr2 _).mono ?_; rintro e w2 ⟨rfl, hb2⟩; replace hb2 := Lib.hid (hb1.out.trans (hb2.mono hb1.out.size)); obtain ⟨⟨hd1, hd2, hd3, hd4, hd5, hd6, hd7⟩, hd8, hd9⟩ := new_cells7 hb2.out)
      | (go_at_call 39; refine (hr1 _).mono ?_; rintro e w1 ⟨rfl, hb1⟩; obtain ⟨⟨hc1, hc2, hc3, hc4, hc5, hc6, hc7⟩, hc8, hc9⟩ := new_cells7 hb1; replace hb1 := Lib.hid hb1))
          all_goals (go_ret; rw [hS.out]; exact ⟨rfl, lit_cells hb2.out⟩)
        · have hS := Lib.hid (hL.out.trans (by rw [decide_eq_false h0, Bool.and_false]))
          have h0' : ((l.length : Int) == 0) = false := by rw [beq_eq_false_iff_ne]; omega
          go_enter Try.func33, Try.ntmps33
          go_wp2_with (first
      | (go_at_call 39; have hg := hb1.out; clear hg; refine (hr2 _).mono ?_; rintro e w2 ⟨rfl, hb2⟩; replace hb2 := Lib.hid (hb1.out.trans (hb2.mono hb1.out.size)); obtain ⟨⟨hd1, hd2, hd3, hd4, hd5, hd6, hd7⟩, hd8, hd9⟩ := new_cells7 hb2.out)
      | (go_at_call 39; refine (hr1 _).mono ?_; rintro e w1 ⟨rfl, hb1⟩; obtain ⟨⟨hc1, hc2, hc3, hc4, hc5, hc6, hc7⟩, hc8, hc9⟩ := new_cells7 hb1; replace hb1 := Lib.hid hb1))
          all_goals (go_ret; rw [hS.out]; exact ⟨rfl, lit_cells hb2.out⟩)
      · have hS := Lib.hid (hL.out.trans (by rw [decide_eq_false hp, Bool.and_false, Bool.false_and]))
        go_enter Try.func33, Try.ntmps33
        go_wp2_with (first
      | (go_at_call 39; have hg := hb1.out; clear hg; refine (hr2 _).mono ?_; rintro e w2 ⟨rfl, hb2⟩; replace hb2 := Lib.hid (hb1.out.trans (hb2.mono hb1.out.size)); obtain ⟨⟨hd1, hd2, hd3, hd4, hd5, hd6, hd7⟩, hd8, hd9⟩ := new_cells7 hb2.out)
      | (go_at_call 39; refine (hr1 _).mono ?_; rintro e w1 ⟨rfl, hb1⟩; obtain ⟨⟨hc1, hc2, hc3, hc4, hc5, hc6, hc7⟩, hc8, hc9⟩ := new_cells7 hb1; replace hb1 := Lib.hid hb1))
        all_goals (go_ret; rw [hS.out]; exact ⟨rfl, lit_cells hb2.out⟩)
set_option maxHeartbeats 1000000 in
set_option maxRecDepth 100000 in
theorem rk_Literal_0 (k : Int) (p : ByteArray) (a : Option Addr) (l : List (Bool × ByteArray)) (cap : Nat) (lv rv : Bool) (lt rt : ByteArray) (w : World) (h1 : ¬ k = 1) (h2 : ¬ k = 2) (h3 : ¬ k = 3) :
    Calls Try.prog 33 #[.agg #[.int .i64 k, .string p, .slice a l.length cap, .bool lv, .string lt, .bool rv, .string rt]] w fun e w' => e = .returned (.bool (litOk ⟨k, p, l, (lv, lt), (rv, rt)⟩)) ∧ Below w.heap.size w w' := by
  have hS : Hid (litOk ⟨k, p, l, (lv, lt), (rv, rt)⟩ = false) := Lib.hid (by unfold litOk; rw [if_neg h3]; dsimp only; rw [decide_eq_false h1, decide_eq_false h2]; rfl)
  have k1 : (k == 1) = false := by rw [beq_eq_false_iff_ne]; exact h1
  have k2 : (k == 2) = false := by rw [beq_eq_false_iff_ne]; exact h2
  have k3 : (k == 3) = false := by rw [beq_eq_false_iff_ne]; exact h3
  clear h1 h2 h3
  go_enter Try.func33, Try.ntmps33
  go_wp2_with fail
  all_goals (go_ret; rw [hS.out]; exact ⟨rfl, ((Below.refl _ _).al _).al _⟩)
theorem rk_Literal (x : Lit) (a : Option Addr) (cap : Nat) (w : World) (hp : x.p.size ≤ 1048576) (ht : Terms w a x.a) (hl : x.l.2.size ≤ 1048576) (hr : x.r.2.size ≤ 1048576) :
    Calls Try.prog 33 #[.agg (litV x a cap)] w fun e w' => e = .returned (.bool (litOk x)) ∧ Below w.heap.size w w' := by
  obtain ⟨k, p, l, ⟨lv, lt⟩, ⟨rv, rt⟩⟩ := x
  unfold litV
  dsimp only at hp ht hl hr ⊢
  by_cases h1 : k = 1
  · subst h1; exact rk_Literal_1 p a l cap lv rv lt rt w hp ht
  · by_cases h2 : k = 2
    · subst h2; exact rk_Literal_2 p a l cap lv rv lt rt w hp ht
    · by_cases h3 : k = 3
      · subst h3; exact rk_Literal_3 p a l cap lv rv lt rt w hl hr
      · exact rk_Literal_0 k p a l cap lv rv lt rt w h1 h2 h3
theorem join_two (sep x y : List UInt8) : Lib.join [x, y] sep = x ++ sep ++ y := by rw [Lib.join_cons]; simp [Lib.joinTail]
theorem bothL_eq (x y : Bool × ByteArray) : bothL x y = mk (termL x.1 (bl x.2)) ++ ⟨#[32, 33, 61, 32]⟩ ++ mk (termL y.1 (bl y.2)) := by
  have bl_append : ∀ a b : ByteArray, bl (a ++ b) = bl a ++ bl b := fun a b => by show (a ++ b).data.toList = _; rw [ByteArray.data_append, Array.toList_append]
  apply bl_inj
  rw [bl_append, bl_append]
  unfold bothL
  show (Lib.join _ _).toArray.toList = _
  rw [List.toList_toArray]
  exact join_two [32, 33, 61, 32] (mk (termL x.1 (bl x.2))).data.toList (mk (termL y.1 (bl y.2))).data.toList
theorem one_cell {w w1 : World} {o : Obj} (hb : Below (w.alloc o).heap.size (w.alloc o) w1) : Below w.heap.size w w1 := ((Below.refl _ _).al _).trans (hb.mono (by rw [World.size_alloc]; omega))
theorem cells7 {w w1 : World} {a b c d e f g : Value} {t : TypeId} (hb : Below (w.alloc (.cells #[a, b, c, d, e, f, g] t)).heap.size (w.alloc (.cells #[a, b, c, d, e, f, g] t)) w1) : w1.cell? ⟨w.heap.size, 0, none⟩ = some a ∧ w1.cell? ⟨w.heap.size, 1, none⟩ = some b ∧ w1.cell? ⟨w.heap.size, 2, none⟩ = some c ∧ w1.cell? ⟨w.heap.size, 3, none⟩ = some d ∧ w1.cell? ⟨w.heap.size, 4, none⟩ = some e ∧ w1.cell? ⟨w.heap.size, 5, none⟩ = some f ∧ w1.cell? ⟨w.heap.size, 6, none⟩ = some g := by
  have h : w1.heap[w.heap.size]? = some (.cells #[a, b, c, d, e, f, g] t) := (hb.block _ (by rw [World.size_alloc]; omega)).trans (heap_alloc_new _ _)
  exact ⟨by simp [World.cell?, h], by simp [World.cell?, h], by simp [World.cell?, h], by simp [World.cell?, h], by simp [World.cell?, h], by simp [World.cell?, h], by simp [World.cell?, h]⟩
theorem lit_atom {x : Lit} (h3 : ¬ x.k = 3) (h : litOk x = true) : atomOk x.p x.a = true := by
  unfold litOk at h
  rw [if_neg h3] at h
  cases ho : atomOk x.p x.a
  · rw [ho, Bool.and_false, Bool.false_and] at h; cases h
  · rfl
set_option maxHeartbeats 1000000 in
set_option maxRecDepth 100000 in
theorem rq_literal_1 (p : ByteArray) (a : Option Addr) (l : List (Bool × ByteArray)) (cap : Nat) (lv rv : Bool) (lt rt : ByteArray) (w : World) (hp : p.size ≤ 1048576) (ht : Terms w a l) (ha : atomOk p l = true) :
    Calls Try.prog 34 #[.agg #[.int .i64 1, .string p, .slice a l.length cap, .bool lv, .string lt, .bool rv, .string rt]] w fun e w' => e = .returned (.string (atomL p l)) ∧ Below w.heap.size w w' := by
  have hk := fun w ht => rq_atom p a l cap w hp ht (by unfold atomOk at ha; simp at ha; omega) (by unfold atomOk at ha; simp at ha; exact ha.1.1)
  have hsz := atom_small p l hp ha
  generalize atomL p l = X at hk hsz ⊢
  go_enter Try.func34, Try.ntmps34
  go_wp2_with (go_at_call 37; refine (hk _ (ht.new _)).mono ?_; rintro e w1 ⟨rfl, hb1⟩; replace hb1 := Lib.hid hb1)
  go_ret
  exact ⟨rfl, one_cell hb1.out⟩
set_option maxHeartbeats 1000000 in
set_option maxRecDepth 100000 in
theorem rq_literal_2 (p : ByteArray) (a : Option Addr) (l : List (Bool × ByteArray)) (cap : Nat) (lv rv : Bool) (lt rt : ByteArray) (w : World) (hp : p.size ≤ 1048576) (ht : Terms w a l) (ha : atomOk p l = true) :
    Calls Try.prog 34 #[.agg #[.int .i64 2, .string p, .slice a l.length cap, .bool lv, .string lt, .bool rv, .string rt]] w fun e w' => e = .returned (.string (⟨#[110, 111, 116, 32]⟩ ++ atomL p l)) ∧ Below w.heap.size w w' := by
  have hk := fun w ht => rq_atom p a l cap w hp ht (by unfold atomOk at ha; simp at ha; omega) (by unfold atomOk at ha; simp at ha; exact ha.1.1)
  have hsz := atom_small p l hp ha
  generalize atomL p l = X at hk hsz ⊢
  go_enter Try.func34, Try.ntmps34
  go_wp2_with (go_at_call 37; refine (hk _ (ht.new _)).mono ?_; rintro e w1 ⟨rfl, hb1⟩; replace hb1 := Lib.hid hb1)
  go_ret
  exact ⟨rfl, one_cell hb1.out⟩
set_option maxHeartbeats 1000000 in
set_option maxRecDepth 100000 in
theorem rq_literal_3 (p : ByteArray) (a : Option Addr) (l : List (Bool × ByteArray)) (cap : Nat) (lv rv : Bool) (lt rt : ByteArray) (w : World) (hl : lt.size ≤ 1048576) (hr : rt.size ≤ 1048576) (h1 : termOk lv (bl lt) = true) (h2 : termOk rv (bl rt) = true) :
    Calls Try.prog 34 #[.agg #[.int .i64 3, .string p, .slice a l.length cap, .bool lv, .string lt, .bool rv, .string rt]] w fun e w' => e = .returned (.string (bothL (lv, lt) (rv, rt))) ∧ Below w.heap.size w w' := by
  have hr1 := fun w => rq_term lv lt w hl h1
  have hr2 := fun w => rq_term rv rt w hr h2
  have hz1 := termL_size lv (bl lt)
  have hz2 := termL_size rv (bl rt)
  rw [bothL_eq]
  dsimp only
  generalize mk (termL lv (bl lt)) = X at hr1 hz1 ⊢
  generalize mk (termL rv (bl rt)) = Y at hr2 hz2 ⊢
  go_enter Try.func34, Try.ntmps34
  go_wp2_with fail
  go_region_with (first
      | (go_at_call 40; have hg := hb1.out; clear hg; refine (hr2 _).mono ?_; rintro e w2 ⟨rfl, hb2⟩; replace hb2 := Lib.hid (hb1.out.trans (hb2.mono hb1.out.size)))
      | (go_at_call 40; refine (hr1 _).mono ?_; rintro e w1 ⟨rfl, hb1⟩; replace hb1 := (Below.refl _ (w.alloc _)).drew.trans hb1; obtain ⟨hc1, hc2, hc3, hc4, hc5, hc6, hc7⟩ := cells7 hb1; replace hb1 := Lib.hid hb1))
  all_goals go_wp2_with fail
  all_goals (go_ret; exact ⟨rfl, one_cell hb2.out⟩)
theorem rq_literal (x : Lit) (a : Option Addr) (cap : Nat) (w : World) (hp : x.p.size ≤ 1048576) (ht : Terms w a x.a) (hl : x.l.2.size ≤ 1048576) (hr : x.r.2.size ≤ 1048576) (hok : litOk x = true) :
    Calls Try.prog 34 #[.agg (litV x a cap)] w fun e w' => e = .returned (.string (litL x)) ∧ Below w.heap.size w w' := by
  have hat : ¬ x.k = 3 → atomOk x.p x.a = true := fun h3 => lit_atom h3 hok
  obtain ⟨k, p, l, ⟨lv, lt⟩, ⟨rv, rt⟩⟩ := x
  unfold litV litL
  dsimp only at hp ht hl hr hat ⊢
  by_cases h1 : k = 1
  · subst h1
    rw [if_neg (by decide), if_neg (by decide)]
    exact rq_literal_1 p a l cap lv rv lt rt w hp ht (hat (by decide))
  · by_cases h2 : k = 2
    · subst h2
      rw [if_neg (by decide), if_pos rfl]
      exact rq_literal_2 p a l cap lv rv lt rt w hp ht (hat (by decide))
    · by_cases h3 : k = 3
      · subst h3
        rw [if_pos rfl]
        have h : termOk lv (bl lt) = true ∧ termOk rv (bl rt) = true := by
          unfold litOk okT at hok; rw [if_pos rfl] at hok; simp at hok; exact hok.1.1
        exact rq_literal_3 p a l cap lv rv lt rt w hl hr h.1 h.2
      · exfalso
        unfold litOk at hok
        rw [if_neg h3] at hok
        dsimp only at hok
        rw [decide_eq_false h1, decide_eq_false h2] at hok
        cases hok
theorem new_lit {w w1 : World} {x : Lit} {a : Option Addr} {cap : Nat} {t : TypeId} (hb : Below (w.alloc (.cells (litV x a cap) t)).heap.size (w.alloc (.cells (litV x a cap) t)) w1) : w1.cell? ⟨w.heap.size, 0, none⟩ = some (.int .i64 x.k) ∧ w1.cell? ⟨w.heap.size, 1, none⟩ = some (.string x.p) ∧ w1.cell? ⟨w.heap.size, 2, none⟩ = some (.slice a x.a.length cap) ∧ w1.cell? ⟨w.heap.size, 3, none⟩ = some (.bool x.l.1) ∧ w1.cell? ⟨w.heap.size, 4, none⟩ = some (.string x.l.2) ∧ w1.cell? ⟨w.heap.size, 5, none⟩ = some (.bool x.r.1) ∧ w1.cell? ⟨w.heap.size, 6, none⟩ = some (.string x.r.2) := cells7 hb
set_option maxHeartbeats 1000000 in
set_option maxRecDepth 100000 in
theorem rq_Literal (x : Lit) (a : Option Addr) (cap : Nat) (w : World) (hp : x.p.size ≤ 1048576) (ht : Terms w a x.a) (hl : x.l.2.size ≤ 1048576) (hr : x.r.2.size ≤ 1048576) :
    Calls Try.prog 11 #[.agg (litV x a cap)] w fun e w' => e = .returned (.tuple #[.string (litS x), .int .i64 (litE x)]) ∧ Below w.heap.size w w' := by
  have hk := fun w ht => rk_Literal x a cap w hp ht hl hr
  cases ho : litOk x with
  | false =>
    have hS := Lib.hid (lit_no ho)
    rw [ho] at hk
    obtain ⟨k, p, l, ⟨lv, lt⟩, ⟨rv, rt⟩⟩ := x
    unfold litV at hk ⊢
    dsimp only at hk hS ht ⊢
    go_enter Try.func11, Try.ntmps11
    go_wp2_with (go_at_call 33; refine (hk _ (ht.new _)).mono ?_; rintro e w1 ⟨rfl, hb1⟩; replace hb1 := Lib.hid hb1)
    go_ret2
    rw [hS.out.1, hS.out.2]
    exact ⟨rfl, one_cell hb1.out⟩
  | true =>
    have hS := Lib.hid (lit_yes ho)
    have hq := fun w ht => rq_literal x a cap w hp ht hl hr ho
    rw [ho] at hk
    generalize litL x = X at hS hq
    obtain ⟨k, p, l, ⟨lv, lt⟩, ⟨rv, rt⟩⟩ := x
    unfold litV at hk hq ⊢
    dsimp only at hk hq hS ht ⊢
    go_enter Try.func11, Try.ntmps11
    go_wp2_with (first
      | (go_at_call 34; refine (hq _ ((ht.new _).below hb1.out)).mono ?_; rintro e w2 ⟨rfl, hb2⟩; replace hb2 := Lib.hid (hb1.out.trans (hb2.mono hb1.out.size)))
      | (go_at_call 33; refine (hk _ (ht.new _)).mono ?_; rintro e w1 ⟨rfl, hb1⟩; obtain ⟨hc1, hc2, hc3, hc4, hc5, hc6, hc7⟩ := cells7 hb1; replace hb1 := Lib.hid hb1))
    go_ret2
    rw [hS.out.1, hS.out.2]
    exact ⟨rfl, one_cell hb2.out⟩
end Go.Proofs.Ytclioihichcpiaa
