/- Print: a literal of an atom; any literal. -/
import Derived.Test.YtclioihichcpiaaPrJ
namespace Go.Proofs.Ytclioihichcpiaa
open Go.RowKit Go.Shelf Lx
theorem atom_size (p : ByteArray) (l : List (Bool × ByteArray)) (hp : p.size ≤ 1048576) (h : ∀ x ∈ l, x.2.size ≤ 1048576) (ha : atomOk p l = true) : (atomL p l).size ≤ 268435456 := by
  have h16 : l.length ≤ 16 := by unfold atomOk at ha; simp at ha; omega
  have := commas_size l h h16
  unfold atomL
  split
  · omega
  · rw [ByteArray.size_append, ByteArray.size_append, ByteArray.size_append]
    show p.size + 1 + _ + 1 ≤ _
    omega
set_option maxHeartbeats 1000000 in
set_option maxRecDepth 100000 in
theorem pt_Literal_1 (p : ByteArray) (a : Option Addr) (l : List (Bool × ByteArray)) (cap : Nat) (lv rv : Bool) (lt rt : ByteArray) (w : World) (hp : p.size ≤ 1048576) (ht : Terms w a l) :
    Calls Try.prog 10 #[.agg #[.int .i64 1, .string p, .slice a l.length cap, .bool lv, .string lt, .bool rv, .string rt]] w fun e w' => e = .returned (.tuple #[.string (litS ⟨1, p, l, (lv, lt), (rv, rt)⟩), .int .i64 (litE ⟨1, p, l, (lv, lt), (rv, rt)⟩)]) ∧ Below w.heap.size w w' := by
  have hat := fun w ht => pt_Atom p a l cap w hp ht
  cases ha : atomOk p l with
  | false =>
    have hS : Hid (litS ⟨1, p, l, (lv, lt), (rv, rt)⟩ = ⟨#[]⟩ ∧ litE ⟨1, p, l, (lv, lt), (rv, rt)⟩ = 2) := Lib.hid (lit_no (by unfold litOk; rw [if_neg (show ¬ ((1 : Int) = 3) from by decide)]; dsimp only; rw [ha, Bool.and_false, Bool.false_and]))
    have hA : atomS p l = ⟨#[]⟩ ∧ atomE p l = 2 := by unfold atomS atomE; rw [ha]; exact ⟨rfl, rfl⟩
    rw [hA.1, hA.2] at hat
    clear hA ha
    cases lv <;> cases rv
    all_goals go_enter Try.func10, Try.ntmps10
    all_goals go_wp2_with (go_at_call 12; refine (hat _ (ht.new _)).mono ?_; rintro e w1 ⟨rfl, hb1⟩; replace hb1 := Lib.hid hb1)
    all_goals (go_ret2; rw [hS.out.1, hS.out.2]; exact ⟨rfl, ((Below.refl _ _).al _).trans (hb1.out.mono (by rw [World.size_alloc]; omega))⟩)
  | true =>
    have hA : atomS p l = atomL p l ∧ atomE p l = 0 := by unfold atomS atomE; rw [ha]; exact ⟨rfl, rfl⟩
    have hsz := atom_size p l hp ht.size ha
    rw [hA.1, hA.2] at hat
    clear hA
    cases hz : zeroT (lv, lt) && zeroT (rv, rt) with
    | true =>
      have hz1 := (Bool.and_eq_true_iff.1 hz).1
      have hz2 := (Bool.and_eq_true_iff.1 hz).2
      unfold zeroT at hz1 hz2
      simp at hz1 hz2
      obtain ⟨rfl, h1⟩ := hz1
      obtain ⟨rfl, h2⟩ := hz2
      have hS : Hid (litS ⟨1, p, l, (false, lt), (false, rt)⟩ = atomL p l ∧ litE ⟨1, p, l, (false, lt), (false, rt)⟩ = 0) := Lib.hid ((lit_yes (by unfold litOk; rw [if_neg (show ¬ ((1 : Int) = 3) from by decide)]; dsimp only; rw [ha, hz]; rfl)).imp (fun h => h.trans (by unfold litL; rw [if_neg (show ¬ ((1 : Int) = 3) from by decide), if_neg (show ¬ ((1 : Int) = 2) from by decide)])) id)
      generalize atomL p l = X at hat hS hsz
      clear hz ha
      go_enter Try.func10, Try.ntmps10
      go_wp2_with (go_at_call 12; refine (hat _ (ht.new _)).mono ?_; rintro e w1 ⟨rfl, hb1⟩; replace hb1 := Lib.hid hb1)
      go_ret2
      rw [hS.out.1, hS.out.2]
      exact ⟨by rw [show (⟨#[]⟩ : ByteArray) ++ X = X from ByteArray.empty_append]; rfl, ((Below.refl _ _).al _).trans (hb1.out.mono (by rw [World.size_alloc]; omega))⟩
    | false =>
      have hS : Hid (litS ⟨1, p, l, (lv, lt), (rv, rt)⟩ = ⟨#[]⟩ ∧ litE ⟨1, p, l, (lv, lt), (rv, rt)⟩ = 2) := Lib.hid (lit_no (by unfold litOk; rw [if_neg (show ¬ ((1 : Int) = 3) from by decide)]; dsimp only; rw [hz, Bool.and_false]))
      generalize atomL p l = X at hat hsz
      clear ha
      unfold zeroT at hz
      have hz' : lv = true ∨ (lv = false ∧ ¬ lt.toList = []) ∨ (lv = false ∧ lt.toList = [] ∧ rv = true) ∨ (lv = false ∧ lt.toList = [] ∧ rv = false ∧ ¬ rt.toList = []) := by
        cases lv <;> cases rv <;> simp at hz ⊢
        · by_cases h : lt.toList = []
          · exact .inr ⟨h, hz h⟩
          · exact .inl h
        · by_cases h : lt.toList = []
          · exact .inr h
          · exact .inl h
      clear hz
      rcases hz' with rfl | ⟨rfl, h1⟩ | ⟨rfl, h1, rfl⟩ | ⟨rfl, h1, rfl, h2⟩
      all_goals go_enter Try.func10, Try.ntmps10
      all_goals go_wp2_with (go_at_call 12; refine (hat _ (ht.new _)).mono ?_; rintro e w1 ⟨rfl, hb1⟩; replace hb1 := Lib.hid hb1)
      all_goals (go_ret2; rw [hS.out.1, hS.out.2]; exact ⟨rfl, ((Below.refl _ _).al _).trans (hb1.out.mono (by rw [World.size_alloc]; omega))⟩)
set_option maxHeartbeats 1000000 in
set_option maxRecDepth 100000 in
theorem pt_Literal_2 (p : ByteArray) (a : Option Addr) (l : List (Bool × ByteArray)) (cap : Nat) (lv rv : Bool) (lt rt : ByteArray) (w : World) (hp : p.size ≤ 1048576) (ht : Terms w a l) :
    Calls Try.prog 10 #[.agg #[.int .i64 2, .string p, .slice a l.length cap, .bool lv, .string lt, .bool rv, .string rt]] w fun e w' => e = .returned (.tuple #[.string (litS ⟨2, p, l, (lv, lt), (rv, rt)⟩), .int .i64 (litE ⟨2, p, l, (lv, lt), (rv, rt)⟩)]) ∧ Below w.heap.size w w' := by
  have hat := fun w ht => pt_Atom p a l cap w hp ht
  cases ha : atomOk p l with
  | false =>
    have hS : Hid (litS ⟨2, p, l, (lv, lt), (rv, rt)⟩ = ⟨#[]⟩ ∧ litE ⟨2, p, l, (lv, lt), (rv, rt)⟩ = 2) := Lib.hid (lit_no (by unfold litOk; rw [if_neg (show ¬ ((2 : Int) = 3) from by decide)]; dsimp only; rw [ha, Bool.and_false, Bool.false_and]))
    have hA : atomS p l = ⟨#[]⟩ ∧ atomE p l = 2 := by unfold atomS atomE; rw [ha]; exact ⟨rfl, rfl⟩
    rw [hA.1, hA.2] at hat
    clear hA ha
    cases lv <;> cases rv
    all_goals go_enter Try.func10, Try.ntmps10
    all_goals go_wp2_with (go_at_call 12; refine (hat _ (ht.new _)).mono ?_; rintro e w1 ⟨rfl, hb1⟩; replace hb1 := Lib.hid hb1)
    all_goals (go_ret2; rw [hS.out.1, hS.out.2]; exact ⟨rfl, ((Below.refl _ _).al _).trans (hb1.out.mono (by rw [World.size_alloc]; omega))⟩)
  | true =>
    have hA : atomS p l = atomL p l ∧ atomE p l = 0 := by unfold atomS atomE; rw [ha]; exact ⟨rfl, rfl⟩
    have hsz := atom_size p l hp ht.size ha
    rw [hA.1, hA.2] at hat
    clear hA
    cases hz : zeroT (lv, lt) && zeroT (rv, rt) with
    | true =>
      have hz1 := (Bool.and_eq_true_iff.1 hz).1
      have hz2 := (Bool.and_eq_true_iff.1 hz).2
      unfold zeroT at hz1 hz2
      simp at hz1 hz2
      obtain ⟨rfl, h1⟩ := hz1
      obtain ⟨rfl, h2⟩ := hz2
      have hS : Hid (litS ⟨2, p, l, (false, lt), (false, rt)⟩ = (⟨#[110, 111, 116, 32]⟩ ++ atomL p l) ∧ litE ⟨2, p, l, (false, lt), (false, rt)⟩ = 0) := Lib.hid ((lit_yes (by unfold litOk; rw [if_neg (show ¬ ((2 : Int) = 3) from by decide)]; dsimp only; rw [ha, hz]; rfl)).imp (fun h => h.trans (by unfold litL; rw [if_neg (show ¬ ((2 : Int) = 3) from by decide), if_pos rfl])) id)
      generalize atomL p l = X at hat hS hsz
      clear hz ha
      go_enter Try.func10, Try.ntmps10
      go_wp2_with (go_at_call 12; refine (hat _ (ht.new _)).mono ?_; rintro e w1 ⟨rfl, hb1⟩; replace hb1 := Lib.hid hb1)
      go_ret2
      rw [hS.out.1, hS.out.2]
      exact ⟨rfl, ((Below.refl _ _).al _).trans (hb1.out.mono (by rw [World.size_alloc]; omega))⟩
    | false =>
      have hS : Hid (litS ⟨2, p, l, (lv, lt), (rv, rt)⟩ = ⟨#[]⟩ ∧ litE ⟨2, p, l, (lv, lt), (rv, rt)⟩ = 2) := Lib.hid (lit_no (by unfold litOk; rw [if_neg (show ¬ ((2 : Int) = 3) from by decide)]; dsimp only; rw [hz, Bool.and_false]))
      generalize atomL p l = X at hat hsz
      clear ha
      unfold zeroT at hz
      have hz' : lv = true ∨ (lv = false ∧ ¬ lt.toList = []) ∨ (lv = false ∧ lt.toList = [] ∧ rv = true) ∨ (lv = false ∧ lt.toList = [] ∧ rv = false ∧ ¬ rt.toList = []) := by
        cases lv <;> cases rv <;> simp at hz ⊢
        · by_cases h : lt.toList = []
          · exact .inr ⟨h, hz h⟩
          · exact .inl h
        · by_cases h : lt.toList = []
          · exact .inr h
          · exact .inl h
      clear hz
      rcases hz' with rfl | ⟨rfl, h1⟩ | ⟨rfl, h1, rfl⟩ | ⟨rfl, h1, rfl, h2⟩
      all_goals go_enter Try.func10, Try.ntmps10
      all_goals go_wp2_with (go_at_call 12; refine (hat _ (ht.new _)).mono ?_; rintro e w1 ⟨rfl, hb1⟩; replace hb1 := Lib.hid hb1)
      all_goals (go_ret2; rw [hS.out.1, hS.out.2]; exact ⟨rfl, ((Below.refl _ _).al _).trans (hb1.out.mono (by rw [World.size_alloc]; omega))⟩)
set_option maxHeartbeats 1000000 in
set_option maxRecDepth 100000 in
theorem pt_Literal_0 (k : Int) (p : ByteArray) (a : Option Addr) (l : List (Bool × ByteArray)) (cap : Nat) (lv rv : Bool) (lt rt : ByteArray) (w : World) (h1 : ¬ k = 1) (h2 : ¬ k = 2) (h3 : ¬ k = 3) :
    Calls Try.prog 10 #[.agg #[.int .i64 k, .string p, .slice a l.length cap, .bool lv, .string lt, .bool rv, .string rt]] w fun e w' => e = .returned (.tuple #[.string (litS ⟨k, p, l, (lv, lt), (rv, rt)⟩), .int .i64 (litE ⟨k, p, l, (lv, lt), (rv, rt)⟩)]) ∧ Below w.heap.size w w' := by
  have hS : Hid (litS ⟨k, p, l, (lv, lt), (rv, rt)⟩ = ⟨#[]⟩ ∧ litE ⟨k, p, l, (lv, lt), (rv, rt)⟩ = 2) := Lib.hid (lit_no (by unfold litOk; rw [if_neg h3]; dsimp only; rw [decide_eq_false h1, decide_eq_false h2]; rfl))
  have k1 : (k == 1) = false := by rw [beq_eq_false_iff_ne]; exact h1
  have k2 : (k == 2) = false := by rw [beq_eq_false_iff_ne]; exact h2
  have k3 : (k == 3) = false := by rw [beq_eq_false_iff_ne]; exact h3
  clear h1 h2 h3
  cases lv <;> cases rv
  all_goals go_enter Try.func10, Try.ntmps10
  all_goals go_wp2_with fail
  all_goals (go_ret2; rw [hS.out.1, hS.out.2]; exact ⟨rfl, (Below.refl _ _).al _⟩)
theorem pt_Literal (x : Lit) (a : Option Addr) (cap : Nat) (w : World) (hp : x.p.size ≤ 1048576) (ht : Terms w a x.a) (hl : x.l.2.size ≤ 1048576) (hr : x.r.2.size ≤ 1048576) :
    Calls Try.prog 10 #[.agg (litV x a cap)] w fun e w' => e = .returned (.tuple #[.string (litS x), .int .i64 (litE x)]) ∧ Below w.heap.size w w' := by
  obtain ⟨k, p, l, ⟨lv, lt⟩, ⟨rv, rt⟩⟩ := x
  unfold litV
  dsimp only at hp ht hl hr ⊢
  by_cases h1 : k = 1
  · subst h1; exact pt_Literal_1 p a l cap lv rv lt rt w hp ht
  · by_cases h2 : k = 2
    · subst h2; exact pt_Literal_2 p a l cap lv rv lt rt w hp ht
    · by_cases h3 : k = 3
      · subst h3; exact pt_Literal_3 p a l cap lv rv lt rt w hl hr
      · exact pt_Literal_0 k p a l cap lv rv lt rt w h1 h2 h3
end Go.Proofs.Ytclioihichcpiaa
