/- Print: a literal. -/
import Derived.Test.YtclioihichcpiaaPrI
namespace Go.Proofs.Ytclioihichcpiaa
open Go.RowKit Go.Shelf Lx
/-- a literal -/
structure Lit where
  k : Int
  p : ByteArray
  a : List (Bool × ByteArray)
  l : Bool × ByteArray
  r : Bool × ByteArray
def zeroT (x : Bool × ByteArray) : Bool := !x.1 && decide (x.2.toList = [])
def litOk (x : Lit) : Bool :=
  if x.k = 3 then okT [x.l, x.r] && decide (x.p.toList = []) && decide (x.a.length = 0)
  else (decide (x.k = 1) || decide (x.k = 2)) && atomOk x.p x.a && (zeroT x.l && zeroT x.r)
def bothL (x y : Bool × ByteArray) : ByteArray := ⟨(Lib.join ((textsT [x, y]).map (·.data.toList)) [32, 33, 61, 32]).toArray⟩
def litL (x : Lit) : ByteArray :=
  if x.k = 3 then bothL x.l x.r
  else if x.k = 2 then ⟨#[110, 111, 116, 32]⟩ ++ atomL x.p x.a else atomL x.p x.a
def litS (x : Lit) : ByteArray := if litOk x then litL x else ⟨#[]⟩
def litE (x : Lit) : Int := if litOk x then 0 else 2
def litV (x : Lit) (a : Option Addr) (cap : Nat) : Array Value :=
  #[.int .i64 x.k, .string x.p, .slice a x.a.length cap, .bool x.l.1, .string x.l.2, .bool x.r.1, .string x.r.2]
theorem lit_no {x : Lit} (h : litOk x = false) : litS x = ⟨#[]⟩ ∧ litE x = 2 := by unfold litS litE; rw [h]; exact ⟨rfl, rfl⟩
theorem lit_yes {x : Lit} (h : litOk x = true) : litS x = litL x ∧ litE x = 0 := by unfold litS litE; rw [h]; exact ⟨rfl, rfl⟩
theorem nil_text {s : ByteArray} (h : s.toList = []) : s = ⟨#[]⟩ := by
  rw [ByteArray.toList_eq] at h
  cases s with | mk d => simp at h; rw [h]
theorem heap_second (w : World) (o1 o2 : Obj) : ((w.alloc o1).alloc o2).heap[w.heap.size + 1]? = some o2 := by
  have := heap_alloc_new (w.alloc o1) o2
  rwa [World.size_alloc] at this
theorem Terms.two {w : World} {b : Nat} {lv rv : Bool} {lt rt : ByteArray} {t : TypeId} (h : w.heap[b]? = some (.cells #[.bool lv, .string lt, .bool rv, .string rt] t)) (hl : lt.size ≤ 1048576) (hr : rt.size ≤ 1048576) : Terms w (some ⟨b, 0, none⟩) [(lv, lt), (rv, rt)] := by
  refine ⟨by simp, fun j x hj => ?_, by intro x hx; simp at hx; rcases hx with rfl | rfl <;> assumption⟩
  match j, hj with
  | 0, hj =>
    simp at hj; subst hj
    exact ⟨_, rfl, by simp [World.cell?, Addr.add, h], by simp [World.cell?, Addr.add, h]⟩
  | 1, hj =>
    simp at hj; subst hj
    exact ⟨_, rfl, by simp [World.cell?, Addr.add, h], by simp [World.cell?, Addr.add, h]⟩
set_option maxHeartbeats 1000000 in
set_option maxRecDepth 100000 in
theorem pt_Literal_3 (p : ByteArray) (a : Option Addr) (l : List (Bool × ByteArray)) (cap : Nat) (lv rv : Bool) (lt rt : ByteArray) (w : World) (hl : lt.size ≤ 1048576) (hr : rt.size ≤ 1048576) :
    Calls Try.prog 10 #[.agg #[.int .i64 3, .string p, .slice a l.length cap, .bool lv, .string lt, .bool rv, .string rt]] w fun e w' => e = .returned (.tuple #[.string (litS ⟨3, p, l, (lv, lt), (rv, rt)⟩), .int .i64 (litE ⟨3, p, l, (lv, lt), (rv, rt)⟩)]) ∧ Below w.heap.size w w' := by
  by_cases hp : p.toList = []
  · by_cases h0 : l.length = 0
    · have hls := fun a w ht => pt_listed_Term a [(lv, lt), (rv, rt)] 2 ⟨#[32, 33, 61, 32]⟩ w ht (by decide)
      have hpe := nil_text hp
      subst hpe
      have hle := List.eq_nil_of_length_eq_zero h0
      subst hle
      cases ho : okT [(lv, lt), (rv, rt)] with
      | true =>
        have hS : Hid (litS ⟨3, ⟨#[]⟩, [], (lv, lt), (rv, rt)⟩ = bothL (lv, lt) (rv, rt) ∧ litE ⟨3, ⟨#[]⟩, [], (lv, lt), (rv, rt)⟩ = 0) := Lib.hid (lit_yes (by unfold litOk; rw [if_pos rfl, ho]; show (true && decide ((⟨#[]⟩ : ByteArray).toList = []) && true) = true; rw [decide_eq_true hp]; rfl))
        rw [ho, if_pos rfl] at hls
        change ∀ a w, Terms w a [(lv, lt), (rv, rt)] → Calls _ _ _ w fun e w' => e = .returned (.tuple #[.string (bothL (lv, lt) (rv, rt)), .bool true]) ∧ Below w.heap.size w w' at hls
        generalize bothL (lv, lt) (rv, rt) = X at hls hS
        cases lv <;> cases rv
        all_goals go_enter Try.func10, Try.ntmps10
        all_goals go_wp2_with (go_at_call 32; refine (hls _ _ (Terms.two (heap_second _ _ _) hl hr)).mono ?_; rintro e w1 ⟨rfl, hb1⟩; replace hb1 := Lib.hid hb1)
        all_goals (go_ret2; rw [hS.out.1, hS.out.2]; exact ⟨rfl, (((Below.refl _ _).al _).al _).trans (hb1.out.mono (by rw [World.size_alloc, World.size_alloc]; omega))⟩)
      | false =>
        have hS : Hid (litS ⟨3, ⟨#[]⟩, [], (lv, lt), (rv, rt)⟩ = ⟨#[]⟩ ∧ litE ⟨3, ⟨#[]⟩, [], (lv, lt), (rv, rt)⟩ = 2) := Lib.hid (lit_no (by unfold litOk; rw [if_pos rfl, ho]; rfl))
        rw [ho] at hls
        cases lv <;> cases rv
        all_goals go_enter Try.func10, Try.ntmps10
        all_goals go_wp2_with (go_at_call 32; refine (hls _ _ (Terms.two (heap_second _ _ _) hl hr)).mono ?_; rintro e w1 ⟨rfl, hb1⟩; replace hb1 := Lib.hid hb1)
        all_goals (go_ret2; rw [hS.out.1, hS.out.2]; exact ⟨rfl, (((Below.refl _ _).al _).al _).trans (hb1.out.mono (by rw [World.size_alloc, World.size_alloc]; omega))⟩)
    · have hS : Hid (litS ⟨3, p, l, (lv, lt), (rv, rt)⟩ = ⟨#[]⟩ ∧ litE ⟨3, p, l, (lv, lt), (rv, rt)⟩ = 2) := Lib.hid (lit_no (by unfold litOk; simp [h0]))
      have h0' : 0 < l.length := by omega
      clear h0
      go_enter Try.func10, Try.ntmps10
      go_wp2_with fail
      all_goals (go_ret2; rw [hS.out.1, hS.out.2]; exact ⟨rfl, (Below.refl _ _).al _⟩)
  · have hS : Hid (litS ⟨3, p, l, (lv, lt), (rv, rt)⟩ = ⟨#[]⟩ ∧ litE ⟨3, p, l, (lv, lt), (rv, rt)⟩ = 2) := Lib.hid (lit_no (by unfold litOk; simp [hp]))
    go_enter Try.func10, Try.ntmps10
    go_wp2_with fail
    all_goals (go_ret2; rw [hS.out.1, hS.out.2]; exact ⟨rfl, (Below.refl _ _).al _⟩)
end Go.Proofs.Ytclioihichcpiaa
