/- Print: a rule. -/
import Derived.Test.YtclioihichcpiaaPrL
namespace Go.Proofs.Ytclioihichcpiaa
open Go.RowKit Go.Shelf Lx
structure Rul where
  h : ByteArray
  a : List (Bool × ByteArray)
  b : List Lit
def commasL (b : List Lit) : ByteArray := ⟨(Lib.join ((textsL b).map (·.data.toList)) [44, 32]).toArray⟩
def ruleOk (r : Rul) : Bool := atomOk r.h r.a && okL r.b && decide (r.b.length ≤ 256)
def ruleL (r : Rul) : ByteArray := if r.b.length = 0 then atomL r.h r.a ++ ⟨#[46]⟩ else atomL r.h r.a ++ (⟨#[32, 58, 45, 32]⟩ ++ commasL r.b) ++ ⟨#[46]⟩
def ruleS (r : Rul) : ByteArray := if ruleOk r then ruleL r else ⟨#[]⟩
def ruleE (r : Rul) : Int := if ruleOk r then 0 else 2
theorem rule_no {x : Rul} (h : ruleOk x = false) : ruleS x = ⟨#[]⟩ ∧ ruleE x = 2 := by unfold ruleS ruleE; rw [h]; exact ⟨rfl, rfl⟩
theorem rule_yes {x : Rul} (h : ruleOk x = true) : ruleS x = ruleL x ∧ ruleE x = 0 := by unfold ruleS ruleE; rw [h]; exact ⟨rfl, rfl⟩
theorem commasL_size (b : List Lit) (h : ∀ x ∈ b, x.p.size ≤ 1048576) (hn : b.length ≤ 256) : (commasL b).size ≤ 1073742336 := by
  have h1 := join_bound [44, 32] ((textsL b).map (·.data.toList)) 4194304 (by
    intro t ht
    obtain ⟨u, hu, rfl⟩ := List.mem_map.1 ht
    rw [Array.length_toList]; exact textsL_size b h u hu)
  rw [List.length_map, textsL, List.length_map] at h1
  have h2 : b.length * ([44, 32].length + 4194304) ≤ 256 * (2 + 4194304) := Nat.mul_le_mul hn (Nat.le_refl _)
  have h3 : (commasL b).size = (Lib.join ((textsL b).map (·.data.toList)) [44, 32]).length := by show (Array.size _) = _; simp
  rw [h3]
  exact Nat.le_trans h1 (Nat.le_trans h2 (by decide))
theorem new_cells3 {w w1 : World} {a b c : Value} {t : TypeId} (hb : Below (w.alloc (.cells #[a, b, c] t)).heap.size (w.alloc (.cells #[a, b, c] t)) w1) : w1.cell? ⟨w.heap.size, 0, none⟩ = some a ∧ w1.cell? ⟨w.heap.size, 1, none⟩ = some b ∧ w1.cell? ⟨w.heap.size, 2, none⟩ = some c := by
  have h : w1.heap[w.heap.size]? = some (.cells #[a, b, c] t) := (hb.block _ (by rw [World.size_alloc]; omega)).trans (heap_alloc_new _ _)
  exact ⟨by simp [World.cell?, h], by simp [World.cell?, h], by simp [World.cell?, h]⟩
set_option maxHeartbeats 1000000 in
set_option maxRecDepth 100000 in
theorem pt_Rule (h : ByteArray) (a : Option Addr) (l : List (Bool × ByteArray)) (cap : Nat) (ba : Option Addr) (b : List Lit) (bcap : Nat) (w : World) (hh : h.size ≤ 1048576) (ht : Terms w a l) (hb : Lits w ba b) :
    Calls Try.prog 8 #[.agg #[.string h, .slice a l.length cap, .slice ba b.length bcap]] w fun e w' => e = .returned (.tuple #[.string (ruleS ⟨h, l, b⟩), .int .i64 (ruleE ⟨h, l, b⟩)]) ∧ Below w.heap.size w w' := by
  have hat := fun w ht => pt_Atom h a l cap w hh ht
  have hls := fun w hb => pt_listed_Literal ba b bcap ⟨#[44, 32]⟩ w hb (by decide)
  cases ha : atomOk h l with
  | false =>
    have hS : Hid (ruleS ⟨h, l, b⟩ = ⟨#[]⟩ ∧ ruleE ⟨h, l, b⟩ = 2) := Lib.hid (rule_no (by unfold ruleOk; dsimp only; rw [ha, Bool.false_and, Bool.false_and]))
    have hA : atomS h l = ⟨#[]⟩ ∧ atomE h l = 2 := by unfold atomS atomE; rw [ha]; exact ⟨rfl, rfl⟩
    rw [hA.1, hA.2] at hat
    clear hA ha
    generalize (if okL b = true then (⟨(Lib.join ((textsL b).map (·.data.toList)) (ByteArray.mk #[44, 32]).data.toList).toArray⟩ : ByteArray) else ⟨#[]⟩) = X at hls
    generalize okL b = O at hls
    go_enter Try.func8, Try.ntmps8
    go_wp2_with (first
      | (go_at_call 30; refine (hls _ ((hb.new _).below hb1.out)).mono ?_; rintro e w2 ⟨rfl, hb2⟩; replace hb2 := Lib.hid (hb1.out.trans (hb2.mono hb1.out.size)); obtain ⟨hc4, hc5, hc6⟩ := new_cells3 hb2.out)
      | (go_at_call 12; refine (hat _ (ht.new _)).mono ?_; rintro e w1 ⟨rfl, hb1⟩; obtain ⟨hc1, hc2, hc3⟩ := new_cells3 hb1; replace hb1 := Lib.hid hb1))
    go_ret2
    rw [hS.out.1, hS.out.2]
    exact ⟨rfl, ((Below.refl _ _).al _).trans (hb2.out.mono (by rw [World.size_alloc]; omega))⟩
  | true =>
    have hA : atomS h l = atomL h l ∧ atomE h l = 0 := by unfold atomS atomE; rw [ha]; exact ⟨rfl, rfl⟩
    have hsz := atom_small h l hh ha
    rw [hA.1, hA.2] at hat
    clear hA
    cases ho : okL b with
    | false =>
      have hS : Hid (ruleS ⟨h, l, b⟩ = ⟨#[]⟩ ∧ ruleE ⟨h, l, b⟩ = 2) := Lib.hid (rule_no (by unfold ruleOk; dsimp only; rw [ho, Bool.and_false, Bool.false_and]))
      rw [ho] at hls
      clear ha
      generalize atomL h l = S at hat hsz
      go_enter Try.func8, Try.ntmps8
      go_wp2_with (first
        | (go_at_call 30; refine (hls _ ((hb.new _).below hb1.out)).mono ?_; rintro e w2 ⟨rfl, hb2⟩; replace hb2 := Lib.hid (hb1.out.trans (hb2.mono hb1.out.size)); obtain ⟨hc4, hc5, hc6⟩ := new_cells3 hb2.out)
        | (go_at_call 12; refine (hat _ (ht.new _)).mono ?_; rintro e w1 ⟨rfl, hb1⟩; obtain ⟨hc1, hc2, hc3⟩ := new_cells3 hb1; replace hb1 := Lib.hid hb1))
      go_ret2
      rw [hS.out.1, hS.out.2]
      exact ⟨rfl, ((Below.refl _ _).al _).trans (hb2.out.mono (by rw [World.size_alloc]; omega))⟩
    | true =>
      rw [ho, if_pos rfl, show (⟨(Lib.join ((textsL b).map (·.data.toList)) (ByteArray.mk #[44, 32]).data.toList).toArray⟩ : ByteArray) = commasL b from rfl] at hls
      by_cases h256 : b.length ≤ 256
      · have hcs := commasL_size b (fun x hx => (hb.size x hx).1) h256
        have hok : ruleOk ⟨h, l, b⟩ = true := by unfold ruleOk; dsimp only; rw [ha, ho, decide_eq_true h256]; rfl
        by_cases h0 : b.length = 0
        · have hS : Hid (ruleS ⟨h, l, b⟩ = atomL h l ++ ⟨#[46]⟩ ∧ ruleE ⟨h, l, b⟩ = 0) := Lib.hid ((rule_yes hok).imp (fun h => h.trans (by unfold ruleL; dsimp only; rw [if_pos h0])) id)
          clear ha ho hok
          generalize atomL h l = S at hat hsz hS
          have hg : Hid (ruleS ⟨h, l, b⟩ = S ++ ⟨#[46]⟩ ∧ ruleE ⟨h, l, b⟩ = 0) := hS
          rw [h0] at hls
          rw [h0]
          go_enter Try.func8, Try.ntmps8
          go_wp2_with (first
            | (go_at_call 30; refine (hls _ ((hb.new _).below hb1.out)).mono ?_; rintro e w2 ⟨rfl, hb2⟩; replace hb2 := Lib.hid (hb1.out.trans (hb2.mono hb1.out.size)); obtain ⟨hc4, hc5, hc6⟩ := new_cells3 hb2.out)
            | (go_at_call 12; refine (hat _ (ht.new _)).mono ?_; rintro e w1 ⟨rfl, hb1⟩; obtain ⟨hc1, hc2, hc3⟩ := new_cells3 hb1; replace hb1 := Lib.hid hb1))
          go_ret2
          rw [hS.out.1, hS.out.2]
          exact ⟨rfl, ((Below.refl _ _).al _).trans (hb2.out.mono (by rw [World.size_alloc]; omega))⟩
        · have hS : Hid (ruleS ⟨h, l, b⟩ = atomL h l ++ (⟨#[32, 58, 45, 32]⟩ ++ commasL b) ++ ⟨#[46]⟩ ∧ ruleE ⟨h, l, b⟩ = 0) := Lib.hid ((rule_yes hok).imp (fun h => h.trans (by unfold ruleL; dsimp only; rw [if_neg h0])) id)
          have h0' : 0 < b.length := by omega
          clear ha ho hok h0
          generalize atomL h l = S at hat hsz hS
          generalize commasL b = B at hls hcs hS
          go_enter Try.func8, Try.ntmps8
          go_wp2_with (first
            | (go_at_call 30; refine (hls _ ((hb.new _).below hb1.out)).mono ?_; rintro e w2 ⟨rfl, hb2⟩; replace hb2 := Lib.hid (hb1.out.trans (hb2.mono hb1.out.size)); obtain ⟨hc4, hc5, hc6⟩ := new_cells3 hb2.out)
            | (go_at_call 12; refine (hat _ (ht.new _)).mono ?_; rintro e w1 ⟨rfl, hb1⟩; obtain ⟨hc1, hc2, hc3⟩ := new_cells3 hb1; replace hb1 := Lib.hid hb1))
          go_ret2
          rw [hS.out.1, hS.out.2]
          exact ⟨rfl, ((Below.refl _ _).al _).trans (hb2.out.mono (by rw [World.size_alloc]; omega))⟩
      · have hS : Hid (ruleS ⟨h, l, b⟩ = ⟨#[]⟩ ∧ ruleE ⟨h, l, b⟩ = 2) := Lib.hid (rule_no (by unfold ruleOk; dsimp only; rw [decide_eq_false h256, Bool.and_false]))
        clear ha ho
        generalize atomL h l = S at hat hsz
        generalize commasL b = B at hls
        go_enter Try.func8, Try.ntmps8
        go_wp2_with (first
          | (go_at_call 30; refine (hls _ ((hb.new _).below hb1.out)).mono ?_; rintro e w2 ⟨rfl, hb2⟩; replace hb2 := Lib.hid (hb1.out.trans (hb2.mono hb1.out.size)); obtain ⟨hc4, hc5, hc6⟩ := new_cells3 hb2.out)
          | (go_at_call 12; refine (hat _ (ht.new _)).mono ?_; rintro e w1 ⟨rfl, hb1⟩; obtain ⟨hc1, hc2, hc3⟩ := new_cells3 hb1; replace hb1 := Lib.hid hb1))
        go_ret2
        rw [hS.out.1, hS.out.2]
        exact ⟨rfl, ((Below.refl _ _).al _).trans (hb2.out.mono (by rw [World.size_alloc]; omega))⟩
end Go.Proofs.Ytclioihichcpiaa
