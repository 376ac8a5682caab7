/- The given statement Rows.PrintApartUptoSaid, proved: for every input that can be read and is of bulk at most 1048576 the call returns true, and the arguments read as before. -/
import Derived.Test.YtclioihichcpiaaRows
import Derived.Test.YtclioihichcpiaaOpen
import Derived.Test.YtclioihichcpiaaPhH
import Derived.JoinedCond
import Derived.Deep.CondSized
import Derived.Test.YtclioihichcpiaaOpenQ
namespace Go.Proofs.Ytclioihichcpiaa.printApart
open Go.ChangeShapes Go.WideShapes Go.ChangeAt Go.RowKit
open Go.ChangeMaps (open_string shut_string)
set_option linter.unusedVariables false

theorem own : ownKnob Try.prog.godebug = none := by kernel_rfl

theorem laidOut : laidOutB Try.prog = true := by kernel_rfl
theorem bytesInt : Try.prog.bytesOf 3 = 8 := by kernel_rfl

set_option maxRecDepth 100000 in
theorem lifted (os : Os) (started : os.Started) (H : Type) (enc : TypeId × Value → H) (F : Stop.Interp) :
    ReturnsInHanded {} Try.checked os 6 .any ((Rows.OpenSpec.upto Rows.printApartSpec).pre6 enc Try.prog Try.f6 Rows.printApartUptoRow.domain false) (((Rows.OpenSpec.upto Rows.printApartSpec).at F).post enc Try.prog Try.f6 false true false false) := by
  refine returnsInHanded_of_cond_sized (C := Try.checked) (s := Rows.OpenSpec.upto Rows.printApartSpec) (k := Rows.uptoSmall) rfl own started (by kernel_rfl) Try.func6
    (OpenSpec.witness (enc := enc) (C := Try.checked) (s := Rows.OpenSpec.upto Rows.printApartSpec) (k := Rows.uptoSmall) rfl false ⟨#[], #[.agg #[.string ⟨#[]⟩, .slice none 0 0, .slice none 0 0], .agg #[.string ⟨#[]⟩, .slice none 0 0, .slice none 0 0]], []⟩ 8 (by kernel_rfl) (by kernel_rfl) (by kernel_rfl)
      (x := ([.agg [.agg [.lit (.string []), .nil], .nil], .agg [.agg [.lit (.string []), .nil], .nil]], [], [])) (by kernel_rfl) rfl (by kernel_rfl)) ?_
  intro W base args ds gs before hval0 hW hcnd hk hsz0 _
  show Calls Try.prog 6 args W fun e W' => ∃ v, e = .returned v ∧ Rows.printApartSpec.post enc Try.prog Try.f6 false true false false W args v W'
  have hval : ∀ (j : Nat) t v, Try.f6.params[j]? = some t → args[j]? = some v → Value.okWide Try.prog W .any base t v := hval0
  have hsz : (DataW.weightsEach Try.prog (Try.f6.params.toList ++ Rows.printApartSpec.plain.varTypes Try.prog) (ds ++ gs)).all (· ≤ reachBytes) = true := hsz0
  have hW' := hW
  obtain ⟨p, q, hA0, hV, rfl, hfz, hnd⟩ := hW
  have hA : DataW.TrodAll enc Try.prog W 0 (fun _ => true) true Try.f6.params.toList args.toList ds p := hA0
  rw [Try.params6] at hA hval hsz
  obtain ⟨v0, vs0, d0, ds0, p0, q0, hargs, rfl, rfl, h0, r0⟩ := trodAll_cons hA
  obtain ⟨v1, vs1, d1, ds1, p1, q1, rfl, rfl, rfl, h1, r1⟩ := trodAll_cons r0
  obtain ⟨rfl, rfl, rfl⟩ := trodAll_nil r1
  obtain rfl : args = #[v0, v1] := by cases args; simp_all
  obtain ⟨rfl, rfl⟩ := trodVars_none hV
  obtain ⟨cs0, rfl, hcs0⟩ := okWide_struct Try.underlying27 (hval 0 27 v0 rfl rfl)
  have k0 := h0
  have lt0 : ∀ x ∈ p0, x.block < W.heap.size := by obtain ⟨m, hm⟩ := k0; exact DataW.trod_lt m _ _ _ hm
  have bk0 : Rows.uptoBulk d0 ≤ 1048576 := by
    have hbulk := of_decide_eq_true hk
    simp only [List.append_nil, Rows.uptoBulkAll] at hbulk
    omega
  obtain ⟨rp0, ra0, rl0, rc0, rb0, rL0, rd0, he0, hz0, hT0, hL0, hw0⟩ : ∃ (p : ByteArray) (a : Option Addr) (l : List (Bool × ByteArray)) (cap : Nat) (ba : Option Addr) (b : List Lit) (bcap : Nat), cs0.toList = [.string p, .slice a l.length cap, .slice ba b.length bcap] ∧ p.size ≤ 1048576 ∧ Terms W a l ∧ Lits W ba b ∧ Lx.ruleWt ⟨p, l, b⟩ ≤ Rows.uptoBulk d0 := by
    obtain ⟨fuel, hf⟩ := h0
    exact rule_in hf bk0
  obtain rfl : cs0 = #[.string rp0, .slice ra0 rl0.length rc0, .slice rb0 rL0.length rd0] := Array.ext' he0
  obtain ⟨cs1, rfl, hcs1⟩ := okWide_struct Try.underlying27 (hval 1 27 v1 rfl rfl)
  have k1 := h1
  have lt1 : ∀ x ∈ p1, x.block < W.heap.size := by obtain ⟨m, hm⟩ := k1; exact DataW.trod_lt m _ _ _ hm
  have bk1 : Rows.uptoBulk d1 ≤ 1048576 := by
    have hbulk := of_decide_eq_true hk
    simp only [List.append_nil, Rows.uptoBulkAll] at hbulk
    omega
  obtain ⟨rp1, ra1, rl1, rc1, rb1, rL1, rd1, he1, hz1, hT1, hL1, hw1⟩ : ∃ (p : ByteArray) (a : Option Addr) (l : List (Bool × ByteArray)) (cap : Nat) (ba : Option Addr) (b : List Lit) (bcap : Nat), cs1.toList = [.string p, .slice a l.length cap, .slice ba b.length bcap] ∧ p.size ≤ 1048576 ∧ Terms W a l ∧ Lits W ba b ∧ Lx.ruleWt ⟨p, l, b⟩ ≤ Rows.uptoBulk d1 := by
    obtain ⟨fuel, hf⟩ := h1
    exact rule_in hf bk1
  obtain rfl : cs1 = #[.string rp1, .slice ra1 rl1.length rc1, .slice rb1 rL1.length rd1] := Array.ext' he1
  have hbulk := of_decide_eq_true hk
  simp only [List.append_nil, Rows.uptoBulkAll] at hbulk
  have hws : Lx.ruleWt ⟨rp0, rl0, rL0⟩ + Lx.ruleWt ⟨rp1, rl1, rL1⟩ ≤ 1048576 := by omega
  clear hA0 hval0
  refine (law_Apart rp0 ra0 rl0 rc0 rb0 rL0 rd0 rp1 ra1 rl1 rc1 rb1 rL1 rd1 W hz0 hT0 hL0 hz1 hT1 hL1 hws).mono fun e W' ⟨he, bel⟩ => ?_
  subst he
  exact ⟨_, rfl, _, _, _, [], _, [], hW', trodAll_mk1 (shut_bool Try.underlying4 _), (trodAll_cons_mk (Below.trod laidOut (by kernel_rfl) (of_decide_eq_true (by kernel_rfl)) k0 bel lt0) (trodAll_cons_mk (Below.trod laidOut (by kernel_rfl) (of_decide_eq_true (by kernel_rfl)) k1 bel lt1) trodAll_mk0)), rfl, bel.frame _, fun h => by cases h⟩

theorem over : Rows.printApartUptoRow.holds Try.pinned (Rows.OpenSpec.upto Rows.printApartSpec) :=
  OpenClaim.holds_of_cond 6 Try.f6 rfl rfl rfl rfl rfl rfl rfl ⟨rfl, rfl, rfl, rfl, rfl⟩ rfl rfl rfl rfl rfl (by kernel_rfl) Try.func6 (by kernel_rfl)
    (of_decide_eq_true (by kernel_rfl)) (by unfold Func.isWrapper; first | (rw [if_pos (by decide +kernel)]; kernel_rfl) | (rw [if_neg (by decide +kernel)]; exact ⟨rfl, rfl⟩))
    (fun os started H enc _ F => lifted os started H enc F)

/-- THE STATEMENT -/
theorem proved : Rows.PrintApartUptoSaid := over
end Go.Proofs.Ytclioihichcpiaa.printApart
