/- The given statement Rows.IndexWalksUptoSaid, proved: for every input that can be read and is of bulk at most 1048576 the call returns true, and the arguments read as before. -/
import Derived.Test.YtjeeljolhcoeoaaRows
import Derived.Test.YtjeeljolhcoeoaaOpen
import Derived.Test.YtjeeljolhcoeoaaLawWalksN
import Derived.JoinedCond
import Derived.Deep.CondSized
import Derived.Test.YtjeeljolhcoeoaaOpenU
import Derived.Test.YtjeeljolhcoeoaaOpenS
namespace Go.Proofs.Ytjeeljolhcoeoaa.indexWalks
open Go.ChangeShapes Go.WideShapes Go.ChangeAt Go.RowKit
open Go.ChangeMaps (open_string shut_string)
set_option linter.unusedVariables false

theorem own : ownKnob Try.prog.godebug = none := by kernel_rfl

theorem laidOut : laidOutB Try.prog = true := by kernel_rfl
theorem bytesInt : Try.prog.bytesOf 3 = 8 := by kernel_rfl

set_option maxRecDepth 100000 in
theorem lifted (os : Os) (started : os.Started) (H : Type) (enc : TypeId × Value → H) (F : Stop.Interp) :
    ReturnsInHanded {} Try.checked os 7 .any ((Rows.OpenSpec.upto Rows.indexWalksSpec).pre6 enc Try.prog Try.f7 Rows.indexWalksUptoRow.domain false) (((Rows.OpenSpec.upto Rows.indexWalksSpec).at F).post enc Try.prog Try.f7 false true false false) := by
  refine returnsInHanded_of_cond_sized (C := Try.checked) (s := Rows.OpenSpec.upto Rows.indexWalksSpec) (k := Rows.uptoSmall) rfl own started (by kernel_rfl) Try.func7
    (OpenSpec.witness (enc := enc) (C := Try.checked) (s := Rows.OpenSpec.upto Rows.indexWalksSpec) (k := Rows.uptoSmall) rfl false ⟨#[], #[.int .i64 0, .slice none 0 0, .slice none 0 0], []⟩ 8 (by kernel_rfl) (by kernel_rfl) (by kernel_rfl)
      (x := ([.lit (.int .i64 0), .nil, .nil], [], [])) (by kernel_rfl) rfl (by kernel_rfl)) ?_
  intro W base args ds gs before hval0 hW hcnd hk hsz0 _
  show Calls Try.prog 7 args W fun e W' => ∃ v, e = .returned v ∧ Rows.indexWalksSpec.post enc Try.prog Try.f7 false true false false W args v W'
  have hval : ∀ (j : Nat) t v, Try.f7.params[j]? = some t → args[j]? = some v → Value.okWide Try.prog W .any base t v := hval0
  have hsz : (DataW.weightsEach Try.prog (Try.f7.params.toList ++ Rows.indexWalksSpec.plain.varTypes Try.prog) (ds ++ gs)).all (· ≤ reachBytes) = true := hsz0
  have hW' := hW
  obtain ⟨p, q, hA0, hV, rfl, hfz, hnd⟩ := hW
  have hA : DataW.TrodAll enc Try.prog W 0 (fun _ => true) true Try.f7.params.toList args.toList ds p := hA0
  rw [Try.params7] at hA hval hsz
  obtain ⟨v0, vs0, d0, ds0, p0, q0, hargs, rfl, rfl, h0, r0⟩ := trodAll_cons hA
  obtain ⟨v1, vs1, d1, ds1, p1, q1, rfl, rfl, rfl, h1, r1⟩ := trodAll_cons r0
  obtain ⟨v2, vs2, d2, ds2, p2, q2, rfl, rfl, rfl, h2, r2⟩ := trodAll_cons r1
  obtain ⟨rfl, rfl, rfl⟩ := trodAll_nil r2
  obtain rfl : args = #[v0, v1, v2] := by cases args; simp_all
  obtain ⟨rfl, rfl⟩ := trodVars_none hV
  obtain ⟨n0, rfl, rfl, rfl, wf0⟩ := open_int Try.underlying3 (hval 0 3 v0 rfl rfl) h0
  obtain ⟨a1, len1, cap1, rfl⟩ := okWide_slice Try.underlying28 (hval 1 28 v1 rfl rfl)
  have k1 := h1
  have lt1 : ∀ x ∈ p1, x.block < W.heap.size := by obtain ⟨m, hm⟩ := k1; exact DataW.trod_lt m _ _ _ hm
  obtain ⟨xs1, hl1, hb1, hx1, hn1⟩ : ∃ xs : List Int, xs.length = len1 ∧ xs.length ≤ 17592186043904 ∧ Ints .i64 W a1 xs ∧ (a1 = none → xs = [] ∧ cap1 = 0) := by
    obtain ⟨fuel, hf⟩ := h1
    exact ints_in Try.underlying28 Try.underlying3 (by kernel_rfl) bytesInt hf (fun el sp hd => sized_slice hsz (j := 1) (t := 28) (e := 3) rfl (by rw [hd]; rfl) Try.underlying28)
  have bk1 : len1 ≤ Rows.uptoBulk d1 := by
    obtain ⟨fuel, hf⟩ := h1
    exact ints_bulk Try.underlying28 Try.underlying3 (by kernel_rfl) hf
  obtain ⟨a2, len2, cap2, rfl⟩ := okWide_slice Try.underlying60 (hval 2 60 v2 rfl rfl)
  have k2 := h2
  have lt2 : ∀ x ∈ p2, x.block < W.heap.size := by obtain ⟨m, hm⟩ := k2; exact DataW.trod_lt m _ _ _ hm
  obtain ⟨xs2, hl2, hx2, bk2⟩ : ∃ ss : List StepD, ss.length = len2 ∧ Steps W a2 ss ∧ len2 ≤ Rows.uptoBulk d2 := by
    obtain ⟨fuel, hf⟩ := h2
    exact steps_in Try.underlying60 Try.underlying72 rfl (by kernel_rfl) (by kernel_rfl) (by intro j f hf; match j, hf with | 0, hf | 1, hf | 2, hf | 3, hf | 4, hf => (cases hf; exact Try.underlying3) | n + 5, hf => simp at hf) hf
  have hbulk := of_decide_eq_true hk
  simp only [List.append_nil, Rows.uptoBulkAll] at hbulk
  have ub1 : xs1.length ≤ 1048576 := by omega
  have ub2 : xs2.length ≤ 1048576 := by omega
  have ubs : xs1.length + xs2.length ≤ 1048576 := by omega
  subst hl1
  subst hl2
  clear hA0 hval0
  refine (law_IndexWalksU n0 a1 a2 cap1 cap2 xs1 xs2 W (wf_wrap wf0) hx1 hx2 ubs).mono fun e W' ⟨he, bel⟩ => ?_
  subst he
  exact ⟨_, rfl, _, _, _, [], _, [], hW', trodAll_mk1 (shut_bool Try.underlying4 _), (trodAll_cons_mk (shut_int Try.underlying3 wf0) (trodAll_cons_mk (Below.trod laidOut (by kernel_rfl) (of_decide_eq_true (by kernel_rfl)) k1 bel lt1) (trodAll_cons_mk (Below.trod laidOut (by kernel_rfl) (of_decide_eq_true (by kernel_rfl)) k2 bel lt2) trodAll_mk0))), rfl, bel.frame _, fun h => by cases h⟩

theorem over : Rows.indexWalksUptoRow.holds Try.pinned (Rows.OpenSpec.upto Rows.indexWalksSpec) :=
  OpenClaim.holds_of_cond 7 Try.f7 rfl rfl rfl rfl rfl rfl rfl ⟨rfl, rfl, rfl, rfl, rfl⟩ rfl rfl rfl rfl rfl (by kernel_rfl) Try.func7 (by kernel_rfl)
    (of_decide_eq_true (by kernel_rfl)) (by unfold Func.isWrapper; first | (rw [if_pos (by decide +kernel)]; kernel_rfl) | (rw [if_neg (by decide +kernel)]; exact ⟨rfl, rfl⟩))
    (fun os started H enc _ F => lifted os started H enc F)

/-- THE STATEMENT -/
theorem proved : Rows.IndexWalksUptoSaid := over
end Go.Proofs.Ytjeeljolhcoeoaa.indexWalks
