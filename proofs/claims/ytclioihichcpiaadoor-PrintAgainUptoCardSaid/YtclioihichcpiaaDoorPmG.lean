/- Parse: the rule of a text. -/
import Derived.Test.YtclioihichcpiaaDoorPmF
namespace Go.Proofs.YtclioihichcpiaaDoor
open Go.RowKit Lx
namespace Lx
def psRuleTop (P : Ps) (tl : Nat) : Except Int PRule :=
  match P.take 0 [1] with
  | .error e => .error e
  | .ok (t, j) => match psRule P j (mk t.text) with
    | .error e => .error e
    | .ok (r, k) => if k < P.ts.length ∨ P.far < tl ∨ P.op.kind ≠ 0 then .error (P.stop k []) else .ok r
end Lx
/-- all below lo stays but two blocks -/
structure Frm2 (lo b r : Nat) (w w' : World) : Prop where
  os : w'.os = w.os
  tape : w'.tape = w.tape
  output : w'.output = w.output
  size : w.heap.size ≤ w'.heap.size
  block : ∀ k, k < lo → k ≠ b → k ≠ r → w'.heap[k]? = w.heap[k]?
theorem Frm2.trans {lo b r : Nat} {w w1 w2 : World} (h : Frm2 lo b r w w1) (h2 : Frm2 lo b r w1 w2) : Frm2 lo b r w w2 :=
  ⟨h2.os.trans h.os, h2.tape.trans h.tape, h2.output.trans h.output, Nat.le_trans h.size h2.size, fun k hk hb hr => (h2.block k hk hb hr).trans (h.block k hk hb hr)⟩
theorem Frm2.of_mvd {lo b r : Nat} {w w' : World} (h : Mvd b w w') (hlo : lo ≤ w.heap.size) : Frm2 lo b r w w' :=
  ⟨h.os, h.tape, h.output, h.size, fun k hk hb _ => h.block k (Nat.lt_of_lt_of_le hk hlo) (fun e => by injection e with e; exact hb e)⟩
theorem Frm2.of_mvd' {lo b r : Nat} {w w' : World} (h : Mvd r w w') (hlo : lo ≤ w.heap.size) : Frm2 lo b r w w' :=
  ⟨h.os, h.tape, h.output, h.size, fun k hk _ hb => h.block k (Nat.lt_of_lt_of_le hk hlo) (fun e => by injection e with e; exact hb e)⟩
theorem RuleIn.mvd2 {w w' : World} {lo b : Nat} {av bv : Value} {r : PRule} {cs : Array Value} {fr : Nat × Nat} (h : RuleIn w lo av bv r) (hm : Mvd b w w') (hg : w.heap[b]? = some (.cells cs 54 fr)) : RuleIn w' lo av bv r := by
  obtain ⟨h1, L, h2, h3, h4⟩ := h
  exact ⟨own_stays h1 hm fun k hk e => own_apart h1 hg typesTR (by rw [hk]; exact e.symm), L, h2, h3.rule hm hg, h4⟩
theorem ints_none {w : World} : Ints .i64 w none [] := ⟨by decide, fun i hi => absurd hi (by simp), fun i hi => absurd hi (by simp)⟩
def R1Post (b rb : Nat) (w0 : World) (R : Except Int PRule) (e : Ending) (w' : World) : Prop :=
  match R with
  | .ok r => ∃ av bv, e = .returned (.tuple #[]) ∧ Frm2 w0.heap.size b rb w0 w' ∧ w'.heap[rb]? = some (.cells #[.string r.p, av, bv] 54) ∧ RuleIn w' w0.heap.size av bv r
  | .error x => e = thrown x ∧ Frm2 w0.heap.size b rb w0 w'
end Go.Proofs.YtclioihichcpiaaDoor


/- Parse: Rule, Begins. -/
namespace Go.Proofs.YtclioihichcpiaaDoor
open Go.RowKit Lx
theorem Frm2.low {lo lo' b r : Nat} {w w' : World} (h : Frm2 lo b r w w') (hl : lo' ≤ lo) : Frm2 lo' b r w w' := ⟨h.os, h.tape, h.output, h.size, fun k hk hb hr => h.block k (by omega) hb hr⟩
theorem Frm2.below {lo B b r : Nat} {w w' : World} (h : Frm2 lo b r w w') (hB : B ≤ lo) (hb : B ≤ b) (hr : B ≤ r) : Below B w w' :=
  ⟨h.os, h.tape, h.output, h.size, fun k hk => h.block k (by omega) (by omega) (by omega)⟩
def Run2Post (b rb : Nat) (w0 : World) (R : Except Int PRule) (e : Ending) (w' : World) : Prop :=
  match R with
  | .ok r => ∃ av bv, e = .returned (.tuple #[.int .i64 0, .int .i64 0]) ∧ Frm2 w0.heap.size b rb w0 w' ∧ w'.heap[rb]? = some (.cells #[.string r.p, av, bv] 54) ∧ RuleIn w' w0.heap.size av bv r
  | .error x => e = .returned (.tuple #[.int .i64 x, .int .i64 11]) ∧ Frm2 w0.heap.size b rb w0 w'
/-- a rule that was read, in memory; or where it goes on no more -/
def RlPost (w0 : World) (R : Except Int PRule) (e : Ending) (w' : World) : Prop :=
  match R with
  | .ok r => ∃ av bv, e = .returned (.tuple #[.agg #[.string r.p, av, bv], .int .i64 0, .int .i64 0]) ∧ Below w0.heap.size w0 w' ∧ RuleIn w' w0.heap.size av bv r
  | .error x => e = .returned (.tuple #[.agg #[.string ⟨#[]⟩, .slice none 0 0, .slice none 0 0], .int .i64 x, .int .i64 11]) ∧ Below w0.heap.size w0 w'
def psRuleText (s : ByteArray) : Except Int PRule := psRuleTop (psOf s) s.size
/-- three results, the first in memory -/
theorem results_cellA3 {P : Program} {fn : Func} {p u v : Tmp} {ty : TypeId} (h : fn.results = #[.cell p ty, .tmp u, .tmp v]) (tmps : Array Value) (w : World) (g : Nat) (t : TypeId) (cs : Array Value) (fr : Nat × Nat) (d : TypeDesc)
    (hp : tmps.getD p undef = .pointer (some ⟨g, 0, none⟩)) (hg : w.heap[g]? = some (.cells cs t fr)) (hu : P.underlying ty = some d)
    (hd : (match d, hu with | .struct _, _ => true | .array _ _, _ => true | _, _ => false) = true) (hi : (P.info? ty).map (fun x => x.size) = some cs.size) (a b : Value) (ha : tmps.getD u undef = a) (hb : tmps.getD v undef = b) :
    (results fn tmps).run P w = .ok (.tuple #[.agg cs, a, b]) w := by
  have hl := run_loadVar_row (P := P) w g t ty cs fr d hg hu hd hi
  subst ha hb
  have hp2 : tmps[p]?.getD undef = .pointer (some ⟨g, 0, none⟩) := by simpa using hp
  simp only [results, h]
  simp [hp2, asAddr, hl]
end Go.Proofs.YtclioihichcpiaaDoor
