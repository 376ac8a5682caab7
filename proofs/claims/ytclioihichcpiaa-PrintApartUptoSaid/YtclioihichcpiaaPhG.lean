/- What is written is read: the parser at printed texts. -/
import Derived.Test.YtclioihichcpiaaPhF
import Derived.Test.YtclioihichcpiaaJoM
namespace Go.Proofs.Ytclioihichcpiaa
open Go.RowKit Lx
/-- a printed rule read -/
theorem rl_back {r : Rul} (ho : ruleOk r = true) (w : World) (hs : (ruleL r).size ≤ 4194304) :
    Calls Try.prog 25 #[.string (ruleL r)] w fun e w' => ∃ xa xc ba bc, e = .returned (.tuple #[.agg #[.string r.h, .slice xa r.a.length xc, .slice ba (r.b.map toP).length bc], .int .i64 0, .int .i64 0]) ∧ Below w.heap.size w w' ∧ RT w' xa r.a ∧ RL w' ba (r.b.map toP) := by
  have h := pa_Rule (ruleL r) w hs
  rw [rule_text ho] at h
  refine h.mono ?_
  rintro e w' ⟨av, bv, rfl, hb, ha, L, hL, hB, -⟩
  obtain ⟨xa, xc, rfl, -⟩ := own_slice ha
  obtain ⟨ya, yc, rfl, -⟩ := own_slice hB.own
  have hr := (bod_RL hB).1
  rw [hL] at hr
  have hn : L.length = (toR r).b.length := by rw [← hL, List.length_map]
  exact ⟨xa, xc, ya, yc, by rw [hn]; rfl, hb, own_RT ha, hr⟩
/-- a printed program read -/
theorem pg_back {g : Bs} (hg : g = [] ∨ g = [10]) (xs : List Pr) (ho : xs.all prOk = true) (s : ByteArray) (hs : bl s = xs.flatMap (fun x => prL x ++ g)) (w : World) (hz : s.size ≤ 4194304) :
    Calls Try.prog 26 #[.string s] w fun e w' => ∃ v0 v1 v2 c0 c1 c2 u3 n3 m3 u4 n4 m4 u5 n5 m5, e = .returned (.tuple #[.agg #[.slice v0 (inpsOf (prAt g.length 0 xs)).length c0, .slice v1 (outsOf (prAt g.length 0 xs)).length c1, .slice v2 (rulesOf (prAt g.length 0 xs)).length c2], .agg #[.slice u3 n3 m3, .slice u4 n4 m4, .slice u5 n5 m5], .int .i64 0, .int .i64 0]) ∧ Below w.heap.size w w' ∧ RI w' v0 (inpsOf (prAt g.length 0 xs)) ∧ RO w' v1 (outsOf (prAt g.length 0 xs)) ∧ RR w' v2 (rulesOf (prAt g.length 0 xs)) := by
  have h := pa_Program s w hz
  rw [prog_read hg xs ho s hs] at h
  refine h.mono ?_
  rintro e w' ⟨R0, R1, R2, R3, R4, R5, rfl, hb, hP⟩
  obtain ⟨v0, c0, rfl, -⟩ := own_slice hP.r0
  obtain ⟨v1, c1, rfl, -⟩ := own_slice hP.r1
  obtain ⟨L, hL, h2, hin⟩ := hP.r2
  obtain ⟨v2, c2, rfl, -⟩ := own_slice h2
  obtain ⟨u3, m3, rfl, -⟩ := own_slice hP.r3
  obtain ⟨u4, m4, rfl, -⟩ := own_slice hP.r4
  obtain ⟨u5, m5, rfl, -⟩ := own_slice hP.r5
  have hr := rules_RR h2 hin.inn
  rw [hL] at hr
  have hn : L.length = (rulesOf (prAt g.length 0 xs)).length := by rw [← hL, List.length_map]
  exact ⟨v0, v1, v2, c0, c1, c2, u3, _, m3, u4, _, m4, u5, _, m5, by rw [hn], hb, own_RI hP.r0, own_RO hP.r1, hr⟩
theorem RR.two {w : World} {g : Nat} {t : TypeId} {x y : PRule} {a b a' b' : Option Addr} {c d c' d' : Nat} (h : w.heap[g]? = some (.cells #[.string x.p, .slice a x.a.length c, .slice b x.b.length d, .string y.p, .slice a' y.a.length c', .slice b' y.b.length d'] t)) (h1 : RT w a x.a) (h2 : RL w b x.b) (h3 : RT w a' y.a) (h4 : RL w b' y.b) : RR w (some ⟨g, 0, none⟩) [x, y] := by
  refine ⟨by simp, fun j z hj => ?_⟩
  match j, hj with
  | 0, hj =>
    simp at hj; subst hj
    refine ⟨_, a, c, b, d, rfl, ?_, ?_, ?_, h1, h2⟩
    all_goals simp [World.cell?, Addr.add, h]
  | 1, hj =>
    simp at hj; subst hj
    refine ⟨_, a', c', b', d', rfl, ?_, ?_, ?_, h3, h4⟩
    all_goals simp [World.cell?, Addr.add, h]
end Go.Proofs.Ytclioihichcpiaa
