/- Index: unlink, walked. -/
import Derived.Test.YtjeeljolhcoeoaaSxW
namespace Go.Proofs.Ytjeeljolhcoeoaa.Str
open Go.RowKit
attribute [local go_sem] eql_fn_h eql_nn_h eql_fn_s eql_nn_s eql_fn_i eql_nn_i

def ulF (T : Nat) (pv nx : Option Nat) (w : World) : World := match pv with
  | none => w.setCell ⟨T, 3, none⟩ (.pointer (ptr nx))
  | some b => w.setCell ⟨b, 4, none⟩ (.pointer (ptr nx))
def ulB (T : Nat) (pv nx : Option Nat) (w : World) : World := match nx with
  | none => w.setCell ⟨T, 4, none⟩ (.pointer (ptr pv))
  | some b => w.setCell ⟨b, 3, none⟩ (.pointer (ptr pv))
theorem cell_other {w : World} {g i b j : Nat} {v u : Value} (hne : b ≠ g) (h : w.cell? ⟨b, j, none⟩ = some u) : (w.setCell ⟨g, i, none⟩ v).cell? ⟨b, j, none⟩ = some u := (World.cell?_of_block (w := w) (a := ⟨b, j, none⟩) (set_ne v hne)).trans h
theorem frozen_other {w : World} {g i b j : Nat} {v : Value} (hne : b ≠ g) (h : w.frozen? ⟨b, j, none⟩ = false) : (w.setCell ⟨g, i, none⟩ v).frozen? ⟨b, j, none⟩ = false := (World.frozen?_of_block (w := w) (a := ⟨b, j, none⟩) (set_ne v hne)).trans h
theorem cell_of_cs {w : World} {g i : Nat} {cs : Array Value} {t : TypeId} (h : w.heap[g]? = some (.cells cs t)) (hi : i < cs.size) : w.cell? ⟨g, i, none⟩ = some cs[i] := by
  unfold World.cell?; rw [h]; simp [hi]
set_option maxRecDepth 100000 in
set_option maxHeartbeats 4000000 in
theorem ix_unlink {w : World} {T eb : Nat} {pv nx : Option Nat} {csT : Array Value} (c3 : w.cell? ⟨eb, 3, none⟩ = some (.pointer (ptr pv))) (c4 : w.cell? ⟨eb, 4, none⟩ = some (.pointer (ptr nx)))
    (cT : w.heap[T]? = some (.cells csT 91)) (hT : csT.size = 6) (heT : eb ≠ T)
    (hpv : ∀ b, pv = some b → b ≠ eb ∧ b ≠ T ∧ nx ≠ some b ∧ ∃ cs : Array Value, w.heap[b]? = some (.cells cs 97) ∧ cs.size = 5)
    (hnx : ∀ b, nx = some b → b ≠ eb ∧ b ≠ T ∧ pv ≠ some b ∧ ∃ cs : Array Value, w.heap[b]? = some (.cells cs 97) ∧ cs.size = 5) :
    Calls Try.prog 38 #[.pointer (some ⟨T, 0, none⟩), .pointer (some ⟨eb, 0, none⟩)] w fun e w' => e = .returned (.tuple #[]) ∧ ∃ n, w' = (ulB T pv nx (ulF T pv nx w)).drewN n := by
  have t3 := cell_of_cs cT (i := 3) (by omega)
  have t4 := cell_of_cs cT (i := 4) (by omega)
  have f3 := frozen_of cT 3
  have f4 := frozen_of cT 4
  have hTe : ¬ T = eb := Ne.symm heT
  have heT' : ¬ eb = T := heT
  cases pv with
  | none =>
    change w.cell? _ = some (Value.pointer none) at c3
    cases nx with
    | none =>
      change w.cell? _ = some (Value.pointer none) at c4
      clear hpv hnx
      go_enter Try.func38, Try.ntmps38
      go_wp2
      go_end0
      exact ⟨rfl, 0, rfl⟩
    | some nb =>
      change w.cell? _ = some (Value.pointer (some ⟨nb, 0, none⟩)) at c4
      obtain ⟨n1, n2, n3, csn, hn, hns⟩ := hnx nb rfl
      have cn := cell_of_cs hn (i := 3) (by omega)
      have fn := frozen_of hn 3
      have n1' : ¬ nb = eb := n1
      have n1'' : ¬ eb = nb := Ne.symm n1
      have n2' : ¬ nb = T := n2
      have n2'' : ¬ T = nb := Ne.symm n2
      clear hpv hnx
      go_enter Try.func38, Try.ntmps38
      go_upto_region 5 with fail
      obtain ⟨V, hV⟩ : ∃ V, V = w.setCell ⟨T, 3, none⟩ (.pointer (some ⟨nb, 0, none⟩)) := ⟨_, rfl⟩
      rw [← hV]
      have v3 : V.cell? ⟨eb, 3, none⟩ = some (.pointer none) := by rw [hV]; exact cell_other heT' c3
      have v4 : V.cell? ⟨eb, 4, none⟩ = some (.pointer (some ⟨nb, 0, none⟩)) := by rw [hV]; exact cell_other heT' c4
      have vn : V.cell? ⟨nb, 3, none⟩ = some csn[3] := by rw [hV]; exact cell_other n2 cn
      have vf : V.frozen? ⟨nb, 3, none⟩ = false := by rw [hV]; exact frozen_other n2 fn
      replace hV := Lib.hid hV
      clear c3 c4 cn fn t3 t4 f3 f4
      go_still_tail 10, (by kernel_rfl)
      change wpList _ _ _ _ _ (World.drew _)
      go_wp2
      go_end0
      exact ⟨rfl, 1, by rw [hV.out]; rfl⟩
  | some pb =>
    change w.cell? _ = some (Value.pointer (some ⟨pb, 0, none⟩)) at c3
    obtain ⟨p1, p2, p3, csp, hp, hps⟩ := hpv pb rfl
    have cp := cell_of_cs hp (i := 4) (by omega)
    have fp := frozen_of hp 4
    have p1' : ¬ pb = eb := p1
    have p1'' : ¬ eb = pb := Ne.symm p1
    have p2' : ¬ pb = T := p2
    have p2'' : ¬ T = pb := Ne.symm p2
    cases nx with
    | none =>
      change w.cell? _ = some (Value.pointer none) at c4
      clear hpv hnx
      go_enter Try.func38, Try.ntmps38
      go_upto_region 2 with fail
      go_still_tail 10, (by kernel_rfl)
      change wpList _ _ _ _ _ (World.drew _)
      go_wp2
      go_end0
      exact ⟨rfl, 1, rfl⟩
    | some nb =>
      change w.cell? _ = some (Value.pointer (some ⟨nb, 0, none⟩)) at c4
      obtain ⟨n1, n2, n3, csn, hn, hns⟩ := hnx nb rfl
      have cn := cell_of_cs hn (i := 3) (by omega)
      have fn := frozen_of hn 3
      have n1' : ¬ nb = eb := n1
      have n1'' : ¬ eb = nb := Ne.symm n1
      have n2' : ¬ nb = T := n2
      have n2'' : ¬ T = nb := Ne.symm n2
      have q1 : ¬ pb = nb := fun e => n3 (by rw [e])
      have q2 : ¬ nb = pb := Ne.symm q1
      clear hpv hnx
      go_enter Try.func38, Try.ntmps38
      go_upto_region 2 with fail
      go_still_tail 10, (by kernel_rfl)
      change wpList _ _ _ _ _ (World.drew _)
      go_upto_region 5 with fail
      obtain ⟨V, hV⟩ : ∃ V, V = (w.setCell ⟨pb, 4, none⟩ (.pointer (some ⟨nb, 0, none⟩))).drew := ⟨_, rfl⟩
      rw [← hV]
      have v3 : V.cell? ⟨eb, 3, none⟩ = some (.pointer (some ⟨pb, 0, none⟩)) := by rw [hV]; exact cell_other p1'' c3
      have v4 : V.cell? ⟨eb, 4, none⟩ = some (.pointer (some ⟨nb, 0, none⟩)) := by rw [hV]; exact cell_other p1'' c4
      have vn : V.cell? ⟨nb, 3, none⟩ = some csn[3] := by rw [hV]; exact cell_other q2 cn
      have vf : V.frozen? ⟨nb, 3, none⟩ = false := by rw [hV]; exact frozen_other q2 fn
      replace hV := Lib.hid hV
      clear c3 c4 cn fn t3 t4 f3 f4
      go_still_tail 10, (by kernel_rfl)
      change wpList _ _ _ _ _ (World.drew _)
      go_wp2
      go_end0
      exact ⟨rfl, 2, by rw [hV.out]; rfl⟩
end Go.Proofs.Ytjeeljolhcoeoaa.Str
