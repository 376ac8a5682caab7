/- From a reading of the arguments to what the walks ask. -/
import Derived.Test.YtoklbofobcloaaaDoorBase
import Derived.ProofKit
import Derived.OpenShut
import Derived.ShutString
import Derived.ChangeOld
import Derived.Below
import Derived.SizedLaws
namespace Go.Proofs.YtoklbofobcloaaaDoor
open Go.ChangeShapes Go.WideShapes Go.ChangeAt Go.RowKit

theorem wf_wrap {k : IntKind} {n : Int} (h : (Lit.int k n).wf = true) : k.wrap n = n := by
  simp only [Lit.wf, Bool.and_eq_true, decide_eq_true_eq] at h
  cases k <;> simp [IntKind.min, IntKind.max, IntKind.wrap, IntKind.bits, IntKind.signed] at * <;> omega

theorem ints_in {H : Type} {enc : TypeId × Value → H} {P : Program} {W : World} {base : Nat} {spare : Nat → Bool} {held : Bool} {fuel : Nat} {t e : TypeId} {k : IntKind} {a : Option Addr} {len cap : Nat} {d : DataW H} {p : List MemPlace}
    (ht : P.underlying t = some (.slice e)) (he : P.underlying e = some (.int k)) (hc : P.cellsOf e = 1) (hby : P.bytesOf e = 8)
    (h : DataW.trod enc P W base spare held fuel t (Value.slice a len cap).cells.toList = some (d, p)) (hR : ∀ el sp, d = .slice el sp → (el.length + sp.length) * P.bytesOf e ≤ reachBytes) :
    ∃ xs : List Int, xs.length = len ∧ xs.length ≤ 17592186043904 ∧ Ints k W a xs ∧ (a = none → xs = [] ∧ cap = 0) := by
  rcases open_ints ht he hc h with ⟨hcs, _⟩ | ⟨x, l, c, zs, hcs, _, hl, hm, hz, hx, hcell, hwz⟩
  · simp [Value.cells] at hcs
    obtain ⟨rfl, rfl, rfl⟩ := hcs
    exact ⟨[], rfl, by simp, ⟨by simp, fun i hi => absurd hi (by simp), fun i hi => absurd hi (by simp)⟩, fun _ => ⟨rfl, rfl⟩⟩
  · simp [Value.cells] at hcs
    obtain ⟨rfl, rfl, rfl⟩ := hcs
    have hlz : len ≤ zs.length := by rw [hz]; split <;> omega
    have hd : d = .slice (lits k (zs.take len)) (lits k (zs.drop len)) := congrArg Prod.fst hx
    have h8 := hR _ _ hd
    rw [hby] at h8
    have hn : ∀ i, i < (zs.take len).length → nth (zs.take len) i = zs.getD i 0 := fun i hi => by
      rw [nth_eq _ _ hi]; simp at hi ⊢; rw [List.getElem?_eq_getElem (by omega)]; rfl
    have h9 : (zs.take len).length ≤ 17592186043904 := by
      simp only [lits, List.length_map, List.length_take, List.length_drop, reachBytes] at h8
      simp only [List.length_take]; omega
    refine ⟨zs.take len, by simp; omega, h9, ⟨?_, fun i hi => ?_, fun i hi => ?_⟩, fun h => by cases h⟩
    · omega
    · have hi2 : i < zs.length := by simp at hi; omega
      have hs : x.spot = none := by
        have := hcell 0 (by omega)
        cases hsp : x.spot with
        | none => rfl
        | some s =>
          simp only [Addr.add, if_true, World.cell?, hsp] at this
          split at this <;> simp at this
      refine ⟨x.block, x.off, by cases x; simp_all, ?_⟩
      have := hcell i hi2
      rw [hn i hi, ← this]
      congr 1
      unfold Addr.add; split <;> (cases x; simp_all)
    · rw [hn i hi]
      have hi2 : i < zs.length := by simp at hi; omega
      refine wf_wrap (hwz _ ?_)
      rw [List.getD_eq_getElem?_getD, List.getElem?_eq_getElem hi2]
      exact List.getElem_mem hi2

end Go.Proofs.YtoklbofobcloaaaDoor
