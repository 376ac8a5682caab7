/- Parse: Begins, and the law's small words. -/
import Derived.Test.YtclioihichcpiaaPmH
namespace Go.Proofs.Ytclioihichcpiaa
open Go.RowKit Lx
/-- how far a text goes -/
def psFar (s : ByteArray) : Int := match psText s with
  | .ok _ => (s.size : Int)
  | .error x => x
def begB (s : ByteArray) : Bool := psFar s == (s.size : Int)
theorem psFar_r (s : ByteArray) : psFar s = rFar (bl s) := by
  have h := eq_prog s
  unfold psFar rFar
  cases hx : psText s with
  | error x =>
    rw [hx] at h
    cases hy : rProg (bl s) with
    | error y => rw [hy] at h; exact h
    | ok y => rw [hy] at h; exact h.elim
  | ok l =>
    rw [hx] at h
    cases hy : rProg (bl s) with
    | error y => rw [hy] at h; exact h.elim
    | ok y =>
      obtain ⟨m, q⟩ := y
      have := rProg_ok hy
      show (s.size : Int) = (q : Int)
      rw [this, bl_length]
theorem psFar_range (s : ByteArray) : 0 ≤ psFar s ∧ psFar s ≤ s.size := by
  rw [psFar_r, ← bl_length]; exact far_range _
theorem works_rule : psRuleText ⟨#[112, 40, 88, 41, 32, 58, 45, 32, 113, 40, 88, 41, 44, 32, 110, 111, 116, 32, 114, 44, 32, 88, 32, 33, 61, 32, 53, 46]⟩ = .ok ⟨⟨#[112]⟩, [(true, ⟨#[88]⟩)], [⟨1, ⟨#[113]⟩, [(true, ⟨#[88]⟩)], (false, ⟨#[]⟩), (false, ⟨#[]⟩)⟩, ⟨2, ⟨#[114]⟩, [], (false, ⟨#[]⟩), (false, ⟨#[]⟩)⟩, ⟨3, ⟨#[]⟩, [], (true, ⟨#[88]⟩), (false, ⟨#[53]⟩)⟩]⟩ := by kernel_rfl
theorem works_prog : psText ⟨#[112, 40, 88, 41, 32, 58, 45, 32, 113, 32, 88, 46]⟩ = .error 10 := by kernel_rfl
theorem works_begin : begB ⟨#[112, 40]⟩ = true := by kernel_rfl
theorem works_bad : begB ⟨#[112, 41]⟩ = false := by kernel_rfl
end Go.Proofs.Ytclioihichcpiaa


/- Parse: works. -/
namespace Go.Proofs.Ytclioihichcpiaa
open Go.RowKit Lx
theorem own_at {w : World} {lo : Nat} {e : TypeId} {size g n c : Nat} {xs : List Value} (h : w.ownsRow lo e size (.slice (some ⟨g, 0, none⟩) n c) n xs) (i : Nat) (u : Value) (hu : xs[i]? = some u) : w.cell? ⟨g, i, none⟩ = some u := by
  have := h.cells (g := g) rfl i u hu
  rw [addr_add, Nat.zero_add] at this
  exact this
theorem works_body {w : World} {lo : Nat} {av bv : Value} (h : RuleIn w lo av bv ⟨⟨#[112]⟩, [(true, ⟨#[88]⟩)], [⟨1, ⟨#[113]⟩, [(true, ⟨#[88]⟩)], (false, ⟨#[]⟩), (false, ⟨#[]⟩)⟩, ⟨2, ⟨#[114]⟩, [], (false, ⟨#[]⟩), (false, ⟨#[]⟩)⟩, ⟨3, ⟨#[]⟩, [], (true, ⟨#[88]⟩), (false, ⟨#[53]⟩)⟩]⟩) :
    ∃ xa xc g c, av = .slice xa 1 xc ∧ bv = .slice (some ⟨g, 0, none⟩) 3 c ∧ w.cell? ⟨g, 7, none⟩ = some (.int .i64 2) ∧ w.cell? ⟨g, 20, none⟩ = some (.string ⟨#[53]⟩) := by
  obtain ⟨h1, L, hL, hb, -⟩ := h
  obtain ⟨xa, xc, e1, _⟩ := own_slice h1
  rcases L with _ | ⟨⟨y0, v0⟩, _ | ⟨⟨y1, v1⟩, _ | ⟨⟨y2, v2⟩, _ | ⟨_, _⟩⟩⟩⟩ <;> simp at hL
  obtain ⟨rfl, rfl, rfl⟩ := hL
  obtain ⟨g, c, rfl, -⟩ := own_shape hb.own (by simp)
  exact ⟨xa, xc, g, c, e1, rfl, own_at hb.own 7 _ rfl, own_at hb.own 20 _ rfl⟩
end Go.Proofs.Ytclioihichcpiaa
