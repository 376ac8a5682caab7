/- tokens, plain: moved, cut, one byte more, a text behind. -/
import Derived.Test.YtmjincocmhadeaaDoorLexW
namespace Go.Proofs.YtmjincocmhadeaaDoor.Lx
theorem drop_append_lt (l m : Bs) (n : Nat) (h : n ≤ l.length) : (l ++ m).drop n = l.drop n ++ m := by
 rw [List.drop_append,show n - l.length = 0 from by omega,List.drop_zero]
/-! ### moved -/
/-! ### blanks ahead -/
theorem tk_skip {L X : Bs} {a d : Nat} {j : Bool} (h : skipN false L = d + skipN false X) (hd : L.drop d = X) (h1 : 1 ≤ d) (hlen : L.length = d + X.length) : tk L a j = tk X (a + d) false := by
 have hle := skip_ten.skip_le' false X
 by_cases hn : skipN false X = X.length
 · rw [tk_end h (by omega),tk_end rfl (Nat.le_of_eq hn.symm)]
   congr 1;omega
 · have hX : X.drop (skipN false X) ≠ [] := by
     intro h;have := congrArg List.length h;rw [List.length_drop] at this;simp at this;omega
   have hdr : L.drop (d + skipN false X) = X.drop (skipN false X) := by rw [← hd,List.drop_drop]
   cases hx : nextT (X.drop (skipN false X)) (a + d + skipN false X) with
   | mk t wh =>
    cases wh with
    | false =>
     rw [tk_open rfl rfl hX hx,tk_open h hdr hX (by rw [← Nat.add_assoc];exact hx),← Nat.add_assoc]
    | true =>
     have hz : (d + skipN false X == 0) = false := by rw [beq_eq_false_iff_ne];omega
     rw [tk_more rfl rfl hX hx (by simp),tk_more h hdr hX (by rw [← Nat.add_assoc];exact hx) (by rw [hz];simp),← Nat.add_assoc]
/-! ### a text behind -/
/-! ### cut where it goes no further -/
/-! ### one byte more -/
end Go.Proofs.YtmjincocmhadeaaDoor.Lx
