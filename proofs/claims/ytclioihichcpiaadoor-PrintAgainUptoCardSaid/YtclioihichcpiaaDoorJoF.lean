/- Quote: the reference's. -/
import Derived.Test.YtclioihichcpiaaDoorProg
import Derived.Test.YtclioihichcpiaaDoorBase
import Derived.Test.YtclioihichcpiaaDoorBytes
import Derived.Test.YtclioihichcpiaaDoorJoA
import Derived.Test.YtclioihichcpiaaDoorJoE
import Derived.Deep.AppendLies
import Derived.Deep.RegionLaw
import Derived.Lib.AppendStr
import Derived.Lib.ConvBytes
import Derived.Laws.BitsAllLaws
namespace Go.Proofs.YtclioihichcpiaaDoor
open Go.RowKit Lx

namespace Lx
/-- a digit of two, as a byte -/
def hexI (n : Int) : Int := if n < 10 then 48 + n else 87 + n
def byteI (n : Int) : UInt8 := UInt8.ofNat n.toNat
/-- a byte as it is written in a string -/
def escL (c : UInt8) : Bs :=
  if bi c = 34 ∨ bi c = 92 then [92, c] else if bi c = 10 then [92, 110] else if bi c = 9 then [92, 116]
  else if 32 ≤ bi c ∧ bi c ≤ 126 then [c] else [92, 120, byteI (hexI (bi c / 16)), byteI (hexI (bi c % 16))]
def quoteL (l : Bs) : Bs := 34 :: (l.flatMap escL ++ [34])
theorem esc_len (c : UInt8) : 1 ≤ (escL c).length ∧ (escL c).length ≤ 4 := by
  unfold escL; repeat' split
  all_goals simp
theorem escs_len (l : Bs) : l.length ≤ (l.flatMap escL).length ∧ (l.flatMap escL).length ≤ 4 * l.length := by
  induction l with
  | nil => simp
  | cons c r ih => have := esc_len c; rw [List.flatMap_cons, List.length_append, List.length_cons]; omega
theorem esc_a (c : UInt8) (h : bi c = 34 ∨ bi c = 92) : escL c = [92, c] := if_pos h
theorem esc_n (c : UInt8) (h : bi c = 10) : escL c = [92, 110] := by unfold escL; rw [if_neg (by omega), if_pos h]
theorem esc_t (c : UInt8) (h : bi c = 9) : escL c = [92, 116] := by unfold escL; rw [if_neg (by omega), if_neg (by omega), if_pos h]
theorem esc_p (c : UInt8) (h : ¬ (bi c = 34 ∨ bi c = 92)) (h2 : 32 ≤ bi c ∧ bi c ≤ 126) : escL c = [c] := by unfold escL; rw [if_neg h, if_neg (by omega), if_neg (by omega), if_pos h2]
theorem esc_x (c : UInt8) (h : ¬ (bi c = 34 ∨ bi c = 92)) (h2 : ¬ bi c = 10) (h3 : ¬ bi c = 9) (h4 : ¬ (32 ≤ bi c ∧ bi c ≤ 126)) : escL c = [92, 120, byteI (hexI (bi c / 16)), byteI (hexI (bi c % 16))] := by
  unfold escL; rw [if_neg h, if_neg h2, if_neg h3, if_neg h4]
theorem hexI_range (n : Int) (h0 : 0 ≤ n) (h1 : n < 16) : 0 ≤ hexI n ∧ hexI n < 256 := by unfold hexI; split <;> omega
end Lx

theorem u8v_byteI (n : Int) (h0 : 0 ≤ n) (h1 : n < 256) : u8v (byteI n) = .int .u8 n := by
  unfold u8v byteI
  have : ((UInt8.ofNat n.toNat).toNat : Int) = n := by rw [UInt8.toNat_ofNat']; omega
  rw [this]
theorem run_hex (q : Int) (h0 : 0 ≤ q) (h1 : q < 16) (w : World) :
    (Instr.index 9 (.string ⟨#[48, 49, 50, 51, 52, 53, 54, 55, 56, 57, 97, 98, 99, 100, 101, 102]⟩) (.int .u8 q)).run Tryd.prog w = .ok (.int .u8 (hexI q)) w := by
  have : q = 0 ∨ q = 1 ∨ q = 2 ∨ q = 3 ∨ q = 4 ∨ q = 5 ∨ q = 6 ∨ q = 7 ∨ q = 8 ∨ q = 9 ∨ q = 10 ∨ q = 11 ∨ q = 12 ∨ q = 13 ∨ q = 14 ∨ q = 15 := by omega
  rcases this with rfl | rfl | rfl | rfl | rfl | rfl | rfl | rfl | rfl | rfl | rfl | rfl | rfl | rfl | rfl | rfl <;> (rw [run_index_string w _ _ _ _ Tryd.underlying9, dif_pos ⟨by decide, by decide⟩]; rfl)

def quR (l : Bs) : Bs := if l.length ≤ 1024 then quoteL l else []
def quE (l : Bs) : Int := if l.length ≤ 1024 then 0 else 3
/-- what Quote answers -/
def QuPost (s : ByteArray) (w : World) (e : Ending) (w' : World) : Prop :=
  e = .returned (.tuple #[.string (mk (quR (bl s))), .int .i64 (quE (bl s))]) ∧ Below w.heap.size w w'
theorem QuPost.yes {s : ByteArray} {w w' : World} {x : ByteArray} (h : (bl s).length ≤ 1024) (hx : x = mk (quoteL (bl s))) (hb : Below w.heap.size w w') : QuPost s w (.returned (.tuple #[.string x, .int .i64 0])) w' := by
  unfold QuPost quR quE; rw [if_pos h, if_pos h, hx]; exact ⟨rfl, hb⟩
theorem QuPost.no {s : ByteArray} {w w' : World} (h : ¬ (bl s).length ≤ 1024) (hb : Below w.heap.size w w') : QuPost s w (.returned (.tuple #[.string ⟨#[]⟩, .int .i64 3])) w' := by
  unfold QuPost quR quE; rw [if_neg h, if_neg h]; exact ⟨rfl, hb⟩

/-- gathered so far: the first k bytes -/
def acc (s : ByteArray) (k : Nat) : Bs := 34 :: ((bl s).take k).flatMap escL
theorem acc_succ (s : ByteArray) (k : Nat) (h : k < s.size) : acc s (k + 1) = acc s k ++ escL ((bl s).getD k 0) := by
  have h' : k < (bl s).length := by rw [bl_length]; exact h
  unfold acc
  rw [List.take_succ_eq_append_getElem h', List.flatMap_append, List.getD_eq_getElem?_getD, List.getElem?_eq_getElem h']
  simp
theorem acc_len (s : ByteArray) (k : Nat) (h : k ≤ s.size) : 1 ≤ (acc s k).length ∧ (acc s k).length ≤ 1 + 4 * k := by
  have := escs_len ((bl s).take k)
  unfold acc
  rw [List.length_take, bl_length] at this
  rw [List.length_cons]; omega
theorem acc_end (s : ByteArray) : quoteL (bl s) = acc s s.size ++ [34] := by
  unfold acc quoteL; rw [List.take_of_length_le (by rw [bl_length]; exact Nat.le_refl _)]; rfl
/-- one byte more is written -/
theorem own_esc {w : World} {base : Nat} {et : TypeId} {v : Value} {s : ByteArray} {k m : Nat} {lit : List Value} (h : w.ownsRow base et 1 v ((acc s k).length + m) ((acc s k).map u8v ++ lit)) (hk : k < s.size)
    (he : lit = (escL ((bl s).getD k 0)).map u8v) (hm : m = lit.length) : w.ownsRow base et 1 v (acc s (k + 1)).length ((acc s (k + 1)).map u8v) := by
  have e2 : (escL ((bl s).getD k 0)).length = m := by rw [hm, he, List.length_map]
  rw [acc_succ s k hk, List.map_append, List.length_append, ← he, e2]; exact h
theorem own_fin {w : World} {base : Nat} {et : TypeId} {v : Value} {s : ByteArray} {k : Nat} (h : w.ownsRow base et 1 v ((acc s k).length + 1) ((acc s k).map u8v ++ [.int .u8 34])) (hk : k = s.size) :
    w.ownsRow base et 1 v ((acc s k).length + 1) ((quoteL (bl s)).map u8v) := by
  rw [acc_end, List.map_append, ← hk]; exact h
theorem lit_one {us : List Value} (h : ∃ l : Bs, us = l.map u8v) : ∀ u ∈ us, u.oneCell' = true := by
  obtain ⟨l, rfl⟩ := h; exact u8v_one l

theorem le_al_drew {n : Nat} {wr : World} (ob : Obj) (h : n ≤ wr.heap.size) : n ≤ (wr.alloc ob).drew.heap.size := by
  show n ≤ (wr.alloc ob).heap.size
  rw [World.size_alloc]; omega
theorem own_al_drew {w : World} {base : Nat} {e : TypeId} {size : Nat} {v : Value} {n : Nat} {xs : List Value} (ob : Obj) (h : w.ownsRow base e size v n xs) : (w.alloc ob).drew.ownsRow base e size v n xs := h.alloc ob
theorem own_grown_d {w wr w2 : World} {et : TypeId} {size : Nat} {v : Value} {n : Nat} {xs : List Value} {ob : Obj} (h : wr.ownsRow w.heap.size et size v n xs) (hb : Below w.heap.size w wr) (hg : (wr.alloc ob).drew.grownBy w2 v.ownBlock) : Below w.heap.size w w2 :=
  (below_drew (hb.al ob)).grown hg (le_al_drew ob hb.size) (own_ge h)
theorem u8_quo (b : Int) (h0 : 0 ≤ b) (h1 : b < 256) : IntKind.u8.wrap (b.tdiv 16) = b / 16 := by
  rw [Int.tdiv_eq_ediv_of_nonneg h0, show IntKind.u8.wrap (b / 16) = (b / 16) % 256 from by simp [IntKind.wrap, IntKind.bits, IntKind.signed]]; omega

end Go.Proofs.YtclioihichcpiaaDoor


/- Quote: lex's. -/
namespace Go.Proofs.YtclioihichcpiaaDoor
open Go.RowKit Lx

theorem u8_and15 (s : ByteArray) (k : Nat) : bits .and .u8 (bat s k) 15 = bat s k % 16 := by
  have h := (bat_range s k).2
  unfold bat at h ⊢
  have := u8_and_nat (((bl s).getD k 0).toNat) 15 (by omega) (by decide)
  rw [show ((15 : Int)) = ((15 : Nat) : Int) from rfl, this, show (15 : Nat) = 2 ^ 4 - 1 from rfl, Nat.and_two_pow_sub_one_eq_mod]; rfl
theorem below_bytes (w : World) (e : TypeId) (s : ByteArray) : Below w.heap.size w (Lib.bytesWorld w e s) :=
  ⟨rfl, rfl, rfl, by rw [Lib.bytesWorld_size]; omega, fun k hk => Lib.bytesWorld_at_old w e s k hk⟩
theorem own_not_marked {w : World} {base : Nat} {e t : TypeId} {size : Nat} {v : Value} {n B m : Nat} {xs : List Value} {bc : Array Value} (h : w.ownsRow base e size v n xs) (hB : w.heap[B]? = some (.cells bc t (m, m + 1))) : v.ownBlock ≠ some B := by
  rcases h.2 with ⟨rfl, _⟩ | ⟨g, cap, cur, rfl, _, hh, _⟩
  · intro h; cases h
  · intro h
    injection h with h
    have h : g = B := h
    subst h
    rw [hB] at hh
    injection hh with hh
    injection hh with _ _ hh
    injection hh with _ hh
    omega
theorem kept_marked {w w4 : World} {base : Nat} {e t : TypeId} {size : Nat} {v : Value} {n B m : Nat} {xs : List Value} {bc : Array Value} (h : w.ownsRow base e size v n xs) (hB : w.heap[B]? = some (.cells bc t (m, m + 1))) (hg : w.grownBy w4 v.ownBlock) :
    w4.heap[B]? = some (.cells bc t (m, m + 1)) := by
  rw [hg.block B (Array.getElem?_eq_some_iff.1 hB).1 (fun h2 => own_not_marked h hB h2.symm)]; exact hB
theorem kept_marked_d {w w4 : World} {ob : Obj} {base : Nat} {e t : TypeId} {size : Nat} {v : Value} {n B m : Nat} {xs : List Value} {bc : Array Value} (h : w.ownsRow base e size v n xs) (hB : w.heap[B]? = some (.cells bc t (m, m + 1))) (hg : (w.alloc ob).drew.grownBy w4 v.ownBlock) :
    w4.heap[B]? = some (.cells bc t (m, m + 1)) := by
  have hlt := (Array.getElem?_eq_some_iff.1 hB).1
  rw [hg.block B (le_al_drew ob hlt) (fun h2 => own_not_marked h hB h2.symm)]
  show (w.alloc ob).heap[B]? = _
  rw [heap_alloc_old w _ hlt]; exact hB
theorem kept_marked_al {w w4 : World} {ob : Obj} {base : Nat} {e t : TypeId} {size : Nat} {v : Value} {n B m : Nat} {xs : List Value} {bc : Array Value} (h : w.ownsRow base e size v n xs) (hB : w.heap[B]? = some (.cells bc t (m, m + 1))) (hg : (w.alloc ob).grownBy w4 v.ownBlock) :
    w4.heap[B]? = some (.cells bc t (m, m + 1)) := by
  have hlt := (Array.getElem?_eq_some_iff.1 hB).1
  rw [hg.block B (by rw [World.size_alloc]; omega) (fun h2 => own_not_marked h hB h2.symm), heap_alloc_old w _ hlt]; exact hB

end Go.Proofs.YtclioihichcpiaaDoor
