/- A rule as it is read: its terms and literals, of any size that the weights allow. -/
import Derived.Test.YtoklbofobcloaaaDoorBmA
import Derived.Test.YtoklbofobcloaaaDoorRows
import Derived.Test.YtoklbofobcloaaaDoorOpen
import Derived.Deep.Slices
import Derived.Deep.Fields
namespace Go.Proofs.YtoklbofobcloaaaDoor.Big
open Go.ChangeShapes Go.WideShapes Go.ChangeAt Go.RowKit Go.Deep

theorem Terms.none' (w : World) (a : Option Addr) : Terms w a [] := ⟨by simp, fun j x hj => by simp at hj, fun x hx => by simp at hx⟩
/-- each string, each list in it is within reach -/
def Wt {H : Type} (t : TypeId) (d : DataW H) : Prop := ∀ n ∈ d.weights Tryd.prog t, n ≤ 140737488351232
theorem Wt.str {H : Type} {t : TypeId} {bs : List UInt8} (h : Wt (H := H) t (.lit (.string bs))) : bs.length ≤ 140737488351232 := h _ (by simp [DataW.weights])
theorem Wt.part {H : Type} {t : TypeId} {fs : Array Field} {ds : List (DataW H)} (h : Wt t (.agg ds)) (hu : Tryd.prog.underlying t = some (.struct fs)) {j : Nat} {tj : TypeId} {d : DataW H} (ht : (fs.toList.map (·.type))[j]? = some tj) (hd : ds[j]? = some d) : Wt tj d := fun n hn => by
  refine h n ?_
  simp only [DataW.weights, hu]
  exact DataW.weights_mem_each ht hd n hn
theorem weightsAll_mem {H : Type} {P : Program} {e : TypeId} : ∀ {ds : List (DataW H)} {d : DataW H}, d ∈ ds → ∀ n ∈ d.weights P e, n ∈ DataW.weightsAll P e ds
  | x :: ds, d, h, n, hn => by
    simp only [DataW.weightsAll, List.mem_append]
    rcases List.mem_cons.1 h with rfl | h
    · exact .inl hn
    · exact .inr (weightsAll_mem h n hn)
theorem Wt.elems {H : Type} {t e : TypeId} {xs ys : List (DataW H)} (h : Wt t (.slice xs ys)) (hu : Tryd.prog.underlying t = some (.slice e)) : (xs.length + ys.length) * Tryd.prog.bytesOf e ≤ 140737488351232 ∧ ∀ d ∈ xs, Wt e d :=
  ⟨h _ (by simp [DataW.weights, hu]), fun d hd n hn => h n (by simp only [DataW.weights, hu, List.mem_cons, List.mem_append]; exact .inr (.inl (weightsAll_mem hd n hn)))⟩
section
variable {H : Type} {enc : TypeId × Value → H} {W : World} {base : Nat} {spare : Nat → Bool} {held : Bool}
set_option maxRecDepth 20000 in
theorem term_in {n : Nat} {cs : List Value} {x : DataW H × List MemPlace} (h : DataW.trod enc Tryd.prog W base spare held n 33 cs = some x) (hB : Wt 33 x.1) : ∃ (v : Bool) (s : ByteArray), cs = [.bool v, .string s] ∧ s.size ≤ 140737488351232 := by
  obtain ⟨xs, n', _, rfl, hl, hx, hf⟩ := DataW.trod_struct Tryd.underlying33 h
  have hl2 : cs.length = 2 := hl.trans (by kernel_rfl)
  have c4 : Tryd.prog.cellsOf 4 = 1 := by kernel_rfl
  have c9 : Tryd.prog.cellsOf 9 = 1 := by kernel_rfl
  have h0 : DataW.trod enc Tryd.prog W base spare held n' 4 ((cs.drop 0).take (Tryd.prog.cellsOf 4)) = xs[0]? := hf 0 _ rfl
  have h1 : DataW.trod enc Tryd.prog W base spare held n' 9 ((cs.drop 1).take (Tryd.prog.cellsOf 9)) = xs[1]? := hf 1 _ rfl
  rw [c4] at h0
  rw [c9] at h1
  clear hl hf h
  match cs, hl2, xs, hx with
  | [a, b], _, [x0, x1], _ =>
    obtain ⟨v, hv, _⟩ := DataW.trod_bool Tryd.underlying4 h0
    obtain ⟨s, hs, hxs, _⟩ := DataW.trod_string Tryd.underlying9 h1
    have e0 : a = .bool v := by simpa using hv
    have e1 : b = .string s := by simpa using hs
    subst e0; subst e1
    refine ⟨v, s, rfl, ?_⟩
    have hw : Wt 9 x1.1 := hB.part Tryd.underlying33 (j := 1) rfl rfl
    rw [hxs] at hw
    have := hw.str
    have e : s.data.toList.length = s.size := by rw [Array.length_toList]; rfl
    omega
theorem add_one (q : Addr) : q.add 1 = ⟨q.block, q.off + 1, none⟩ := by simp [Addr.add]
theorem add_pos (q : Addr) (n : Nat) (h : 0 < n) : q.add n = ⟨q.block, q.off + n, none⟩ := by
  unfold Addr.add; rw [if_neg (by omega)]
theorem terms_in {fuel : Nat} {a : Option Addr} {len cap : Nat} {x : DataW H × List MemPlace} (h : DataW.trod enc Tryd.prog W base spare held fuel 22 [.slice a len cap] = some x) (hB : Wt 22 x.1) :
    ∃ l : List (Bool × ByteArray), l.length = len ∧ Terms W a l := by
  rcases open_slice Tryd.underlying22 h with ⟨hcs, _⟩ | ⟨q, ln, c, m, n, D, Pl, hcs, _, hl, hm, hz, hx, hi⟩
  · simp at hcs
    obtain ⟨rfl, rfl, rfl⟩ := hcs
    exact ⟨[], rfl, Terms.none' W none⟩
  · simp at hcs
    obtain ⟨rfl, rfl, rfl⟩ := hcs
    have hlm : len ≤ m := by rw [hz]; split <;> omega
    have c38 : Tryd.prog.cellsOf 33 = 2 := by kernel_rfl
    rw [hx] at hB
    have hel := hB.elems Tryd.underlying22
    have hby : Tryd.prog.bytesOf 33 = 24 := by kernel_rfl
    rw [hby] at hel
    have hex : ∀ i : Fin len, ∃ y : Bool × ByteArray, W.cell? (q.add (i.1 * 2)) = some (.bool y.1) ∧ W.cell? ⟨(q.add (i.1 * 2)).block, (q.add (i.1 * 2)).off + 1, none⟩ = some (.string y.2) ∧ y.2.size ≤ 140737488351232 := fun i => by
      obtain ⟨cs', hcc, htr⟩ := hi i.1 (by omega)
      rw [c38] at hcc
      obtain ⟨_, hcl, hat⟩ := World.cells?_some hcc
      obtain ⟨v, s, rfl, hsz⟩ := term_in htr (hel.2 _ (List.mem_map_of_mem (List.mem_range.2 i.2)))
      refine ⟨(v, s), ?_, ?_, hsz⟩
      · have := hat 0 (by omega); exact this
      · have := hat 1 (by omega); rw [add_one] at this; exact this
    obtain ⟨f, hf⟩ := Classical.axiomOfChoice hex
    refine ⟨List.ofFn f, by simp, ⟨?_, fun j y hj => ?_, fun y hy => ?_⟩⟩
    · have := hel.1
      simp at this ⊢
      omega
    · obtain ⟨hlt, hj⟩ := List.getElem?_eq_some_iff.1 hj
      have hlt' : j < len := by simpa using hlt
      have he : f ⟨j, hlt'⟩ = y := by rw [← hj]; simp
      obtain ⟨h1, h2, _⟩ := hf ⟨j, hlt'⟩
      rw [he] at h1 h2
      exact ⟨q, rfl, h1, h2⟩
    · obtain ⟨i, rfl⟩ := List.mem_ofFn.1 hy
      exact (hf i).2.2
theorem slice_one {fuel : Nat} {t e : TypeId} {v : Value} {x : DataW H × List MemPlace} {P : Program} (ht : P.underlying t = some (.slice e)) (h : DataW.trod enc P W base spare held fuel t [v] = some x) : ∃ a len cap, v = .slice a len cap := by
  rcases open_slice ht h with ⟨hcs, _⟩ | ⟨q, ln, c, m, n, D, Pl, hcs, _⟩
  · simp at hcs; exact ⟨_, _, _, hcs⟩
  · simp at hcs; exact ⟨_, _, _, hcs⟩
set_option maxRecDepth 20000 in
theorem atom_in {n : Nat} {cs : List Value} {x : DataW H × List MemPlace} (h : DataW.trod enc Tryd.prog W base spare held n 24 cs = some x) (hB : Wt 24 x.1) :
    ∃ (p : ByteArray) (a : Option Addr) (l : List (Bool × ByteArray)) (cap : Nat), cs = [.string p, .slice a l.length cap] ∧ p.size ≤ 140737488351232 ∧ Terms W a l := by
  obtain ⟨xs, n', _, rfl, hl, hx, hf⟩ := DataW.trod_struct Tryd.underlying24 h
  have hl2 : cs.length = 2 := hl.trans (by kernel_rfl)
  have c22 : Tryd.prog.cellsOf 22 = 1 := by kernel_rfl
  have c9 : Tryd.prog.cellsOf 9 = 1 := by kernel_rfl
  have h0 : DataW.trod enc Tryd.prog W base spare held n' 9 ((cs.drop 0).take (Tryd.prog.cellsOf 9)) = xs[0]? := hf 0 _ rfl
  have h1 : DataW.trod enc Tryd.prog W base spare held n' 22 ((cs.drop 1).take (Tryd.prog.cellsOf 22)) = xs[1]? := hf 1 _ rfl
  rw [c9] at h0
  rw [c22] at h1
  clear hl hf h
  match cs, hl2, xs, hx with
  | [a, b], _, [x0, x1], _ =>
    have hB0 : Wt 9 x0.1 := hB.part Tryd.underlying24 (j := 0) rfl rfl
    have hB1 : Wt 22 x1.1 := hB.part Tryd.underlying24 (j := 1) rfl rfl
    obtain ⟨s, hs, hxs, _⟩ := DataW.trod_string Tryd.underlying9 h0
    have e0 : a = .string s := by simpa using hs
    subst e0
    obtain ⟨ad, len, cap, hv⟩ := slice_one Tryd.underlying22 h1
    subst hv
    obtain ⟨l, hll, hT⟩ := terms_in h1 hB1
    subst hll
    refine ⟨s, ad, l, cap, rfl, ?_, hT⟩
    rw [hxs] at hB0
    have := hB0.str
    have e : s.data.toList.length = s.size := by rw [Array.length_toList]; rfl
    omega
set_option maxRecDepth 20000 in
theorem lit_in {n : Nat} {cs : List Value} {x : DataW H × List MemPlace} (h : DataW.trod enc Tryd.prog W base spare held n 44 cs = some x) (hB : Wt 44 x.1) :
    ∃ (y : Lit) (a : Option Addr) (cap : Nat), cs = (litV y a cap).toList ∧ Terms W a y.a ∧ y.p.size ≤ 140737488351232 ∧ y.l.2.size ≤ 140737488351232 ∧ y.r.2.size ≤ 140737488351232 := by
  obtain ⟨xs, n', _, rfl, hl, hx, hf⟩ := DataW.trod_struct Tryd.underlying44 h
  have hl2 : cs.length = 7 := hl.trans (by kernel_rfl)
  have c36 : Tryd.prog.cellsOf 42 = 1 := by kernel_rfl
  have c24 : Tryd.prog.cellsOf 24 = 2 := by kernel_rfl
  have c38 : Tryd.prog.cellsOf 33 = 2 := by kernel_rfl
  have h0 : DataW.trod enc Tryd.prog W base spare held n' 42 ((cs.drop 0).take (Tryd.prog.cellsOf 42)) = xs[0]? := hf 0 _ rfl
  have h1 : DataW.trod enc Tryd.prog W base spare held n' 24 ((cs.drop 1).take (Tryd.prog.cellsOf 24)) = xs[1]? := hf 1 _ rfl
  have h2 : DataW.trod enc Tryd.prog W base spare held n' 33 ((cs.drop 3).take (Tryd.prog.cellsOf 33)) = xs[2]? := hf 2 _ rfl
  have h3 : DataW.trod enc Tryd.prog W base spare held n' 33 ((cs.drop 5).take (Tryd.prog.cellsOf 33)) = xs[3]? := hf 3 _ rfl
  rw [c36] at h0
  rw [c24] at h1
  rw [c38] at h2 h3
  clear hl hf h
  match cs, hl2, xs, hx with
  | [a, b, c, d, e, f, g], _, [x0, x1, x2, x3], _ =>
    have hB1 : Wt 24 x1.1 := hB.part Tryd.underlying44 (j := 1) rfl rfl
    have hB2 : Wt 33 x2.1 := hB.part Tryd.underlying44 (j := 2) rfl rfl
    have hB3 : Wt 33 x3.1 := hB.part Tryd.underlying44 (j := 3) rfl rfl
    obtain ⟨k, hk, _⟩ := DataW.trod_int Tryd.underlying42 h0
    have e0 : a = .int .i64 k := by simpa using hk
    subst e0
    obtain ⟨p, ad, l, cap, hp, hpz, hT⟩ := atom_in h1 hB1
    have e1 : b = .string p ∧ c = .slice ad l.length cap := by simpa using hp
    obtain ⟨rfl, rfl⟩ := e1
    obtain ⟨lv, lt, hlv, hlz⟩ := term_in h2 hB2
    have e2 : d = .bool lv ∧ e = .string lt := by simpa using hlv
    obtain ⟨rfl, rfl⟩ := e2
    obtain ⟨rv, rt, hrv, hrz⟩ := term_in h3 hB3
    have e3 : f = .bool rv ∧ g = .string rt := by simpa using hrv
    obtain ⟨rfl, rfl⟩ := e3
    exact ⟨⟨k, p, l, (lv, lt), (rv, rt)⟩, ad, cap, rfl, hT, hpz, by dsimp only at hlz ⊢; omega, by dsimp only at hrz ⊢; omega⟩
theorem lits_in {fuel : Nat} {a : Option Addr} {len cap : Nat} {x : DataW H × List MemPlace} (h : DataW.trod enc Tryd.prog W base spare held fuel 25 [.slice a len cap] = some x) (hB : Wt 25 x.1) :
    ∃ l : List Lit, l.length = len ∧ Lits W a l := by
  rcases open_slice Tryd.underlying25 h with ⟨hcs, _⟩ | ⟨q, ln, c, m, n, D, Pl, hcs, _, hl, hm, hz, hx, hi⟩
  · simp at hcs
    obtain ⟨rfl, rfl, rfl⟩ := hcs
    exact ⟨[], rfl, ⟨by simp, fun j x hj => by simp at hj, fun x hx => by simp at hx⟩⟩
  · simp at hcs
    obtain ⟨rfl, rfl, rfl⟩ := hcs
    have hlm : len ≤ m := by rw [hz]; split <;> omega
    have c40 : Tryd.prog.cellsOf 44 = 7 := by kernel_rfl
    rw [hx] at hB
    have hel := hB.elems Tryd.underlying25
    have hby : Tryd.prog.bytesOf 44 = 96 := by kernel_rfl
    rw [hby] at hel
    have hex : ∀ i : Fin len, ∃ y : Lit, (∃ ad cap, W.cell? (q.add (i.1 * 7)) = some (.int .i64 y.k) ∧ W.cell? ⟨(q.add (i.1 * 7)).block, (q.add (i.1 * 7)).off + 1, none⟩ = some (.string y.p) ∧ W.cell? ⟨(q.add (i.1 * 7)).block, (q.add (i.1 * 7)).off + 2, none⟩ = some (.slice ad y.a.length cap) ∧ W.cell? ⟨(q.add (i.1 * 7)).block, (q.add (i.1 * 7)).off + 3, none⟩ = some (.bool y.l.1) ∧ W.cell? ⟨(q.add (i.1 * 7)).block, (q.add (i.1 * 7)).off + 4, none⟩ = some (.string y.l.2) ∧ W.cell? ⟨(q.add (i.1 * 7)).block, (q.add (i.1 * 7)).off + 5, none⟩ = some (.bool y.r.1) ∧ W.cell? ⟨(q.add (i.1 * 7)).block, (q.add (i.1 * 7)).off + 6, none⟩ = some (.string y.r.2) ∧ Terms W ad y.a) ∧ y.p.size ≤ 140737488351232 ∧ y.l.2.size ≤ 140737488351232 ∧ y.r.2.size ≤ 140737488351232 := fun i => by
      obtain ⟨cs', hcc, htr⟩ := hi i.1 (by omega)
      rw [c40] at hcc
      obtain ⟨_, hcl, hat⟩ := World.cells?_some hcc
      obtain ⟨y, ad, cp, rfl, hT, z1, z2, z3⟩ := lit_in htr (hel.2 _ (List.mem_map_of_mem (List.mem_range.2 i.2)))
      refine ⟨y, ⟨ad, cp, ?_, ?_, ?_, ?_, ?_, ?_, ?_, hT⟩, z1, z2, z3⟩
      · exact hat 0 (by omega)
      · have := hat 1 (by omega); rw [add_pos _ _ (by omega)] at this; exact this
      · have := hat 2 (by omega); rw [add_pos _ _ (by omega)] at this; exact this
      · have := hat 3 (by omega); rw [add_pos _ _ (by omega)] at this; exact this
      · have := hat 4 (by omega); rw [add_pos _ _ (by omega)] at this; exact this
      · have := hat 5 (by omega); rw [add_pos _ _ (by omega)] at this; exact this
      · have := hat 6 (by omega); rw [add_pos _ _ (by omega)] at this; exact this
    obtain ⟨f, hf⟩ := Classical.axiomOfChoice hex
    refine ⟨List.ofFn f, by simp, ⟨?_, fun j y hj => ?_, fun y hy => ?_⟩⟩
    · have := hel.1
      simp at this ⊢
      omega
    · obtain ⟨hlt, hj⟩ := List.getElem?_eq_some_iff.1 hj
      have hlt' : j < len := by simpa using hlt
      have he : f ⟨j, hlt'⟩ = y := by rw [← hj]; simp
      obtain ⟨⟨ad, cp, h1, h2, h3, h4, h5, h6, h7, h8⟩, _⟩ := hf ⟨j, hlt'⟩
      rw [he] at h1 h2 h3 h4 h5 h6 h7 h8
      exact ⟨q, ad, cp, rfl, h1, h2, h3, h4, h5, h6, h7, h8⟩
    · obtain ⟨i, rfl⟩ := List.mem_ofFn.1 hy
      exact (hf i).2
set_option maxRecDepth 20000 in
theorem rule_in {n : Nat} {cs : List Value} {x : DataW H × List MemPlace} (h : DataW.trod enc Tryd.prog W base spare held n 27 cs = some x) (hB : Wt 27 x.1) :
    ∃ (p : ByteArray) (a : Option Addr) (l : List (Bool × ByteArray)) (cap : Nat) (ba : Option Addr) (b : List Lit) (bcap : Nat), cs = [.string p, .slice a l.length cap, .slice ba b.length bcap] ∧ p.size ≤ 140737488351232 ∧ Terms W a l ∧ Lits W ba b := by
  obtain ⟨xs, n', _, rfl, hl, hx, hf⟩ := DataW.trod_struct Tryd.underlying27 h
  have hl2 : cs.length = 3 := hl.trans (by kernel_rfl)
  have c24 : Tryd.prog.cellsOf 24 = 2 := by kernel_rfl
  have c25 : Tryd.prog.cellsOf 25 = 1 := by kernel_rfl
  have h0 : DataW.trod enc Tryd.prog W base spare held n' 24 ((cs.drop 0).take (Tryd.prog.cellsOf 24)) = xs[0]? := hf 0 _ rfl
  have h1 : DataW.trod enc Tryd.prog W base spare held n' 25 ((cs.drop 2).take (Tryd.prog.cellsOf 25)) = xs[1]? := hf 1 _ rfl
  rw [c24] at h0
  rw [c25] at h1
  clear hl hf h
  match cs, hl2, xs, hx with
  | [a, b, c], _, [x0, x1], _ =>
    have hB0 : Wt 24 x0.1 := hB.part Tryd.underlying27 (j := 0) rfl rfl
    have hB1 : Wt 25 x1.1 := hB.part Tryd.underlying27 (j := 1) rfl rfl
    obtain ⟨p, ad, l, cap, hp, hpz, hT⟩ := atom_in h0 hB0
    have e1 : a = .string p ∧ b = .slice ad l.length cap := by simpa using hp
    obtain ⟨rfl, rfl⟩ := e1
    obtain ⟨bd, len, bcap, hv⟩ := slice_one Tryd.underlying25 h1
    subst hv
    obtain ⟨bl, hll, hL⟩ := lits_in h1 hB1
    subst hll
    exact ⟨p, ad, l, cap, bd, bl, bcap, rfl, hpz, hT, hL⟩
end
end Go.Proofs.YtoklbofobcloaaaDoor.Big
