/- (gen_nmbase.py, out of OpenQ) A rule as it is read: its terms and literals, and its bulk. -/
import Derived.Test.YtoklbofobcloaaaDoorNmA
import Derived.Test.YtoklbofobcloaaaDoorRows
import Derived.Test.YtoklbofobcloaaaDoorOpen
import Derived.Deep.Slices
import Derived.Deep.Fields
namespace Go.Proofs.YtoklbofobcloaaaDoor
open Go.ChangeShapes Go.WideShapes Go.ChangeAt Go.RowKit Go.Deep

theorem Terms.none' (w : World) (a : Option Addr) : Terms w a [] := ⟨by simp, fun j x hj => by simp at hj, fun x hx => by simp at hx⟩
theorem rbulk_pos {H : Type} (d : DataW H) : 1 ≤ Rows.uptoBulk d := by
  cases d with
  | lit l => cases l <;> simp [Rows.uptoBulk]
  | _ => simp [Rows.uptoBulk]
theorem rbulk_len {H : Type} : ∀ ds : List (DataW H), ds.length ≤ Rows.uptoBulkAll ds
  | [] => Nat.zero_le _
  | d :: ds => by
    have := rbulk_len ds
    have := rbulk_pos d
    show ds.length + 1 ≤ Rows.uptoBulk d + Rows.uptoBulkAll ds
    omega
theorem rbulk_mem {H : Type} : ∀ (ds : List (DataW H)) (d : DataW H), d ∈ ds → Rows.uptoBulk d ≤ Rows.uptoBulkAll ds
  | e :: ds, d, h => by
    show _ ≤ Rows.uptoBulk e + Rows.uptoBulkAll ds
    rcases List.mem_cons.1 h with rfl | h
    · omega
    · have := rbulk_mem ds d h; omega
theorem sum_bulk {H : Type} {α : Type _} (g : α → Nat) : ∀ (xs : List α) (ds : List (DataW H)), xs.length = ds.length → (∀ (i : Nat) (x : α) (d : DataW H), xs[i]? = some x → ds[i]? = some d → g x ≤ Rows.uptoBulk d) → (xs.map g).sum ≤ Rows.uptoBulkAll ds
  | [], ds, _, _ => Nat.zero_le _
  | x :: xs, [], hl, _ => by cases hl
  | x :: xs, d :: ds, hl, h => by
    have h1 := h 0 x d rfl rfl
    have h2 := sum_bulk g xs ds (by simpa using hl) fun i y e hy he => h (i + 1) y e (by simpa using hy) (by simpa using he)
    show g x + (xs.map g).sum ≤ Rows.uptoBulk d + Rows.uptoBulkAll ds
    omega
section
variable {H : Type} {enc : TypeId × Value → H} {W : World} {base : Nat} {spare : Nat → Bool} {held : Bool}
theorem term_in {n : Nat} {cs : List Value} {x : DataW H × List MemPlace} (h : DataW.trod enc Tryd.prog W base spare held n 33 cs = some x) : ∃ (v : Bool) (s : ByteArray), cs = [.bool v, .string s] ∧ s.size + 3 ≤ Rows.uptoBulk x.1 := by
  obtain ⟨xs, n', _, rfl, hl, hx, hf⟩ := DataW.trod_struct Tryd.underlying33 h
  have hl2 : cs.length = 2 := hl.trans (by kernel_rfl)
  have c4 : Tryd.prog.cellsOf 4 = 1 := by kernel_rfl
  have c9 : Tryd.prog.cellsOf 9 = 1 := by kernel_rfl
  have h0 : DataW.trod enc Tryd.prog W base spare held n' 4 ((cs.drop 0).take (Tryd.prog.cellsOf 4)) = xs[0]? := hf 0 _ rfl
  have h1 : DataW.trod enc Tryd.prog W base spare held n' 9 ((cs.drop 1).take (Tryd.prog.cellsOf 9)) = xs[1]? := hf 1 _ rfl
  rw [c4] at h0
  rw [c9] at h1
  clear hl hf h
  match cs, hl2, xs, hx with
  | [a, b], _, [x0, x1], _ =>
    obtain ⟨v, hv, _⟩ := DataW.trod_bool Tryd.underlying4 h0
    obtain ⟨s, hs, hxs, _⟩ := DataW.trod_string Tryd.underlying9 h1
    have e0 : a = .bool v := by simpa using hv
    have e1 : b = .string s := by simpa using hs
    subst e0; subst e1
    refine ⟨v, s, rfl, ?_⟩
    have hp0 := rbulk_pos x0.1
    show s.size + 3 ≤ Rows.uptoBulk x0.1 + (Rows.uptoBulk x1.1 + 0) + 1
    rw [hxs]
    show s.size + 3 ≤ Rows.uptoBulk x0.1 + (s.data.toList.length + 1 + 0) + 1
    have : s.data.toList.length = s.size := by rw [Array.length_toList]; rfl
    omega
theorem add_one (q : Addr) : q.add 1 = ⟨q.block, q.off + 1, none⟩ := by simp [Addr.add]
theorem add_pos (q : Addr) (n : Nat) (h : 0 < n) : q.add n = ⟨q.block, q.off + n, none⟩ := by
  unfold Addr.add; rw [if_neg (by omega)]
theorem terms_in {fuel : Nat} {a : Option Addr} {len cap : Nat} {x : DataW H × List MemPlace} (h : DataW.trod enc Tryd.prog W base spare held fuel 22 [.slice a len cap] = some x) (hB : Rows.uptoBulk x.1 ≤ 1048576) :
    ∃ l : List (Bool × ByteArray), l.length = len ∧ Terms W a l ∧ Lx.tWt l + 1 ≤ Rows.uptoBulk x.1 := by
  rcases open_slice Tryd.underlying22 h with ⟨hcs, _⟩ | ⟨q, ln, c, m, n, D, Pl, hcs, _, hl, hm, hz, hx, hi⟩
  · simp at hcs
    obtain ⟨rfl, rfl, rfl⟩ := hcs
    exact ⟨[], rfl, Terms.none' W none, rbulk_pos _⟩
  · simp at hcs
    obtain ⟨rfl, rfl, rfl⟩ := hcs
    have hlm : len ≤ m := by rw [hz]; split <;> omega
    have c38 : Tryd.prog.cellsOf 33 = 2 := by kernel_rfl
    have hex : ∀ i : Fin len, ∃ y : Bool × ByteArray, W.cell? (q.add (i.1 * 2)) = some (.bool y.1) ∧ W.cell? ⟨(q.add (i.1 * 2)).block, (q.add (i.1 * 2)).off + 1, none⟩ = some (.string y.2) ∧ y.2.size + 3 ≤ Rows.uptoBulk (D i.1) := fun i => by
      obtain ⟨cs', hcc, htr⟩ := hi i.1 (by omega)
      rw [c38] at hcc
      obtain ⟨_, hcl, hat⟩ := World.cells?_some hcc
      obtain ⟨v, s, rfl, hsz⟩ := term_in htr
      refine ⟨(v, s), ?_, ?_, hsz⟩
      · have := hat 0 (by omega); exact this
      · have := hat 1 (by omega); rw [add_one] at this; exact this
    obtain ⟨f, hf⟩ := Classical.axiomOfChoice hex
    have hb1 : Rows.uptoBulkAll ((List.range len).map D) ≤ 1048576 := by
      rw [hx] at hB
      have : Rows.uptoBulkAll ((List.range len).map D) + Rows.uptoBulkAll ((List.range (m - len)).map fun j => D (len + j)) + 1 ≤ 1048576 := hB
      omega
    refine ⟨List.ofFn f, by simp, ⟨?_, fun j y hj => ?_, fun y hy => ?_⟩, ?_⟩
    rotate_right
    · have hsum := sum_bulk (fun x : Bool × ByteArray => x.2.size + 3) (List.ofFn f) ((List.range len).map D) (by simp) (by
        intro i y d hy hd
        obtain ⟨hlt, hj⟩ := List.getElem?_eq_some_iff.1 hy
        have hlt' : i < len := by simpa using hlt
        have he : f ⟨i, hlt'⟩ = y := by rw [← hj]; simp
        have hd2 : D i = d := by
          rw [List.getElem?_map, List.getElem?_range hlt'] at hd
          simpa using hd
        have h3 := (hf ⟨i, hlt'⟩).2.2
        rw [he] at h3
        rw [← hd2]; exact h3)
      rw [hx]
      show Lx.tWt (List.ofFn f) + 1 ≤ Rows.uptoBulkAll ((List.range len).map D) + Rows.uptoBulkAll ((List.range (m - len)).map fun j => D (len + j)) + 1
      have : Lx.tWt (List.ofFn f) ≤ Rows.uptoBulkAll ((List.range len).map D) := hsum
      omega
    · have := rbulk_len ((List.range len).map D)
      simp at this ⊢
      omega
    · obtain ⟨hlt, hj⟩ := List.getElem?_eq_some_iff.1 hj
      have hlt' : j < len := by simpa using hlt
      have he : f ⟨j, hlt'⟩ = y := by rw [← hj]; simp
      obtain ⟨h1, h2, _⟩ := hf ⟨j, hlt'⟩
      rw [he] at h1 h2
      exact ⟨q, rfl, h1, h2⟩
    · obtain ⟨i, rfl⟩ := List.mem_ofFn.1 hy
      obtain ⟨_, _, h3⟩ := hf i
      have h4 := rbulk_mem ((List.range len).map D) (D i.1) (List.mem_map_of_mem (List.mem_range.2 i.2))
      omega
theorem slice_one {fuel : Nat} {t e : TypeId} {v : Value} {x : DataW H × List MemPlace} {P : Program} (ht : P.underlying t = some (.slice e)) (h : DataW.trod enc P W base spare held fuel t [v] = some x) : ∃ a len cap, v = .slice a len cap := by
  rcases open_slice ht h with ⟨hcs, _⟩ | ⟨q, ln, c, m, n, D, Pl, hcs, _⟩
  · simp at hcs; exact ⟨_, _, _, hcs⟩
  · simp at hcs; exact ⟨_, _, _, hcs⟩
theorem atom_in {n : Nat} {cs : List Value} {x : DataW H × List MemPlace} (h : DataW.trod enc Tryd.prog W base spare held n 24 cs = some x) (hB : Rows.uptoBulk x.1 ≤ 1048576) :
    ∃ (p : ByteArray) (a : Option Addr) (l : List (Bool × ByteArray)) (cap : Nat), cs = [.string p, .slice a l.length cap] ∧ p.size ≤ 1048576 ∧ Terms W a l ∧ p.size + Lx.tWt l + 3 ≤ Rows.uptoBulk x.1 := by
  obtain ⟨xs, n', _, rfl, hl, hx, hf⟩ := DataW.trod_struct Tryd.underlying24 h
  have hl2 : cs.length = 2 := hl.trans (by kernel_rfl)
  have c22 : Tryd.prog.cellsOf 22 = 1 := by kernel_rfl
  have c9 : Tryd.prog.cellsOf 9 = 1 := by kernel_rfl
  have h0 : DataW.trod enc Tryd.prog W base spare held n' 9 ((cs.drop 0).take (Tryd.prog.cellsOf 9)) = xs[0]? := hf 0 _ rfl
  have h1 : DataW.trod enc Tryd.prog W base spare held n' 22 ((cs.drop 1).take (Tryd.prog.cellsOf 22)) = xs[1]? := hf 1 _ rfl
  rw [c9] at h0
  rw [c22] at h1
  clear hl hf h
  match cs, hl2, xs, hx with
  | [a, b], _, [x0, x1], _ =>
    have hB' : Rows.uptoBulk x0.1 + (Rows.uptoBulk x1.1 + 0) + 1 ≤ 1048576 := hB
    obtain ⟨s, hs, hxs, _⟩ := DataW.trod_string Tryd.underlying9 h0
    have e0 : a = .string s := by simpa using hs
    subst e0
    obtain ⟨ad, len, cap, hv⟩ := slice_one Tryd.underlying22 h1
    subst hv
    obtain ⟨l, hll, hT, hW⟩ := terms_in h1 (by omega)
    subst hll
    have e9 : Rows.uptoBulk (DataW.lit (H := H) (.string s.data.toList)) = s.data.toList.length + 1 := rfl
    have e8 : s.data.size = s.size := rfl
    refine ⟨s, ad, l, cap, rfl, ?_, hT, ?_⟩
    · rw [hxs] at hB'
      rw [e9, Array.length_toList] at hB'
      omega
    · show s.size + Lx.tWt l + 3 ≤ Rows.uptoBulk x0.1 + (Rows.uptoBulk x1.1 + 0) + 1
      rw [hxs, e9, Array.length_toList]
      omega
theorem lit_in {n : Nat} {cs : List Value} {x : DataW H × List MemPlace} (h : DataW.trod enc Tryd.prog W base spare held n 44 cs = some x) (hB : Rows.uptoBulk x.1 ≤ 1048576) :
    ∃ (y : Lit) (a : Option Addr) (cap : Nat), cs = (litV y a cap).toList ∧ Terms W a y.a ∧ y.p.size ≤ 1048576 ∧ y.l.2.size ≤ 1048576 ∧ y.r.2.size ≤ 1048576 ∧ Lx.lWt y ≤ Rows.uptoBulk x.1 := by
  obtain ⟨xs, n', _, rfl, hl, hx, hf⟩ := DataW.trod_struct Tryd.underlying44 h
  have hl2 : cs.length = 7 := hl.trans (by kernel_rfl)
  have c36 : Tryd.prog.cellsOf 42 = 1 := by kernel_rfl
  have c24 : Tryd.prog.cellsOf 24 = 2 := by kernel_rfl
  have c38 : Tryd.prog.cellsOf 33 = 2 := by kernel_rfl
  have h0 : DataW.trod enc Tryd.prog W base spare held n' 42 ((cs.drop 0).take (Tryd.prog.cellsOf 42)) = xs[0]? := hf 0 _ rfl
  have h1 : DataW.trod enc Tryd.prog W base spare held n' 24 ((cs.drop 1).take (Tryd.prog.cellsOf 24)) = xs[1]? := hf 1 _ rfl
  have h2 : DataW.trod enc Tryd.prog W base spare held n' 33 ((cs.drop 3).take (Tryd.prog.cellsOf 33)) = xs[2]? := hf 2 _ rfl
  have h3 : DataW.trod enc Tryd.prog W base spare held n' 33 ((cs.drop 5).take (Tryd.prog.cellsOf 33)) = xs[3]? := hf 3 _ rfl
  rw [c36] at h0
  rw [c24] at h1
  rw [c38] at h2 h3
  clear hl hf h
  match cs, hl2, xs, hx with
  | [a, b, c, d, e, f, g], _, [x0, x1, x2, x3], _ =>
    have hB' : Rows.uptoBulk x0.1 + (Rows.uptoBulk x1.1 + (Rows.uptoBulk x2.1 + (Rows.uptoBulk x3.1 + 0))) + 1 ≤ 1048576 := hB
    obtain ⟨k, hk, _⟩ := DataW.trod_int Tryd.underlying42 h0
    have e0 : a = .int .i64 k := by simpa using hk
    subst e0
    obtain ⟨p, ad, l, cap, hp, hpz, hT, hW⟩ := atom_in h1 (by omega)
    have e1 : b = .string p ∧ c = .slice ad l.length cap := by simpa using hp
    obtain ⟨rfl, rfl⟩ := e1
    obtain ⟨lv, lt, hlv, hlz⟩ := term_in h2
    have e2 : d = .bool lv ∧ e = .string lt := by simpa using hlv
    obtain ⟨rfl, rfl⟩ := e2
    obtain ⟨rv, rt, hrv, hrz⟩ := term_in h3
    have e3 : f = .bool rv ∧ g = .string rt := by simpa using hrv
    obtain ⟨rfl, rfl⟩ := e3
    exact ⟨⟨k, p, l, (lv, lt), (rv, rt)⟩, ad, cap, rfl, hT, hpz, by dsimp only at hlz ⊢; omega, by dsimp only at hrz ⊢; omega, by
      have hp0 := rbulk_pos x0.1
      show p.size + Lx.tWt l + lt.size + rt.size + 11 ≤ Rows.uptoBulk x0.1 + (Rows.uptoBulk x1.1 + (Rows.uptoBulk x2.1 + (Rows.uptoBulk x3.1 + 0))) + 1
      omega⟩
theorem lits_in {fuel : Nat} {a : Option Addr} {len cap : Nat} {x : DataW H × List MemPlace} (h : DataW.trod enc Tryd.prog W base spare held fuel 25 [.slice a len cap] = some x) (hB : Rows.uptoBulk x.1 ≤ 1048576) :
    ∃ l : List Lit, l.length = len ∧ Lits W a l ∧ (l.map Lx.lWt).sum + 1 ≤ Rows.uptoBulk x.1 := by
  rcases open_slice Tryd.underlying25 h with ⟨hcs, _⟩ | ⟨q, ln, c, m, n, D, Pl, hcs, _, hl, hm, hz, hx, hi⟩
  · simp at hcs
    obtain ⟨rfl, rfl, rfl⟩ := hcs
    exact ⟨[], rfl, ⟨by simp, fun j x hj => by simp at hj, fun x hx => by simp at hx⟩, rbulk_pos _⟩
  · simp at hcs
    obtain ⟨rfl, rfl, rfl⟩ := hcs
    have hlm : len ≤ m := by rw [hz]; split <;> omega
    have c40 : Tryd.prog.cellsOf 44 = 7 := by kernel_rfl
    have hb1 : Rows.uptoBulkAll ((List.range len).map D) ≤ 1048576 := by
      rw [hx] at hB
      have : Rows.uptoBulkAll ((List.range len).map D) + Rows.uptoBulkAll ((List.range (m - len)).map fun j => D (len + j)) + 1 ≤ 1048576 := hB
      omega
    have hex : ∀ i : Fin len, ∃ y : Lit, (∃ ad cap, W.cell? (q.add (i.1 * 7)) = some (.int .i64 y.k) ∧ W.cell? ⟨(q.add (i.1 * 7)).block, (q.add (i.1 * 7)).off + 1, none⟩ = some (.string y.p) ∧ W.cell? ⟨(q.add (i.1 * 7)).block, (q.add (i.1 * 7)).off + 2, none⟩ = some (.slice ad y.a.length cap) ∧ W.cell? ⟨(q.add (i.1 * 7)).block, (q.add (i.1 * 7)).off + 3, none⟩ = some (.bool y.l.1) ∧ W.cell? ⟨(q.add (i.1 * 7)).block, (q.add (i.1 * 7)).off + 4, none⟩ = some (.string y.l.2) ∧ W.cell? ⟨(q.add (i.1 * 7)).block, (q.add (i.1 * 7)).off + 5, none⟩ = some (.bool y.r.1) ∧ W.cell? ⟨(q.add (i.1 * 7)).block, (q.add (i.1 * 7)).off + 6, none⟩ = some (.string y.r.2) ∧ Terms W ad y.a) ∧ (y.p.size ≤ 1048576 ∧ y.l.2.size ≤ 1048576 ∧ y.r.2.size ≤ 1048576) ∧ Lx.lWt y ≤ Rows.uptoBulk (D i.1) := fun i => by
      obtain ⟨cs', hcc, htr⟩ := hi i.1 (by omega)
      rw [c40] at hcc
      obtain ⟨_, hcl, hat⟩ := World.cells?_some hcc
      have h4 := rbulk_mem ((List.range len).map D) (D i.1) (List.mem_map_of_mem (List.mem_range.2 i.2))
      obtain ⟨y, ad, cp, rfl, hT, z1, z2, z3, z4⟩ := lit_in htr (by dsimp only; omega)
      refine ⟨y, ⟨ad, cp, ?_, ?_, ?_, ?_, ?_, ?_, ?_, hT⟩, ⟨z1, z2, z3⟩, z4⟩
      · exact hat 0 (by omega)
      · have := hat 1 (by omega); rw [add_pos _ _ (by omega)] at this; exact this
      · have := hat 2 (by omega); rw [add_pos _ _ (by omega)] at this; exact this
      · have := hat 3 (by omega); rw [add_pos _ _ (by omega)] at this; exact this
      · have := hat 4 (by omega); rw [add_pos _ _ (by omega)] at this; exact this
      · have := hat 5 (by omega); rw [add_pos _ _ (by omega)] at this; exact this
      · have := hat 6 (by omega); rw [add_pos _ _ (by omega)] at this; exact this
    obtain ⟨f, hf⟩ := Classical.axiomOfChoice hex
    refine ⟨List.ofFn f, by simp, ⟨?_, fun j y hj => ?_, fun y hy => ?_⟩, ?_⟩
    rotate_right
    · have hsum := sum_bulk Lx.lWt (List.ofFn f) ((List.range len).map D) (by simp) (by
        intro i y d hy hd
        obtain ⟨hlt, hj⟩ := List.getElem?_eq_some_iff.1 hy
        have hlt' : i < len := by simpa using hlt
        have he : f ⟨i, hlt'⟩ = y := by rw [← hj]; simp
        have hd2 : D i = d := by
          rw [List.getElem?_map, List.getElem?_range hlt'] at hd
          simpa using hd
        have h3 := (hf ⟨i, hlt'⟩).2.2
        rw [he] at h3
        rw [← hd2]; exact h3)
      rw [hx]
      show ((List.ofFn f).map Lx.lWt).sum + 1 ≤ Rows.uptoBulkAll ((List.range len).map D) + Rows.uptoBulkAll ((List.range (m - len)).map fun j => D (len + j)) + 1
      omega
    · have := rbulk_len ((List.range len).map D)
      simp at this ⊢
      omega
    · obtain ⟨hlt, hj⟩ := List.getElem?_eq_some_iff.1 hj
      have hlt' : j < len := by simpa using hlt
      have he : f ⟨j, hlt'⟩ = y := by rw [← hj]; simp
      obtain ⟨⟨ad, cp, h1, h2, h3, h4, h5, h6, h7, h8⟩, _⟩ := hf ⟨j, hlt'⟩
      rw [he] at h1 h2 h3 h4 h5 h6 h7 h8
      exact ⟨q, ad, cp, rfl, h1, h2, h3, h4, h5, h6, h7, h8⟩
    · obtain ⟨i, rfl⟩ := List.mem_ofFn.1 hy
      exact (hf i).2.1
theorem rule_in {n : Nat} {cs : List Value} {x : DataW H × List MemPlace} (h : DataW.trod enc Tryd.prog W base spare held n 27 cs = some x) (hB : Rows.uptoBulk x.1 ≤ 1048576) :
    ∃ (p : ByteArray) (a : Option Addr) (l : List (Bool × ByteArray)) (cap : Nat) (ba : Option Addr) (b : List Lit) (bcap : Nat), cs = [.string p, .slice a l.length cap, .slice ba b.length bcap] ∧ p.size ≤ 1048576 ∧ Terms W a l ∧ Lits W ba b ∧ Lx.ruleWt ⟨p, l, b⟩ ≤ Rows.uptoBulk x.1 := by
  obtain ⟨xs, n', _, rfl, hl, hx, hf⟩ := DataW.trod_struct Tryd.underlying27 h
  have hl2 : cs.length = 3 := hl.trans (by kernel_rfl)
  have c24 : Tryd.prog.cellsOf 24 = 2 := by kernel_rfl
  have c25 : Tryd.prog.cellsOf 25 = 1 := by kernel_rfl
  have h0 : DataW.trod enc Tryd.prog W base spare held n' 24 ((cs.drop 0).take (Tryd.prog.cellsOf 24)) = xs[0]? := hf 0 _ rfl
  have h1 : DataW.trod enc Tryd.prog W base spare held n' 25 ((cs.drop 2).take (Tryd.prog.cellsOf 25)) = xs[1]? := hf 1 _ rfl
  rw [c24] at h0
  rw [c25] at h1
  clear hl hf h
  match cs, hl2, xs, hx with
  | [a, b, c], _, [x0, x1], _ =>
    have hB' : Rows.uptoBulk x0.1 + (Rows.uptoBulk x1.1 + 0) + 1 ≤ 1048576 := hB
    obtain ⟨p, ad, l, cap, hp, hpz, hT, hW⟩ := atom_in h0 (by omega)
    have e1 : a = .string p ∧ b = .slice ad l.length cap := by simpa using hp
    obtain ⟨rfl, rfl⟩ := e1
    obtain ⟨bd, len, bcap, hv⟩ := slice_one Tryd.underlying25 h1
    subst hv
    obtain ⟨bl, hll, hL, hW2⟩ := lits_in h1 (by omega)
    subst hll
    refine ⟨p, ad, l, cap, bd, bl, bcap, rfl, hpz, hT, hL, ?_⟩
    show p.size + Lx.tWt l + (bl.map Lx.lWt).sum + 5 ≤ Rows.uptoBulk x0.1 + (Rows.uptoBulk x1.1 + 0) + 1
    omega
end
end Go.Proofs.YtoklbofobcloaaaDoor
