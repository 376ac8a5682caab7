/- Normal: rows of terms and of literals in memory; copies (printed by gen_nmbase.py out of the Print texts). -/
import Derived.Test.YtoklbofobcloaaaDoorBase
import Derived.Test.YtoklbofobcloaaaDoorProg
import Derived.Maps.AppendAt
import Derived.Deep.Upon
import Derived.Deep.RegionWith
import Derived.RegionTactic
import Derived.Deep.RegionHeld3
import Derived.Deep.AppendLies
namespace Go.Proofs.YtoklbofobcloaaaDoor
open Go.RowKit
theorem own_slice {w : World} {base : Nat} {e : TypeId} {size : Nat} {v : Value} {n : Nat} {xs : List Value} (h : w.ownsRow base e size v n xs) :
    ∃ a c, v = .slice a n c ∧ (a = none → n = 0 ∧ c = 0) := by
  rcases h.2 with ⟨rfl, rfl⟩ | ⟨g, cap, cur, rfl, _⟩
  · exact ⟨none, 0, rfl, fun _ => ⟨rfl, rfl⟩⟩
  · exact ⟨_, cap, rfl, fun h => by cases h⟩
theorem own_grown {w wr w2 : World} {et : TypeId} {v : Value} {n : Nat} {xs : List Value} {ob : Obj} (h : wr.ownsRow w.heap.size et 1 v n xs) (hb : Below w.heap.size w wr) (hg : (wr.alloc ob).grownBy w2 v.ownBlock) : Below w.heap.size w w2 :=
  (hb.al ob).grown hg (by have := hb.size; simp; omega) (own_ge h)
theorem own_cells_row {w : World} {us : List Value} {cs : Array Value} {e : TypeId} {b : Nat} (hb : w.heap.size = b) (h : cs = us.toArray) : ∀ j x, us[j]? = some x → (w.alloc (.cells cs e)).cell? ((⟨b, 0, none⟩ : Addr).add j) = some x := by
  subst h hb
  intro j x hx
  rw [addr_add, Nat.zero_add, cell_of_row _ _ _ _ _ (0, 0) (heap_alloc_new w _)]
  simpa using hx
theorem own_grown' {w wr w2 : World} {et : TypeId} {size : Nat} {v : Value} {n : Nat} {xs : List Value} {ob : Obj} (h : wr.ownsRow w.heap.size et size v n xs) (hb : Below w.heap.size w wr) (hg : (wr.alloc ob).grownBy w2 v.ownBlock) : Below w.heap.size w w2 :=
  (hb.al ob).grown hg (by have := hb.size; simp; omega) (own_ge h)
theorem new_cells {w w1 : World} {a b : Value} {t : TypeId} (hb : Below (w.alloc (.cells #[a, b] t)).heap.size (w.alloc (.cells #[a, b] t)) w1) : w1.cell? ⟨w.heap.size, 0, none⟩ = some a ∧ w1.cell? ⟨w.heap.size, 1, none⟩ = some b := by
  have h : w1.heap[w.heap.size]? = some (.cells #[a, b] t) := (hb.block _ (by rw [World.size_alloc]; omega)).trans (heap_alloc_new _ _)
  exact ⟨by simp [World.cell?, h], by simp [World.cell?, h]⟩
/-- a row of terms in memory -/
structure Terms (w : World) (a : Option Addr) (l : List (Bool × ByteArray)) : Prop where
  len : l.length ≤ 1048576
  cells : ∀ j x, l[j]? = some x → ∃ p, a = some p ∧ w.cell? (p.add (j * 2)) = some (.bool x.1) ∧ w.cell? ⟨(p.add (j * 2)).block, (p.add (j * 2)).off + 1, none⟩ = some (.string x.2)
  size : ∀ x ∈ l, x.2.size ≤ 1048576
theorem Terms.below {w w' : World} {a : Option Addr} {l : List (Bool × ByteArray)} (h : Terms w a l) (hb : Below w.heap.size w w') : Terms w' a l :=
  ⟨h.len, fun j x hj => by
    obtain ⟨p, hp, h1, h2⟩ := h.cells j x hj
    exact ⟨p, hp, cell_below hb rfl h1, cell_below hb rfl h2⟩, h.size⟩
theorem infoStr : (Tryd.prog.info? 9).map (fun i => (i.zero, i.size, i.bytes)) = some (some (.string ⟨#[]⟩), 1, 16) := by kernel_rfl
theorem Terms.new {w : World} {a : Option Addr} {l : List (Bool × ByteArray)} (h : Terms w a l) (ob : Obj) : Terms (w.alloc ob) a l := h.below ((Below.refl _ _).al _)
/-- a literal -/
structure Lit where
  k : Int
  p : ByteArray
  a : List (Bool × ByteArray)
  l : Bool × ByteArray
  r : Bool × ByteArray
def litV (x : Lit) (a : Option Addr) (cap : Nat) : Array Value :=
  #[.int .i64 x.k, .string x.p, .slice a x.a.length cap, .bool x.l.1, .string x.l.2, .bool x.r.1, .string x.r.2]
theorem heap_second (w : World) (o1 o2 : Obj) : ((w.alloc o1).alloc o2).heap[w.heap.size + 1]? = some o2 := by
  have := heap_alloc_new (w.alloc o1) o2
  rwa [World.size_alloc] at this
theorem Terms.two {w : World} {b : Nat} {lv rv : Bool} {lt rt : ByteArray} {t : TypeId} (h : w.heap[b]? = some (.cells #[.bool lv, .string lt, .bool rv, .string rt] t)) (hl : lt.size ≤ 1048576) (hr : rt.size ≤ 1048576) : Terms w (some ⟨b, 0, none⟩) [(lv, lt), (rv, rt)] := by
  refine ⟨by simp, fun j x hj => ?_, by intro x hx; simp at hx; rcases hx with rfl | rfl <;> assumption⟩
  match j, hj with
  | 0, hj =>
    simp at hj; subst hj
    exact ⟨_, rfl, by simp [World.cell?, Addr.add, h], by simp [World.cell?, Addr.add, h]⟩
  | 1, hj =>
    simp at hj; subst hj
    exact ⟨_, rfl, by simp [World.cell?, Addr.add, h], by simp [World.cell?, Addr.add, h]⟩
/-- a row of literals in memory -/
structure Lits (w : World) (a : Option Addr) (l : List Lit) : Prop where
  len : l.length ≤ 1048576
  cells : ∀ j x, l[j]? = some x → ∃ p ad cap, a = some p ∧ w.cell? (p.add (j * 7)) = some (.int .i64 x.k) ∧ w.cell? ⟨(p.add (j * 7)).block, (p.add (j * 7)).off + 1, none⟩ = some (.string x.p) ∧ w.cell? ⟨(p.add (j * 7)).block, (p.add (j * 7)).off + 2, none⟩ = some (.slice ad x.a.length cap) ∧ w.cell? ⟨(p.add (j * 7)).block, (p.add (j * 7)).off + 3, none⟩ = some (.bool x.l.1) ∧ w.cell? ⟨(p.add (j * 7)).block, (p.add (j * 7)).off + 4, none⟩ = some (.string x.l.2) ∧ w.cell? ⟨(p.add (j * 7)).block, (p.add (j * 7)).off + 5, none⟩ = some (.bool x.r.1) ∧ w.cell? ⟨(p.add (j * 7)).block, (p.add (j * 7)).off + 6, none⟩ = some (.string x.r.2) ∧ Terms w ad x.a
  size : ∀ x ∈ l, x.p.size ≤ 1048576 ∧ x.l.2.size ≤ 1048576 ∧ x.r.2.size ≤ 1048576
theorem Lits.below {w w' : World} {a : Option Addr} {l : List Lit} (h : Lits w a l) (hb : Below w.heap.size w w') : Lits w' a l :=
  ⟨h.len, fun j x hj => by
    obtain ⟨p, ad, cap, hp, h1, h2, h3, h4, h5, h6, h7, ht⟩ := h.cells j x hj
    exact ⟨p, ad, cap, hp, cell_below hb rfl h1, cell_below hb rfl h2, cell_below hb rfl h3, cell_below hb rfl h4, cell_below hb rfl h5, cell_below hb rfl h6, cell_below hb rfl h7, ht.below hb⟩, h.size⟩
theorem Lits.new {w : World} {a : Option Addr} {l : List Lit} (h : Lits w a l) (ob : Obj) : Lits (w.alloc ob) a l := h.below ((Below.refl _ _).al _)
theorem Lits.argsize {w : World} {a : Option Addr} {l : List Lit} (h : Lits w a l) : ∀ x ∈ l, ∀ y ∈ x.a, y.2.size ≤ 1048576 := by
  intro x hx
  obtain ⟨j, hj⟩ := List.getElem?_of_mem hx
  obtain ⟨p, ad, cap, hp, h1, h2, h3, h4, h5, h6, h7, ht⟩ := h.cells j x hj
  exact ht.size
structure Rul where
  h : ByteArray
  a : List (Bool × ByteArray)
  b : List Lit
theorem new_cells3 {w w1 : World} {a b c : Value} {t : TypeId} (hb : Below (w.alloc (.cells #[a, b, c] t)).heap.size (w.alloc (.cells #[a, b, c] t)) w1) : w1.cell? ⟨w.heap.size, 0, none⟩ = some a ∧ w1.cell? ⟨w.heap.size, 1, none⟩ = some b ∧ w1.cell? ⟨w.heap.size, 2, none⟩ = some c := by
  have h : w1.heap[w.heap.size]? = some (.cells #[a, b, c] t) := (hb.block _ (by rw [World.size_alloc]; omega)).trans (heap_alloc_new _ _)
  exact ⟨by simp [World.cell?, h], by simp [World.cell?, h], by simp [World.cell?, h]⟩
theorem lit_cells {w w1 : World} {o o2 : Obj} (hb : Below ((w.alloc o).alloc o2).heap.size ((w.alloc o).alloc o2) w1) : Below w.heap.size w w1 := (((Below.refl _ _).al _).al _).trans (hb.mono (by rw [World.size_alloc, World.size_alloc]; omega))
theorem pr_infoTerm : (Tryd.prog.info? 33).map (fun i => (i.zero, i.size, i.bytes)) = some (some (.agg #[.bool false, .string ⟨#[]⟩]), 2, 24) := by kernel_rfl
theorem pr_infoLit : (Tryd.prog.info? 44).map (fun i => (i.zero, i.size, i.bytes)) = some (some (.agg #[.int .i64 0, .string ⟨#[]⟩, .slice none 0 0, .bool false, .string ⟨#[]⟩, .bool false, .string ⟨#[]⟩]), 7, 96) := by kernel_rfl
theorem infoAtom : (Tryd.prog.info? 24).map (fun i => (i.zero, i.size, i.bytes)) = some (some (.agg #[.string ⟨#[]⟩, .slice none 0 0]), 2, 40) := by kernel_rfl
theorem wpList_append_any {P : Program} {w : World} {ops : Array Oper} {rest : List Oper} {o : Oper} {a : Act} {Q : Exit → Act → World → Prop} (hgd : o.guard = none) (s x : Operand) (t : TypeId)
    (ho : o.op = .call { callee := .builtin .append, args := #[s, x], argTypes := #[t, t] })
    (base : Nat) (e : TypeId) (i : TypeInfo) (z : Value) (size bytes : Nat) (ht : P.underlying t = some (.slice e)) (hi : P.info? e = some i) (hz : i.zero = some z)
    (hsize : i.size = size) (hby : i.bytes = bytes) (hzs : z.cells.size = size) (hsz : 0 < size)
    (v : Value) (n : Nat) (xs : List Value) (hs : a.eval s = v) (hown : w.ownsRow base e size v n xs)
    (ao : Option Addr) (m c : Nat) (news : List Value) (hx : a.eval x = .slice ao m c) (hl : news.length = m * size) (hnews : ∀ j u, news[j]? = some u → ∃ ad, ao = some ad ∧ w.cell? (ad.add j) = some u) (h1 : ∀ u ∈ news, u.oneCell' = true)
    (h63 : n + m ≤ maxLen) (hbytes : (n + m) * bytes ≤ 140737488355328) (hbase : base ≤ w.heap.size)
    (h : ∀ v' w', w'.ownsRow base e size v' (n + m) (xs ++ news) → w.grownBy w' v.ownBlock → (v' = .slice none 0 0 ↔ v = .slice none 0 0 ∧ m = 0) → (v'.ownBlock = v.ownBlock ∨ v'.ownBlock = some w.heap.size) → wpList P ops Q rest (a.put o.dst v') w') :
    wpList P ops Q (o :: rest) a w := by
  cases ao with
  | some ad =>
    refine wpList_append_own_at w hgd s x t ho base e i z size bytes ht hi hz hsize hby hzs hsz v n xs hs hown ad m c news hx hl (fun j u hj => ?_) h1 h63 hbytes hbase h
    obtain ⟨ad', he, hc⟩ := hnews j u hj
    cases he; exact hc
  | none =>
    have hn0 : news = [] := by
      cases news with
      | nil => rfl
      | cons u r => obtain ⟨ad, he, _⟩ := hnews 0 u rfl; cases he
    subst hn0
    have hm0 : m = 0 := by
      rcases Nat.mul_eq_zero.1 hl.symm with h | h
      · exact h
      · omega
    subst hm0
    have hshape : ∃ b cp, v = .slice b n cp ∧ n ≤ cp := by
      rcases hown.2 with ⟨rfl, rfl⟩ | ⟨g, cp, cur, rfl, _, _, hc, _⟩
      · exact ⟨none, 0, rfl, Nat.le_refl _⟩
      · exact ⟨_, _, rfl, hc⟩
    obtain ⟨b, cp, hv, hcp⟩ := hshape
    have hrun : (Builtin.append_ #[t, t] o.type #[v, .slice none 0 c]).run P w = .ok v w := by
      rw [hv]
      exact run_append_nothing w t t o.type e i ht hi b n cp hcp _ (Src.ofNil w ht c)
    refine wpList_plain hgd fun K hK => ?_
    unfold Oper.wp execOp
    simp only [ho, resolve, invoke, builtin, Sem.run_bind, Sem.run_pure, Result.andThen_ok, List.map_toArray, List.map_cons, List.map_nil, hs, hx, hrun]
    exact hK _ _ (h v w (by rw [List.append_nil]; exact hown) ⟨rfl, rfl, rfl, Nat.le_refl _, fun _ _ _ => rfl⟩ (by simp) (.inl rfl))
theorem spot_of_cell {w : World} {x : Addr} {v : Value} (h : w.cell? x = some v) : x.spot = none := by
  cases hsp : x.spot with
  | none => rfl
  | some s =>
    simp only [World.cell?, hsp] at h
    split at h <;> simp at h
theorem pr_flat_get {α : Type} (f : α → List Value) (k : Nat) (hk : ∀ x, (f x).length = k) : ∀ (L : List α) (i o : Nat), o < k → (L.flatMap f)[i * k + o]? = (L[i]?).bind fun x => (f x)[o]?
  | [], i, o, h => by simp
  | x :: r, 0, o, h => by
    rw [List.flatMap_cons, Nat.zero_mul, Nat.zero_add, List.getElem?_append_left (by rw [hk]; exact h)]
    rfl
  | x :: r, i + 1, o, h => by
    rw [List.flatMap_cons, List.getElem?_append_right (by rw [hk, Nat.succ_mul]; omega), hk, show (i + 1) * k + o - k = i * k + o from by rw [Nat.succ_mul]; omega, pr_flat_get f k hk r i o h]
    rfl
theorem flat_len {α : Type} (f : α → List Value) (k : Nat) (hk : ∀ x, (f x).length = k) (L : List α) : (L.flatMap f).length = L.length * k := by
  induction L with
  | nil => simp
  | cons x r ih => rw [List.flatMap_cons, List.length_append, hk, ih, List.length_cons, Nat.succ_mul]; omega
theorem flat_some {α : Type} (f : α → List Value) (k : Nat) (hk : ∀ x, (f x).length = k) (k0 : 0 < k) (L : List α) (j : Nat) (u : Value) (h : (L.flatMap f)[j]? = some u) : ∃ x, L[j / k]? = some x ∧ (f x)[j % k]? = some u := by
  have hj : j = j / k * k + j % k := by rw [Nat.mul_comm]; exact (Nat.div_add_mod j k).symm
  rw [hj, pr_flat_get f k hk L (j / k) (j % k) (Nat.mod_lt _ k0)] at h
  cases hx : L[j / k]? with
  | none => rw [hx] at h; cases h
  | some x => rw [hx] at h; exact ⟨x, rfl, h⟩
def cellT (x : Bool × ByteArray) : List Value := [.bool x.1, .string x.2]
def flatT (l : List (Bool × ByteArray)) : List Value := l.flatMap cellT
theorem flatT_len (l : List (Bool × ByteArray)) : (flatT l).length = l.length * 2 := flat_len cellT 2 (fun _ => rfl) l
theorem flatT_one (l : List (Bool × ByteArray)) : ∀ u ∈ flatT l, u.oneCell' = true := by
  intro u hu
  obtain ⟨x, _, hx⟩ := List.mem_flatMap.1 hu
  simp [cellT] at hx
  rcases hx with rfl | rfl <;> rfl
theorem Terms.news {w : World} {a : Option Addr} {l : List (Bool × ByteArray)} (h : Terms w a l) : ∀ j u, (flatT l)[j]? = some u → ∃ ad, a = some ad ∧ w.cell? (ad.add j) = some u := by
  intro j u hj
  obtain ⟨x, hx, hu⟩ := flat_some cellT 2 (fun _ => rfl) (by omega) l j u hj
  obtain ⟨p, hp, h1, h2⟩ := h.cells (j / 2) x hx
  refine ⟨p, hp, ?_⟩
  have hsp : p.spot = none := by
    have hlt := (List.getElem?_eq_some_iff.1 hx).1
    obtain ⟨p', hp', h1', _⟩ := h.cells 0 _ (List.getElem?_eq_getElem (by omega))
    rw [hp] at hp'
    cases hp'
    have := spot_of_cell h1'
    rw [Nat.zero_mul] at this
    exact this
  obtain ⟨b, off, sp⟩ := p
  simp only at hsp
  subst hsp
  rcases Nat.mod_two_eq_zero_or_one j with h0 | h0
  · rw [h0] at hu
    simp [cellT] at hu
    rw [show j = j / 2 * 2 from by omega, h1, hu]
  · rw [h0] at hu
    simp [cellT] at hu
    rw [← hu, ← h2]
    congr 1
    rw [addr_add, addr_add]
    show (⟨b, off + j, none⟩ : Addr) = ⟨b, off + j / 2 * 2 + 1, none⟩
    congr 1; omega
theorem flat_terms {w : World} {g : Nat} {l : List (Bool × ByteArray)} (hl : l.length ≤ 1048576) (hz : ∀ x ∈ l, x.2.size ≤ 1048576) {r : List Value} (h : ∀ j u, (flatT l ++ r)[j]? = some u → w.cell? ⟨g, j, none⟩ = some u) : Terms w (some ⟨g, 0, none⟩) l := by
  refine ⟨hl, fun j x hj => ⟨_, rfl, ?_, ?_⟩, hz⟩
  · rw [addr_add, Nat.zero_add]
    refine h _ _ ?_
    have hlt := (List.getElem?_eq_some_iff.1 hj).1
    rw [List.getElem?_append_left (by rw [flatT_len]; omega)]
    have := pr_flat_get cellT 2 (fun _ => rfl) l j 0 (by omega)
    rw [hj, Nat.add_zero] at this
    exact this
  · rw [addr_add, Nat.zero_add]
    refine h _ _ ?_
    have hlt := (List.getElem?_eq_some_iff.1 hj).1
    rw [List.getElem?_append_left (by rw [flatT_len]; show j * 2 + 1 < _; omega)]
    have := pr_flat_get cellT 2 (fun _ => rfl) l j 1 (by omega)
    rw [hj] at this
    exact this
def markB : ByteArray := ⟨#[109, 97, 114, 107]⟩
def marks : List (Bool × ByteArray) := [(false, markB), (false, markB)]
/-- a copy of a row of terms: a block of its own, with marks behind -/
structure TermsM (w : World) (g : Nat) (l : List (Bool × ByteArray)) (c : Nat) : Prop where
  len : l.length ≤ 1048576
  cells : ∀ j u, (flatT l ++ flatT marks)[j]? = some u → w.cell? ⟨g, j, none⟩ = some u
  size : ∀ x ∈ l, x.2.size ≤ 1048576
  cap : l.length + 2 ≤ c
  live : ∀ j, w.frozen? ⟨g, j, none⟩ = false
theorem TermsM.terms {w : World} {g c : Nat} {l : List (Bool × ByteArray)} (h : TermsM w g l c) : Terms w (some ⟨g, 0, none⟩) l := flat_terms h.len h.size h.cells
theorem TermsM.same {w w' : World} {g c : Nat} {l : List (Bool × ByteArray)} (h : TermsM w g l c) (hg : w'.heap[g]? = w.heap[g]?) : TermsM w' g l c :=
  ⟨h.len, fun j u hj => by rw [← h.cells j u hj]; exact World.cell?_of_block hg, h.size, h.cap, fun j => (World.frozen?_of_block hg).trans (h.live j)⟩
theorem TermsM.marked {w : World} {g c : Nat} {l : List (Bool × ByteArray)} (h : TermsM w g l c) : w.cell? ⟨g, l.length * 2 + 1, none⟩ = some (.string markB) ∧ w.cell? ⟨g, (l.length + 1) * 2 + 1, none⟩ = some (.string markB) := by
  constructor
  · refine h.cells _ _ ?_
    rw [List.getElem?_append_right (by rw [flatT_len]; omega), flatT_len, Nat.add_sub_cancel_left]; rfl
  · refine h.cells _ _ ?_
    rw [List.getElem?_append_right (by rw [flatT_len]; omega), flatT_len, show (l.length + 1) * 2 + 1 - l.length * 2 = 3 from by omega]; rfl
theorem own_some {w : World} {base : Nat} {e : TypeId} {size : Nat} {v : Value} {n : Nat} {xs : List Value} (h : w.ownsRow base e size v n xs) (hn : 0 < n) : ∃ g cap, v = .slice (some ⟨g, 0, none⟩) n cap ∧ n ≤ cap ∧ cap ≤ maxLen ∧ base ≤ g ∧ g < w.heap.size ∧ ∀ j u, xs[j]? = some u → w.cell? ⟨g, j, none⟩ = some u := by
  have h0 := h
  rcases h.2 with ⟨_, rfl⟩ | ⟨g, cap, cur, rfl, hb, hg, hc, hm, _⟩
  · omega
  · refine ⟨g, cap, rfl, hc, hm, hb, (Array.getElem?_eq_some_iff.1 hg).1, fun j u hj => ?_⟩
    have := h0.cells (g := g) rfl j u hj
    rw [addr_add, Nat.zero_add] at this
    exact this
theorem own_live {w : World} {base : Nat} {e : TypeId} {size g n c m : Nat} {xs : List Value} (h : w.ownsRow base e size (.slice (some ⟨g, 0, none⟩) n c) m xs) (j : Nat) : w.frozen? ⟨g, j, none⟩ = false := by
  rcases h.2 with ⟨e, _⟩ | ⟨g', cap, cur, e, hb, hg, _⟩
  · cases e
  · injection e with e
    injection e with e
    injection e with e
    subst e
    simp [World.frozen?, hg]
theorem heap_lt_cell {w : World} {g j : Nat} {u : Value} (h : w.cell? ⟨g, j, none⟩ = some u) : g < w.heap.size := by
  cases hg : w.heap[g]? with
  | none => simp [World.cell?, hg] at h
  | some o => exact (Array.getElem?_eq_some_iff.1 hg).1
theorem sizeAtom : (Tryd.prog.info? 24).map (fun i => i.size) = some 2 := by kernel_rfl
theorem pr_sizeRule : (Tryd.prog.info? 27).map (fun i => i.size) = some 3 := by kernel_rfl
theorem set_neP {w : World} {g i b : Nat} (v : Value) (h : b ≠ g) : (w.setCell ⟨g, i, none⟩ v).heap[b]? = w.heap[b]? := heap_setCell_other _ _ _ _ h
theorem two_blocks {w w1 : World} {a b x y : Value} {t u : TypeId} (hb : Below ((w.alloc (.cells #[a, b] t)).alloc (.cells #[x, y] u)).heap.size ((w.alloc (.cells #[a, b] t)).alloc (.cells #[x, y] u)) w1) :
    (w1.cell? ⟨w.heap.size, 0, none⟩ = some a ∧ w1.cell? ⟨w.heap.size, 1, none⟩ = some b) ∧ w1.heap[w.heap.size + 1]? = some (.cells #[x, y] u) ∧ w.heap.size + 1 < w1.heap.size := by
  have h : w1.heap[w.heap.size]? = some (.cells #[a, b] t) := (hb.block _ (by rw [World.size_alloc, World.size_alloc]; omega)).trans (by rw [heap_alloc_old]; exact heap_alloc_new _ _; rw [World.size_alloc]; omega)
  have h2 : w1.heap[w.heap.size + 1]? = some (.cells #[x, y] u) := (hb.block _ (by rw [World.size_alloc, World.size_alloc]; omega)).trans (heap_second _ _ _)
  refine ⟨⟨by simp [World.cell?, h], by simp [World.cell?, h]⟩, h2, (Array.getElem?_eq_some_iff.1 h2).1⟩
set_option maxHeartbeats 1000000 in
set_option maxRecDepth 100000 in
theorem cq_atom (p : ByteArray) (a : Option Addr) (l : List (Bool × ByteArray)) (cap : Nat) (w : World) (ht : Terms w a l) :
    Calls Tryd.prog 33 #[.agg #[.string p, .slice a l.length cap]] w fun e w' => ∃ g c, e = .returned (.agg #[.string p, .slice (some ⟨g, 0, none⟩) l.length c]) ∧ TermsM w' g l c ∧ w.heap.size ≤ g ∧ g < w'.heap.size ∧ Below w.heap.size w w' := by
  obtain ⟨ib, hib, hz0, hz1, hz2⟩ := info_parts pr_infoTerm
  have hlen := ht.len
  have hnews := ((ht.new (.cells #[.string p, .slice a l.length cap] 24)).new (.cells #[.string ⟨#[]⟩, .slice none 0 0] 24)).news
  have hl := flatT_len l
  have h1 := flatT_one l
  have h63 : Hid (l.length + 2 ≤ maxLen) := Lib.hid (by unfold maxLen; omega)
  obtain ⟨B, hB⟩ : ∃ B, B = ((w.alloc (.cells #[.string p, .slice a l.length cap] 24)).alloc (.cells #[.string ⟨#[]⟩, .slice none 0 0] 24)).heap.size := ⟨_, rfl⟩
  have hB2 : Hid (B = w.heap.size + 2) := Lib.hid (by rw [hB, World.size_alloc, World.size_alloc])
  replace hB := Lib.hid hB
  have hown0 : ((w.alloc (.cells #[.string p, .slice a l.length cap] 24)).alloc (.cells #[.string ⟨#[]⟩, .slice none 0 0] 24)).ownsRow B 33 2 (.slice none 0 0) 0 [] := World.ownsRow_nil _ _ _ _
  go_enter Tryd.func33, Tryd.ntmps33
  go_wp2_with (at_builtin; go_loud (refine wpList_append_any rfl (.const (.slice none 0 0)) (.tmp 5) 22 rfl B 33 ib (.agg #[.bool false, .string ⟨#[]⟩]) 2 24 Tryd.underlying22 hib hz0 hz1 hz2 rfl (by decide) _ 0 [] rfl hown0 a l.length cap (flatT l) rfl hl hnews h1 (by have := h63.out; omega) (by omega) (by have := hB2.out; rw [World.size_alloc, World.size_alloc]; omega) ?_))
  intro v1 w1 hown1 hgr1 hnil1 hat1
  have hb1 : Hid (Below B ((w.alloc (.cells #[.string p, .slice a l.length cap] 24)).alloc (.cells #[.string ⟨#[]⟩, .slice none 0 0] 24)) w1) := Lib.hid ((Below.refl _ _).grown hgr1 (by have := hB2.out; rw [World.size_alloc, World.size_alloc]; omega) (own_ge hown0))
  rw [hB.out] at hb1
  obtain ⟨⟨hc1, hc2⟩, hc3, hc4⟩ := two_blocks hb1.out
  obtain ⟨va, vc, rfl, hva⟩ := own_slice hown1
  clear hva hgr1 hnil1 hat1
  replace hown1 := Lib.hid hown1
  go_wp2_with (at_builtin; go_loud (refine wpList_append_any rfl (.tmp 6) (.tmp 9) 22 rfl B 33 ib (.agg #[.bool false, .string ⟨#[]⟩]) 2 24 Tryd.underlying22 hib hz0 hz1 hz2 rfl (by decide) _ l.length (flatT l) rfl (hown1.out.alloc _) (some ⟨w1.heap.size, 0, none⟩) 2 2 (flatT marks) rfl rfl (fun j u hj => ⟨_, rfl, own_cells_row rfl rfl j u hj⟩) (flatT_one marks) h63.out (by omega) (by have := hB2.out; rw [World.size_alloc]; omega) ?_))
  intro v2 w2 hown2 hgr2 hnil2 hat2
  have hb2 := Lib.hid ((hb1.out.al _).grown hgr2 (by have := hb1.out.size; rw [← hB.out] at this ⊢; rw [World.size_alloc]; omega) (by rw [← hB.out]; exact own_ge hown1.out))
  obtain ⟨⟨hd1, hd2⟩, hd3, hd4⟩ := two_blocks hb2.out
  obtain ⟨g, c, rfl, hgc, hcm, hbg, hgw, hcell⟩ := own_some hown2 (by omega)
  have hM : Hid (TermsM w2 g l c) := Lib.hid ⟨hlen, hcell, ht.size, hgc, own_live hown2⟩
  have hbg' : Hid (w.heap.size + 2 ≤ g) := Lib.hid (by have := hB2.out; omega)
  have hb3 : Hid (Below w.heap.size w w2) := Lib.hid ((((Below.refl _ _).al _).al _).trans (hb2.out.mono (by rw [World.size_alloc, World.size_alloc]; omega)))
  have he0 : w2.cell? ⟨w.heap.size + 1, 0, none⟩ = some (.string ⟨#[]⟩) := by simp [World.cell?, hd3]
  have he1 : w2.cell? ⟨w.heap.size + 1, 1, none⟩ = some (.slice none 0 0) := by simp [World.cell?, hd3]
  have hf0 : w2.frozen? ⟨w.heap.size + 1, 0, none⟩ = false := by simp [World.frozen?, hd3]
  have hf1 : w2.frozen? ⟨w.heap.size + 1, 1, none⟩ = false := by simp [World.frozen?, hd3]
  have hc0 : l.length ≤ c := by omega
  clear hcell hgr2 hnil2 hat2 hown2 hown1 hb2 hb1 hc1 hc2 hc3 hc4
  go_wp2_with fail
  go_region
  have hG : Hid (((w2.setCell ⟨w.heap.size + 1, 0, none⟩ (.string p)).setCell ⟨w.heap.size + 1, 1, none⟩ (.slice (some ⟨g, 0, none⟩) l.length c)).drew.heap[g]? = w2.heap[g]? ∧ ((w2.setCell ⟨w.heap.size + 1, 0, none⟩ (.string p)).setCell ⟨w.heap.size + 1, 1, none⟩ (.slice (some ⟨g, 0, none⟩) l.length c)).drew.heap.size = w2.heap.size ∧ Below w.heap.size w ((w2.setCell ⟨w.heap.size + 1, 0, none⟩ (.string p)).setCell ⟨w.heap.size + 1, 1, none⟩ (.slice (some ⟨g, 0, none⟩) l.length c)).drew) := Lib.hid (by
    have hne : g ≠ w.heap.size + 1 := by have := hbg'.out; omega
    refine ⟨(set_neP _ hne).trans (set_neP _ hne), by simp, ?_⟩
    exact ((hb3.out.setCell (p := ⟨w.heap.size + 1, 0, none⟩) (by show w.heap.size ≤ w.heap.size + 1; omega) _).setCell (p := ⟨w.heap.size + 1, 1, none⟩) (by show w.heap.size ≤ w.heap.size + 1; omega) _).drew)
  have hR : Hid (((w2.setCell ⟨w.heap.size + 1, 0, none⟩ (.string p)).setCell ⟨w.heap.size + 1, 1, none⟩ (.slice (some ⟨g, 0, none⟩) l.length c)).drew.heap[w.heap.size + 1]? = some (.cells #[.string p, .slice (some ⟨g, 0, none⟩) l.length c] 24)) := Lib.hid (Go.heap_setCell_same _ _ _ _ _ _ (Go.heap_setCell_same _ _ _ _ _ _ hd3))
  go_wp2_with fail
  refine bodyPost_ret (v := .agg #[.string p, .slice (some ⟨g, 0, none⟩) l.length c]) (results_cell_row rfl _ _ (w.heap.size + 1) 24 _ (0, 0) _ rfl hR.out Tryd.underlying24 rfl sizeAtom) rfl ?_
  refine ⟨g, c, rfl, hM.out.same hG.out.1, by have := hbg'.out; omega, by rw [hG.out.2.1]; exact hgw, hG.out.2.2⟩
def cellL (y : Lit × Nat × Nat) : List Value := (litV y.1 (some ⟨y.2.1, 0, none⟩) y.2.2).toList
def flatL (l : List (Lit × Nat × Nat)) : List Value := l.flatMap cellL
theorem cellL_len (y : Lit × Nat × Nat) : (cellL y).length = 7 := rfl
theorem flatL_len (l : List (Lit × Nat × Nat)) : (flatL l).length = l.length * 7 := flat_len cellL 7 cellL_len l
def mark77 : List Value := [.int .i64 77, .string ⟨#[]⟩, .slice none 0 0, .bool false, .string ⟨#[]⟩, .bool false, .string ⟨#[]⟩]
theorem TermsM.below {w w' : World} {g c : Nat} {l : List (Bool × ByteArray)} (h : TermsM w g l c) (hb : Below w.heap.size w w') : TermsM w' g l c :=
  ⟨h.len, fun j u hj => cell_below hb rfl (h.cells j u hj), h.size, h.cap, fun j => (World.frozen?_of_block (hb.block _ (heap_lt_cell h.marked.1))).trans (h.live j)⟩
/-- a copy of a row of literals: a block of its own, with marks behind -/
structure LitsM (w : World) (B : Nat) (L : List (Lit × Nat × Nat)) (c : Nat) : Prop where
  len : L.length ≤ 1048576
  cells : ∀ j u, (flatL L ++ (mark77 ++ mark77))[j]? = some u → w.cell? ⟨B, j, none⟩ = some u
  inner : ∀ y ∈ L, TermsM w y.2.1 y.1.a y.2.2
  size : ∀ y ∈ L, y.1.p.size ≤ 1048576 ∧ y.1.l.2.size ≤ 1048576 ∧ y.1.r.2.size ≤ 1048576
  cap : L.length + 2 ≤ c
  live : ∀ j, w.frozen? ⟨B, j, none⟩ = false
theorem LitsM.lt {w : World} {B c : Nat} {L : List (Lit × Nat × Nat)} (h : LitsM w B L c) : B < w.heap.size :=
  heap_lt_cell (h.cells (L.length * 7) (.int .i64 77) (by rw [List.getElem?_append_right (by rw [flatL_len]; omega), flatL_len, Nat.sub_self]; rfl))
theorem LitsM.below {w w' : World} {B c : Nat} {L : List (Lit × Nat × Nat)} (h : LitsM w B L c) (hb : Below w.heap.size w w') : LitsM w' B L c :=
  ⟨h.len, fun j u hj => cell_below hb rfl (h.cells j u hj), fun y hy => (h.inner y hy).below hb, h.size, h.cap, fun j => (World.frozen?_of_block (hb.block _ h.lt)).trans (h.live j)⟩
theorem LitsM.same {w w' : World} {B c : Nat} {L : List (Lit × Nat × Nat)} (h : LitsM w B L c) (hB : w'.heap[B]? = w.heap[B]?) (hin : ∀ y ∈ L, w'.heap[y.2.1]? = w.heap[y.2.1]?) : LitsM w' B L c :=
  ⟨h.len, fun j u hj => by rw [← h.cells j u hj]; exact World.cell?_of_block hB, fun y hy => (h.inner y hy).same (hin y hy), h.size, h.cap, fun j => (World.frozen?_of_block hB).trans (h.live j)⟩
theorem LitsM.cell {w : World} {B c : Nat} {L : List (Lit × Nat × Nat)} (h : LitsM w B L c) (j o : Nat) (ho : o < 7) {y : Lit × Nat × Nat} (hj : L[j]? = some y) {u : Value} (hu : (cellL y)[o]? = some u) : w.cell? ⟨B, j * 7 + o, none⟩ = some u := by
  refine h.cells _ _ ?_
  have hlt := (List.getElem?_eq_some_iff.1 hj).1
  rw [List.getElem?_append_left (by rw [flatL_len]; omega)]
  have := pr_flat_get cellL 7 cellL_len L j o ho
  rw [hj] at this
  exact this.trans hu
theorem LitsM.lits {w : World} {B c : Nat} {L : List (Lit × Nat × Nat)} (h : LitsM w B L c) : Lits w (some ⟨B, 0, none⟩) (L.map (·.1)) := by
  refine ⟨by rw [List.length_map]; exact h.len, fun j x hj => ?_, fun x hx => ?_⟩
  · rw [List.getElem?_map] at hj
    cases hy : L[j]? with
    | none => rw [hy] at hj; cases hj
    | some y =>
      rw [hy] at hj
      cases hj
      refine ⟨_, some ⟨y.2.1, 0, none⟩, y.2.2, rfl, ?_, ?_, ?_, ?_, ?_, ?_, ?_, (h.inner y (List.mem_of_getElem? hy)).terms⟩
      all_goals rw [addr_add, Nat.zero_add]
      · exact h.cell j 0 (by decide) hy rfl
      · exact h.cell j 1 (by decide) hy rfl
      · exact h.cell j 2 (by decide) hy rfl
      · exact h.cell j 3 (by decide) hy rfl
      · exact h.cell j 4 (by decide) hy rfl
      · exact h.cell j 5 (by decide) hy rfl
      · exact h.cell j 6 (by decide) hy rfl
  · obtain ⟨y, hy, rfl⟩ := List.mem_map.1 hx
    exact h.size y hy
theorem LitsM.marked {w : World} {B c : Nat} {L : List (Lit × Nat × Nat)} (h : LitsM w B L c) : w.cell? ⟨B, L.length * 7, none⟩ = some (.int .i64 77) ∧ w.cell? ⟨B, (L.length + 1) * 7, none⟩ = some (.int .i64 77) := by
  constructor
  · refine h.cells _ _ ?_
    rw [List.getElem?_append_right (by rw [flatL_len]; omega), flatL_len, Nat.sub_self]; rfl
  · refine h.cells _ _ ?_
    rw [List.getElem?_append_right (by rw [flatL_len]; omega), flatL_len, show (L.length + 1) * 7 - L.length * 7 = 7 from by omega]; rfl
/-- what stands while a body is copied -/
structure Inn (w : World) (B0 : Nat) (v : Value) (L : List (Lit × Nat × Nat)) : Prop where
  terms : ∀ y ∈ L, TermsM w y.2.1 y.1.a y.2.2
  low : ∀ y ∈ L, B0 ≤ y.2.1
  high : ∀ y ∈ L, y.2.1 < w.heap.size
  own : ∀ y ∈ L, v.ownBlock ≠ some y.2.1
  pw : L.Pairwise (fun y z => y.2.1 < z.2.1)
theorem Inn.step {w w2 w3 : World} {B0 : Nat} {v : Value} {L : List (Lit × Nat × Nat)} (h : Inn w B0 v L) (hb : Below w.heap.size w w2) {ob : Obj} {x : Lit} {g c gg n cap : Nat} (hM : TermsM w2 g x.a c) (hg1 : w.heap.size ≤ g) (hg2 : g < w2.heap.size) (hB0 : B0 ≤ w.heap.size) (hv : ∀ k, v.ownBlock = some k → k < w.heap.size)
    (hgr : (w2.alloc ob).grownBy w3 v.ownBlock) (hat : v.ownBlock = some gg ∨ gg = w2.heap.size + 1) : Inn w3 B0 (.slice (some ⟨gg, 0, none⟩) n cap) (L ++ [(x, g, c)]) := by
  have hk : ∀ b, b < w2.heap.size → v.ownBlock ≠ some b → w3.heap[b]? = w2.heap[b]? := fun b hb1 hb2 =>
    (hgr.block b (by rw [World.size_alloc]; omega) (fun e => hb2 e.symm)).trans (heap_alloc_old _ _ hb1)
  have hs3 : w2.heap.size + 1 ≤ w3.heap.size := by have := hgr.size; rw [World.size_alloc] at this; exact this
  have hgv : v.ownBlock ≠ some g := fun e => by have := hv g e; omega
  constructor
  · intro y hy
    rcases List.mem_append.1 hy with hy | hy
    · have h1 := h.high y hy
      exact ((h.terms y hy).below hb).same (hk _ (by have := hb.size; omega) (h.own y hy))
    · simp at hy; subst hy
      exact hM.same (hk _ hg2 hgv)
  · intro y hy
    rcases List.mem_append.1 hy with hy | hy
    · exact h.low y hy
    · simp at hy; subst hy; show B0 ≤ g; omega
  · intro y hy
    rcases List.mem_append.1 hy with hy | hy
    · have := h.high y hy; have := hb.size; omega
    · simp at hy; subst hy; show g < _; omega
  · intro y hy e
    have e' : gg = y.2.1 := by simpa [Value.ownBlock] using e
    rcases List.mem_append.1 hy with hy | hy
    · rcases hat with hat | hat
      · exact h.own y hy (by rw [hat, e'])
      · have := h.high y hy; have := hb.size; omega
    · simp at hy; subst hy
      rcases hat with hat | hat
      · have h9 := hv gg hat
        have e2 : gg = g := e'
        omega
      · have e2 : gg = g := e'
        omega
  · rw [List.pairwise_append]
    exact ⟨h.pw, List.pairwise_singleton _ _, fun y hy z hz => by simp at hz; subst hz; have := h.high y hy; show y.2.1 < g; omega⟩
theorem cellL_one (l : List (Lit × Nat × Nat)) : ∀ u ∈ flatL l, u.oneCell' = true := by
  intro u hu
  obtain ⟨x, _, hx⟩ := List.mem_flatMap.1 hu
  simp [cellL, litV] at hx
  rcases hx with rfl | rfl | rfl | rfl | rfl | rfl | rfl <;> rfl
theorem mark_one : ∀ u ∈ mark77 ++ mark77, u.oneCell' = true := fun u hu => List.all_eq_true.1 (show (mark77 ++ mark77).all (fun u => u.oneCell') = true from rfl) u hu
theorem flatL_snoc (l : List (Lit × Nat × Nat)) (y : Lit × Nat × Nat) : flatL (l ++ [y]) = flatL l ++ cellL y := by simp [flatL]
set_option maxHeartbeats 2000000 in
set_option maxRecDepth 100000 in
theorem cq_body (a : Option Addr) (b : List Lit) (cap : Nat) (w : World) (hb : Lits w a b) :
    Calls Tryd.prog 34 #[.slice a b.length cap] w fun e w' => ∃ B c L, e = .returned (.slice (some ⟨B, 0, none⟩) b.length c) ∧ LitsM w' B L c ∧ L.map (·.1) = b ∧ w.heap.size ≤ B ∧ (∀ y ∈ L, w.heap.size ≤ y.2.1) ∧ L.Pairwise (fun y z => y.2.1 < z.2.1) ∧ Below w.heap.size w w' := by
  obtain ⟨ib, hib, hz0, hz1, hz2⟩ := info_parts pr_infoLit
  have hlen := hb.len
  go_enter Tryd.func34, Tryd.ntmps34
  go_wp2_with fail
  go_loopw [3, 4] (fun v i wr => ∃ (k : Nat) (L : List (Lit × Nat × Nat)), k ≤ b.length ∧ i = .int .i64 k ∧ L.map (·.1) = b.take k ∧ Hid (wr.ownsRow w.heap.size 44 7 v k (flatL L)) ∧ Hid (Inn wr w.heap.size v L) ∧ Hid (Below w.heap.size w wr)) (fun _ i _ => b.length - (intOf i).toNat)
  case atStart => exact ⟨0, [], Nat.zero_le _, rfl, rfl, Lib.hid (World.ownsRow_nil _ _ _ _), Lib.hid ⟨by simp, by simp, by simp, by simp, List.Pairwise.nil⟩, Lib.hid (Below.refl _ _)⟩
  case round =>
    obtain ⟨k, L, hk, rfl, hLb, hown, hinn, hbw⟩ := hrel
    by_cases hlt : k < b.length
    · obtain ⟨q, ad, acap, rfl, hd1, hd2, hd3, hd4, hd5, hd6, hd7, hat⟩ := hb.cells k b[k] (List.getElem?_eq_getElem hlt)
      have hLb' : (b.take k) ++ [b[k]] = b.take (k + 1) := (List.take_succ_eq_append_getElem hlt).symm
      generalize b[k] = x at hd1 hd2 hd3 hd4 hd5 hd6 hd7 hat hLb'
      obtain ⟨xk, xp, xa, ⟨xlv, xlt⟩, ⟨xrv, xrt⟩⟩ := x
      dsimp only at hd1 hd2 hd3 hd4 hd5 hd6 hd7 hat
      have hkeep : ∀ w', Below w.heap.size w w' → w'.cell? (q.add (k * 7)) = some (.int .i64 xk) ∧ w'.cell? ⟨(q.add (k * 7)).block, (q.add (k * 7)).off + 1, none⟩ = some (.string xp) ∧ w'.cell? ⟨(q.add (k * 7)).block, (q.add (k * 7)).off + 2, none⟩ = some (.slice ad xa.length acap) ∧ w'.cell? ⟨(q.add (k * 7)).block, (q.add (k * 7)).off + 3, none⟩ = some (.bool xlv) ∧ w'.cell? ⟨(q.add (k * 7)).block, (q.add (k * 7)).off + 4, none⟩ = some (.string xlt) ∧ w'.cell? ⟨(q.add (k * 7)).block, (q.add (k * 7)).off + 5, none⟩ = some (.bool xrv) ∧ w'.cell? ⟨(q.add (k * 7)).block, (q.add (k * 7)).off + 6, none⟩ = some (.string xrt) := fun w' hb =>
        ⟨cell_below hb rfl hd1, cell_below hb rfl hd2, cell_below hb rfl hd3, cell_below hb rfl hd4, cell_below hb rfl hd5, cell_below hb rfl hd6, cell_below hb rfl hd7⟩
      obtain ⟨he1, he2, he3, he4, he5, he6, he7⟩ := hkeep wr hbw.out
      have hat' := Lib.hid (hat.below hbw.out)
      clear hd1 hd2 hd3 hd4 hd5 hd6 hd7
      obtain ⟨va, vc, rfl, hva⟩ := own_slice hown.out
      clear hva
      replace hkeep := Lib.hid hkeep
      replace hLb := Lib.hid hLb
      replace hLb' := Lib.hid hLb'
      have h63 : Hid (k + 1 ≤ maxLen) := Lib.hid (by unfold maxLen; omega)
      have h64 : Hid ((k + 1) * 96 ≤ 140737488355328) := Lib.hid (by omega)
      have hq0 : (0 : Int) ≤ (k : Int) := Int.natCast_nonneg _
      have hq1 : (k : Int) < (b.length : Int) := by omega
      have hca := fun w ht => cq_atom xp ad xa acap w ht
      go_wp2_with fail
      go_region_held3 (fun w' => w'.cell? (q.add (k * 7)) = some (.int .i64 xk) ∧ w'.cell? ⟨(q.add (k * 7)).block, (q.add (k * 7)).off + 1, none⟩ = some (.string xp) ∧ w'.cell? ⟨(q.add (k * 7)).block, (q.add (k * 7)).off + 2, none⟩ = some (.slice ad xa.length acap) ∧ w'.cell? ⟨(q.add (k * 7)).block, (q.add (k * 7)).off + 3, none⟩ = some (.bool xlv) ∧ w'.cell? ⟨(q.add (k * 7)).block, (q.add (k * 7)).off + 4, none⟩ = some (.string xlt) ∧ w'.cell? ⟨(q.add (k * 7)).block, (q.add (k * 7)).off + 5, none⟩ = some (.bool xrv) ∧ w'.cell? ⟨(q.add (k * 7)).block, (q.add (k * 7)).off + 6, none⟩ = some (.string xrt))
        (first
          | exact hkeep.out _ hbw.out.drew
          | exact hkeep.out _ hb3.out
          | exact hkeep.out _ (hb2.out.al _)
          | exact hkeep.out _ hb2.out)
        (first
          | (go_at_call 33; refine (hca _ (hat'.out.below (Below.refl _ _).drew)).mono ?_; rintro e w2 ⟨g, gc, rfl, hM0, hg10, hg20, hbb⟩
             have hM := Lib.hid hM0
             have hg1 := Lib.hid hg10
             have hg2 := Lib.hid hg20
             have hbb2 := Lib.hid ((Below.refl _ wr).drew.trans hbb)
             have hb2 := Lib.hid (hbw.out.trans (hbb2.out.mono hbw.out.size))
             clear hM0 hg10 hg20 hbb)
          | (have hg := hb2.out
             clear hg
             refine step_append_lies (w2.alloc (.cells #[.int .i64 xk, .string xp, .slice (some ⟨g, 0, none⟩) xa.length gc, .bool xlv, .string xlt, .bool xrv, .string xrt] 44)) ?guard (.tmp 11) (.tmp 34) 25 ?op w.heap.size 44 ib (.agg #[.int .i64 0, .string ⟨#[]⟩, .slice none 0 0, .bool false, .string ⟨#[]⟩, .bool false, .string ⟨#[]⟩]) 7 96 Tryd.underlying25 hib hz0 hz1 hz2 (by rfl) (by omega) (.slice va k vc) k (flatL L) ?ev1 ((own_below hown.out hbb2.out).alloc _) ⟨w2.heap.size, 0, none⟩ 1 1 (cellL (⟨xk, xp, xa, (xlv, xlt), (xrv, xrt)⟩, g, gc)) ?ev2 (by rfl) (own_cells_row rfl rfl) (by intro u hu; simp [cellL, litV] at hu; rcases hu with rfl | rfl | rfl | rfl | rfl | rfl | rfl <;> rfl) (by omega) h63.out h64.out (by have := hb2.out.size; rw [World.size_alloc]; omega) (w2.heap.size + 1) (by rw [World.size_alloc]) ?rest
             case guard => rfl
             case op => rfl
             case ev1 => rfl
             case ev2 => rfl
             intro gg cp w3 hown30 hgrow hat3 hlt3
             have hown3 := Lib.hid hown30
             have hb3 := Lib.hid ((hb2.out.al _).grown hgrow (by have := hb2.out.size; rw [World.size_alloc]; omega) (own_ge hown.out))
             have hI3 := Lib.hid (hinn.out.step (n := k + 1) (cap := cp) (x := ⟨xk, xp, xa, (xlv, xlt), (xrv, xrt)⟩) hbb2.out hM.out hg1.out hg2.out hbw.out.size (fun k hk => (hown.out.lt k hk).2) hgrow hat3)
             clear hown30 hgrow hat3 hlt3))
      go_wp2_with fail
      go_roundw
      case rel => exact ⟨k + 1, L ++ [(⟨xk, xp, xa, (xlv, xlt), (xrv, xrt)⟩, g, gc)], by omega, by go_num, by rw [List.map_append, hLb.out]; exact hLb'.out, by rw [flatL_snoc]; exact hown3, hI3, hb3⟩
      case measure => simp [intOf]; omega
    · have hke : k = b.length := by omega
      subst hke
      rw [List.take_length] at hLb
      obtain ⟨va, vc, rfl, hva⟩ := own_slice hown.out
      clear hva
      have h63 : Hid (b.length + 2 ≤ maxLen) := Lib.hid (by unfold maxLen; omega)
      have h64 : Hid ((b.length + 2) * 96 ≤ 140737488355328) := Lib.hid (by omega)
      replace hLb := Lib.hid hLb
      go_wp2_with (at_builtin; go_loud (refine wpList_append_any rfl (.tmp 36) (.tmp 39) 25 rfl w.heap.size 44 ib (.agg #[.int .i64 0, .string ⟨#[]⟩, .slice none 0 0, .bool false, .string ⟨#[]⟩, .bool false, .string ⟨#[]⟩]) 7 96 Tryd.underlying25 hib hz0 hz1 hz2 rfl (by decide) _ b.length (flatL L) rfl (hown.out.alloc _) (some ⟨wr.heap.size, 0, none⟩) 2 2 (mark77 ++ mark77) rfl rfl (fun j u hj => ⟨_, rfl, own_cells_row rfl rfl j u hj⟩) mark_one h63.out h64.out (by have := hbw.out.size; rw [World.size_alloc]; omega) ?_))
      intro v4 w4 hown4 hgr4 hnil4 hat4
      have hb4 := Lib.hid ((hbw.out.al _).grown hgr4 (by have := hbw.out.size; rw [World.size_alloc]; omega) (own_ge hown.out))
      have hin4 : Hid (∀ y ∈ L, TermsM w4 y.2.1 y.1.a y.2.2) := Lib.hid fun y hy =>
        (hinn.out.terms y hy).same ((hgr4.block _ (by have := hinn.out.high y hy; rw [World.size_alloc]; omega) (fun e => hinn.out.own y hy e.symm)).trans (heap_alloc_old _ _ (hinn.out.high y hy)))
      obtain ⟨B, c, rfl, hBc, hcm, hbB, hBw, hcell⟩ := own_some hown4 (by omega)
      have hLl : L.length = b.length := by rw [← hLb.out, List.length_map]
      have hsz4 : ∀ y ∈ L, y.1.p.size ≤ 1048576 ∧ y.1.l.2.size ≤ 1048576 ∧ y.1.r.2.size ≤ 1048576 := fun y hy => hb.size y.1 (by rw [← hLb.out]; exact List.mem_map_of_mem hy)
      have hM : Hid (LitsM w4 B L c) := Lib.hid ⟨by omega, hcell, hin4.out, hsz4, by omega, own_live hown4⟩
      have hc0 : b.length ≤ c := by omega
      clear hcell hgr4 hnil4 hat4 hown4 hsz4 hin4 hLl
      go_wp2_with fail
      go_ret
      exact ⟨B, c, L, rfl, hM.out, hLb.out, hbB, hinn.out.low, hinn.out.pw, hb4.out⟩
theorem two_rules {w w1 : World} {a b c x y z : Value} {t u : TypeId} (hb : Below ((w.alloc (.cells #[a, b, c] t)).alloc (.cells #[x, y, z] u)).heap.size ((w.alloc (.cells #[a, b, c] t)).alloc (.cells #[x, y, z] u)) w1) :
    (w1.cell? ⟨w.heap.size, 0, none⟩ = some a ∧ w1.cell? ⟨w.heap.size, 1, none⟩ = some b ∧ w1.cell? ⟨w.heap.size, 2, none⟩ = some c) ∧ w1.heap[w.heap.size + 1]? = some (.cells #[x, y, z] u) ∧ w.heap.size + 1 < w1.heap.size := by
  have h : w1.heap[w.heap.size]? = some (.cells #[a, b, c] t) := (hb.block _ (by rw [World.size_alloc, World.size_alloc]; omega)).trans (by rw [heap_alloc_old]; exact heap_alloc_new _ _; rw [World.size_alloc]; omega)
  have h2 : w1.heap[w.heap.size + 1]? = some (.cells #[x, y, z] u) := (hb.block _ (by rw [World.size_alloc, World.size_alloc]; omega)).trans (heap_second _ _ _)
  refine ⟨⟨by simp [World.cell?, h], by simp [World.cell?, h], by simp [World.cell?, h]⟩, h2, (Array.getElem?_eq_some_iff.1 h2).1⟩
set_option maxHeartbeats 2000000 in
set_option maxRecDepth 100000 in
theorem cq_rule (h : ByteArray) (a : Option Addr) (l : List (Bool × ByteArray)) (cap : Nat) (ba : Option Addr) (b : List Lit) (bcap : Nat) (w : World) (ht : Terms w a l) (hb : Lits w ba b) :
    Calls Tryd.prog 9 #[.agg #[.string h, .slice a l.length cap, .slice ba b.length bcap]] w fun e w' => ∃ g c B cB L, e = .returned (.agg #[.string h, .slice (some ⟨g, 0, none⟩) l.length c, .slice (some ⟨B, 0, none⟩) b.length cB]) ∧ TermsM w' g l c ∧ LitsM w' B L cB ∧ L.map (·.1) = b ∧ (w.heap.size ≤ g ∧ w.heap.size ≤ B ∧ (∀ y ∈ L, g < y.2.1) ∧ L.Pairwise (fun y z => y.2.1 < z.2.1)) ∧ Below w.heap.size w w' := by
  have hca := fun w ht => cq_atom h a l cap w ht
  have hcb := fun w hb => cq_body ba b bcap w hb
  obtain ⟨W0, hW0⟩ : ∃ W0, W0 = (w.alloc (.cells #[.string h, .slice a l.length cap, .slice ba b.length bcap] 27)).alloc (.cells #[.string ⟨#[]⟩, .slice none 0 0, .slice none 0 0] 27) := ⟨_, rfl⟩
  have hkp : Hid (∀ w', Below W0.heap.size W0 w' → w'.cell? ⟨w.heap.size, 0, none⟩ = some (.string h) ∧ w'.cell? ⟨w.heap.size, 1, none⟩ = some (.slice a l.length cap) ∧ w'.cell? ⟨w.heap.size, 2, none⟩ = some (.slice ba b.length bcap)) := Lib.hid (by subst hW0; intro w' hb; exact (two_rules hb).1)
  have hkq : Hid (∀ w', Below W0.heap.size W0 w' → w'.heap[w.heap.size + 1]? = some (.cells #[.string ⟨#[]⟩, .slice none 0 0, .slice none 0 0] 27)) := Lib.hid (by subst hW0; intro w' hb; exact (two_rules hb).2.1)
  have htW : Hid (Terms W0 a l) := Lib.hid (by subst hW0; exact (ht.new _).new _)
  have hbW : Hid (Lits W0 ba b) := Lib.hid (by subst hW0; exact (hb.new _).new _)
  have hB0 : Hid (Below w.heap.size w W0 ∧ W0.heap.size = w.heap.size + 2) := Lib.hid (by subst hW0; exact ⟨((Below.refl _ _).al _).al _, by rw [World.size_alloc, World.size_alloc]⟩)
  obtain ⟨hi1, hi2, hi3⟩ := hkp.out W0 (Below.refl _ _)
  go_enter Tryd.func9, Tryd.ntmps9
  go_wp2_with fail
  rw [← hW0]
  clear hW0
  go_region_held3 (fun w' => w'.cell? ⟨w.heap.size, 0, none⟩ = some (.string h) ∧ w'.cell? ⟨w.heap.size, 1, none⟩ = some (.slice a l.length cap) ∧ w'.cell? ⟨w.heap.size, 2, none⟩ = some (.slice ba b.length bcap))
    (first
      | exact hkp.out _ (Below.refl _ _).drew
      | exact hkp.out _ hb3.out
      | exact hkp.out _ hb2.out
      | go_keep)
    (first
      | (go_at_call 33; refine (hca _ (htW.out.below (Below.refl _ _).drew)).mono ?_; rintro e w2 ⟨g, gc, rfl, hM0, hg10, hg20, hbb⟩
         have hM := Lib.hid hM0
         have hg1 := Lib.hid hg10
         have hgl := Lib.hid hg20
         have hb2 := Lib.hid ((Below.refl _ W0).drew.trans hbb)
         clear hM0 hg10 hg20 hbb)
      | (go_at_call 34; refine (hcb _ (hbW.out.below hb2.out)).mono ?_; rintro e w3 ⟨B, cB, L, rfl, hL0, hLb0, hBB0, hIn0, hPw0, hbb⟩
         have hPw := Lib.hid hPw0
         have hL := Lib.hid hL0
         have hLb := Lib.hid hLb0
         have hBB := Lib.hid hBB0
         have hIn := Lib.hid hIn0
         have hM3 := Lib.hid (hM.out.below hbb)
         have hb23 := Lib.hid hbb
         have hb3 := Lib.hid (hb2.out.trans (hbb.mono hb2.out.size))
         have hq := hkq.out _ hb3.out
         have he0 : w3.cell? ⟨w.heap.size + 1, 0, none⟩ = some (.string ⟨#[]⟩) := by simp [World.cell?, hq]
         have he1 : w3.cell? ⟨w.heap.size + 1, 1, none⟩ = some (.slice none 0 0) := by simp [World.cell?, hq]
         have he2 : w3.cell? ⟨w.heap.size + 1, 2, none⟩ = some (.slice none 0 0) := by simp [World.cell?, hq]
         have hf0 : w3.frozen? ⟨w.heap.size + 1, 0, none⟩ = false := by simp [World.frozen?, hq]
         have hf1 : w3.frozen? ⟨w.heap.size + 1, 1, none⟩ = false := by simp [World.frozen?, hq]
         have hf2 : w3.frozen? ⟨w.heap.size + 1, 2, none⟩ = false := by simp [World.frozen?, hq]
         replace hq := Lib.hid hq
         clear hL0 hLb0 hBB0 hIn0 hbb))
  have hV : ∃ V, V = ((w3.setCell ⟨w.heap.size + 1, 0, none⟩ (.string h)).setCell ⟨w.heap.size + 1, 1, none⟩ (.slice (some ⟨g, 0, none⟩) l.length gc)).setCell ⟨w.heap.size + 1, 2, none⟩ (.slice (some ⟨B, 0, none⟩) b.length cB) := ⟨_, rfl⟩
  obtain ⟨V, hV⟩ := hV
  have hne : ∀ k, k ≠ w.heap.size + 1 → V.heap[k]? = w3.heap[k]? := fun k hk => by rw [hV]; exact (set_neP _ hk).trans ((set_neP _ hk).trans (set_neP _ hk))
  have hR : Hid (V.heap[w.heap.size + 1]? = some (.cells #[.string h, .slice (some ⟨g, 0, none⟩) l.length gc, .slice (some ⟨B, 0, none⟩) b.length cB] 27)) := Lib.hid (by rw [hV]; exact Go.heap_setCell_same _ _ _ _ _ _ (Go.heap_setCell_same _ _ _ _ _ _ (Go.heap_setCell_same _ _ _ _ _ _ hq.out)))
  have h2s := hb2.out.size
  have hd' : W0.heap.size = w.heap.size + 2 := hB0.out.2
  have hd : W0.drew.heap.size = w.heap.size + 2 := hB0.out.2
  have hg1' : w.heap.size + 2 ≤ g := by have := hg1.out; omega
  have hBV : Hid (Below w.heap.size w V) := Lib.hid (by
    have hb3' : Below W0.heap.size W0 w3 := hb3.out
    have h3 : Below w.heap.size w w3 := hB0.out.1.trans (hb3'.mono (by rw [hB0.out.2]; omega))
    rw [hV]
    exact ((h3.setCell (p := ⟨w.heap.size + 1, 0, none⟩) (by show w.heap.size ≤ w.heap.size + 1; omega) _).setCell (p := ⟨w.heap.size + 1, 1, none⟩) (by show w.heap.size ≤ w.heap.size + 1; omega) _).setCell (p := ⟨w.heap.size + 1, 2, none⟩) (by show w.heap.size ≤ w.heap.size + 1; omega) _)
  have hMV : Hid (TermsM V g l gc) := Lib.hid (hM3.out.same (hne g (by omega)))
  have hLV : Hid (LitsM V B L cB) := Lib.hid (hL.out.same (hne B (by have := hBB.out; omega)) fun y hy => hne _ (by have := hIn.out y hy; omega))
  rw [← hV]
  clear hV hne he0 he1 he2 hf0 hf1 hf2
  go_wp2_with fail
  refine bodyPost_ret (v := .agg #[.string h, .slice (some ⟨g, 0, none⟩) l.length gc, .slice (some ⟨B, 0, none⟩) b.length cB]) (results_cell_row rfl _ _ (w.heap.size + 1) 27 _ (0, 0) _ rfl hR.out Tryd.underlying27 rfl pr_sizeRule) rfl ?_
  exact ⟨g, gc, B, cB, L, rfl, hMV.out, hLV.out, hLb.out, ⟨by omega, by have := hBB.out; have := hb2.out.size; have := hB0.out.2; omega, fun y hy => by have := hIn.out y hy; have := hgl.out; omega, hPw.out⟩, hBV.out⟩
namespace Lx
/-- bulk -/
def tWt (l : List (Bool × ByteArray)) : Nat := (l.map fun x => x.2.size + 3).sum
def lWt (x : Lit) : Nat := x.p.size + tWt x.a + x.l.2.size + x.r.2.size + 11
def ruleWt (r : Rul) : Nat := r.h.size + tWt r.a + (r.b.map lWt).sum + 5
end Lx
end Go.Proofs.YtoklbofobcloaaaDoor
