/- Print: copies of rules. -/
import Derived.Test.YtclioihichcpiaaPrS
import Derived.Maps.AppendAt
import Derived.Deep.Upon
namespace Go.Proofs.Ytclioihichcpiaa
open Go.RowKit Go.Shelf Lx
theorem infoTerm : (Try.prog.info? 38).map (fun i => (i.zero, i.size, i.bytes)) = some (some (.agg #[.bool false, .string ⟨#[]⟩]), 2, 24) := by kernel_rfl
theorem infoLit : (Try.prog.info? 40).map (fun i => (i.zero, i.size, i.bytes)) = some (some (.agg #[.int .i64 0, .string ⟨#[]⟩, .slice none 0 0, .bool false, .string ⟨#[]⟩, .bool false, .string ⟨#[]⟩]), 7, 96) := by kernel_rfl
theorem infoAtom : (Try.prog.info? 24).map (fun i => (i.zero, i.size, i.bytes)) = some (some (.agg #[.string ⟨#[]⟩, .slice none 0 0]), 2, 40) := by kernel_rfl
theorem wpList_append_any {P : Program} {w : World} {ops : Array Oper} {rest : List Oper} {o : Oper} {a : Act} {Q : Exit → Act → World → Prop} (hgd : o.guard = none) (s x : Operand) (t : TypeId)
    (ho : o.op = .call { callee := .builtin .append, args := #[s, x], argTypes := #[t, t] })
    (base : Nat) (e : TypeId) (i : TypeInfo) (z : Value) (size bytes : Nat) (ht : P.underlying t = some (.slice e)) (hi : P.info? e = some i) (hz : i.zero = some z)
    (hsize : i.size = size) (hby : i.bytes = bytes) (hzs : z.cells.size = size) (hsz : 0 < size)
    (v : Value) (n : Nat) (xs : List Value) (hs : a.eval s = v) (hown : w.ownsRow base e size v n xs)
    (ao : Option Addr) (m c : Nat) (news : List Value) (hx : a.eval x = .slice ao m c) (hl : news.length = m * size) (hnews : ∀ j u, news[j]? = some u → ∃ ad, ao = some ad ∧ w.cell? (ad.add j) = some u) (h1 : ∀ u ∈ news, u.oneCell' = true)
    (h63 : n + m ≤ maxLen) (hbytes : (n + m) * bytes ≤ 140737488355328) (hbase : base ≤ w.heap.size)
    (h : ∀ v' w', w'.ownsRow base e size v' (n + m) (xs ++ news) → w.grownBy w' v.ownBlock → (v' = .slice none 0 0 ↔ v = .slice none 0 0 ∧ m = 0) → (v'.ownBlock = v.ownBlock ∨ v'.ownBlock = some w.heap.size) → wpList P ops Q rest (a.put o.dst v') w') :
    wpList P ops Q (o :: rest) a w := by
  cases ao with
  | some ad =>
    refine wpList_append_own_at w hgd s x t ho base e i z size bytes ht hi hz hsize hby hzs hsz v n xs hs hown ad m c news hx hl (fun j u hj => ?_) h1 h63 hbytes hbase h
    obtain ⟨ad', he, hc⟩ := hnews j u hj
    cases he; exact hc
  | none =>
    have hn0 : news = [] := by
      cases news with
      | nil => rfl
      | cons u r => obtain ⟨ad, he, _⟩ := hnews 0 u rfl; cases he
    subst hn0
    have hm0 : m = 0 := by
      rcases Nat.mul_eq_zero.1 hl.symm with h | h
      · exact h
      · omega
    subst hm0
    have hshape : ∃ b cp, v = .slice b n cp ∧ n ≤ cp := by
      rcases hown.2 with ⟨rfl, rfl⟩ | ⟨g, cp, cur, rfl, _, _, hc, _⟩
      · exact ⟨none, 0, rfl, Nat.le_refl _⟩
      · exact ⟨_, _, rfl, hc⟩
    obtain ⟨b, cp, hv, hcp⟩ := hshape
    have hrun : (Builtin.append_ #[t, t] o.type #[v, .slice none 0 c]).run P w = .ok v w := by
      rw [hv]
      exact run_append_nothing w t t o.type e i ht hi b n cp hcp _ (Src.ofNil w ht c)
    refine wpList_plain hgd fun K hK => ?_
    unfold Oper.wp execOp
    simp only [ho, resolve, invoke, builtin, Sem.run_bind, Sem.run_pure, Result.andThen_ok, List.map_toArray, List.map_cons, List.map_nil, hs, hx, hrun]
    exact hK _ _ (h v w (by rw [List.append_nil]; exact hown) ⟨rfl, rfl, rfl, Nat.le_refl _, fun _ _ _ => rfl⟩ (by simp) (.inl rfl))
theorem spot_of_cell {w : World} {x : Addr} {v : Value} (h : w.cell? x = some v) : x.spot = none := by
  cases hsp : x.spot with
  | none => rfl
  | some s =>
    simp only [World.cell?, hsp] at h
    split at h <;> simp at h
theorem flat_get {α : Type} (f : α → List Value) (k : Nat) (hk : ∀ x, (f x).length = k) : ∀ (L : List α) (i o : Nat), o < k → (L.flatMap f)[i * k + o]? = (L[i]?).bind fun x => (f x)[o]?
  | [], i, o, h => by simp
  | x :: r, 0, o, h => by
    rw [List.flatMap_cons, Nat.zero_mul, Nat.zero_add, List.getElem?_append_left (by rw [hk]; exact h)]
    rfl
  | x :: r, i + 1, o, h => by
    rw [List.flatMap_cons, List.getElem?_append_right (by rw [hk, Nat.succ_mul]; omega), hk, show (i + 1) * k + o - k = i * k + o from by rw [Nat.succ_mul]; omega, flat_get f k hk r i o h]
    rfl
theorem flat_len {α : Type} (f : α → List Value) (k : Nat) (hk : ∀ x, (f x).length = k) (L : List α) : (L.flatMap f).length = L.length * k := by
  induction L with
  | nil => simp
  | cons x r ih => rw [List.flatMap_cons, List.length_append, hk, ih, List.length_cons, Nat.succ_mul]; omega
theorem flat_some {α : Type} (f : α → List Value) (k : Nat) (hk : ∀ x, (f x).length = k) (k0 : 0 < k) (L : List α) (j : Nat) (u : Value) (h : (L.flatMap f)[j]? = some u) : ∃ x, L[j / k]? = some x ∧ (f x)[j % k]? = some u := by
  have hj : j = j / k * k + j % k := by rw [Nat.mul_comm]; exact (Nat.div_add_mod j k).symm
  rw [hj, flat_get f k hk L (j / k) (j % k) (Nat.mod_lt _ k0)] at h
  cases hx : L[j / k]? with
  | none => rw [hx] at h; cases h
  | some x => rw [hx] at h; exact ⟨x, rfl, h⟩
def cellT (x : Bool × ByteArray) : List Value := [.bool x.1, .string x.2]
def flatT (l : List (Bool × ByteArray)) : List Value := l.flatMap cellT
theorem flatT_len (l : List (Bool × ByteArray)) : (flatT l).length = l.length * 2 := flat_len cellT 2 (fun _ => rfl) l
theorem flatT_one (l : List (Bool × ByteArray)) : ∀ u ∈ flatT l, u.oneCell' = true := by
  intro u hu
  obtain ⟨x, _, hx⟩ := List.mem_flatMap.1 hu
  simp [cellT] at hx
  rcases hx with rfl | rfl <;> rfl
theorem Terms.news {w : World} {a : Option Addr} {l : List (Bool × ByteArray)} (h : Terms w a l) : ∀ j u, (flatT l)[j]? = some u → ∃ ad, a = some ad ∧ w.cell? (ad.add j) = some u := by
  intro j u hj
  obtain ⟨x, hx, hu⟩ := flat_some cellT 2 (fun _ => rfl) (by omega) l j u hj
  obtain ⟨p, hp, h1, h2⟩ := h.cells (j / 2) x hx
  refine ⟨p, hp, ?_⟩
  have hsp : p.spot = none := by
    have hlt := (List.getElem?_eq_some_iff.1 hx).1
    obtain ⟨p', hp', h1', _⟩ := h.cells 0 _ (List.getElem?_eq_getElem (by omega))
    rw [hp] at hp'
    cases hp'
    have := spot_of_cell h1'
    rw [Nat.zero_mul] at this
    exact this
  obtain ⟨b, off, sp⟩ := p
  simp only at hsp
  subst hsp
  rcases Nat.mod_two_eq_zero_or_one j with h0 | h0
  · rw [h0] at hu
    simp [cellT] at hu
    rw [show j = j / 2 * 2 from by omega, h1, hu]
  · rw [h0] at hu
    simp [cellT] at hu
    rw [← hu, ← h2]
    congr 1
    rw [addr_add, addr_add]
    show (⟨b, off + j, none⟩ : Addr) = ⟨b, off + j / 2 * 2 + 1, none⟩
    congr 1; omega
theorem flat_terms {w : World} {g : Nat} {l : List (Bool × ByteArray)} (hl : l.length ≤ 1048576) (hz : ∀ x ∈ l, x.2.size ≤ 1048576) {r : List Value} (h : ∀ j u, (flatT l ++ r)[j]? = some u → w.cell? ⟨g, j, none⟩ = some u) : Terms w (some ⟨g, 0, none⟩) l := by
  refine ⟨hl, fun j x hj => ⟨_, rfl, ?_, ?_⟩, hz⟩
  · rw [addr_add, Nat.zero_add]
    refine h _ _ ?_
    have hlt := (List.getElem?_eq_some_iff.1 hj).1
    rw [List.getElem?_append_left (by rw [flatT_len]; omega)]
    have := flat_get cellT 2 (fun _ => rfl) l j 0 (by omega)
    rw [hj, Nat.add_zero] at this
    exact this
  · rw [addr_add, Nat.zero_add]
    refine h _ _ ?_
    have hlt := (List.getElem?_eq_some_iff.1 hj).1
    rw [List.getElem?_append_left (by rw [flatT_len]; show j * 2 + 1 < _; omega)]
    have := flat_get cellT 2 (fun _ => rfl) l j 1 (by omega)
    rw [hj] at this
    exact this
def markB : ByteArray := ⟨#[109, 97, 114, 107]⟩
def marks : List (Bool × ByteArray) := [(false, markB), (false, markB)]
/-- a copy of a row of terms: a block of its own, with marks behind -/
structure TermsM (w : World) (g : Nat) (l : List (Bool × ByteArray)) (c : Nat) : Prop where
  len : l.length ≤ 1048576
  cells : ∀ j u, (flatT l ++ flatT marks)[j]? = some u → w.cell? ⟨g, j, none⟩ = some u
  size : ∀ x ∈ l, x.2.size ≤ 1048576
  cap : l.length + 2 ≤ c
theorem TermsM.terms {w : World} {g c : Nat} {l : List (Bool × ByteArray)} (h : TermsM w g l c) : Terms w (some ⟨g, 0, none⟩) l := flat_terms h.len h.size h.cells
theorem TermsM.same {w w' : World} {g c : Nat} {l : List (Bool × ByteArray)} (h : TermsM w g l c) (hg : w'.heap[g]? = w.heap[g]?) : TermsM w' g l c :=
  ⟨h.len, fun j u hj => by rw [← h.cells j u hj]; exact World.cell?_of_block hg, h.size, h.cap⟩
theorem TermsM.marked {w : World} {g c : Nat} {l : List (Bool × ByteArray)} (h : TermsM w g l c) : w.cell? ⟨g, l.length * 2 + 1, none⟩ = some (.string markB) ∧ w.cell? ⟨g, (l.length + 1) * 2 + 1, none⟩ = some (.string markB) := by
  constructor
  · refine h.cells _ _ ?_
    rw [List.getElem?_append_right (by rw [flatT_len]; omega), flatT_len, Nat.add_sub_cancel_left]; rfl
  · refine h.cells _ _ ?_
    rw [List.getElem?_append_right (by rw [flatT_len]; omega), flatT_len, show (l.length + 1) * 2 + 1 - l.length * 2 = 3 from by omega]; rfl
theorem own_some {w : World} {base : Nat} {e : TypeId} {size : Nat} {v : Value} {n : Nat} {xs : List Value} (h : w.ownsRow base e size v n xs) (hn : 0 < n) : ∃ g cap, v = .slice (some ⟨g, 0, none⟩) n cap ∧ n ≤ cap ∧ cap ≤ maxLen ∧ base ≤ g ∧ g < w.heap.size ∧ ∀ j u, xs[j]? = some u → w.cell? ⟨g, j, none⟩ = some u := by
  have h0 := h
  rcases h.2 with ⟨_, rfl⟩ | ⟨g, cap, cur, rfl, hb, hg, hc, hm, _⟩
  · omega
  · refine ⟨g, cap, rfl, hc, hm, hb, (Array.getElem?_eq_some_iff.1 hg).1, fun j u hj => ?_⟩
    have := h0.cells (g := g) rfl j u hj
    rw [addr_add, Nat.zero_add] at this
    exact this
end Go.Proofs.Ytclioihichcpiaa
