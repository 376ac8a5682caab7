/- Intern: lent texts; Text, Texts; the document's table; alike lists. -/
import Derived.Test.YtacjelpkmafkpaaInC
import Derived.Deep.Upon
import Derived.Deep.QuietTactic
import Derived.BigQuiet
namespace Go.Proofs.Ytacjelpkmafkpaa
open Go.RowKit It
attribute [local go_sem] neq_map
set_option maxHeartbeats 2000000
set_option maxRecDepth 100000
theorem wpList_append_any {P : Program} {w : World} {ops : Array Oper} {rest : List Oper} {o : Oper} {a : Act} {Q : Exit → Act → World → Prop} (hgd : o.guard = none) (s x : Operand) (t : TypeId)
    (ho : o.op = .call { callee := .builtin .append, args := #[s, x], argTypes := #[t, t] })
    (base : Nat) (e : TypeId) (i : TypeInfo) (z : Value) (size bytes : Nat) (ht : P.underlying t = some (.slice e)) (hi : P.info? e = some i) (hz : i.zero = some z)
    (hsize : i.size = size) (hby : i.bytes = bytes) (hzs : z.cells.size = size) (hsz : 0 < size)
    (v : Value) (n : Nat) (xs : List Value) (hs : a.eval s = v) (hown : w.ownsRow base e size v n xs)
    (ao : Option Addr) (m c : Nat) (news : List Value) (hx : a.eval x = .slice ao m c) (hl : news.length = m * size) (hnews : ∀ j u, news[j]? = some u → ∃ ad, ao = some ad ∧ w.cell? (ad.add j) = some u) (h1 : ∀ u ∈ news, u.oneCell' = true)
    (h63 : n + m ≤ maxLen) (hbytes : (n + m) * bytes ≤ 140737488355328) (hbase : base ≤ w.heap.size)
    (h : ∀ v' w', w'.ownsRow base e size v' (n + m) (xs ++ news) → w.grownBy w' v.ownBlock → (v' = .slice none 0 0 ↔ v = .slice none 0 0 ∧ m = 0) → (v'.ownBlock = v.ownBlock ∨ v'.ownBlock = some w.heap.size) → wpList P ops Q rest (a.put o.dst v') w') :
    wpList P ops Q (o :: rest) a w := by
  cases ao with
  | some ad =>
    refine wpList_append_own_at w hgd s x t ho base e i z size bytes ht hi hz hsize hby hzs hsz v n xs hs hown ad m c news hx hl (fun j u hj => ?_) h1 h63 hbytes hbase h
    obtain ⟨ad', he, hc⟩ := hnews j u hj
    cases he; exact hc
  | none =>
    have hn0 : news = [] := by
      cases news with
      | nil => rfl
      | cons u r => obtain ⟨ad, he, _⟩ := hnews 0 u rfl; cases he
    subst hn0
    have hm0 : m = 0 := by
      rcases Nat.mul_eq_zero.1 hl.symm with h | h
      · exact h
      · omega
    subst hm0
    have hshape : ∃ b cp, v = .slice b n cp ∧ n ≤ cp := by
      rcases hown.2 with ⟨rfl, rfl⟩ | ⟨g, cp, cur, rfl, _, _, hc, _⟩
      · exact ⟨none, 0, rfl, Nat.le_refl _⟩
      · exact ⟨_, _, rfl, hc⟩
    obtain ⟨b, cp, hv, hcp⟩ := hshape
    have hrun : (Builtin.append_ #[t, t] o.type #[v, .slice none 0 c]).run P w = .ok v w := by
      rw [hv]
      exact run_append_nothing w t t o.type e i ht hi b n cp hcp _ (Src.ofNil w ht c)
    refine wpList_plain hgd fun K hK => ?_
    unfold Oper.wp execOp
    simp only [ho, resolve, invoke, builtin, Sem.run_bind, Sem.run_pure, Result.andThen_ok, List.map_toArray, List.map_cons, List.map_nil, hs, hx, hrun]
    exact hK _ _ (h v w (by rw [List.append_nil]; exact hown) ⟨rfl, rfl, rfl, Nat.le_refl _, fun _ _ _ => rfl⟩ (by simp) (.inl rfl))

theorem TxA.news {w : World} {a : Option Addr} {l : List ByteArray} (h : TxA w a l) : ∀ j u, (l.map Value.string)[j]? = some u → ∃ ad, a = some ad ∧ w.cell? (ad.add j) = some u := fun j u hj => by
  rw [List.getElem?_map] at hj
  cases hx : l[j]? with
  | none => rw [hx] at hj; cases hj
  | some s =>
    rw [hx] at hj
    injection hj with hj
    subst hj
    obtain ⟨hlt, hs⟩ := List.getElem?_eq_some_iff.1 hx
    obtain ⟨b, off, ha, hc⟩ := h.cells j hlt
    refine ⟨_, ha, ?_⟩
    rw [addr_add, hc, List.getD_eq_getElem?_getD, hx]; rfl
theorem own_TxA {w : World} {B n c : Nat} {a : Option Addr} {l z : List ByteArray} (h : w.ownsRow B 9 1 (.slice a n c) n ((l ++ z).map Value.string)) (hl : l.length ≤ 140737488355328) (hs : ∀ s ∈ l, s.size ≤ 140737488355328) : TxA w a l := by
  refine ⟨hl, fun i hi => ?_, fun i => ?_⟩
  · have hn : (l ++ z).length = n := by have := h.1; simpa using this
    rw [List.length_append] at hn
    obtain ⟨g, c', e1, hg, hlt, -, -⟩ := own_shape h (by omega)
    injection e1 with e1 _ _
    subst e1
    refine ⟨g, 0, rfl, ?_⟩
    rw [Nat.zero_add, h.cellAt i (by omega), List.getElem?_map, List.getElem?_append_left hi, List.getElem?_eq_getElem hi, List.getD_eq_getElem?_getD, List.getElem?_eq_getElem hi]; rfl
  · rcases Nat.lt_or_ge i l.length with hi | hi
    · rw [List.getD_eq_getElem?_getD, List.getElem?_eq_getElem hi]; exact hs _ (List.getElem_mem hi)
    · rw [List.getD_eq_getElem?_getD, List.getElem?_eq_none hi]; exact Nat.zero_le _
theorem TxA.mem {w : World} {a : Option Addr} {l : List ByteArray} (h : TxA w a l) : ∀ s ∈ l, s.size ≤ 140737488355328 := fun s hs => by
  obtain ⟨i, hi, rfl⟩ := List.getElem_of_mem hs
  have := h.size i
  rwa [List.getD_eq_getElem?_getD, List.getElem?_eq_getElem hi] at this
def markS : ByteArray := ⟨#[109, 97, 114, 107]⟩
theorem cells_new (w : World) (cs : Array Value) (t : TypeId) : ∀ j u, cs.toList[j]? = some u → (w.alloc (.cells cs t)).cell? ((⟨w.heap.size, 0, none⟩ : Addr).add j) = some u := fun j u hj => by
  rw [addr_add, Nat.zero_add, cell_of_row _ _ _ _ _ _ (heap_alloc_new w _)]
  simpa using hj
def LentP (w : World) (l : List ByteArray) (e : Ending) (w' : World) : Prop :=
  ∃ g cp, e = .returned (.slice (some ⟨g, 0, none⟩) l.length cp) ∧ TxA w' (some ⟨g, 0, none⟩) l ∧ w.heap.size ≤ g ∧ g < w'.heap.size ∧ Below w.heap.size w w'
/-- lentTexts: new memory -/
theorem w1_lent {w : World} {a : Option Addr} {l : List ByteArray} {c : Nat} (ht : TxA w a l) (hl : l.length ≤ 8796093022080) :
    Calls Try.prog 8 #[.slice a l.length c] w (LentP w l) := by
  obtain ⟨is, his, hz0, hz1, hz2⟩ := info_parts infoStr
  have hnw := Lib.hid ht.news
  have hln := ht.len
  replace ht := Lib.hid ht
  go_enter Try.func8, Try.ntmps8
  go_wp2_with (at_builtin; refine wpList_append_any rfl (.const (.slice none 0 0)) (.tmp 4) 22 rfl w.heap.size 9 is (.string ⟨#[]⟩) 1 16 Try.underlying22 his hz0 hz1 hz2 rfl (by decide) (.slice none 0 0) 0 [] rfl (World.ownsRow_nil _ _ _ _) a l.length c (l.map Value.string) rfl (by simp) hnw.out (by intro u hu; obtain ⟨s, -, rfl⟩ := List.mem_map.1 hu; rfl) (by unfold maxLen; omega) (by omega) (Nat.le_refl _) ?_)
  intro v1 w1 hown1 hg1 hn1 hat1
  obtain ⟨va, vc, rfl, -⟩ := own_slice hown1
  have hown1' := Lib.hid hown1
  have hb1 : Below w.heap.size w w1 := ⟨hg1.os, hg1.tape, hg1.output, hg1.size, fun k hk => hg1.block k hk (fun e => by cases e)⟩
  replace hb1 := Lib.hid hb1
  clear hown1 hg1 hn1 hat1
  go_wp2_with (at_builtin; refine wpList_append_two _ rfl (.tmp 5) (.tmp 6) 22 rfl w.heap.size 9 is (.string ⟨#[]⟩) 1 16 Try.underlying22 his hz0 hz1 hz2 rfl (by decide) (.slice va l.length vc) l.length (l.map Value.string) rfl (hown1'.out.alloc _) ⟨w1.heap.size, 0, none⟩ 2 2 [.string ⟨#[109, 97, 114, 107]⟩, .string ⟨#[109, 97, 114, 107]⟩] rfl rfl (cells_new _ _ _) (by intro u hu; simp at hu; subst hu; rfl) (by decide) (by unfold maxLen; omega) (by omega) (by rw [World.size_alloc]; have := hb1.out.size; omega) ?_)
  intro g cp w2 hown2 hg2
  have hs1 := hb1.out.size
  have hge := (own_lt hown2 g rfl).1
  have hlt := (own_lt hown2 g rfl).2
  have hb2 : Below w.heap.size w w2 := by
    have h1 := (hb1.out.al (.cells #[.string ⟨#[109, 97, 114, 107]⟩, .string ⟨#[109, 97, 114, 107]⟩] 9))
    rcases hg2 with h | h
    · exact h1.grown h.2 h1.size (fun k e => by injection e with e; omega)
    · exact h1.grown h.2 h1.size (fun k e => by cases e)
  have htx : TxA w2 (some ⟨g, 0, none⟩) l := by
    have h1 : w2.ownsRow w.heap.size 9 1 (.slice (some ⟨g, 0, none⟩) (l.length + 2) cp) (l.length + 2) ((l ++ [markS, markS]).map Value.string) := by
      rw [List.map_append]; exact hown2
    exact own_TxA h1 ht.out.len ht.out.mem
  obtain ⟨g2, c2, e1, -, -, hcc, -⟩ := own_shape hown2 (by omega)
  obtain rfl : cp = c2 := by injection e1
  clear e1
  have hc1 : ¬ ((cp : Int) < (l.length : Int)) := by omega
  replace hb2 := Lib.hid hb2
  replace htx := Lib.hid htx
  replace hge := Lib.hid hge
  replace hlt := Lib.hid hlt
  clear hown2 hg2
  go_wp2_with fail
  go_ret
  exact ⟨g, _, rfl, htx.out, hge.out, hlt.out, hb2.out⟩
end Go.Proofs.Ytacjelpkmafkpaa
