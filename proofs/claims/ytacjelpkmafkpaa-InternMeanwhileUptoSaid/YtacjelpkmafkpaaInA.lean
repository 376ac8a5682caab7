/- Intern: texts with their numbers: lists of texts, plain; a table in memory. -/
import Derived.Test.YtacjelpkmafkpaaBase
import Derived.Test.YtacjelpkmafkpaaProg
import Derived.Test.YtacjelpkmafkpaaFam
import Derived.Maps.OwnSet
import Derived.Maps.OwnOps
namespace Go.Proofs.Ytacjelpkmafkpaa
open Go.RowKit
open Go.Maps (Keyed string_keyed IsMap Tidy)
theorem ba_beq (a b : ByteArray) : (a == b) = decide (a = b) := by
  obtain ⟨a⟩ := a
  obtain ⟨b⟩ := b
  show (a == b) = _
  rw [Bool.eq_iff_iff]; simp
instance : LawfulBEq ByteArray where
  eq_of_beq := fun {a b} h => by rw [ba_beq] at h; simpa using h
  rfl := fun {a} => by rw [ba_beq]; simp
namespace It
/-- a text put in -/
def put (L : List ByteArray) (s : ByteArray) : List ByteArray := if s ∈ L then L else L ++ [s]
def putAll (L l : List ByteArray) : List ByteArray := l.foldl put L
/-- the numbers of texts put in, one behind the other -/
def nums : List ByteArray → List ByteArray → List Nat
  | _, [] => []
  | L, s :: l => L.idxOf s :: nums (put L s) l
theorem put_nodup {L : List ByteArray} (h : L.Nodup) (s : ByteArray) : (put L s).Nodup := by
  unfold put
  split
  · exact h
  · rename_i hs
    rw [List.nodup_append]
    exact ⟨h, by simp, fun a ha b hb => by simp at hb; subst hb; exact fun e => hs (e ▸ ha)⟩
theorem put_pre (L : List ByteArray) (s : ByteArray) : ∃ z, put L s = L ++ z := by
  unfold put; split
  · exact ⟨[], by simp⟩
  · exact ⟨[s], rfl⟩
theorem mem_put (L : List ByteArray) (s x : ByteArray) : x ∈ put L s ↔ x ∈ L ∨ x = s := by
  unfold put
  split
  · rename_i h; constructor
    · exact .inl
    · rintro (h1 | rfl)
      · exact h1
      · exact h
  · simp
theorem put_len (L : List ByteArray) (s : ByteArray) : L.length ≤ (put L s).length ∧ (put L s).length ≤ L.length + 1 := by
  unfold put; split <;> simp
/-- a text keeps its number -/
theorem idx_pre {L z : List ByteArray} {s : ByteArray} (h : s ∈ L) : (L ++ z).idxOf s = L.idxOf s := by
  rw [List.idxOf_append, if_pos h]
theorem idx_put (L : List ByteArray) (s : ByteArray) : (put L s).idxOf s = L.idxOf s := by
  unfold put
  split
  · rfl
  · rename_i h
    rw [List.idxOf_append, if_neg h, List.idxOf_eq_length h]; simp
theorem idx_lt_put (L : List ByteArray) (s : ByteArray) : L.idxOf s < (put L s).length := by
  rw [← idx_put]; exact List.idxOf_lt_length_iff.2 ((mem_put L s s).2 (.inr rfl))
theorem nums_len : ∀ (l L : List ByteArray), (nums L l).length = l.length
  | [], _ => rfl
  | _ :: l, _ => congrArg (· + 1) (nums_len l _)
theorem putAll_pre : ∀ (l L : List ByteArray), ∃ z, putAll L l = L ++ z
  | [], L => ⟨[], (List.append_nil L).symm⟩
  | s :: l, L => by
    obtain ⟨z, h⟩ := put_pre L s
    obtain ⟨y, h2⟩ := putAll_pre l (put L s)
    exact ⟨z ++ y, by rw [show putAll L (s :: l) = putAll (put L s) l from rfl, h2, h, List.append_assoc]⟩
theorem putAll_nodup : ∀ (l : List ByteArray) {L : List ByteArray}, L.Nodup → (putAll L l).Nodup
  | [], _, h => h
  | s :: l, _, h => putAll_nodup l (put_nodup h s)
theorem putAll_len : ∀ (l L : List ByteArray), L.length ≤ (putAll L l).length ∧ (putAll L l).length ≤ L.length + l.length
  | [], L => ⟨Nat.le_refl _, Nat.le_refl _⟩
  | s :: l, L => by
    have h1 := put_len L s
    have h2 := putAll_len l (put L s)
    show _ ≤ (putAll (put L s) l).length ∧ (putAll (put L s) l).length ≤ L.length + (l.length + 1)
    omega
theorem putAll_snoc (L l : List ByteArray) (s : ByteArray) : putAll L (l ++ [s]) = put (putAll L l) s := by unfold putAll; rw [List.foldl_append]; rfl
theorem nums_snoc : ∀ (l L : List ByteArray) (s : ByteArray), nums L (l ++ [s]) = nums L l ++ [(putAll L l).idxOf s]
  | [], L, s => rfl
  | x :: l, L, s => by
    show L.idxOf x :: nums (put L x) (l ++ [s]) = _
    rw [nums_snoc l (put L x) s]; rfl
theorem mem_putAll : ∀ (l L : List ByteArray) (x : ByteArray), x ∈ putAll L l ↔ x ∈ L ∨ x ∈ l
  | [], L, x => by show x ∈ L ↔ _; simp
  | s :: l, L, x => by
    rw [show putAll L (s :: l) = putAll (put L s) l from rfl, mem_putAll l, mem_put, List.mem_cons, or_assoc]
end It
open It
/-- a text as a map's key -/
def sKey (s : ByteArray) : Lit := .string s.data.toList
theorem sKey_ne {s t : ByteArray} (h : s ≠ t) : sKey s ≠ sKey t := fun e => h (by
  unfold sKey at e
  injection e with e
  obtain ⟨s⟩ := s
  obtain ⟨t⟩ := t
  rw [show s = t from Array.ext' e])
/-- the map tells of each text its number -/
def Rel (D : DataW Unit) (L : List ByteArray) : Prop := ∀ s, Maps.has D (sKey s) = decide (s ∈ L) ∧ (s ∈ L → ∀ z, D.atKey (sKey s) z = .lit (.int .i64 (L.idxOf s : Nat)))
theorem Rel.nil : Rel (.map []) [] := fun s => ⟨by simp [Maps.has], fun h => by cases h⟩
theorem Rel.put {D : DataW Unit} {L : List ByteArray} (h : Rel D L) (hD : IsMap D) {s : ByteArray} (hs : s ∉ L) : Rel (D.put (sKey s) (.lit (.int .i64 (L.length : Nat)))) (L ++ [s]) := fun t => by
  by_cases hts : t = s
  · subst hts
    refine ⟨by rw [Maps.has_put_same hD (by trivial)]; simp, fun _ z => ?_⟩
    rw [Maps.atKey_put_same hD (by trivial), List.idxOf_append, if_neg hs]
    simp
  · obtain ⟨h1, h2⟩ := h t
    refine ⟨by rw [Maps.has_put_other (sKey_ne hts), h1]; simp [hts], fun ht z => ?_⟩
    have ht' : t ∈ L := by simpa [hts] using ht
    rw [Maps.atKey_put_other (sKey_ne hts), h2 ht', idx_pre ht']
/-- a table in memory: its block b, its texts at v, its numbers at mb; all from B on -/
structure Tab (w : World) (B b : Nat) (v : Value) (mb : Nat) (L : List ByteArray) : Prop where
  blk : w.heap[b]? = some (.cells #[v, .map (some mb)] 60)
  row : w.ownsRow B 9 1 v L.length (L.map Value.string)
  map_ : ∃ D : DataW Unit, w.ownsMap Try.prog 9 (plainElem Try.prog 3) mb L.length D ∧ Rel D L
  nodup : L.Nodup
  size : ∀ s ∈ L, s.size ≤ maxLen
  len : L.length ≤ 8796093022208
  ge : B ≤ b ∧ B ≤ mb
/-- a table's blocks -/
def TabB (b : Nat) (v : Value) (mb k : Nat) : Prop := k = b ∨ k = mb ∨ v.ownBlock = some k
section
variable {w w' : World} {B b mb : Nat} {v : Value} {L : List ByteArray} {S : Nat → Prop}
theorem own_keptS {base : Nat} {e : TypeId} {size : Nat} {v : Value} {n : Nat} {xs : List Value} (h : w.ownsRow base e size v n xs) (hk : KeptR S w w') (hn : ∀ b, v.ownBlock = some b → ¬ S b) : w'.ownsRow base e size v n xs := by
  refine ⟨h.1, ?_⟩
  rcases h.2 with h0 | ⟨k, cap, cur, rfl, hg1, hh, r⟩
  · exact .inl h0
  · exact .inr ⟨k, cap, cur, rfl, hg1, by rw [hk.block k (Array.getElem?_eq_some_iff.1 hh).1 (hn k rfl)]; exact hh, r⟩
theorem Tab.kept (h : Tab w B b v mb L) (hk : KeptR S w w') (hS : ∀ k, TabB b v mb k → ¬ S k) : Tab w' B b v mb L := by
  refine ⟨(hk.block _ (Array.getElem?_eq_some_iff.1 h.blk).1 (hS _ (.inl rfl))).trans h.blk, own_keptS h.row hk fun k hk => hS k (.inr (.inr hk)), ?_, h.nodup, h.size, h.len, h.ge⟩
  obtain ⟨D, ⟨es, clock, hb, r⟩, hr⟩ := h.map_
  exact ⟨D, ⟨es, clock, (hk.block _ (Array.getElem?_eq_some_iff.1 hb).1 (hS _ (.inr (.inl rfl)))).trans hb, r⟩, hr⟩
theorem Below.keptR (h : Below w.heap.size w w') : KeptR S w w' := ⟨h.os, h.tape, h.output, h.size, fun k hk _ => h.block k hk⟩
theorem Tab.below (h : Tab w B b v mb L) (hb : Below w.heap.size w w') : Tab w' B b v mb L := h.kept (S := fun _ => False) (Below.keptR hb) fun _ _ h => h
theorem Tab.cells (h : Tab w B b v mb L) : w.cell? ⟨b, 0, none⟩ = some v ∧ w.cell? ⟨b, 1, none⟩ = some (.map (some mb)) ∧ (∀ n, w.frozen? ⟨b, n, none⟩ = false) := by
  have := h.blk
  exact ⟨by simp [World.cell?, this], by simp [World.cell?, this], fun n => by simp [World.frozen?, this]⟩
theorem Tab.lt (h : Tab w B b v mb L) : ∀ k, TabB b v mb k → B ≤ k ∧ k < w.heap.size := by
  rintro k (rfl | rfl | hk)
  · exact ⟨h.ge.1, (Array.getElem?_eq_some_iff.1 h.blk).1⟩
  · obtain ⟨D, hD, -⟩ := h.map_
    exact ⟨h.ge.2, hD.lt⟩
  · exact own_lt h.row k hk
theorem Tab.mb_ne (h : Tab w B b v mb L) : mb ≠ b ∧ v.ownBlock ≠ some mb ∧ v.ownBlock ≠ some b := by
  obtain ⟨D, ⟨es, clock, hb, -⟩, -⟩ := h.map_
  refine ⟨fun e => ?_, fun e => ?_, fun e => ?_⟩
  · rw [e, h.blk] at hb; cases hb
  · rcases h.row.2 with ⟨rfl, -⟩ | ⟨k, cap, cur, rfl, -, hh, -⟩
    · cases e
    · have : k = mb := by injection e
      rw [this, hb] at hh; cases hh
  · rcases h.row.2 with ⟨rfl, -⟩ | ⟨k, cap, cur, rfl, -, hh, -⟩
    · cases e
    · have : k = b := by injection e
      rw [this, h.blk] at hh; injection hh with hh; injection hh with _ hh; revert hh; decide
end
theorem strLaw : Keyed Try.prog 9 := string_keyed Try.underlying9
theorem zeroInt (w : World) : (zeroValue 3).run Try.prog w = .ok (.int .i64 0) w := by kernel_rfl
theorem infoStr : (Try.prog.info? 9).map (fun i => (i.zero, i.size, i.bytes)) = some (some (.string ⟨#[]⟩), 1, 16) := by kernel_rfl
theorem infoIntN : (Try.prog.info? 3).map (fun i => (i.zero, i.size, i.bytes)) = some (some (.int .i64 0), 1, 8) := by kernel_rfl
end Go.Proofs.Ytacjelpkmafkpaa
