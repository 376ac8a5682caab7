/- Book: lists of numbers written over and grown, none showing another's. -/
import Derived.Test.YtgndogoaenlchaaDoorProg
import Derived.Test.YtgndogoaenlchaaDoorBase
import Derived.Test.YtgndogoaenlchaaDoorLend
import Derived.Test.YtgndogoaenlchaaDoorFam
import Derived.BigQuiet
import Derived.Deep.QuietTactic
namespace Go.Proofs.YtgndogoaenlchaaDoor
open Go.RowKit

/-- some slices -/
structure Rows3 where
  A : Nat → Option Addr
  n : Nat → Nat
  c : Nat → Nat
def Rows3.V (L : Rows3) (j : Nat) : Value := .slice (L.A j) (L.n j) (L.c j)
def mk1 (j : Nat) : Int := -1000 - (j : Int)
/-- the numbers of the list j, when i lists are written over, and k numbers of the next -/
def X1 (L : Rows3) (X : Nat → List Int) (i k j : Nat) : List Int := if j < i then List.replicate (L.n j) (mk1 j) else if j = i then List.replicate k (mk1 i) ++ (X j).drop k else X j
structure BkIn (w : World) (base BB G m cN : Nat) (L : Rows3) (X : Nat → List Int) : Prop where
  hm : m ≤ 100
  hbase : base ≤ w.heap.size
  hN : w.cell? ⟨BB, 1, none⟩ = some (.slice (some ⟨G, 0, none⟩) m cN)
  hL : ∀ j, j < m → w.cell? ⟨G, j, none⟩ = some (L.V j)
  hX : ∀ j, j < m → w.ownsRow base 3 1 (L.V j) (L.n j) ((X j).map (Value.int .i64))
  hn : ∀ j, j < m → L.n j ≤ 17592186044000
  hap : ∀ j, j < m → ∀ b, (L.V j).ownBlock = some b → b ≠ BB ∧ b ≠ G ∧ ∀ j', j' < m → j' ≠ j → (L.V j').ownBlock ≠ some b
def BkB (L : Rows3) (m : Nat) (b : Nat) : Prop := ∃ j, j < m ∧ (L.V j).ownBlock = some b
def Fam1 (w : World) (base m : Nat) (L : Rows3) (X : Nat → List Int) (i k : Nat) : Prop := ∀ j, j < m → w.ownsRow base 3 1 (L.V j) (L.n j) ((X1 L X i k j).map (Value.int .i64))

theorem Fam1.start {w : World} {base BB G m cN : Nat} {L : Rows3} {X : Nat → List Int} (h : BkIn w base BB G m cN L X) : Fam1 w base m L X 0 0 := by
  intro j hj
  have : X1 L X 0 0 j = X j := by unfold X1; rw [if_neg (by omega)]; split <;> simp
  rw [this]; exact h.hX j hj
theorem Fam1.next {w : World} {base m : Nat} {L : Rows3} {X : Nat → List Int} {i : Nat} (h : Fam1 w base m L X i (L.n i)) : Fam1 w base m L X (i + 1) 0 := by
  intro j hj
  have h2 := h j hj
  have hl := h2.1
  have : X1 L X (i + 1) 0 j = X1 L X i (L.n i) j := by
    unfold X1 at hl ⊢
    by_cases h1 : j < i
    · rw [if_pos h1, if_pos (by omega)]
    · by_cases h3 : j = i
      · subst h3
        rw [if_neg h1, if_pos rfl] at hl
        simp at hl
        rw [if_neg h1, if_pos rfl, if_pos (by omega), List.drop_of_length_le (by omega)]; simp
      · rw [if_neg h1, if_neg h3, if_neg (by omega)]; split <;> simp
  rw [this]; exact h2
theorem Fam1.put {w : World} {base BB G m cN g i k : Nat} {w0 : World} {L : Rows3} {X : Nat → List Int} (hin : BkIn w0 base BB G m cN L X) (h : Fam1 w base m L X i k) (hi : i < m) (hk : k < L.n i) (hg : L.A i = some ⟨g, 0, none⟩) :
    Fam1 (w.setCell ⟨g, k, none⟩ (.int .i64 (mk1 i))) base m L X i (k + 1) := by
  intro j hj
  have hb : (L.V i).ownBlock = some g := by unfold Rows3.V; rw [hg]; rfl
  by_cases hji : j = i
  · subst hji
    have h2 := h j hj
    unfold Rows3.V at h2 ⊢
    rw [hg] at h2 ⊢
    have h3 := own_putI (j := k) (u := .int .i64 (mk1 j)) h2
    have hl := h2.1
    have : ((X1 L X j k j).map (Value.int .i64)).set k (.int .i64 (mk1 j)) = (X1 L X j (k + 1) j).map (Value.int .i64) := by
      unfold X1 at hl ⊢
      rw [if_neg (by omega), if_pos rfl] at hl ⊢
      rw [if_neg (by omega), if_pos rfl, ← List.map_set]
      congr 1
      simp at hl
      rw [List.set_append_right _ _ (by simp), List.length_replicate, Nat.sub_self, List.drop_eq_getElem_cons (by omega), List.set_cons_zero, List.replicate_succ', List.append_assoc]; rfl
    rw [← this]; exact h3
  · have h2 := own_setOther (g := g) (i := k) (u := .int .i64 (mk1 i)) (h j hj) ((hin.hap i hi g hb).2.2 j hj hji)
    have : X1 L X i (k + 1) j = X1 L X i k j := by unfold X1; rw [if_neg hji, if_neg hji]
    rw [this]; exact h2

/-- the lists while they grow: i of them are grown (20 more each), k more numbers at the next -/
def N2 (L : Rows3) (i k j : Nat) : Nat := if j < i then L.n j + 20 else if j = i then L.n j + k else L.n j
structure Fam2 (W w : World) (base m : Nat) (L : Rows3) (i k : Nat) (V : Nat → Value) : Prop where
  row : ∀ j, j < m → w.ownsRow base 3 1 (V j) (N2 L i k j) ((List.replicate (N2 L i k j) (mk1 j)).map (Value.int .i64))
  at_ : ∀ j, j < m → (V j).ownBlock = (L.V j).ownBlock ∨ ∀ b, (V j).ownBlock = some b → W.heap.size ≤ b
  apart : ∀ j, j < m → ∀ b, (V j).ownBlock = some b → ∀ j', j' < m → j' ≠ j → (V j').ownBlock ≠ some b
  old : ∀ j, j < m → i < j → V j = L.V j
  first : k = 0 → ∀ j, j < m → i ≤ j → V j = L.V j
  read : ∀ j, j < m → ∀ q, q < L.n j → ∃ g, L.A j = some ⟨g, 0, none⟩ ∧ g < W.heap.size ∧ w.cell? ⟨g, q, none⟩ = some (.int .i64 (mk1 j))
/-- the list of the grown ones -/
structure Long (W w : World) (base m i : Nat) (V : Nat → Value) (v : Value) : Prop where
  row : w.ownsRow base 23 1 v i ((List.range i).map V)
  new : ∀ b, v.ownBlock = some b → W.heap.size ≤ b ∧ ∀ j, j < m → (V j).ownBlock ≠ some b

theorem map_rep (n : Nat) (z : Int) : (List.replicate n z).map (Value.int .i64) ++ [Value.int .i64 z] = (List.replicate (n + 1) z).map (Value.int .i64) := by
  rw [List.replicate_succ', List.map_append]; rfl
theorem Fam2.start {W w : World} {base BB G m cN : Nat} {L : Rows3} {X : Nat → List Int} (hin : BkIn W base BB G m cN L X) (h : Fam1 w base m L X m 0) : Fam2 W w base m L 0 0 L.V := by
  have hn : ∀ j, N2 L 0 0 j = L.n j := fun j => by unfold N2; rw [if_neg (by omega)]; split <;> rfl
  have hx : ∀ j, j < m → X1 L X m 0 j = List.replicate (L.n j) (mk1 j) := fun j hj => by unfold X1; rw [if_pos hj]
  refine ⟨fun j hj => ?_, fun j hj => .inl rfl, fun j hj b hb j' hj' hne => (hin.hap j hj b hb).2.2 j' hj' hne, fun _ _ _ => rfl, fun _ _ _ _ => rfl, fun j hj q hq => ?_⟩
  · rw [hn j, ← hx j hj]; exact h j hj
  · have own := h j hj
    rw [hx j hj] at own
    obtain ⟨g, cap, hV, hg0, hg1, _⟩ := own_shape own (by omega)
    have hA : L.A j = some ⟨g, 0, none⟩ := by unfold Rows3.V at hV; injection hV
    have hgW : g < W.heap.size := (own_lt (hin.hX j hj) g (by rw [hV]; rfl)).2
    rw [hV] at own
    refine ⟨g, hA, hgW, ?_⟩
    rw [own.cellAt q (by omega)]; simp [hq]
/-- a number more at the list i -/
theorem Fam2.more {W w w2 : World} {base BB G m cN : Nat} {L : Rows3} {X : Nat → List Int} {i k g c : Nat} {V : Nat → Value} {ob : Obj} {n2 : Nat} (hin : BkIn W base BB G m cN L X) (h : Fam2 W w base m L i k V) (hi : i < m) (hk : KeptR (BkB L m) W w)
    (hn : n2 = L.n i + k + 1) (hown : w2.ownsRow base 3 1 (.slice (some ⟨g, 0, none⟩) n2 c) n2 ((List.replicate (L.n i + k) (mk1 i)).map (Value.int .i64) ++ [Value.int .i64 (mk1 i)]))
    (hg : ((V i).ownBlock = some g ∧ (w.alloc ob).grownBy w2 (some g)) ∨ (g = w.heap.size + 1 ∧ (w.alloc ob).grownBy w2 none)) :
    Fam2 W w2 base m L i (k + 1) (fun j => if j = i then .slice (some ⟨g, 0, none⟩) n2 c else V j) ∧ KeptR (BkB L m) W w2 := by
  have hzW := hk.size
  have hsz : (w.alloc ob).heap.size = w.heap.size + 1 := World.size_alloc _ _
  -- the block g: the list's own, or new
  have hgb : (V i).ownBlock = some g ∨ (g = w.heap.size + 1) := by
    rcases hg with h2 | h2
    · exact .inl h2.1
    · right; omega
  have hgW : (L.V i).ownBlock = some g ∨ W.heap.size ≤ g := by
    rcases hgb with h2 | h2
    · rcases h.at_ i hi with h3 | h3
      · left; rw [← h3]; exact h2
      · right; exact h3 g h2
    · right; omega
  have hoth : ∀ j, j < m → j ≠ i → ∀ b, (V j).ownBlock = some b → b ≠ g := by
    intro j hj hji b hb
    rcases hgb with h2 | h2
    · intro he; subst he; exact h.apart i hi b h2 j hj hji hb
    · have := (own_lt (h.row j hj) b hb).2; omega
  obtain ⟨r, hgr, hr⟩ : ∃ r, (w.alloc ob).grownBy w2 r ∧ ∀ b, r = some b → b = g := by
    rcases hg with h2 | h2
    · exact ⟨_, h2.2, fun b hb => by injection hb with hb; exact hb.symm⟩
    · exact ⟨_, h2.2, fun b hb => by cases hb⟩
  have hrep : (List.replicate (L.n i + k) (mk1 i)).map (Value.int .i64) ++ [Value.int .i64 (mk1 i)] = (List.replicate n2 (mk1 i)).map (Value.int .i64) := by rw [map_rep, hn]
  rw [hrep] at hown
  refine ⟨⟨fun j hj => ?_, fun j hj => ?_, fun j hj b hb j' hj' hne => ?_, fun j hj hij => ?_, fun h0 => (by omega), fun j hj q hq => ?_⟩, ?_⟩
  · by_cases hji : j = i
    · subst hji
      have : N2 L j (k + 1) j = n2 := by unfold N2; rw [if_neg (by omega), if_pos rfl, hn]; omega
      rw [if_pos rfl, this]; exact hown
    · have : N2 L i (k + 1) j = N2 L i k j := by unfold N2; rw [if_neg hji, if_neg hji]
      rw [if_neg hji, this]
      refine own_grownOther ((h.row j hj).alloc ob) hgr (fun b hb he => ?_)
      have := hr b he
      exact hoth j hj hji b hb this
  · by_cases hji : j = i
    · subst hji
      rw [if_pos rfl]
      rcases hgW with h2 | h2
      · left; rw [h2]; rfl
      · right; intro b hb; have : b = g := by injection hb with hb; exact hb.symm
        omega
    · rw [if_neg hji]; exact h.at_ j hj
  · by_cases hji : j = i
    · subst hji
      rw [if_pos rfl] at hb
      have hbg : b = g := by injection hb with hb; exact hb.symm
      rw [if_neg hne]
      intro h2
      exact hoth j' hj' hne b h2 hbg
    · rw [if_neg hji] at hb
      by_cases hji' : j' = i
      · rw [if_pos hji']
        intro h2
        have h2 : g = b := by injection h2
        exact hoth j hj hji b hb h2.symm
      · rw [if_neg hji']; exact h.apart j hj b hb j' hj' hne
  · rw [if_neg (by omega)]; exact h.old j hj hij
  · obtain ⟨gj, hA, hgj, hc⟩ := h.read j hj q hq
    refine ⟨gj, hA, hgj, ?_⟩
    have hc2 : (w.alloc ob).cell? ⟨gj, q, none⟩ = some (.int .i64 (mk1 j)) := by
      rw [World.cell?_of_block (heap_alloc_old w ob (by show gj < w.heap.size; omega))]; exact hc
    by_cases hgg : gj = g
    · subst hgg
      -- then it is the list i itself, in its place
      have hLj : (L.V j).ownBlock = some gj := by unfold Rows3.V; rw [hA]; rfl
      have hji : j = i := by
        rcases hgW with h2 | h2
        · refine Classical.byContradiction fun hne => (hin.hap i hi gj h2).2.2 j hj hne hLj
        · omega
      subst hji
      rw [hown.cellAt q (by rw [hn]; omega)]
      have : q < n2 := by omega
      simp [this]
    · rw [World.cell?_of_block (hgr.block gj (by rw [hsz]; omega) (fun he => hgg (hr gj he.symm)))]; exact hc2
  · refine (hk.al ob).grown hgr (fun b hb => ?_)
    have := hr b hb
    subst this
    rcases hgW with h2 | h2
    · left; exact ⟨i, hi, h2⟩
    · right; exact h2
theorem Fam2.next {W w : World} {base m : Nat} {L : Rows3} {i : Nat} {V : Nat → Value} (h : Fam2 W w base m L i 20 V) : Fam2 W w base m L (i + 1) 0 V := by
  have hn : ∀ j, N2 L (i + 1) 0 j = N2 L i 20 j := fun j => by
    unfold N2
    by_cases h1 : j < i
    · rw [if_pos h1, if_pos (by omega)]
    · by_cases h2 : j = i
      · rw [if_pos (by omega), if_neg h1, if_pos h2]
      · rw [if_neg h1, if_neg h2, if_neg (by omega)]; split <;> rfl
  exact ⟨fun j hj => by rw [hn j]; exact h.row j hj, h.at_, h.apart, fun j hj hij => h.old j hj (by omega), fun _ j hj hij => h.old j hj (by omega), h.read⟩
theorem Fam2.world {W w w2 : World} {base m : Nat} {L : Rows3} {i k : Nat} {V : Nat → Value} {r : Option Nat} (h : Fam2 W w base m L i k V) (hg : w.grownBy w2 r) (hr : ∀ b, r = some b → W.heap.size ≤ b ∧ ∀ j, j < m → (V j).ownBlock ≠ some b) : Fam2 W w2 base m L i k V :=
  ⟨fun j hj => own_grownOther (h.row j hj) hg (fun b hb he => (hr b he).2 j hj hb), h.at_, h.apart, h.old, h.first, fun j hj q hq => by
    obtain ⟨g, hA, hgW, hc⟩ := h.read j hj q hq
    exact ⟨g, hA, hgW, hg.cell hc (fun he => by have := (hr g he.symm).1; omega)⟩⟩

theorem grown_new (w : World) (ob : Obj) : w.grownBy (w.alloc ob) none := ⟨rfl, rfl, rfl, by rw [World.size_alloc]; omega, fun k hk _ => heap_alloc_old w ob hk⟩
theorem Fam2.block {W w : World} {base m : Nat} {L : Rows3} {i k : Nat} {V : Nat → Value} (h : Fam2 W w base m L i k V) (hi : i < m) : w.ownsRow base 3 1 (V i) (L.n i + k) ((List.replicate (L.n i + k) (mk1 i)).map (Value.int .i64)) := by
  have := h.row i hi
  have hn : N2 L i k i = L.n i + k := by unfold N2; rw [if_neg (by omega), if_pos rfl]
  rw [hn] at this; exact this
theorem Long.more {W w w2 : World} {base m : Nat} {i g c n2 : Nat} {V : Nat → Value} {v : Value} {ob : Obj} (h : Long W w base m i V v) (hi : i < m)
    (hg : ((V i).ownBlock = some g ∧ (w.alloc ob).grownBy w2 (some g)) ∨ (g = w.heap.size + 1 ∧ (w.alloc ob).grownBy w2 none)) :
    Long W w2 base m i (fun j => if j = i then .slice (some ⟨g, 0, none⟩) n2 c else V j) v := by
  have hsz : (w.alloc ob).heap.size = w.heap.size + 1 := World.size_alloc _ _
  have hgb : ∀ b, v.ownBlock = some b → b ≠ g := by
    intro b hb he
    subst he
    rcases hg with h2 | h2
    · exact (h.new b hb).2 i hi h2.1
    · have := (own_lt h.row b hb).2; omega
  refine ⟨?_, fun b hb => ⟨(h.new b hb).1, fun j hj => ?_⟩⟩
  · have : (List.range i).map (fun j => if j = i then Value.slice (some ⟨g, 0, none⟩) n2 c else V j) = (List.range i).map V := by
      refine List.map_congr_left fun j hj => ?_
      have := List.mem_range.1 hj
      rw [if_neg (by omega)]
    rw [this]
    rcases hg with h2 | h2
    · exact own_grownOther (h.row.alloc ob) h2.2 (fun b hb he => hgb b hb (by injection he with he; exact he.symm))
    · exact own_grownOther (h.row.alloc ob) h2.2 (fun b hb he => by cases he)
  · by_cases hji : j = i
    · rw [if_pos hji]
      intro h2
      have h2 : g = b := by injection h2
      exact hgb b hb h2.symm
    · rw [if_neg hji]; exact (h.new b hb).2 j hj
/-- the grown list is put behind the others -/
theorem Long.next {W w w2 : World} {base m : Nat} {L : Rows3} {i g c : Nat} {V : Nat → Value} {v : Value} {ob : Obj} (h : Long W w base m i V v) (hf : Fam2 W w base m L i 20 V) (_hi : i < m) (hkp : KeptR (BkB L m) W w)
    (hown : w2.ownsRow base 23 1 (.slice (some ⟨g, 0, none⟩) (i + 1) c) (i + 1) ((List.range i).map V ++ [V i]))
    (hg : (v.ownBlock = some g ∧ (w.alloc ob).grownBy w2 (some g)) ∨ (g = w.heap.size + 1 ∧ (w.alloc ob).grownBy w2 none)) :
    Long W w2 base m (i + 1) V (.slice (some ⟨g, 0, none⟩) (i + 1) c) ∧ Fam2 W w2 base m L (i + 1) 0 V ∧ KeptR (BkB L m) W w2 := by
  have hsz : (w.alloc ob).heap.size = w.heap.size + 1 := World.size_alloc _ _
  have hzW := hkp.size
  have hgn : W.heap.size ≤ g ∧ ∀ j, j < m → (V j).ownBlock ≠ some g := by
    rcases hg with h2 | h2
    · exact h.new g h2.1
    · refine ⟨by omega, fun j hj hb => ?_⟩
      have := (own_lt (hf.row j hj) g hb).2; omega
  obtain ⟨r, hgr, hr⟩ : ∃ r, (w.alloc ob).grownBy w2 r ∧ ∀ b, r = some b → b = g := by
    rcases hg with h2 | h2
    · exact ⟨_, h2.2, fun b hb => by injection hb with hb; exact hb.symm⟩
    · exact ⟨_, h2.2, fun b hb => by cases hb⟩
  have hf1 : Fam2 W (w.alloc ob) base m L i 20 V := hf.world (grown_new w ob) (fun b hb => by cases hb)
  refine ⟨⟨?_, fun b hb => ?_⟩, (hf1.world hgr (fun b hb => by have := hr b hb; subst this; exact hgn)).next, (hkp.al ob).grown hgr (fun b hb => by have := hr b hb; subst this; exact .inr hgn.1)⟩
  · rw [List.range_succ, List.map_append]; exact hown
  · have : b = g := by injection hb with hb; exact hb.symm
    subst this; exact hgn
theorem infoSl : (Tryd.prog.info? 23).map (fun i => (i.zero, i.size, i.bytes)) = some (some (.slice none 0 0), 1, 24) := by kernel_rfl

theorem BkIn.notB {w : World} {base BB G m cN : Nat} {L : Rows3} {X : Nat → List Int} (h : BkIn w base BB G m cN L X) : ¬ BkB L m BB ∧ ¬ BkB L m G :=
  ⟨fun ⟨j, hj, hb⟩ => (h.hap j hj _ hb).1 rfl, fun ⟨j, hj, hb⟩ => (h.hap j hj _ hb).2.1 rfl⟩

set_option maxRecDepth 100000 in
set_option maxHeartbeats 8000000 in
theorem bk_ints (BB G m cN base : Nat) (L : Rows3) (X : Nat → List Int) (w : World) (hin : BkIn w base BB G m cN L X) :
    Calls Tryd.prog 30 #[.pointer (some ⟨BB, 0, none⟩)] w fun e w' => e = .returned (.bool true) ∧ KeptR (BkB L m) w w' := by
  have hm := hin.hm
  obtain ⟨nB, nG⟩ := hin.notB
  have hbase := hin.hbase
  obtain ⟨ib, hib, hz0, hz1, hz2⟩ := info_parts infoInt
  obtain ⟨is, his, hy0, hy1, hy2⟩ := info_parts infoSl
  replace nB := Lib.hid nB
  replace nG := Lib.hid nG
  have hst := Lib.hid (Fam1.start hin)
  replace hin := Lib.hid hin
  go_enter Tryd.func30, Tryd.ntmps30
  go_wp2
  go_loopw [3] (fun i wr => ∃ (k : Nat), k ≤ m ∧ i = .int .i64 k ∧ Hid (Fam1 wr base m L X k 0) ∧ Hid (KeptR (BkB L m) w wr)) (fun i _ => m - (intOf i).toNat)
  case atStart => exact ⟨0, Nat.zero_le _, rfl, hst, KeptR.refl _ _⟩
  case round =>
    obtain ⟨i, hi, rfl, hf, hkp⟩ := hrel
    have p := hkp.out.cell hin.out.hN nB.out
    by_cases hlt : i < m
    · go_wp2
      obtain ⟨N, hN⟩ : ∃ N, N = L.n i := ⟨_, rfl⟩
      obtain ⟨cc, hc⟩ : ∃ cc, cc = L.c i := ⟨_, rfl⟩
      have hNb : N ≤ 17592186044000 := by rw [hN]; exact hin.out.hn i hlt
      replace hN := Lib.hid hN
      replace hc := Lib.hid hc
      clear p hst
      go_loopw [4] (fun k wr => ∃ q : Nat, q ≤ N ∧ k = .int .i64 q ∧ Hid (Fam1 wr base m L X i q) ∧ Hid (KeptR (BkB L m) w wr)) (fun k _ => N - (intOf k).toNat)
      case atStart => exact ⟨0, Nat.zero_le _, rfl, hf, hkp⟩
      case round =>
        obtain ⟨k, hk, rfl, hf2, hkp2⟩ := hrel
        have p := hkp2.out.cell hin.out.hN nB.out
        by_cases hk2 : k < N
        · have own := hf2.out i hlt
          obtain ⟨g, cap, hV, hg0, hg1, _⟩ := own_shape own (by rw [← hN.out]; omega)
          have hA : L.A i = some ⟨g, 0, none⟩ := by unfold Rows3.V at hV; injection hV
          have q : wr.cell? ⟨G, i, none⟩ = some (.slice (some ⟨g, 0, none⟩) N cc) := by
            rw [hN.out, hc.out, ← hA]; exact hkp2.out.cell (hin.out.hL i hlt) nG.out
          rw [hV] at own
          obtain ⟨old, r⟩ : ∃ old, wr.cell? ⟨g, k, none⟩ = some old := by
            have := own.1
            rw [own.cellAt k (by rw [← hN.out]; omega), List.getElem?_eq_getElem (by rw [this, ← hN.out]; omega)]; exact ⟨_, rfl⟩
          have fz := own_frozenI own k
          have hput := Lib.hid (Fam1.put hin.out hf2.out hlt (by rw [← hN.out]; exact hk2) hA)
          have hBg : Hid (BkB L m g) := ⟨i, hlt, by unfold Rows3.V; rw [hA]; rfl⟩
          clear own hV hA hg0 hg1
          go_wp2
          go_roundw
          case rel => exact ⟨k + 1, by omega, by go_num, hput, hkp2.out.set (.inl hBg.out)⟩
          case measure => simp [intOf]; omega
        · have hkN : k = N := by omega
          have hf3 : Hid (Fam1 wr base m L X (i + 1) 0) := by
            have h := hf2.out
            rw [hkN, hN.out] at h
            exact h.next
          have q : ∃ a, wr.cell? ⟨G, i, none⟩ = some (.slice a N cc) := by
            rw [hN.out, hc.out]; exact ⟨_, hkp2.out.cell (hin.out.hL i hlt) nG.out⟩
          obtain ⟨a, q⟩ := q
          clear hkN hf2
          go_wp2
          go_roundw
          case rel => exact ⟨i + 1, by omega, by go_num, hf3, hkp2⟩
          case measure => simp [intOf]; omega
    · have him : i = m := by omega
      have hf2 : Hid (Fam2 w wr base m L 0 0 L.V) := Fam2.start hin.out (by have h := hf.out; rw [him] at h; exact h)
      have hl2 : Hid (Long w wr base m 0 L.V (.slice none 0 0)) := ⟨World.ownsRow_nil _ _ _ _, fun b hb => by cases hb⟩
      clear hst hf him
      go_wp2
      clear p
      go_loopw [5, 6] (fun v i wr => ∃ (k : Nat) (V : Nat → Value) (a : Option Addr) (cl : Nat), k ≤ m ∧ i = .int .i64 k ∧ v = .slice a k cl ∧ Hid (Fam2 w wr base m L k 0 V) ∧ Hid (Long w wr base m k V (.slice a k cl)) ∧ Hid (KeptR (BkB L m) w wr)) (fun _ i _ => m - (intOf i).toNat)
      case atStart => exact ⟨0, L.V, none, 0, Nat.zero_le _, rfl, rfl, hf2, hl2, hkp⟩
      case round =>
        clear hf2 hl2 hkp
        obtain ⟨i, V, a, cl, hi, rfl, rfl, hf, hl, hkp⟩ := hrel
        have p := hkp.out.cell hin.out.hN nB.out
        by_cases hlt : i < m
        · obtain ⟨N, hN⟩ : ∃ N, N = L.n i := ⟨_, rfl⟩
          obtain ⟨ai, hai⟩ : ∃ a, a = L.A i := ⟨_, rfl⟩
          obtain ⟨cc, hc⟩ : ∃ cc, cc = L.c i := ⟨_, rfl⟩
          have hNb : N ≤ 17592186044000 := by rw [hN]; exact hin.out.hn i hlt
          have q : wr.cell? ⟨G, i, none⟩ = some (.slice ai N cc) := by rw [hN, hai, hc]; exact hkp.out.cell (hin.out.hL i hlt) nG.out
          have hVi : Hid (V i = .slice ai N cc) := by show _ = _; rw [hf.out.first rfl i hlt (Nat.le_refl _), hN, hai, hc]; rfl
          replace hN := Lib.hid hN
          clear hai hc
          go_wp2
          clear p q
          go_loopw [7, 8] (fun l i2 wr => ∃ (k : Nat) (V2 : Nat → Value) (a2 : Option Addr) (c2 : Nat), k ≤ 20 ∧ i2 = .int .i64 k ∧ l = .slice a2 (N + k) c2 ∧ Hid (V2 i = .slice a2 (N + k) c2) ∧ Hid (Fam2 w wr base m L i k V2) ∧ Hid (Long w wr base m i V2 (.slice a i cl)) ∧ Hid (KeptR (BkB L m) w wr)) (fun _ i2 _ => 20 - (intOf i2).toNat)
          case atStart => exact ⟨0, V, ai, cc, Nat.zero_le _, rfl, rfl, hVi, hf, hl, hkp⟩
          case round =>
            clear hf hl hkp hVi
            obtain ⟨k, V2, a2, c2, hk, rfl, rfl, hV2, hf, hl, hkp⟩ := hrel
            by_cases hk2 : k < 20
            · have hrow : Hid (wr.ownsRow base 3 1 (.slice a2 (N + k) c2) (N + k) ((List.replicate (N + k) (mk1 i)).map (Value.int .i64))) := by
                have h := hf.out.block hlt
                rw [hV2.out, ← hN.out] at h; exact h
              have h63 : Hid (N + k + 1 ≤ maxLen) := by show N + k + 1 ≤ maxLen; unfold maxLen; omega
              have h64 : Hid ((N + k + 1) * 8 ≤ 140737488355328) := by show (N + k + 1) * 8 ≤ 140737488355328; omega
              have hbs : base ≤ wr.heap.size := by have := hkp.out.size; omega
              have hown2 : Hid ((Value.slice a2 (N + k) c2).ownBlock = (V2 i).ownBlock) := by show _ = _; rw [hV2.out]
              go_wp2_with (first
                | (at_builtin; refine wpList_append_two _ rfl (.tmp 63) (.tmp 66) 23 rfl base 3 ib (.int .i64 0) 1 8 Tryd.underlying23 hib hz0 hz1 hz2 rfl (by decide) _ (N + k) _ rfl (hrow.out.alloc _) ⟨wr.heap.size, 0, none⟩ 1 1 [.int .i64 (mk1 i)] rfl rfl own_cells_one (by intro u hu; simp at hu; subst hu; rfl) (by decide) h63.out h64.out (by rw [World.size_alloc]; omega) ?_))
              intro g4 c4 w4 own4 hg4
              rw [hown2.out] at hg4
              obtain ⟨hf5, hk5⟩ := Fam2.more (n2 := N + k + 1) (c := c4) hin.out hf.out hlt hkp.out (by rw [hN.out]) (by rw [← hN.out, List.map_replicate]; exact own4) hg4
              have hl5 := Lib.hid (hl.out.more (n2 := N + k + 1) (c := c4) hlt hg4)
              replace hf5 := Lib.hid hf5
              replace hk5 := Lib.hid hk5
              clear own4 hg4 hrow hown2
              go_wp2_with fail
              go_roundw
              case rel => exact ⟨k + 1, (fun j => if j = i then .slice (some ⟨g4, 0, none⟩) (N + k + 1) c4 else V2 j), some ⟨g4, 0, none⟩, c4, by omega, by go_num, rfl, (by show _ = _; exact if_pos rfl), hf5, hl5, hk5⟩
              case measure => simp [intOf]; omega
            · have hk20 : k = 20 := by omega
              subst hk20
              have hlrow := hl.out.row
              rw [← (show (Value.slice a i cl) = Value.slice a i cl from rfl)] at hlrow
              replace hlrow := Lib.hid hlrow
              have h63 : Hid (i + 1 ≤ maxLen) := by show i + 1 ≤ maxLen; unfold maxLen; omega
              have h64 : Hid ((i + 1) * 24 ≤ 140737488355328) := by show (i + 1) * 24 ≤ 140737488355328; omega
              have hbs : base ≤ wr.heap.size := by have := hkp.out.size; omega
              go_wp2_with (first
                | (at_builtin; refine wpList_append_two _ rfl (.tmp 68) (.tmp 70) 22 rfl base 23 is (.slice none 0 0) 1 24 Tryd.underlying22 his hy0 hy1 hy2 rfl (by decide) _ i _ rfl (hlrow.out.alloc _) ⟨wr.heap.size, 0, none⟩ 1 1 [.slice a2 (N + 20) c2] rfl rfl own_cells_one (by intro u hu; simp at hu; subst hu; rfl) (by decide) h63.out h64.out (by rw [World.size_alloc]; omega) ?_))
              intro g4 c4 w4 own4 hg4
              obtain ⟨hl5, hf5, hk5⟩ := Long.next (c := c4) hl.out hf.out hlt hkp.out (by rw [hV2.out]; exact own4) hg4
              replace hf5 := Lib.hid hf5
              replace hk5 := Lib.hid hk5
              replace hl5 := Lib.hid hl5
              clear own4 hg4 hlrow
              go_wp2_with fail
              go_roundw
              case rel => exact ⟨i + 1, V2, some ⟨g4, 0, none⟩, c4, by omega, by go_num, rfl, hf5, hl5, hk5⟩
              case measure => simp [intOf]; omega
        · have him : m = i := by omega
          subst him
          go_wp2
          clear p hlt hi
          generalize wr = W3 at hf hl hkp ⊢
          go_loopw [9] (fun i wr => ∃ k : Nat, k ≤ m ∧ i = .int .i64 k ∧ Drawn W3 wr) (fun i _ => m - (intOf i).toNat)
          case atStart => exact ⟨0, Nat.zero_le _, rfl, Drawn.refl _⟩
          case round =>
            obtain ⟨i, hi, rfl, ⟨nd, rfl⟩⟩ := hrel
            have p : W3.cell? ⟨BB, 1, none⟩ = some (.slice (some ⟨G, 0, none⟩) m cN) := hkp.out.cell hin.out.hN nB.out
            by_cases hlt : i < m
            · obtain ⟨N, hN⟩ : ∃ N, N = L.n i := ⟨_, rfl⟩
              obtain ⟨cc, hc⟩ : ∃ cc, cc = L.c i := ⟨_, rfl⟩
              have hNb : N ≤ 17592186044000 := by rw [hN]; exact hin.out.hn i hlt
              have hri := hf.out.row i hlt
              have hn2 : N2 L m 0 i = N + 20 := by unfold N2; rw [if_pos hlt, hN]
              rw [hn2] at hri
              obtain ⟨ga, ca, hVi, _⟩ := own_shape hri (by omega)
              rw [hVi] at hri
              have hlr := hl.out.row
              obtain ⟨gl, c9, ha, _⟩ := own_shape hlr (by omega)
              have ha2 : a = some ⟨gl, 0, none⟩ := by injection ha
              subst ha2
              have q1 : W3.cell? ⟨gl, i, none⟩ = some (.slice (some ⟨ga, 0, none⟩) (N + 20) ca) := by
                rw [hlr.cellAt i (by omega)]; simp [hlt, hVi]
              have q2 : ∃ a, W3.cell? ⟨G, i, none⟩ = some (.slice a N cc) := by
                rw [hN, hc]; exact ⟨_, hkp.out.cell (hin.out.hL i hlt) nG.out⟩
              replace hri := Lib.hid hri
              replace hN := Lib.hid hN
              replace hc := Lib.hid hc
              clear hVi hlr ha hn2
              go_wp2
              go_loopw [10] (fun k wr => ∃ q : Nat, q ≤ N + 20 ∧ k = .int .i64 q ∧ Drawn W3 wr) (fun k _ => N + 20 - (intOf k).toNat)
              case atStart => exact ⟨0, Nat.zero_le _, rfl, ⟨_, rfl⟩⟩
              case round =>
                obtain ⟨k, hk, rfl, ⟨nd2, rfl⟩⟩ := hrel
                by_cases hk2 : k < N + 20
                · have r1 : W3.cell? ⟨ga, k, none⟩ = some (.int .i64 (-1000 - (i : Int))) := by
                    rw [hri.out.cellAt k (by omega)]; simp [hk2]; rfl
                  by_cases hk3 : k < N
                  · obtain ⟨g, hA, hgW, r2⟩ := hf.out.read i hlt k (by rw [← hN.out]; exact hk3)
                    replace r2 : W3.cell? ⟨g, k, none⟩ = some (.int .i64 (-1000 - (i : Int))) := r2
                    have q3 : W3.cell? ⟨G, i, none⟩ = some (.slice (some ⟨g, 0, none⟩) N cc) := by
                      rw [hN.out, hc.out, ← hA]; exact hkp.out.cell (hin.out.hL i hlt) nG.out
                    clear q2 hA hgW
                    go_wp2
                    go_roundw
                    case rel => exact ⟨k + 1, by omega, by go_num, ⟨_, rfl⟩⟩
                    case measure => simp [intOf]; omega
                  · obtain ⟨a9, q3⟩ := q2
                    go_wp2
                    go_roundw
                    case rel => exact ⟨k + 1, by omega, by go_num, ⟨_, rfl⟩⟩
                    case measure => simp [intOf]; omega
                · clear q2
                  go_wp2
                  go_roundw
                  case rel => exact ⟨i + 1, by omega, by go_num, ⟨_, rfl⟩⟩
                  case measure => simp [intOf]; omega
            · go_wp2
              go_ret
              exact ⟨rfl, hkp.out.drewN nd⟩

end Go.Proofs.YtgndogoaenlchaaDoor
