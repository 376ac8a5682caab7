/- Plain words for slices of integers, and small laws on lists and worlds; no program in sight. -/
import Derived.WalkKit
import Derived.WalkSpells
import Derived.WalkLawsBesides
import Derived.Lib.Hide
import Derived.WalkSmall
import Derived.Laws.AppendOwnNone
import Derived.Laws.CopyOwn
import Derived.Deep.Draws
namespace Go.Proofs.YtmjincocmhadeaaDoor
open Go.RowKit
theorem Lh {p : Prop} (h : p) : Hid p := h
/-- The number at a place of a list, 0 beyond it. -/
def nth (l : List Int) (i : Nat) : Int := l.getD i 0
theorem nth_eq (l : List Int) (i : Nat) (h : i < l.length) : nth l i = l[i] := by simp [nth,h]
/-- A slice whose cells are at a: the numbers zs, of kind k. -/
structure Ints (k : IntKind) (w : World) (a : Option Addr) (zs : List Int) : Prop where
  len : zs.length ≤ 17592186044200
  cells : ∀ i,i < zs.length → ∃ b off,a = some ⟨b,off,none⟩ ∧ w.cell? ⟨b,off + i,none⟩ = some (.int k (nth zs i))
  wf : ∀ i,i < zs.length → k.wrap (nth zs i) = nth zs i
theorem cell_lt {w : World} {p : Addr} {v : Value} (h : w.cell? p = some v) : p.block < w.heap.size := by
 unfold World.cell? at h;rcases Nat.lt_or_ge p.block w.heap.size with h' | h'
 · exact h'
 · rw [Array.getElem?_eq_none h'] at h;cases h
theorem cell_below {B : Nat} {w w' : World} (h : Below B w w') (hB : B = w.heap.size) {p : Addr} {v : Value} (hc : w.cell? p = some v) : w'.cell? p = some v := by
 subst hB;rw [h.cell (cell_lt hc)];exact hc
theorem Ints.below {k : IntKind} {w w' : World} {a : Option Addr} {zs : List Int} (h : Ints k w a zs) (hb : Below w.heap.size w w') : Ints k w' a zs :=
  ⟨h.len,fun i hi => let ⟨b,off,ha,hc⟩ := h.cells i hi;⟨b,off,ha,cell_below hb rfl hc⟩,h.wf⟩
theorem ret_int {k : IntKind} {a b : Int} (h : a = b) : Ending.returned (.int k a) = .returned (.int k b) := by rw [h]
theorem ret_bool {a b : Bool} (h : a = b) : Ending.returned (.bool a) = .returned (.bool b) := by rw [h]
/-- The world but for what was drawn from the tape. -/
def Drawn (w w' : World) : Prop := ∃ n,w' = w.drewN n
theorem Drawn.refl (w : World) : Drawn w w := ⟨0,rfl⟩
theorem Drawn.step {w w1 : World} (h : Drawn w w1) (n : Nat) : Drawn w (w1.drewN n) := by
 obtain ⟨m,rfl⟩ := h;exact ⟨m + n,by rw [World.drewN_drewN]⟩
theorem Drawn.drew {w w1 : World} (h : Drawn w w1) : Drawn w w1.drew := h.step 1
theorem Drawn.trans {w w1 w2 : World} (h : Drawn w w1) (k : Drawn w1 w2) : Drawn w w2 := by
 obtain ⟨n,rfl⟩ := k;exact h.step n
theorem Drawn.below {w w' : World} (h : Drawn w w') (B : Nat) : Below B w w' := by
 obtain ⟨n,rfl⟩ := h;exact below_drewN (Below.refl _ _) n
/-- the own block of a row lies from its base on. -/
theorem own_ge {w : World} {base : Nat} {e : TypeId} {size : Nat} {v : Value} {n : Nat} {xs : List Value} (h : w.ownsRow base e size v n xs) : ∀ k,v.ownBlock = some k → base ≤ k := fun k hk => (h.lt k hk).1
theorem addr_add (b off j : Nat) : (⟨b,off,none⟩ : Addr).add j = ⟨b,off + j,none⟩ := by
 unfold Addr.add;split <;> simp_all
theorem Ints.news {k : IntKind} {w : World} {a : Option Addr} {zs : List Int} (h : Ints k w a zs) : ∀ ad,a = some ad → ∀ j u,(zs.map (Value.int k))[j]? = some u → w.cell? (ad.add j) = some u := by
 intro ad had j u hu;rw [List.getElem?_map] at hu;obtain ⟨z,hz,rfl⟩ := Option.map_eq_some_iff.1 hu;obtain ⟨hj,hz⟩ := List.getElem?_eq_some_iff.1 hz;obtain ⟨b,off,ha,hc⟩ := h.cells j hj;rw [had] at ha;injection ha with ha;subst ha;rw [addr_add,hc,nth_eq zs j hj,hz]
theorem Ints.of_own {k : IntKind} {w : World} {base : Nat} {e : TypeId} {g n cap : Nat} {zs more : List Int} (h : w.ownsRow base e 1 (.slice (some ⟨g,0,none⟩) n cap) n ((zs ++ more).map (Value.int k)))
    (hl : zs.length ≤ 17592186044200) (hw : ∀ i,i < zs.length → k.wrap (nth zs i) = nth zs i) : Ints k w (some ⟨g,0,none⟩) zs := by
 refine ⟨hl,fun i hi => ⟨g,0,rfl,?_⟩,hw⟩;have hn : n = zs.length + more.length := by have := h.1;simp at this;omega
 rw [Nat.zero_add,h.cellAt i (by omega),nth_eq zs i hi];simp [List.getElem?_append,hi]
/-- one more number behind an owned row -/
theorem own_cells_one {w : World} {u : Value} {e : TypeId} : ∀ j x,([u] : List Value)[j]? = some x → (w.alloc (.cells #[u] e)).cell? ((⟨w.heap.size,0,none⟩ : Addr).add j) = some x := by
 intro j x hx
 match j,hx with
 | 0,hx => simp at hx;subst hx;simp [Addr.add]
theorem not_nil_some {w : World} {base : Nat} {e : TypeId} {size : Nat} {v : Value} {n : Nat} {xs : List Value} (h : w.ownsRow base e size v n xs) (hn : v ≠ .slice none 0 0) :
    ∃ g cap,v = .slice (some ⟨g,0,none⟩) n cap ∧ base ≤ g ∧ g < w.heap.size ∧ n ≤ cap ∧ cap ≤ maxLen := by
 rcases h.2 with ⟨h1,_⟩ | ⟨g,cap,cur,rfl,hb,hg,hc,hm,_⟩
 · exact absurd h1 hn
 · exact ⟨g,cap,rfl,hb,(Array.getElem?_eq_some_iff.1 hg).1,hc,hm⟩
theorem wpList_store_row {P : Program} {ops : Array Oper} {rest : List Oper} {o : Oper} {a : Act} {w : World} {Q : Exit → Act → World → Prop} (hgd : o.guard = none) (ty : TypeId) (x y : Operand)
    (ho : o.op = .store ty x y) (g : Nat) (cells : Array Value) (hx : a.eval x = .pointer (some ⟨g,0,none⟩)) (hy : a.eval y = .agg cells) (t : TypeId)
    (old : Array Value) (hg : w.heap[g]? = some (.cells old t)) (hi : (P.info? ty).map (fun x => x.size) = some cells.size) (hold : old.size = cells.size)
    (h1 : (cells.all fun x => x.oneCell') = true) (h : wpList P ops Q rest (a.put o.dst undef) (w.setRow g cells)) : wpList P ops Q (o :: rest) a w :=
  wpList_plain hgd fun _ hK => wp_store_row ty x y ho g cells hx hy t old hg hi hold h1 (hK _ _ h)
/-- a whole row stored; of the new world it is said what it holds. -/
theorem wpList_store_rowA {P : Program} {ops : Array Oper} {rest : List Oper} {o : Oper} {a : Act} {w : World} {Q : Exit → Act → World → Prop} (hgd : o.guard = none) (ty : TypeId) (x y : Operand)
    (ho : o.op = .store ty x y) (g : Nat) (cells : Array Value) (hx : a.eval x = .pointer (some ⟨g,0,none⟩)) (hy : a.eval y = .agg cells) (t : TypeId)
    (old : Array Value) (hg : w.heap[g]? = some (.cells old t)) (hi : (P.info? ty).map (fun x => x.size) = some cells.size) (hold : old.size = cells.size)
    (h1 : (cells.all fun x => x.oneCell') = true)
    (h : ∀ w',Hid (w'.heap[g]? = some (.cells cells t)) → w.grownBy w' (some g) → Hid (w'.heap.size = w.heap.size) → wpList P ops Q rest (a.put o.dst undef) w') : wpList P ops Q (o :: rest) a w :=
  wpList_store_row hgd ty x y ho g cells hx hy t old hg hi hold h1 (h _ (setRow_heap _ _ _ _ _ _ hg)
    ⟨setRow_os _ _ _,setRow_tape _ _ _,setRow_output _ _ _,by rw [setRow_size];exact Nat.le_refl _,fun k _ hk => setRow_other _ _ _ _ (fun e => hk (by rw [e]))⟩ (setRow_size _ _ _))
theorem _root_.Go.RowKit.Below.drewN {B : Nat} {a w : World} (h : Below B a w) (n : Nat) : Below B a (w.drewN n) := below_drewN h n
theorem _root_.Go.RowKit.Below.al {a w : World} (h : Below a.heap.size a w) (o : Obj) : Below a.heap.size a (w.alloc o) := h.alloc h.size o
theorem own_below {w w' : World} {base : Nat} {e : TypeId} {size : Nat} {v : Value} {n : Nat} {xs : List Value} (h : w.ownsRow base e size v n xs) (hb : Below w.heap.size w w') : w'.ownsRow base e size v n xs := by
 refine ⟨h.1,?_⟩;rcases h.2 with hn | ⟨g,cap,cur,rfl,hg,hh,r⟩
 · exact .inl hn
 · exact .inr ⟨g,cap,cur,rfl,hg,(hb.block g (Array.getElem?_eq_some_iff.1 hh).1).trans hh,r⟩
/-- a list written out, just laid. -/
theorem ints_lit (k : IntKind) (w : World) (e : TypeId) (zs : List Int) (hl : zs.length ≤ 17592186044200) (hw : ∀ i,i < zs.length → k.wrap (nth zs i) = nth zs i) :
    Ints k (w.alloc (.cells (zs.map (Value.int k)).toArray e)) (some ⟨w.heap.size,0,none⟩) zs := by
 refine ⟨hl,fun i hi => ⟨w.heap.size,0,rfl,?_⟩,hw⟩;rw [Nat.zero_add,cell_of_row _ _ _ _ _ (0,0) (heap_alloc_new w _)];simp [nth_eq zs i hi]
theorem Ints.own {k : IntKind} {w : World} {base : Nat} {e : TypeId} {g n cap : Nat} {zs : List Int} (h : w.ownsRow base e 1 (.slice (some ⟨g,0,none⟩) n cap) n (zs.map (Value.int k)))
    (hl : zs.length ≤ 17592186044200) (hw : ∀ i,i < zs.length → k.wrap (nth zs i) = nth zs i) : Ints k w (some ⟨g,0,none⟩) zs :=
  Ints.of_own (more := []) (by rw [List.append_nil];exact h) hl hw
theorem own_shape {w : World} {base : Nat} {e : TypeId} {size : Nat} {v : Value} {n : Nat} {xs : List Value} (h : w.ownsRow base e size v n xs) (hn : 0 < n) :
    ∃ g cap,v = .slice (some ⟨g,0,none⟩) n cap ∧ base ≤ g ∧ g < w.heap.size ∧ n ≤ cap ∧ cap ≤ maxLen :=
  not_nil_some h (by rintro rfl;rcases h.2 with ⟨_,h2⟩ | ⟨g,cap,cur,h2,_⟩
                     · omega
                     · cases h2)
theorem ints_litA (k : IntKind) (w : World) (e : TypeId) (zs : List Int) (cells : Array Value) (hc : cells = (zs.map (Value.int k)).toArray) (hl : zs.length ≤ 17592186044200) (hw : ∀ i,i < zs.length → k.wrap (nth zs i) = nth zs i) :
    Ints k (w.alloc (.cells cells e)) (some ⟨w.heap.size,0,none⟩) zs := by subst hc;exact ints_lit k w e zs hl hw
theorem ints_litB (k : IntKind) (w : World) (e : TypeId) (zs : List Int) (cells : Array Value) (b : Nat) (hb : w.heap.size = b) (hc : cells = (zs.map (Value.int k)).toArray) (hl : zs.length ≤ 17592186044200) (hw : ∀ i,i < zs.length → k.wrap (nth zs i) = nth zs i) :
    Ints k (w.alloc (.cells cells e)) (some ⟨b,0,none⟩) zs := by subst hb;exact ints_litA k w e zs cells hc hl hw
/-! ### texts -/
/-- a text's bytes -/
abbrev bl (s : ByteArray) : List UInt8 := s.data.toList
/-- the byte at a place, 0 beyond the end -/
def bat (s : ByteArray) (i : Nat) : Int := (((bl s).getD i 0).toNat : Int)
theorem bl_length (s : ByteArray) : (bl s).length = s.size := rfl
theorem bat_range (s : ByteArray) (i : Nat) : 0 ≤ bat s i ∧ bat s i < 256 := by
 unfold bat;have := ((bl s).getD i 0).toNat_lt;omega
theorem drop_bl (s : ByteArray) (j : Nat) (h : j < s.size) : (bl s).drop j = (bl s).getD j 0 :: (bl s).drop (j + 1) := by
 have h' : j < (bl s).length := by rw [bl_length];exact h
 rw [List.drop_eq_getElem_cons h',List.getD_eq_getElem?_getD,List.getElem?_eq_getElem h']
 rfl
theorem drop_bl_end (s : ByteArray) (j : Nat) (h : s.size ≤ j) : (bl s).drop j = [] := List.drop_of_length_le (by rw [bl_length];exact h)
theorem run_index_str {P : Program} {T : TypeId} (hT : P.underlying T = some .string) (s : ByteArray) (j : Nat) (h : j < s.size) (w : World) :
    (Instr.index T (.string s) (.int .i64 (j : Int))).run P w = .ok (.int .u8 (bat s j)) w := by
 have e : bat s j = ((s[j]'h).toNat : Int) := by
  unfold bat;have h' : j < (bl s).length := by rw [bl_length];exact h
  rw [List.getD_eq_getElem?_getD,List.getElem?_eq_getElem h']
  rfl
 rw [e];simp [Instr.index,asIntOf,run_underlying hT,h]
/-- a text out of bytes -/
def mk (l : List UInt8) : ByteArray := ⟨l.toArray⟩
theorem bl_mk (l : List UInt8) : bl (mk l) = l := by simp [bl,mk]
theorem mk_bl (s : ByteArray) : mk (bl s) = s := by cases s;simp [bl,mk]
end Go.Proofs.YtmjincocmhadeaaDoor
