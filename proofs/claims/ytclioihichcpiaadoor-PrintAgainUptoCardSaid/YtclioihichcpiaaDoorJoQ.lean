/- Print: the library's Builder beside a row of strings, which stays. -/
import Derived.Test.YtclioihichcpiaaDoorPrA
import Derived.Test.YtclioihichcpiaaDoorJoP
set_option maxHeartbeats 8000000
set_option maxRecDepth 100000
namespace Go.Proofs.YtclioihichcpiaaDoor
open Go.RowKit Go.Shelf
theorem own_type {w : World} {base : Nat} {e t : TypeId} {size : Nat} {v : Value} {n g : Nat} {xs : List Value} {cs : Array Value} (h : w.ownsRow base e size v n xs) (hg : w.heap[g]? = some (.cells cs t (0,0))) (ht : t ≠ e) : v.ownBlock ≠ some g := by
 rcases h.2 with ⟨rfl,_⟩ | ⟨q,cap,cur,rfl,_,hh,_⟩
 · intro e2;cases e2
 · intro e2;injection e2 with e2;have e3 : q = g := e2;subst e3;rw [hg] at hh;injection hh with hh;injection hh with _ h2 _;exact ht h2
/-- a builder, and a row of strings -/
structure BldG (B b g : Nat) (cs : Array Value) (bs : List Value) (w : World) : Prop where
  is : Lib.IsBuilder 67 5 B b bs w
  ne : g ≠ b
  blk : w.heap[g]? = some (.cells cs 9 (0,0))
theorem bl_check_g (B b g : Nat) (cs : Array Value) (bs : List Value) (w : World) (h : BldG B b g cs bs w) :
    Calls Tryd.prog 47 #[.pointer (some ⟨b,0,none⟩)] w fun e w' => e = .returned (.tuple #[]) ∧ (Lib.BuilderAt 67 5 B b (.pointer (some ⟨b,0,none⟩)) bs w' ∧ Below B w w' ∧ w'.heap[g]? = some (.cells cs 9 (0,0))) := by
 obtain ⟨h,hne,hblk⟩ := h;rcases h with h | h
 · refine (bl_check_fresh b w h.cell0 h.shape h.frozen0).mono ?_;rintro e w' ⟨rfl,rfl⟩;exact ⟨rfl,h.used _,(Below.refl B w).setCell (p := ⟨b,0,none⟩) h.1 _,(heap_setCell_other _ _ _ _ (by show g ≠ b;exact hne)).trans hblk⟩
 · refine (bl_check_used b w h.cell0).mono ?_;rintro e w' ⟨rfl,rfl⟩;exact ⟨rfl,h,Below.refl B _,hblk⟩
theorem bl_string_g (B b g : Nat) (cs : Array Value) (bs : List Value) (s : ByteArray) (w : World) (h : BldG B b g cs bs w) (hBw : B ≤ w.heap.size) (hlen : bs.length + s.size ≤ 140737488355328) :
    Calls Tryd.prog 26 #[.pointer (some ⟨b,0,none⟩),.string s] w fun e w' => e = .returned (.tuple #[.int .i64 s.size,.nilIface]) ∧ BldG B b g cs (bs ++ Lib.strCells s) w' ∧ Below B w w' := by
 obtain ⟨i0,hi,hz0,hz1,hz2⟩ := info_parts pr_infoByte;have hg1 := h.ne;go_enter Tryd.func26,Tryd.ntmps26
 go_wp2_with (go_at_call 47;refine (bl_check_g B b g cs bs _ h).mono ?_)
 rintro e w1 ⟨rfl,h1,hb1,hk1⟩;obtain ⟨hB,v,hbk,hown,hne⟩ := h1;have hog := own_type hown hk1 (by decide);have hs1 := hb1.size;have c0 : w1.cell? ⟨b,0,none⟩ = some (.pointer (some ⟨b,0,none⟩)) := by rw [Lib.cell_of_heap hbk];rfl
 have c1 : w1.cell? ⟨b,1,none⟩ = some v := by rw [Lib.cell_of_heap hbk];rfl
 go_wp2_with (at_builtin;refine Lib.wpList_append_own_string _ rfl _ _ 65 9 rfl B 5 i0 Tryd.underlying65 Tryd.underlying9 hi hz0 hz1 hz2 _ _ _ rfl hown s rfl ?c3 ?c4 ?c5 ?_)
 case c3 => unfold maxLen;omega
 case c4 => omega
 case c5 => have := hb1.size;omega
 intro v' w2 hown' hgrow _;have hlt := (Array.getElem?_eq_some_iff.1 hbk).1
 have hb2 : w2.heap[b]? = some (.cells #[.pointer (some ⟨b,0,none⟩),v] 67 (0,0)) := by
  rw [hgrow.block b hlt (fun e => hne e.symm)];exact hbk
 have hg3 : w2.heap[g]? = some (.cells cs 9 (0,0)) := (hgrow.block g (Array.getElem?_eq_some_iff.1 hk1).1 (fun e => hog e.symm)).trans hk1;have d0 : w2.cell? ⟨b,0,none⟩ = some (.pointer (some ⟨b,0,none⟩)) := by rw [Lib.cell_of_heap hb2];rfl
 have d1 : w2.cell? ⟨b,1,none⟩ = some v := by rw [Lib.cell_of_heap hb2];rfl
 have f1 : w2.frozen? ⟨b,1,none⟩ = false := Lib.frozen_of_heap hb2 1
 obtain ⟨ao,n',cap,rfl⟩ : ∃ ao n' cap,v' = .slice ao n' cap := by
  rcases hown'.2 with ⟨hv,_⟩ | ⟨g,cap,cur,hv,_⟩
  · exact ⟨_,_,_,hv⟩
  · exact ⟨_,_,_,hv⟩
 go_wp2
 go_ret2
 refine ⟨rfl,⟨.inr (Lib.BuilderAt.put hB hb2 (bs' := bs ++ Lib.strCells s) (by rw [List.length_append,Lib.strCells_length];exact hown') (by decide)),hg1,?_⟩,?_⟩
 · exact (heap_setCell_other _ _ _ _ (by show g ≠ b;exact hg1)).trans hg3
 · exact (hb1.grown hgrow (by have := hb1.size;omega) (fun k hk => (hown.lt k hk).1)).setCell (p := ⟨b,1,none⟩) hB _
end Go.Proofs.YtclioihichcpiaaDoor
/- Print: a program. (gen_pie.py) -/
namespace Go.Proofs.YtclioihichcpiaaDoor
open Go.RowKit Go.Shelf Lx
/-- one box of three cells -/
structure B3 (w W : World) (u : Array Value) (t : TypeId) : Prop where
  bel : Below w.heap.size w W
  b0 : W.heap[w.heap.size]? = some (.cells u t)
theorem B3.start (w : World) (u : Array Value) (t : TypeId) : B3 w (w.alloc (.cells u t)) u t := ⟨(Below.refl _ _).al _,heap_alloc_new _ _⟩
theorem B3.lt {w W : World} {u : Array Value} {t : TypeId} (h : B3 w W u t) : w.heap.size < W.heap.size := (Array.getElem?_eq_some_iff.1 h.b0).1
theorem B3.below {w W W' : World} {u : Array Value} {t : TypeId} (h : B3 w W u t) (hb : Below W.heap.size W W') : B3 w W' u t :=
  ⟨h.bel.trans (hb.mono h.bel.size),(hb.block _ h.lt).trans h.b0⟩
theorem B3.al {w W : World} {u : Array Value} {t : TypeId} (h : B3 w W u t) (o : Obj) : B3 w (W.alloc o) u t := h.below ((Below.refl _ _).al _)
theorem B3.cells {w W : World} {a b c : Value} {t : TypeId} (h : B3 w W #[a,b,c] t) : W.cell? ⟨w.heap.size,0,none⟩ = some a ∧ W.cell? ⟨w.heap.size,1,none⟩ = some b ∧ W.cell? ⟨w.heap.size,2,none⟩ = some c := by
 have h1 := h.b0;exact ⟨by simp [World.cell?,h1],by simp [World.cell?,h1],by simp [World.cell?,h1]⟩
theorem pt_Program_no (I : List InpD) (O : List OutD) (R : List Rul) (a0 a1 a2 : Option Addr) (c0 c1 c2 : Nat) (w : World) (hI : Inps w a0 I) (hO : Outs w a1 O) (hR : Ruls w a2 R) (ho : progOk I O R = false) :
    Calls Tryd.prog 8 #[.agg #[.slice a0 I.length c0,.slice a1 O.length c1,.slice a2 R.length c2]] w fun e w' => e = .returned (.tuple #[.string (progS I O R),.int .i64 (progE I O R)]) ∧ Below w.heap.size w w' := by
 have f0 : Hid (∀ W,B3 w W #[.slice a0 I.length c0,.slice a1 O.length c1,.slice a2 R.length c2] 26 → Calls Tryd.prog 18 #[.slice a0 I.length c0,.string ⟨#[10]⟩,.func (.func 19) #[] #[]] W fun e w' => e = .returned (.tuple #[.string (if okI I then ⟨(Lib.join ((textsI I).map (·.data.toList)) [10]).toArray⟩ else ⟨#[]⟩),.bool (okI I)]) ∧ (Below W.heap.size W w' ∧ True)) := Lib.hid (fun W hW => (pt_listed_Input a0 I c0 ⟨#[10]⟩ W (hI.below hW.bel) (by decide)).mono fun e w' h => ⟨h.1,h.2,trivial⟩)
 have f1 : Hid (∀ W,B3 w W #[.slice a0 I.length c0,.slice a1 O.length c1,.slice a2 R.length c2] 26 → Calls Tryd.prog 22 #[.slice a1 O.length c1,.string ⟨#[10]⟩,.func (.func 23) #[] #[]] W fun e w' => e = .returned (.tuple #[.string (if okO O then ⟨(Lib.join ((textsO O).map (·.data.toList)) [10]).toArray⟩ else ⟨#[]⟩),.bool (okO O)]) ∧ (Below W.heap.size W w' ∧ True)) := Lib.hid (fun W hW => (pt_listed_Output a1 O c1 ⟨#[10]⟩ W (hO.below hW.bel) (by decide)).mono fun e w' h => ⟨h.1,h.2,trivial⟩)
 have f2 : Hid (∀ W,B3 w W #[.slice a0 I.length c0,.slice a1 O.length c1,.slice a2 R.length c2] 26 → Calls Tryd.prog 24 #[.slice a2 R.length c2,.string ⟨#[10]⟩,.func (.func 25) #[] #[]] W fun e w' => e = .returned (.tuple #[.string (if okR R then ⟨(Lib.join ((textsR R).map (·.data.toList)) [10]).toArray⟩ else ⟨#[]⟩),.bool (okR R)]) ∧ (Below W.heap.size W w' ∧ True)) := Lib.hid (fun W hW => (pt_listed_Rule a2 R c2 ⟨#[10]⟩ W (hR.below hW.bel) (by decide)).mono fun e w' h => ⟨h.1,h.2,trivial⟩)
 have hS : Hid (progS I O R = ⟨#[]⟩ ∧ progE I O R = 2) := Lib.hid (by unfold progS progE;rw [ho];exact ⟨rfl,rfl⟩);unfold progOk at ho;generalize (if okI I then (⟨(Lib.join ((textsI I).map (·.data.toList)) [10]).toArray⟩ : ByteArray) else ⟨#[]⟩) = S0 at f0;generalize (if okO O then (⟨(Lib.join ((textsO O).map (·.data.toList)) [10]).toArray⟩ : ByteArray) else ⟨#[]⟩) = S1 at f1
 generalize (if okR R then (⟨(Lib.join ((textsR R).map (·.data.toList)) [10]).toArray⟩ : ByteArray) else ⟨#[]⟩) = S2 at f2;generalize okI I = o0 at f0 ho;generalize okO O = o1 at f1 ho;generalize okR R = o2 at f2 ho;generalize progS I O R = PS at hS ⊢;generalize progE I O R = PE at hS ⊢
 cases o0 with
 | false =>
  clear ho;go_enter Tryd.func8,Tryd.ntmps8
  go_wp2_with (first
    | (have hg := B2.out;clear hg;go_at_call 24;refine (f2.out _ (by first | exact B2.out | exact B2.out.al _ | exact (B2.out.al _).al _)).mono ?_;rintro e w3 ⟨rfl,h3⟩;clear x02 x12 x22;have B3 := Lib.hid (((by first | exact B2.out | exact B2.out.al _ | exact (B2.out.al _).al _) : B3 w _ #[.slice a0 I.length c0,.slice a1 O.length c1,.slice a2 R.length c2] 26).below h3.1);obtain ⟨x03,x13,x23⟩ := B3.out.cells;clear h3)
    | (have hg := B1.out;clear hg;go_at_call 22;refine (f1.out _ (by first | exact B1.out | exact B1.out.al _ | exact (B1.out.al _).al _)).mono ?_;rintro e w2 ⟨rfl,h2⟩;clear x01 x11 x21;have B2 := Lib.hid (((by first | exact B1.out | exact B1.out.al _ | exact (B1.out.al _).al _) : B3 w _ #[.slice a0 I.length c0,.slice a1 O.length c1,.slice a2 R.length c2] 26).below h2.1);obtain ⟨x02,x12,x22⟩ := B2.out.cells;clear h2)
    | (go_at_call 18;refine (f0.out _ (B3.start w #[.slice a0 I.length c0,.slice a1 O.length c1,.slice a2 R.length c2] 26)).mono ?_;rintro e w1 ⟨rfl,h1⟩;have B1 := Lib.hid (((B3.start w #[.slice a0 I.length c0,.slice a1 O.length c1,.slice a2 R.length c2] 26) : B3 w _ #[.slice a0 I.length c0,.slice a1 O.length c1,.slice a2 R.length c2] 26).below h1.1);obtain ⟨x01,x11,x21⟩ := B1.out.cells;clear h1))
  go_ret2
  rw [hS.out.1,hS.out.2];exact ⟨rfl,B3.out.bel⟩
 | true =>
  cases o1 with
  | false =>
   clear ho;go_enter Tryd.func8,Tryd.ntmps8
   go_wp2_with (first
     | (have hg := B2.out;clear hg;go_at_call 24;refine (f2.out _ (by first | exact B2.out | exact B2.out.al _ | exact (B2.out.al _).al _)).mono ?_;rintro e w3 ⟨rfl,h3⟩;clear x02 x12 x22;have B3 := Lib.hid (((by first | exact B2.out | exact B2.out.al _ | exact (B2.out.al _).al _) : B3 w _ #[.slice a0 I.length c0,.slice a1 O.length c1,.slice a2 R.length c2] 26).below h3.1);obtain ⟨x03,x13,x23⟩ := B3.out.cells;clear h3)
     | (have hg := B1.out;clear hg;go_at_call 22;refine (f1.out _ (by first | exact B1.out | exact B1.out.al _ | exact (B1.out.al _).al _)).mono ?_;rintro e w2 ⟨rfl,h2⟩;clear x01 x11 x21;have B2 := Lib.hid (((by first | exact B1.out | exact B1.out.al _ | exact (B1.out.al _).al _) : B3 w _ #[.slice a0 I.length c0,.slice a1 O.length c1,.slice a2 R.length c2] 26).below h2.1);obtain ⟨x02,x12,x22⟩ := B2.out.cells;clear h2)
     | (go_at_call 18;refine (f0.out _ (B3.start w #[.slice a0 I.length c0,.slice a1 O.length c1,.slice a2 R.length c2] 26)).mono ?_;rintro e w1 ⟨rfl,h1⟩;have B1 := Lib.hid (((B3.start w #[.slice a0 I.length c0,.slice a1 O.length c1,.slice a2 R.length c2] 26) : B3 w _ #[.slice a0 I.length c0,.slice a1 O.length c1,.slice a2 R.length c2] 26).below h1.1);obtain ⟨x01,x11,x21⟩ := B1.out.cells;clear h1))
   go_ret2
   rw [hS.out.1,hS.out.2];exact ⟨rfl,B3.out.bel⟩
  | true =>
   cases o2 with
   | true => cases ho
   | false =>
    clear ho;go_enter Tryd.func8,Tryd.ntmps8
    go_wp2_with (first
      | (have hg := B2.out;clear hg;go_at_call 24;refine (f2.out _ (by first | exact B2.out | exact B2.out.al _ | exact (B2.out.al _).al _)).mono ?_;rintro e w3 ⟨rfl,h3⟩;clear x02 x12 x22;have B3 := Lib.hid (((by first | exact B2.out | exact B2.out.al _ | exact (B2.out.al _).al _) : B3 w _ #[.slice a0 I.length c0,.slice a1 O.length c1,.slice a2 R.length c2] 26).below h3.1);obtain ⟨x03,x13,x23⟩ := B3.out.cells;clear h3)
      | (have hg := B1.out;clear hg;go_at_call 22;refine (f1.out _ (by first | exact B1.out | exact B1.out.al _ | exact (B1.out.al _).al _)).mono ?_;rintro e w2 ⟨rfl,h2⟩;clear x01 x11 x21;have B2 := Lib.hid (((by first | exact B1.out | exact B1.out.al _ | exact (B1.out.al _).al _) : B3 w _ #[.slice a0 I.length c0,.slice a1 O.length c1,.slice a2 R.length c2] 26).below h2.1);obtain ⟨x02,x12,x22⟩ := B2.out.cells;clear h2)
      | (go_at_call 18;refine (f0.out _ (B3.start w #[.slice a0 I.length c0,.slice a1 O.length c1,.slice a2 R.length c2] 26)).mono ?_;rintro e w1 ⟨rfl,h1⟩;have B1 := Lib.hid (((B3.start w #[.slice a0 I.length c0,.slice a1 O.length c1,.slice a2 R.length c2] 26) : B3 w _ #[.slice a0 I.length c0,.slice a1 O.length c1,.slice a2 R.length c2] 26).below h1.1);obtain ⟨x01,x11,x21⟩ := B1.out.cells;clear h1))
    go_ret2
    rw [hS.out.1,hS.out.2];exact ⟨rfl,B3.out.bel⟩
theorem part_bound (ts : List ByteArray) (hn : ts.length ≤ 1048576) (hm : ∀ t ∈ ts,t.size ≤ 8388608) : (Lib.join (ts.map (·.data.toList)) [10]).length ≤ 8796094070784 := by
 have h1 := join_bound [10] (ts.map (·.data.toList)) 8388608 (by
  intro l hl;obtain ⟨t,ht,rfl⟩ := List.mem_map.1 hl;rw [Array.length_toList];exact hm t ht)
 rw [List.length_map] at h1;have h2 : ts.length * ([10].length + 8388608) ≤ 1048576 * (1 + 8388608) := Nat.mul_le_mul hn (Nat.le_refl _);omega
/-- what the builder holds after some of the parts -/
def heldL (P : List ByteArray) (k : Nat) : Bs := (P.take k).flatMap fun s => lineL (bl s)
theorem held_step {P : List ByteArray} {k : Nat} {S : ByteArray} (h : P[k]? = some S) : heldL P (k + 1) = heldL P k ++ lineL (bl S) := by
 obtain ⟨hk,rfl⟩ := List.getElem?_eq_some_iff.1 h;unfold heldL;rw [List.take_succ_eq_append_getElem hk,List.flatMap_append];simp
theorem bytes_line (l : Bs) (S : ByteArray) : Lib.byteCells (l ++ (bl S ++ [10])) = Lib.byteCells l ++ Lib.strCells (S ++ ⟨#[10]⟩) := by
 simp [Lib.byteCells,Lib.strCells]
theorem held_len (P : List ByteArray) (C : Nat) (h : ∀ s ∈ P,(bl s).length + 1 ≤ C) : ∀ k,(heldL P k).length ≤ k * C
  | 0 => by simp [heldL]
  | k + 1 => by
    have ih := held_len P C h k;rw [Nat.succ_mul]
    by_cases hk : k < P.length
    · have e : heldL P (k + 1) = heldL P k ++ lineL (bl P[k]) := by
        unfold heldL;rw [List.take_succ_eq_append_getElem hk,List.flatMap_append];simp
      have h1 := h P[k] (List.getElem_mem hk)
      have h2 : (lineL (bl P[k])).length ≤ (bl P[k]).length + 1 := by
        unfold lineL;split <;> simp
      rw [e,List.length_append];omega
    · have e : heldL P (k + 1) = heldL P k := by
        unfold heldL;rw [List.take_of_length_le (by omega),List.take_of_length_le (by omega)]
      rw [e];omega
theorem pt_Program_yes (I : List InpD) (O : List OutD) (R : List Rul) (a0 a1 a2 : Option Addr) (c0 c1 c2 : Nat) (w : World) (hI : Inps w a0 I) (hO : Outs w a1 O) (hR : Ruls w a2 R) (ho : progOk I O R = true) :
    Calls Tryd.prog 8 #[.agg #[.slice a0 I.length c0,.slice a1 O.length c1,.slice a2 R.length c2]] w fun e w' => e = .returned (.tuple #[.string (progS I O R),.int .i64 (progE I O R)]) ∧ Below w.heap.size w w' := by
 have f0 : Hid (∀ W,B3 w W #[.slice a0 I.length c0,.slice a1 O.length c1,.slice a2 R.length c2] 26 → Calls Tryd.prog 18 #[.slice a0 I.length c0,.string ⟨#[10]⟩,.func (.func 19) #[] #[]] W fun e w' => e = .returned (.tuple #[.string (if okI I then ⟨(Lib.join ((textsI I).map (·.data.toList)) [10]).toArray⟩ else ⟨#[]⟩),.bool (okI I)]) ∧ (Below W.heap.size W w' ∧ True)) := Lib.hid (fun W hW => (pt_listed_Input a0 I c0 ⟨#[10]⟩ W (hI.below hW.bel) (by decide)).mono fun e w' h => ⟨h.1,h.2,trivial⟩)
 have f1 : Hid (∀ W,B3 w W #[.slice a0 I.length c0,.slice a1 O.length c1,.slice a2 R.length c2] 26 → Calls Tryd.prog 22 #[.slice a1 O.length c1,.string ⟨#[10]⟩,.func (.func 23) #[] #[]] W fun e w' => e = .returned (.tuple #[.string (if okO O then ⟨(Lib.join ((textsO O).map (·.data.toList)) [10]).toArray⟩ else ⟨#[]⟩),.bool (okO O)]) ∧ (Below W.heap.size W w' ∧ True)) := Lib.hid (fun W hW => (pt_listed_Output a1 O c1 ⟨#[10]⟩ W (hO.below hW.bel) (by decide)).mono fun e w' h => ⟨h.1,h.2,trivial⟩)
 have f2 : Hid (∀ W,B3 w W #[.slice a0 I.length c0,.slice a1 O.length c1,.slice a2 R.length c2] 26 → Calls Tryd.prog 24 #[.slice a2 R.length c2,.string ⟨#[10]⟩,.func (.func 25) #[] #[]] W fun e w' => e = .returned (.tuple #[.string (if okR R then ⟨(Lib.join ((textsR R).map (·.data.toList)) [10]).toArray⟩ else ⟨#[]⟩),.bool (okR R)]) ∧ (Below W.heap.size W w' ∧ True)) := Lib.hid (fun W hW => (pt_listed_Rule a2 R c2 ⟨#[10]⟩ W (hR.below hW.bel) (by decide)).mono fun e w' h => ⟨h.1,h.2,trivial⟩)
 have hS : Hid (progS I O R = mk (progL (prsOf I O R)) ∧ progE I O R = 0) := Lib.hid (by unfold progS progE;rw [ho];exact ⟨rfl,rfl⟩);have ho2 := ho;unfold progOk at ho2;rw [Bool.and_eq_true,Bool.and_eq_true] at ho2;obtain ⟨g0,g1,g2⟩ := ho2;rw [if_pos g0,g0] at f0;rw [if_pos g1,g1] at f1;rw [if_pos g2,g2] at f2;have p0 := part_I g0;have p1 := part_O g1;have p2 := part_R g2
 have z0 := part_bound (textsI I) (by rw [textsI,List.length_map];exact hI.len) (textsI_size I hI.size);have z1 := part_bound (textsO O) (by rw [textsO,List.length_map];exact hO.len) (textsO_size O hO.size);have z2 := part_bound (textsR R) (by rw [textsR,List.length_map];exact hR.len) (textsR_size R hR.size);generalize Lib.join ((textsI I).map (·.data.toList)) [10] = T0 at f0 p0 z0
 generalize Lib.join ((textsO O).map (·.data.toList)) [10] = T1 at f1 p1 z1;generalize Lib.join ((textsR R).map (·.data.toList)) [10] = T2 at f2 p2 z2
 have hP : Hid (progL (prsOf I O R) = heldL [⟨T0.toArray⟩,⟨T1.toArray⟩,⟨T2.toArray⟩] 3) := Lib.hid (by
  unfold prsOf;rw [progL_app,progL_app,← p0,← p1,← p2];simp [heldL,bl])
 clear p0 p1 p2 g0 g1 g2 ho
 have hz : ∀ s ∈ ([⟨T0.toArray⟩,⟨T1.toArray⟩,⟨T2.toArray⟩] : List ByteArray),(bl s).length ≤ 8796094070784 := by
  intro s hs;simp at hs;rcases hs with rfl | rfl | rfl <;> simpa [bl]
 generalize progS I O R = PS at hS ⊢;generalize progE I O R = PE at hS ⊢;obtain ⟨S0,hS0⟩ : ∃ S : ByteArray,⟨T0.toArray⟩ = S := ⟨_,rfl⟩;obtain ⟨S1,hS1⟩ : ∃ S : ByteArray,⟨T1.toArray⟩ = S := ⟨_,rfl⟩;obtain ⟨S2,hS2⟩ : ∃ S : ByteArray,⟨T2.toArray⟩ = S := ⟨_,rfl⟩;rw [hS0] at f0 hP hz;rw [hS1] at f1 hP hz;rw [hS2] at f2 hP hz;clear hS0 hS1 hS2 z0 z1 z2
 have hl3 := held_len _ 8796094070785 (fun s hs => Nat.succ_le_succ (hz s hs));replace hz := Lib.hid hz;replace hl3 := Lib.hid hl3;go_enter Tryd.func8,Tryd.ntmps8
 go_wp2_with (first
   | (have hg := B2.out;clear hg;go_at_call 24;refine (f2.out _ (by first | exact B2.out | exact B2.out.al _ | exact (B2.out.al _).al _)).mono ?_;rintro e w3 ⟨rfl,h3⟩;clear x02 x12 x22;have B3 := Lib.hid (((by first | exact B2.out | exact B2.out.al _ | exact (B2.out.al _).al _) : B3 w _ #[.slice a0 I.length c0,.slice a1 O.length c1,.slice a2 R.length c2] 26).below h3.1);obtain ⟨x03,x13,x23⟩ := B3.out.cells;clear h3)
   | (have hg := B1.out;clear hg;go_at_call 22;refine (f1.out _ (by first | exact B1.out | exact B1.out.al _ | exact (B1.out.al _).al _)).mono ?_;rintro e w2 ⟨rfl,h2⟩;clear x01 x11 x21;have B2 := Lib.hid (((by first | exact B1.out | exact B1.out.al _ | exact (B1.out.al _).al _) : B3 w _ #[.slice a0 I.length c0,.slice a1 O.length c1,.slice a2 R.length c2] 26).below h2.1);obtain ⟨x02,x12,x22⟩ := B2.out.cells;clear h2)
   | (go_at_call 18;refine (f0.out _ (B3.start w #[.slice a0 I.length c0,.slice a1 O.length c1,.slice a2 R.length c2] 26)).mono ?_;rintro e w1 ⟨rfl,h1⟩;have B1 := Lib.hid (((B3.start w #[.slice a0 I.length c0,.slice a1 O.length c1,.slice a2 R.length c2] 26) : B3 w _ #[.slice a0 I.length c0,.slice a1 O.length c1,.slice a2 R.length c2] 26).below h1.1);obtain ⟨x01,x11,x21⟩ := B1.out.cells;clear h1))
 have hB4 : Hid (BldG w3.heap.size w3.heap.size (w3.heap.size + 1) #[.string S0,.string S1,.string S2] (Lib.byteCells (heldL [S0,S1,S2] 0)) ((w3.alloc (.cells #[.pointer none,.slice none 0 0] 67)).alloc (.cells #[.string S0,.string S1,.string S2] 9)) ∧ Below w3.heap.size w3 ((w3.alloc (.cells #[.pointer none,.slice none 0 0] 67)).alloc (.cells #[.string S0,.string S1,.string S2] 9))) := Lib.hid (by
  have h2 := @k_two w3 _ (.cells #[.pointer none,.slice none 0 0] 67) (.cells #[.string S0,.string S1,.string S2] 9) (Below.refl _ _);exact ⟨⟨.inl ⟨Nat.le_refl _,.slice none 0 0,h2.2.1,World.ownsRow_nil _ _ _ _,by simp [Value.ownBlock]⟩,by omega,h2.2.2⟩,h2.1⟩)
 generalize (w3.alloc (.cells #[.pointer none,.slice none 0 0] 67)).alloc (.cells #[.string S0,.string S1,.string S2] 9) = w4 at hB4 ⊢;clear x03 x13 x23
 go_loopw [12,46] (fun _ i wr => ∃ (k : Nat),k ≤ 3 ∧ i = .int .i64 k ∧ Hid (BldG w3.heap.size w3.heap.size (w3.heap.size + 1) #[.string S0,.string S1,.string S2] (Lib.byteCells (heldL [S0,S1,S2] k)) wr) ∧ Hid (Below w3.heap.size w3 wr)) (fun _ i _ => 3 - (intOf i).toNat)
 case atStart => exact ⟨0,by omega,rfl,Lib.hid hB4.out.1,Lib.hid hB4.out.2⟩
 case round =>
  obtain ⟨k,hk,rfl,hG,hbw⟩ := hrel
  by_cases hlt : k < 3
  · obtain ⟨S,hSk⟩ : ∃ S,([S0,S1,S2] : List ByteArray)[k]? = some S := ⟨_,List.getElem?_eq_getElem hlt⟩
    have hcs : wr.cell? ⟨w3.heap.size + 1,k,none⟩ = some (.string S) := by
     have hb := hG.out.blk;have h3 : k = 0 ∨ k = 1 ∨ k = 2 := by omega
     rcases h3 with rfl | rfl | rfl
     all_goals
       simp at hSk;subst hSk;simp [World.cell?,hb]
    have hst := Lib.hid (held_step hSk);have hSz := hz.out S (List.mem_of_getElem? hSk);have hlk := hl3.out k;have hsz : S.size ≤ 8796094070784 := by rw [bl_length] at hSz;exact hSz
    have hq0 : (0 : Int) ≤ (k : Int) := Int.natCast_nonneg _;have hq1 : (k : Int) < 3 := by omega
    clear hSk hSz
    by_cases he : S.toList = []
    · have hst2 : Hid (heldL [S0,S1,S2] (k + 1) = heldL [S0,S1,S2] k) := Lib.hid (by
        rw [hst.out];have : bl S = [] := by rw [ByteArray.toList_eq] at he;exact he
        rw [this];simp [lineL])
      have hie : S.toList.isEmpty = true := by rw [he];rfl
      go_wp2_with fail;go_roundw
      case rel => exact ⟨k + 1,by omega,by go_num,by rw [hst2.out];exact hG,hbw⟩
      case measure => simp [intOf];omega
    · have hst2 : Hid (Lib.byteCells (heldL [S0,S1,S2] (k + 1)) = Lib.byteCells (heldL [S0,S1,S2] k) ++ Lib.strCells (S ++ ⟨#[10]⟩)) := Lib.hid (by
        rw [hst.out];have : bl S ≠ [] := fun e => he (by rw [ByteArray.toList_eq];exact e);unfold lineL;rw [if_neg this];exact bytes_line _ S)
      have hlen : Hid ((Lib.byteCells (heldL [S0,S1,S2] k)).length + (S ++ ⟨#[10]⟩).size ≤ 140737488355328) := Lib.hid (by
       have h1 : (Lib.byteCells (heldL [S0,S1,S2] k)).length = (heldL [S0,S1,S2] k).length := by simp [Lib.byteCells]
       have h2 : (S ++ ⟨#[10]⟩).size = S.size + 1 := by rw [ByteArray.size_append];rfl
       rw [h1,h2];have h3 : k * 8796094070785 ≤ 3 * 8796094070785 := Nat.mul_le_mul_right _ hk;omega)
      have hie : S.toList.isEmpty = false := by simpa using he
      clear hlk
      go_wp2_with (go_at_call 26;refine (bl_string_g _ _ _ _ _ _ _ hG.out hbw.out.size hlen.out).mono ?_;rintro e w5 ⟨rfl,hG5,hb5⟩)
      go_roundw
      case rel => exact ⟨k + 1,by omega,by go_num,by rw [hst2.out];exact Lib.hid hG5,Lib.hid (hbw.out.trans hb5)⟩
      case measure => simp [intOf];omega
  · have hke : k = 3 := by omega
    subst hke
    go_wp2_with (go_at_call 27;refine (Tryd.Builder_String_any _ _ _ _ hG.out.is hbw.out.size).mono ?_;rintro e w5 ⟨rfl,hb5⟩)
    go_ret2
    rw [hS.out.1,hS.out.2,hP.out];have h3 := hbw.out.trans hb5;exact ⟨rfl,B3.out.bel.trans (h3.mono B3.out.bel.size)⟩
theorem pt_Program (I : List InpD) (O : List OutD) (R : List Rul) (a0 a1 a2 : Option Addr) (c0 c1 c2 : Nat) (w : World) (hI : Inps w a0 I) (hO : Outs w a1 O) (hR : Ruls w a2 R) :
    Calls Tryd.prog 8 #[.agg #[.slice a0 I.length c0,.slice a1 O.length c1,.slice a2 R.length c2]] w fun e w' => e = .returned (.tuple #[.string (progS I O R),.int .i64 (progE I O R)]) ∧ Below w.heap.size w w' := by
 cases ho : progOk I O R with
 | true => exact pt_Program_yes I O R a0 a1 a2 c0 c1 c2 w hI hO hR ho
 | false => exact pt_Program_no I O R a0 a1 a2 c0 c1 c2 w hI hO hR ho
end Go.Proofs.YtclioihichcpiaaDoor
