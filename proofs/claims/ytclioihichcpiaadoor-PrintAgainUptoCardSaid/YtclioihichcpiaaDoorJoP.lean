/- Print: a predicate declared with its arity. -/
import Derived.Test.YtclioihichcpiaaDoorPrB
import Derived.Test.YtclioihichcpiaaDoorJoG
import Derived.Test.YtclioihichcpiaaDoorPhF
import Derived.Deep.RegionHeld3
set_option maxHeartbeats 8000000
set_option maxRecDepth 100000
namespace Go.Proofs.YtclioihichcpiaaDoor
open Go.RowKit Go.Shelf Lx
theorem it_small (n : Int) (h0 : 0 ≤ n) (h1 : n ≤ 16) (w : World) : Calls Tryd.prog 91 #[.int .i64 n] w fun e w' => e = .returned (.string (mk (arL n))) ∧ w = w' := by
 have : n = 0 ∨ n = 1 ∨ n = 2 ∨ n = 3 ∨ n = 4 ∨ n = 5 ∨ n = 6 ∨ n = 7 ∨ n = 8 ∨ n = 9 ∨ n = 10 ∨ n = 11 ∨ n = 12 ∨ n = 13 ∨ n = 14 ∨ n = 15 ∨ n = 16 := by omega
 rcases this with rfl | rfl | rfl | rfl | rfl | rfl | rfl | rfl | rfl | rfl | rfl | rfl | rfl | rfl | rfl | rfl | rfl
 all_goals
   go_enter Tryd.func91,Tryd.ntmps91;go_wp2_with fail;go_ret;exact ⟨rfl,rfl⟩
theorem it_Format (n : Int) (h0 : 0 ≤ n) (h1 : n ≤ 16) (w : World) : Calls Tryd.prog 80 #[.int .i64 n,.int .i64 10] w fun e w' => e = .returned (.string (mk (arL n))) ∧ w = w' := by
 have hs := fun w => it_small n h0 h1 w;have d0 : decide (n < 100) = true := decide_eq_true (by omega);have d1 : decide (0 ≤ n) = true := decide_eq_true h0;have d2 : n < 100 := by omega
 generalize mk (arL n) = S at hs;go_enter Tryd.func80,Tryd.ntmps80
 go_wp2_with (go_at_call 91;refine (hs _).mono ?_;rintro e w1 ⟨rfl,rfl⟩)
 go_ret;exact ⟨rfl,rfl⟩
theorem it_Itoa1 (n : Int) (h0 : 0 ≤ n) (h1 : n ≤ 16) (w : World) : Calls Tryd.prog 63 #[.int .i64 n] w fun e w' => e = .returned (.string (mk (arL n))) ∧ w = w' := by
 have hs := fun w => it_Format n h0 h1 w;generalize mk (arL n) = S at hs;go_enter Tryd.func63,Tryd.ntmps63
 go_wp2_with (go_at_call 80;refine (hs _).mono ?_;rintro e w1 ⟨rfl,rfl⟩)
 go_ret;exact ⟨rfl,rfl⟩
theorem it_Itoa (n : Int) (h0 : 0 ≤ n) (h1 : n ≤ 16) (w : World) : Calls Tryd.prog 42 #[.int .i64 n] w fun e w' => e = .returned (.string (mk (arL n))) ∧ w = w' := by
 have hs := fun w => it_Itoa1 n h0 h1 w;generalize mk (arL n) = S at hs;go_enter Tryd.func42,Tryd.ntmps42
 go_wp2_with (go_at_call 63;refine (hs _).mono ?_;rintro e w1 ⟨rfl,rfl⟩)
 go_ret;exact ⟨rfl,rfl⟩
def decOk (p : ByteArray) (n : Int) : Bool := nameB (bl p) && decide (0 ≤ n ∧ n ≤ 16)
def decL (word p : ByteArray) (n : Int) (behind : ByteArray) : ByteArray := word ++ ⟨#[32]⟩ ++ p ++ ⟨#[47]⟩ ++ mk (arL n) ++ behind ++ ⟨#[46]⟩
def decS (word p : ByteArray) (n : Int) (behind : ByteArray) : ByteArray := if decOk p n then decL word p n behind else ⟨#[]⟩
def decE (p : ByteArray) (n : Int) : Int := if decOk p n then 0 else 2
theorem arL_len (n : Int) : (mk (arL n)).size ≤ 2 := by
 unfold arL mk;split <;> simp [ByteArray.size]
theorem pt_declared (word p behind : ByteArray) (n : Int) (w : World) (hw : word.size ≤ 1048576) (hp : p.size ≤ 1048576) (hb : behind.size ≤ 8388608) :
    Calls Tryd.prog 20 #[.string word,.string p,.int .i64 n,.string behind] w fun e w' => e = .returned (.tuple #[.string (decS word p n behind),.int .i64 (decE p n)]) ∧ w = w' := by
 have hnm := fun w => lx_Name p w (by omega)
 cases hn : nameB (bl p) with
 | false =>
  have hS : Hid (decS word p n behind = ⟨#[]⟩ ∧ decE p n = 2) := Lib.hid (by unfold decS decE decOk;rw [hn];exact ⟨rfl,rfl⟩);rw [hn] at hnm;clear hn;go_enter Tryd.func20,Tryd.ntmps20
  go_wp2_with (go_at_call 41;refine (hnm _).mono ?_;rintro e w' ⟨rfl,rfl⟩)
  go_ret2
  rw [hS.out.1,hS.out.2];exact ⟨rfl,rfl⟩
 | true =>
  rw [hn] at hnm
  by_cases h0 : 0 ≤ n
  · by_cases h1 : n ≤ 16
    · have hS : Hid (decS word p n behind = decL word p n behind ∧ decE p n = 0) := Lib.hid (by unfold decS decE decOk;rw [hn,decide_eq_true ⟨h0,h1⟩];exact ⟨rfl,rfl⟩);have hit := fun w => it_Itoa n h0 h1 w;have hal := arL_len n;have d0 : decide (n < 0) = false := decide_eq_false (by omega);have d1 : decide (16 < n) = false := decide_eq_false (by omega);unfold decL at hS
      generalize mk (arL n) = S at hit hal hS;clear hn;go_enter Tryd.func20,Tryd.ntmps20
      go_wp2_with (first
        | (go_at_call 41;refine (hnm _).mono ?_;rintro e w' ⟨rfl,rfl⟩)
        | (go_at_call 42;refine (hit _).mono ?_;rintro e w' ⟨rfl,rfl⟩))
      go_ret2
      rw [hS.out.1,hS.out.2];exact ⟨rfl,rfl⟩
    · have hS : Hid (decS word p n behind = ⟨#[]⟩ ∧ decE p n = 2) := Lib.hid (by unfold decS decE decOk;rw [decide_eq_false (fun h => h1 h.2),Bool.and_false];exact ⟨rfl,rfl⟩);have d0 : decide (n < 0) = false := decide_eq_false (by omega);have d1 : decide (16 < n) = true := decide_eq_true (by omega);clear hn;go_enter Tryd.func20,Tryd.ntmps20
      go_wp2_with (go_at_call 41;refine (hnm _).mono ?_;rintro e w' ⟨rfl,rfl⟩)
      go_ret2
      rw [hS.out.1,hS.out.2];exact ⟨rfl,rfl⟩
  · have hS : Hid (decS word p n behind = ⟨#[]⟩ ∧ decE p n = 2) := Lib.hid (by unfold decS decE decOk;rw [decide_eq_false (fun h => h0 h.1),Bool.and_false];exact ⟨rfl,rfl⟩);have d0 : decide (n < 0) = true := decide_eq_true (by omega);clear hn;go_enter Tryd.func20,Tryd.ntmps20
    go_wp2_with (go_at_call 41;refine (hnm _).mono ?_;rintro e w' ⟨rfl,rfl⟩)
    go_ret2
    rw [hS.out.1,hS.out.2];exact ⟨rfl,rfl⟩
/-- an input's text, an output's -/
def inpOk (x : ByteArray × Int × ByteArray) : Bool := decOk x.1 x.2.1 && decide (x.2.2.size ≤ 1024)
def inpL (x : ByteArray × Int × ByteArray) : ByteArray := decL ⟨#[105,110,112,117,116]⟩ x.1 x.2.1 (⟨#[32]⟩ ++ mk (quoteL (bl x.2.2)))
def inpS (x : ByteArray × Int × ByteArray) : ByteArray := if inpOk x then inpL x else ⟨#[]⟩
def inpE (x : ByteArray × Int × ByteArray) : Int := if inpOk x then 0 else 2
def outLt (x : ByteArray × Int) : ByteArray := decL ⟨#[111,117,116,112,117,116]⟩ x.1 x.2 ⟨#[]⟩
def outS (x : ByteArray × Int) : ByteArray := if decOk x.1 x.2 then outLt x else ⟨#[]⟩
theorem pt_inp (p : ByteArray) (n : Int) (f : ByteArray) (w : World) (hp : p.size ≤ 1048576) (hf : f.size ≤ 1048576) :
    Calls Tryd.prog 19 #[.agg #[.string p,.int .i64 n,.string f]] w fun e w' => e = .returned (.tuple #[.string (inpS (p,n,f)),.int .i64 (inpE (p,n,f))]) ∧ Below w.heap.size w w' := by
 by_cases h1 : f.size ≤ 1024
 · have hS : Hid (inpS (p,n,f) = decS ⟨#[105,110,112,117,116]⟩ p n (⟨#[32]⟩ ++ mk (quoteL (bl f))) ∧ inpE (p,n,f) = decE p n) := Lib.hid (by
     unfold inpS inpE inpOk decS decE inpL;dsimp only;rw [decide_eq_true h1,Bool.and_true];exact ⟨rfl,rfl⟩)
   have hq := fun w => pt_Quote f w (by omega)
   have hqz : (mk (quoteL (bl f))).size ≤ 4098 := by
    have h2 := quote_len (bl f);have h3 := (escs_len (bl f)).2;rw [bl_length] at h3;have h4 : (mk (quoteL (bl f))).size = (quoteL (bl f)).length := by simp [mk,ByteArray.size]
    omega
   generalize mk (quoteL (bl f)) = Q at hq hqz hS;have hd := fun w => pt_declared ⟨#[105,110,112,117,116]⟩ p (⟨#[32]⟩ ++ Q) n w (by decide) hp (by rw [ByteArray.size_append];show 1 + _ ≤ _;omega);generalize decS ⟨#[105,110,112,117,116]⟩ p n (⟨#[32]⟩ ++ Q) = D at hd hS;generalize decE p n = E at hd hS
   have hkp : Hid (∀ w',Below (w.alloc (.cells #[.string p,.int .i64 n,.string f] 43)).heap.size (w.alloc (.cells #[.string p,.int .i64 n,.string f] 43)) w' → w'.cell? ⟨w.heap.size,0,none⟩ = some (.string p) ∧ w'.cell? ⟨w.heap.size,1,none⟩ = some (.int .i64 n) ∧ w'.cell? ⟨w.heap.size,2,none⟩ = some (.string f)) := Lib.hid fun w' hb => new_cells3 hb
   have hz1 : ¬ 9223372036854775807 < 1 + Q.size := by omega
   have hz2 : ¬ 9223372036854775807 < (ByteArray.mk #[32]).size + Q.size := by
    have : (ByteArray.mk #[32]).size = 1 := rfl;omega
   go_enter Tryd.func19,Tryd.ntmps19;go_wp2_with fail
   go_region_held3 (fun w' => w'.cell? ⟨w.heap.size,0,none⟩ = some (.string p) ∧ w'.cell? ⟨w.heap.size,1,none⟩ = some (.int .i64 n) ∧ w'.cell? ⟨w.heap.size,2,none⟩ = some (.string f))
     (first
       | exact hkp.out _ (Below.refl _ _).drew
       | exact hkp.out _ hb1.out)
     (first
       | (go_at_call 21;refine (hq _).mono ?_;rintro e w1 ⟨rfl,h1⟩
          have hb1 := Lib.hid ((Below.refl (w.alloc (.cells #[.string p,.int .i64 n,.string f] 43)).heap.size (w.alloc (.cells #[.string p,.int .i64 n,.string f] 43))).drew.trans h1);clear h1)
       | (go_at_call 20;refine (hd _).mono ?_;rintro e w2 ⟨rfl,rfl⟩))
   go_wp2_with fail
   go_ret2
   rw [hS.out.1,hS.out.2];exact ⟨rfl,((Below.refl _ _).al _).trans (hb1.out.mono (by rw [World.size_alloc];omega))⟩
 · have hS : Hid (inpS (p,n,f) = ⟨#[]⟩ ∧ inpE (p,n,f) = 2) := Lib.hid (by
     unfold inpS inpE inpOk;dsimp only;rw [decide_eq_false h1,Bool.and_false];exact ⟨rfl,rfl⟩)
   go_enter Tryd.func19,Tryd.ntmps19;go_wp2_with fail
   go_ret2
   rw [hS.out.1,hS.out.2];exact ⟨rfl,(Below.refl _ _).al _⟩
theorem pt_outp (p : ByteArray) (n : Int) (w : World) (hp : p.size ≤ 1048576) :
    Calls Tryd.prog 23 #[.agg #[.string p,.int .i64 n]] w fun e w' => e = .returned (.tuple #[.string (outS (p,n)),.int .i64 (decE p n)]) ∧ Below w.heap.size w w' := by
 have hS : Hid (outS (p,n) = decS ⟨#[111,117,116,112,117,116]⟩ p n ⟨#[]⟩) := Lib.hid rfl;have hd := fun w => pt_declared ⟨#[111,117,116,112,117,116]⟩ p ⟨#[]⟩ n w (by decide) hp (by decide);generalize decS ⟨#[111,117,116,112,117,116]⟩ p n ⟨#[]⟩ = D at hd hS;generalize decE p n = E at hd;go_enter Tryd.func23,Tryd.ntmps23
 go_wp2_with (go_at_call 20;refine (hd _).mono ?_;rintro e w2 ⟨rfl,rfl⟩)
 go_ret2
 rw [hS.out];exact ⟨rfl,(Below.refl _ _).al _⟩
end Go.Proofs.YtclioihichcpiaaDoor
/- Print: lists of inputs, of outputs, of rules. (gen_pib.py) -/
namespace Go.Proofs.YtclioihichcpiaaDoor
open Go.RowKit Go.Shelf Lx
/-- a row in memory -/
structure Inps (w : World) (a : Option Addr) (l : List (ByteArray × Int × ByteArray)) : Prop where
  len : l.length ≤ 1048576
  cells : ∀ (j : Nat) x,l[j]? = some x → ∃ p,a = some p ∧ w.cell? (p.add (j * 3)) = some (.string x.1) ∧ w.cell? ⟨(p.add (j * 3)).block,(p.add (j * 3)).off + 1,none⟩ = some (.int .i64 x.2.1) ∧ w.cell? ⟨(p.add (j * 3)).block,(p.add (j * 3)).off + 2,none⟩ = some (.string x.2.2)
  size : ∀ x ∈ l,x.1.size ≤ 1048576 ∧ x.2.2.size ≤ 1048576
theorem Inps.below {w w' : World} {a : Option Addr} {l : List (ByteArray × Int × ByteArray)} (h : Inps w a l) (hb : Below w.heap.size w w') : Inps w' a l :=
  ⟨h.len,fun j x hj => by
    obtain ⟨p,hp,h0,h1,h2⟩ := h.cells j x hj;exact ⟨p,hp,cell_below hb rfl h0,cell_below hb rfl h1,cell_below hb rfl h2⟩,h.size⟩
theorem Inps.new {w : World} {a : Option Addr} {l : List (ByteArray × Int × ByteArray)} (h : Inps w a l) (ob : Obj) : Inps (w.alloc ob) a l := h.below ((Below.refl _ _).al _)
/-- a row in memory -/
structure Outs (w : World) (a : Option Addr) (l : List (ByteArray × Int)) : Prop where
  len : l.length ≤ 1048576
  cells : ∀ (j : Nat) x,l[j]? = some x → ∃ p,a = some p ∧ w.cell? (p.add (j * 2)) = some (.string x.1) ∧ w.cell? ⟨(p.add (j * 2)).block,(p.add (j * 2)).off + 1,none⟩ = some (.int .i64 x.2)
  size : ∀ x ∈ l,x.1.size ≤ 1048576
theorem Outs.below {w w' : World} {a : Option Addr} {l : List (ByteArray × Int)} (h : Outs w a l) (hb : Below w.heap.size w w') : Outs w' a l :=
  ⟨h.len,fun j x hj => by
    obtain ⟨p,hp,h0,h1⟩ := h.cells j x hj;exact ⟨p,hp,cell_below hb rfl h0,cell_below hb rfl h1⟩,h.size⟩
theorem Outs.new {w : World} {a : Option Addr} {l : List (ByteArray × Int)} (h : Outs w a l) (ob : Obj) : Outs (w.alloc ob) a l := h.below ((Below.refl _ _).al _)
/-- a row in memory -/
structure Ruls (w : World) (a : Option Addr) (l : List Rul) : Prop where
  len : l.length ≤ 1048576
  cells : ∀ (j : Nat) x,l[j]? = some x → ∃ p ad cap bd bcap,a = some p ∧ w.cell? (p.add (j * 3)) = some (.string x.h) ∧ w.cell? ⟨(p.add (j * 3)).block,(p.add (j * 3)).off + 1,none⟩ = some (.slice ad x.a.length cap) ∧ w.cell? ⟨(p.add (j * 3)).block,(p.add (j * 3)).off + 2,none⟩ = some (.slice bd x.b.length bcap) ∧ Terms w ad x.a ∧ Lits w bd x.b
  size : ∀ x ∈ l,x.h.size ≤ 1048576 ∧ (ruleS x).size ≤ 8388608
theorem Ruls.below {w w' : World} {a : Option Addr} {l : List Rul} (h : Ruls w a l) (hb : Below w.heap.size w w') : Ruls w' a l :=
  ⟨h.len,fun j x hj => by
    obtain ⟨p,ad,cap,bd,bcap,hp,h0,h1,h2,t0,t1⟩ := h.cells j x hj;exact ⟨p,ad,cap,bd,bcap,hp,cell_below hb rfl h0,cell_below hb rfl h1,cell_below hb rfl h2,t0.below hb,t1.below hb⟩,h.size⟩
theorem Ruls.new {w : World} {a : Option Addr} {l : List Rul} (h : Ruls w a l) (ob : Obj) : Ruls (w.alloc ob) a l := h.below ((Below.refl _ _).al _)
def textsI (l : List (ByteArray × Int × ByteArray)) : List ByteArray := l.map inpS
def okI (l : List (ByteArray × Int × ByteArray)) : Bool := l.all inpOk
def textsO (l : List (ByteArray × Int)) : List ByteArray := l.map outS
def okO (l : List (ByteArray × Int)) : Bool := l.all fun x => decOk x.1 x.2
def textsR (l : List Rul) : List ByteArray := l.map ruleS
def okR (l : List Rul) : Bool := l.all ruleOk
theorem decL_size (word p behind : ByteArray) (n : Int) : (decL word p n behind).size ≤ word.size + p.size + behind.size + 5 := by
 have := arL_len n;unfold decL;simp only [ByteArray.size_append];have h1 : (ByteArray.mk #[32]).size = 1 := rfl;have h2 : (ByteArray.mk #[47]).size = 1 := rfl;have h3 : (ByteArray.mk #[46]).size = 1 := rfl;omega
theorem inpS_size (x : ByteArray × Int × ByteArray) (h : x.1.size ≤ 1048576) : (inpS x).size ≤ 8388608 := by
 unfold inpS
 split
 · rename_i ho;unfold inpOk at ho;rw [Bool.and_eq_true] at ho;have hf := of_decide_eq_true ho.2;have h1 := decL_size ⟨#[105,110,112,117,116]⟩ x.1 (⟨#[32]⟩ ++ mk (quoteL (bl x.2.2))) x.2.1;have h2 := quote_len (bl x.2.2);have h3 := (escs_len (bl x.2.2)).2;rw [bl_length] at h3;have h4 : (mk (quoteL (bl x.2.2))).size = (quoteL (bl x.2.2)).length := by simp [mk,ByteArray.size]
   have h5 : (ByteArray.mk #[105,110,112,117,116]).size = 5 := rfl;have h6 : (ByteArray.mk #[32]).size = 1 := rfl;rw [ByteArray.size_append] at h1;unfold inpL;omega
 · show 0 ≤ _;omega
theorem textsI_size (l : List (ByteArray × Int × ByteArray)) (h : ∀ x ∈ l,x.1.size ≤ 1048576 ∧ x.2.2.size ≤ 1048576) : ∀ t ∈ textsI l,t.size ≤ 8388608 := by
 intro t ht;obtain ⟨x,hx,rfl⟩ := List.mem_map.1 ht;exact inpS_size x (h x hx).1
theorem textsO_size (l : List (ByteArray × Int)) (h : ∀ x ∈ l,x.1.size ≤ 1048576) : ∀ t ∈ textsO l,t.size ≤ 8388608 := by
 intro t ht;obtain ⟨x,hx,rfl⟩ := List.mem_map.1 ht;have h1 := decL_size ⟨#[111,117,116,112,117,116]⟩ x.1 ⟨#[]⟩ x.2;have h2 := h x hx;have h5 : (ByteArray.mk #[111,117,116,112,117,116]).size = 6 := rfl;have h6 : (ByteArray.mk #[]).size = 0 := rfl;unfold outS outLt
 split
 · omega
 · omega
theorem textsR_size (l : List Rul) (h : ∀ x ∈ l,x.h.size ≤ 1048576 ∧ (ruleS x).size ≤ 8388608) : ∀ t ∈ textsR l,t.size ≤ 8388608 := by
 intro t ht;obtain ⟨x,hx,rfl⟩ := List.mem_map.1 ht;exact (h x hx).2
theorem ruleS_wt {x : Rul} (h : ruleWt x ≤ 1048576) : (ruleS x).size ≤ 8388608 := by
 unfold ruleS
 split
 · rename_i ho;have h1 := rule_len ho;rw [bl_length] at h1;omega
 · show 0 ≤ _;omega
theorem pt_listed_Input (a : Option Addr) (l : List (ByteArray × Int × ByteArray)) (cap : Nat) (sep : ByteArray) (w : World) (ht : Inps w a l) (hsep : sep.size ≤ 1048576) :
    Calls Tryd.prog 18 #[.slice a l.length cap,.string sep,.func (.func 19) #[] #[]] w fun e w' => e = .returned (.tuple #[.string (if okI l then ⟨(Lib.join ((textsI l).map (·.data.toList)) sep.data.toList).toArray⟩ else ⟨#[]⟩),.bool (okI l)]) ∧ Below w.heap.size w w' := by
 obtain ⟨ib,hib,hz0,hz1,hz2⟩ := info_parts infoStr;obtain ⟨RT,hRT⟩ : ∃ x,Hid ((if okI l then (⟨(Lib.join ((textsI l).map (·.data.toList)) sep.data.toList).toArray⟩ : ByteArray) else ⟨#[]⟩) = x) := ⟨_,Lib.hid rfl⟩;obtain ⟨OT,hOT⟩ : ∃ x,Hid (okI l = x) := ⟨_,Lib.hid rfl⟩;rw [hRT.out,hOT.out];go_enter Tryd.func18,Tryd.ntmps18;go_wp2_with fail
 go_loopw [8,10,11,12,15] (fun b _ _ _ i wr => ∃ (k : Nat),k ≤ l.length ∧ i = .int .i64 k ∧ Hid (okI (l.take k) = true) ∧ Hid (wr.ownsRow w.heap.size 9 1 b k ((textsI (l.take k)).map Value.string)) ∧ Hid (Below w.heap.size w wr)) (fun _ _ _ _ i _ => l.length - (intOf i).toNat)
 case atStart => exact ⟨0,Nat.zero_le _,rfl,Lib.hid rfl,Lib.hid (World.ownsRow_nil _ _ _ _),Lib.hid (Below.refl _ _)⟩
 case round =>
  obtain ⟨k,hk,rfl,hok,hown,hb⟩ := hrel
  by_cases hlt : k < l.length
  · obtain ⟨p,rfl,hc1,hc2,hc3⟩ := (ht.below hb.out).cells k l[k] (List.getElem?_eq_getElem hlt);obtain ⟨hy1,hy2⟩ := ht.size l[k] (List.getElem_mem hlt);generalize hxk : l[k] = x at hc1 hc2 hc3 hy1 hy2;have hpt := fun w => pt_inp x.1 x.2.1 x.2.2 w hy1 hy2
    cases hx : inpOk x with
    | true =>
     have hr : inpE (x.1,x.2.1,x.2.2) = 0 := by unfold inpE;rw [hx];rfl
     rw [hr] at hpt
     have hok1 : Hid (okI (l.take (k + 1)) = true) := Lib.hid (by
      have := hok.out;unfold okI at this ⊢;rw [List.take_succ_eq_append_getElem hlt,List.all_append,this,hxk];simp [hx])
     have hS : Hid (inpS x = inpS l[k]) := Lib.hid (by rw [hxk]);clear hx hr hok hxk;obtain ⟨xp,xn,xf⟩ := x;dsimp only at hc1 hc2 hc3 hpt;generalize inpS (xp,xn,xf) = S at hpt hS;obtain ⟨va,vc,rfl,hva⟩ := own_slice hown.out;clear hva;have hlen := ht.len;have h63 : Hid (k + 1 ≤ maxLen) := Lib.hid (by unfold maxLen;omega)
     have h64 : Hid ((k + 1) * 16 ≤ 140737488355328) := Lib.hid (by omega)
     go_wp2_with (first
       | (go_at_call 19;refine (hpt _).mono ?_;rintro e w2 ⟨rfl,hb2⟩;have hown2 := Lib.hid (own_below (hown.out.alloc _) hb2);replace hb2 := Lib.hid ((hb.out.al _).trans (hb2.mono (by rw [World.size_alloc];have := hb.out.size;omega))))
       | (at_builtin;refine wpList_append_own _ rfl (.tmp 27) (.tmp 29) 68 rfl w.heap.size 9 ib (.string ⟨#[]⟩) 1 16 Tryd.underlying68 hib hz0 hz1 hz2 rfl (by decide) _ k _ rfl (hown2.out.alloc _) ⟨w2.heap.size,0,none⟩ 1 1 [.string S] rfl rfl (own_cells_row rfl rfl) (by intro u hu;simp at hu;subst hu;rfl) h63.out h64.out (by rw [World.size_alloc];have := hb2.out.size;omega) ?_))
     intro v3 w3 hown3 hgrow3 hv3;have hb3 : Hid (Below w.heap.size w w3) := own_grown hown2.out hb2.out hgrow3
     have hown4 : Hid (w3.ownsRow w.heap.size 9 1 v3 (k + 1) ((textsI (l.take (k + 1))).map Value.string)) := Lib.hid (by
      rw [List.take_succ_eq_append_getElem hlt,textsI,List.map_append,List.map_append];rw [hS.out] at hown3;exact hown3)
     clear hown3 hgrow3 hv3;go_wp2_with fail;go_roundw
     case rel => exact ⟨k + 1,by omega,by go_num,hok1,hown4,hb3⟩
     case measure => simp [intOf];omega
    | false =>
     have hr : inpE (x.1,x.2.1,x.2.2) = 2 := by unfold inpE;rw [hx];rfl
     rw [hr] at hpt
     have hR : Hid (RT = ByteArray.mk #[] ∧ OT = false) := Lib.hid (by
      have : okI l = false := by
       unfold okI;rw [List.all_eq_false];exact ⟨l[k],List.getElem_mem hlt,by rw [hxk];simp [hx]⟩
      rw [← hRT.out,← hOT.out,this];exact ⟨rfl,rfl⟩)
     clear hx hr hok hxk;obtain ⟨xp,xn,xf⟩ := x;dsimp only at hc1 hc2 hc3 hpt
     go_wp2_with (go_at_call 19;refine (hpt _).mono ?_;rintro e w2 ⟨rfl,hb2⟩;replace hb2 := Lib.hid hb2)
     go_ret2
     rw [hR.out.1,hR.out.2];exact ⟨rfl,(hb.out.al _).trans (hb2.out.mono (by rw [World.size_alloc];have := hb.out.size;omega))⟩
  · have hke : k = l.length := by omega
    subst hke;rw [List.take_length] at hok hown;have hR : Hid (RT = ⟨(Lib.join ((textsI l).map (·.data.toList)) sep.data.toList).toArray⟩ ∧ OT = true) := Lib.hid (by rw [← hRT.out,← hOT.out,hok.out];exact ⟨rfl,rfl⟩);have hjn := own_join hown.out (by rw [textsI,List.length_map];exact ht.len) hsep (textsI_size l ht.size);rw [← hR.out.1] at hjn
    go_wp2_with (go_at_call 40;refine hjn.mono ?_;rintro e w2 ⟨rfl,hb2⟩;replace hb2 := Lib.hid hb2)
    go_ret2
    rw [hR.out.2];exact ⟨rfl,hb.out.trans (hb2.out.mono hb.out.size)⟩
theorem pt_listed_Output (a : Option Addr) (l : List (ByteArray × Int)) (cap : Nat) (sep : ByteArray) (w : World) (ht : Outs w a l) (hsep : sep.size ≤ 1048576) :
    Calls Tryd.prog 22 #[.slice a l.length cap,.string sep,.func (.func 23) #[] #[]] w fun e w' => e = .returned (.tuple #[.string (if okO l then ⟨(Lib.join ((textsO l).map (·.data.toList)) sep.data.toList).toArray⟩ else ⟨#[]⟩),.bool (okO l)]) ∧ Below w.heap.size w w' := by
 obtain ⟨ib,hib,hz0,hz1,hz2⟩ := info_parts infoStr;obtain ⟨RT,hRT⟩ : ∃ x,Hid ((if okO l then (⟨(Lib.join ((textsO l).map (·.data.toList)) sep.data.toList).toArray⟩ : ByteArray) else ⟨#[]⟩) = x) := ⟨_,Lib.hid rfl⟩;obtain ⟨OT,hOT⟩ : ∃ x,Hid (okO l = x) := ⟨_,Lib.hid rfl⟩;rw [hRT.out,hOT.out];go_enter Tryd.func22,Tryd.ntmps22;go_wp2_with fail
 go_loopw [8,10,11,12,15] (fun b _ _ _ i wr => ∃ (k : Nat),k ≤ l.length ∧ i = .int .i64 k ∧ Hid (okO (l.take k) = true) ∧ Hid (wr.ownsRow w.heap.size 9 1 b k ((textsO (l.take k)).map Value.string)) ∧ Hid (Below w.heap.size w wr)) (fun _ _ _ _ i _ => l.length - (intOf i).toNat)
 case atStart => exact ⟨0,Nat.zero_le _,rfl,Lib.hid rfl,Lib.hid (World.ownsRow_nil _ _ _ _),Lib.hid (Below.refl _ _)⟩
 case round =>
  obtain ⟨k,hk,rfl,hok,hown,hb⟩ := hrel
  by_cases hlt : k < l.length
  · obtain ⟨p,rfl,hc1,hc2⟩ := (ht.below hb.out).cells k l[k] (List.getElem?_eq_getElem hlt);have hy1 := ht.size l[k] (List.getElem_mem hlt);generalize hxk : l[k] = x at hc1 hc2 hy1;have hpt := fun w => pt_outp x.1 x.2 w hy1
    cases hx : decOk x.1 x.2 with
    | true =>
     have hr : decE x.1 x.2 = 0 := by unfold decE;rw [hx];rfl
     rw [hr] at hpt
     have hok1 : Hid (okO (l.take (k + 1)) = true) := Lib.hid (by
      have := hok.out;unfold okO at this ⊢;rw [List.take_succ_eq_append_getElem hlt,List.all_append,this,hxk];simp [hx])
     have hS : Hid (outS x = outS l[k]) := Lib.hid (by rw [hxk]);clear hx hr hok hxk;obtain ⟨xp,xn⟩ := x;dsimp only at hc1 hc2 hpt;generalize outS (xp,xn) = S at hpt hS;obtain ⟨va,vc,rfl,hva⟩ := own_slice hown.out;clear hva;have hlen := ht.len;have h63 : Hid (k + 1 ≤ maxLen) := Lib.hid (by unfold maxLen;omega);have h64 : Hid ((k + 1) * 16 ≤ 140737488355328) := Lib.hid (by omega)
     go_wp2_with (first
       | (go_at_call 23;refine (hpt _).mono ?_;rintro e w2 ⟨rfl,hb2⟩;have hown2 := Lib.hid (own_below (hown.out.alloc _) hb2);replace hb2 := Lib.hid ((hb.out.al _).trans (hb2.mono (by rw [World.size_alloc];have := hb.out.size;omega))))
       | (at_builtin;refine wpList_append_own _ rfl (.tmp 27) (.tmp 29) 68 rfl w.heap.size 9 ib (.string ⟨#[]⟩) 1 16 Tryd.underlying68 hib hz0 hz1 hz2 rfl (by decide) _ k _ rfl (hown2.out.alloc _) ⟨w2.heap.size,0,none⟩ 1 1 [.string S] rfl rfl (own_cells_row rfl rfl) (by intro u hu;simp at hu;subst hu;rfl) h63.out h64.out (by rw [World.size_alloc];have := hb2.out.size;omega) ?_))
     intro v3 w3 hown3 hgrow3 hv3;have hb3 : Hid (Below w.heap.size w w3) := own_grown hown2.out hb2.out hgrow3
     have hown4 : Hid (w3.ownsRow w.heap.size 9 1 v3 (k + 1) ((textsO (l.take (k + 1))).map Value.string)) := Lib.hid (by
      rw [List.take_succ_eq_append_getElem hlt,textsO,List.map_append,List.map_append];rw [hS.out] at hown3;exact hown3)
     clear hown3 hgrow3 hv3;go_wp2_with fail;go_roundw
     case rel => exact ⟨k + 1,by omega,by go_num,hok1,hown4,hb3⟩
     case measure => simp [intOf];omega
    | false =>
     have hr : decE x.1 x.2 = 2 := by unfold decE;rw [hx];rfl
     rw [hr] at hpt
     have hR : Hid (RT = ByteArray.mk #[] ∧ OT = false) := Lib.hid (by
      have : okO l = false := by
       unfold okO;rw [List.all_eq_false];exact ⟨l[k],List.getElem_mem hlt,by rw [hxk];simp [hx]⟩
      rw [← hRT.out,← hOT.out,this];exact ⟨rfl,rfl⟩)
     clear hx hr hok hxk;obtain ⟨xp,xn⟩ := x;dsimp only at hc1 hc2 hpt
     go_wp2_with (go_at_call 23;refine (hpt _).mono ?_;rintro e w2 ⟨rfl,hb2⟩;replace hb2 := Lib.hid hb2)
     go_ret2
     rw [hR.out.1,hR.out.2];exact ⟨rfl,(hb.out.al _).trans (hb2.out.mono (by rw [World.size_alloc];have := hb.out.size;omega))⟩
  · have hke : k = l.length := by omega
    subst hke;rw [List.take_length] at hok hown;have hR : Hid (RT = ⟨(Lib.join ((textsO l).map (·.data.toList)) sep.data.toList).toArray⟩ ∧ OT = true) := Lib.hid (by rw [← hRT.out,← hOT.out,hok.out];exact ⟨rfl,rfl⟩);have hjn := own_join hown.out (by rw [textsO,List.length_map];exact ht.len) hsep (textsO_size l ht.size);rw [← hR.out.1] at hjn
    go_wp2_with (go_at_call 40;refine hjn.mono ?_;rintro e w2 ⟨rfl,hb2⟩;replace hb2 := Lib.hid hb2)
    go_ret2
    rw [hR.out.2];exact ⟨rfl,hb.out.trans (hb2.out.mono hb.out.size)⟩
theorem pt_listed_Rule (a : Option Addr) (l : List Rul) (cap : Nat) (sep : ByteArray) (w : World) (ht : Ruls w a l) (hsep : sep.size ≤ 1048576) :
    Calls Tryd.prog 24 #[.slice a l.length cap,.string sep,.func (.func 25) #[] #[]] w fun e w' => e = .returned (.tuple #[.string (if okR l then ⟨(Lib.join ((textsR l).map (·.data.toList)) sep.data.toList).toArray⟩ else ⟨#[]⟩),.bool (okR l)]) ∧ Below w.heap.size w w' := by
 obtain ⟨ib,hib,hz0,hz1,hz2⟩ := info_parts infoStr;obtain ⟨RT,hRT⟩ : ∃ x,Hid ((if okR l then (⟨(Lib.join ((textsR l).map (·.data.toList)) sep.data.toList).toArray⟩ : ByteArray) else ⟨#[]⟩) = x) := ⟨_,Lib.hid rfl⟩;obtain ⟨OT,hOT⟩ : ∃ x,Hid (okR l = x) := ⟨_,Lib.hid rfl⟩;rw [hRT.out,hOT.out];go_enter Tryd.func24,Tryd.ntmps24;go_wp2_with fail
 go_loopw [8,10,11,12,15] (fun b _ _ _ i wr => ∃ (k : Nat),k ≤ l.length ∧ i = .int .i64 k ∧ Hid (okR (l.take k) = true) ∧ Hid (wr.ownsRow w.heap.size 9 1 b k ((textsR (l.take k)).map Value.string)) ∧ Hid (Below w.heap.size w wr)) (fun _ _ _ _ i _ => l.length - (intOf i).toNat)
 case atStart => exact ⟨0,Nat.zero_le _,rfl,Lib.hid rfl,Lib.hid (World.ownsRow_nil _ _ _ _),Lib.hid (Below.refl _ _)⟩
 case round =>
  obtain ⟨k,hk,rfl,hok,hown,hb⟩ := hrel
  by_cases hlt : k < l.length
  · obtain ⟨p,ad,acap,bd,bcap,rfl,hc1,hc2,hc3,hat,hbt⟩ := (ht.below hb.out).cells k l[k] (List.getElem?_eq_getElem hlt);have hy1 := (ht.size l[k] (List.getElem_mem hlt)).1;generalize hxk : l[k] = x at hc1 hc2 hc3 hy1 hat hbt;have hpt := fun w h1 h2 => pt_Rule x.h ad x.a acap bd x.b bcap w hy1 h1 h2
    cases hx : ruleOk x with
    | true =>
     have hr : ruleE ⟨x.h,x.a,x.b⟩ = 0 := by unfold ruleE;rw [hx];rfl
     rw [hr] at hpt
     have hok1 : Hid (okR (l.take (k + 1)) = true) := Lib.hid (by
      have := hok.out;unfold okR at this ⊢;rw [List.take_succ_eq_append_getElem hlt,List.all_append,this,hxk];simp [hx])
     have hS : Hid (ruleS x = ruleS l[k]) := Lib.hid (by rw [hxk]);clear hx hr hok hxk;obtain ⟨xh,xa,xb⟩ := x;dsimp only at hc1 hc2 hc3 hpt hat hbt;generalize ruleS ⟨xh,xa,xb⟩ = S at hpt hS;obtain ⟨va,vc,rfl,hva⟩ := own_slice hown.out;clear hva;have hlen := ht.len;have h63 : Hid (k + 1 ≤ maxLen) := Lib.hid (by unfold maxLen;omega)
     have h64 : Hid ((k + 1) * 16 ≤ 140737488355328) := Lib.hid (by omega)
     go_wp2_with (first
       | (go_at_call 25;refine (hpt _ (hat.new _) (hbt.new _)).mono ?_;rintro e w2 ⟨rfl,hb2⟩;have hown2 := Lib.hid (own_below (hown.out.alloc _) hb2);replace hb2 := Lib.hid ((hb.out.al _).trans (hb2.mono (by rw [World.size_alloc];have := hb.out.size;omega))))
       | (at_builtin;refine wpList_append_own _ rfl (.tmp 27) (.tmp 29) 68 rfl w.heap.size 9 ib (.string ⟨#[]⟩) 1 16 Tryd.underlying68 hib hz0 hz1 hz2 rfl (by decide) _ k _ rfl (hown2.out.alloc _) ⟨w2.heap.size,0,none⟩ 1 1 [.string S] rfl rfl (own_cells_row rfl rfl) (by intro u hu;simp at hu;subst hu;rfl) h63.out h64.out (by rw [World.size_alloc];have := hb2.out.size;omega) ?_))
     intro v3 w3 hown3 hgrow3 hv3;have hb3 : Hid (Below w.heap.size w w3) := own_grown hown2.out hb2.out hgrow3
     have hown4 : Hid (w3.ownsRow w.heap.size 9 1 v3 (k + 1) ((textsR (l.take (k + 1))).map Value.string)) := Lib.hid (by
      rw [List.take_succ_eq_append_getElem hlt,textsR,List.map_append,List.map_append];rw [hS.out] at hown3;exact hown3)
     clear hown3 hgrow3 hv3;go_wp2_with fail;go_roundw
     case rel => exact ⟨k + 1,by omega,by go_num,hok1,hown4,hb3⟩
     case measure => simp [intOf];omega
    | false =>
     have hr : ruleE ⟨x.h,x.a,x.b⟩ = 2 := by unfold ruleE;rw [hx];rfl
     rw [hr] at hpt
     have hR : Hid (RT = ByteArray.mk #[] ∧ OT = false) := Lib.hid (by
      have : okR l = false := by
       unfold okR;rw [List.all_eq_false];exact ⟨l[k],List.getElem_mem hlt,by rw [hxk];simp [hx]⟩
      rw [← hRT.out,← hOT.out,this];exact ⟨rfl,rfl⟩)
     clear hx hr hok hxk;obtain ⟨xh,xa,xb⟩ := x;dsimp only at hc1 hc2 hc3 hpt hat hbt
     go_wp2_with (go_at_call 25;refine (hpt _ (hat.new _) (hbt.new _)).mono ?_;rintro e w2 ⟨rfl,hb2⟩;replace hb2 := Lib.hid hb2)
     go_ret2
     rw [hR.out.1,hR.out.2];exact ⟨rfl,(hb.out.al _).trans (hb2.out.mono (by rw [World.size_alloc];have := hb.out.size;omega))⟩
  · have hke : k = l.length := by omega
    subst hke;rw [List.take_length] at hok hown;have hR : Hid (RT = ⟨(Lib.join ((textsR l).map (·.data.toList)) sep.data.toList).toArray⟩ ∧ OT = true) := Lib.hid (by rw [← hRT.out,← hOT.out,hok.out];exact ⟨rfl,rfl⟩);have hjn := own_join hown.out (by rw [textsR,List.length_map];exact ht.len) hsep (textsR_size l ht.size);rw [← hR.out.1] at hjn
    go_wp2_with (go_at_call 40;refine hjn.mono ?_;rintro e w2 ⟨rfl,hb2⟩;replace hb2 := Lib.hid hb2)
    go_ret2
    rw [hR.out.2];exact ⟨rfl,hb.out.trans (hb2.out.mono hb.out.size)⟩
end Go.Proofs.YtclioihichcpiaaDoor
/- Print, plain: a program's text by lines. -/
namespace Go.Proofs.YtclioihichcpiaaDoor
open Go.RowKit Lx
abbrev InpD := ByteArray × Int × ByteArray
abbrev OutD := ByteArray × Int
def prI (x : InpD) : Pr := .inp x.1 x.2.1 x.2.2
def prO (x : OutD) : Pr := .outp x.1 x.2
/-- a program's statements in the order in which they are written -/
def prsOf (I : List InpD) (O : List OutD) (R : List Rul) : List Pr := I.map prI ++ (O.map prO ++ R.map .rule)
def progOk (I : List InpD) (O : List OutD) (R : List Rul) : Bool := okI I && (okO O && okR R)
def progL (xs : List Pr) : Bs := xs.flatMap fun x => prL x ++ [10]
def progS (I : List InpD) (O : List OutD) (R : List Rul) : ByteArray := if progOk I O R then mk (progL (prsOf I O R)) else ⟨#[]⟩
def progE (I : List InpD) (O : List OutD) (R : List Rul) : Int := if progOk I O R then 0 else 2
theorem prs_ok (I : List InpD) (O : List OutD) (R : List Rul) : (prsOf I O R).all prOk = progOk I O R := by
 unfold prsOf progOk okI okO okR;rw [List.all_append,List.all_append,List.all_map,List.all_map,List.all_map]
 rfl
theorem decL_list (word p behind : ByteArray) (n : Int) : bl (decL word p n behind) = bl word ++ 32 :: (bl p ++ 47 :: (arL n ++ (bl behind ++ [46]))) := by
 unfold decL;simp only [bl_app,List.append_assoc];have h : bl (mk (arL n)) = arL n := bl_mk _;rw [h]
 rfl
theorem inp_text (x : InpD) : bl (inpL x) = prL (prI x) := by
 unfold inpL;rw [decL_list,bl_app];have h : bl (mk (quoteL (bl x.2.2))) = quoteL (bl x.2.2) := bl_mk _;rw [h];simp [prL,prI,sInput,bl]
theorem out_text (x : OutD) : bl (outLt x) = prL (prO x) := by
 unfold outLt;rw [decL_list];simp [prL,prO,sOutput,bl]
/-- what stands of a part: nothing, or its lines -/
def lineL (l : Bs) : Bs := if l = [] then [] else l ++ [10]
theorem join_lines : ∀ (x : Bs) (ts : List Bs),Lib.join (x :: ts) [10] ++ [10] = (x :: ts).flatMap fun t => t ++ [10]
  | x,[] => by simp [Lib.join_cons,Lib.joinTail]
  | x,y :: ts => by
    have ih := join_lines y ts;rw [Lib.join_cons] at ih ⊢;rw [List.flatMap_cons,← ih];simp [Lib.joinTail]
theorem line_flat (ts : List Bs) (h : ∀ t ∈ ts,t ≠ []) : lineL (Lib.join ts [10]) = ts.flatMap fun t => t ++ [10] := by
 unfold lineL
 cases ts with
 | nil => rfl
 | cons x ts =>
  have hx := h x (List.mem_cons_self ..)
  have hne : Lib.join (x :: ts) [10] ≠ [] := by
   rw [Lib.join_cons]
   cases x with
   | nil => exact absurd rfl hx
   | cons c r => simp
  rw [if_neg hne,join_lines]
theorem flat_map {α : Type _} (f : α → Bs) (g : α → Pr) (h : ∀ x,f x = prL (g x)) (l : List α) : (l.map f).flatMap (fun t => t ++ [10]) = progL (l.map g) := by
 unfold progL;rw [List.flatMap_map,List.flatMap_map]
 congr 1
 funext x
 rw [h]
theorem texts_I {I : List InpD} (h : okI I = true) : (textsI I).map (·.data.toList) = I.map fun x => bl (inpL x) := by
 unfold textsI;rw [List.map_map];refine List.map_congr_left fun x hx => ?_;show bl (inpS x) = _;unfold inpS;rw [if_pos (List.all_eq_true.1 h x hx)]
theorem texts_O {O : List OutD} (h : okO O = true) : (textsO O).map (·.data.toList) = O.map fun x => bl (outLt x) := by
 unfold textsO;rw [List.map_map];refine List.map_congr_left fun x hx => ?_;show bl (outS x) = _;unfold outS;rw [if_pos (List.all_eq_true.1 h x hx)]
theorem texts_R {R : List Rul} (h : okR R = true) : (textsR R).map (·.data.toList) = R.map fun x => bl (ruleL x) := by
 unfold textsR;rw [List.map_map];refine List.map_congr_left fun x hx => ?_;show bl (ruleS x) = _;rw [(rule_yes (List.all_eq_true.1 h x hx)).1]
theorem part_I {I : List InpD} (h : okI I = true) : lineL (Lib.join ((textsI I).map (·.data.toList)) [10]) = progL (I.map prI) := by
 rw [texts_I h,line_flat,flat_map _ prI inp_text];intro t ht e;obtain ⟨x,hx,rfl⟩ := List.mem_map.1 ht;have := pr_pos (x := prI x) (List.all_eq_true.1 h x hx);rw [← inp_text,e] at this;cases this
theorem part_O {O : List OutD} (h : okO O = true) : lineL (Lib.join ((textsO O).map (·.data.toList)) [10]) = progL (O.map prO) := by
 rw [texts_O h,line_flat,flat_map _ prO out_text];intro t ht e;obtain ⟨x,hx,rfl⟩ := List.mem_map.1 ht;have := pr_pos (x := prO x) (List.all_eq_true.1 h x hx);rw [← out_text,e] at this;cases this
theorem part_R {R : List Rul} (h : okR R = true) : lineL (Lib.join ((textsR R).map (·.data.toList)) [10]) = progL (R.map .rule) := by
 rw [texts_R h,line_flat,flat_map (fun x => bl (ruleL x)) Pr.rule (fun _ => rfl)];intro t ht e;obtain ⟨x,hx,rfl⟩ := List.mem_map.1 ht;have := rule_pos (List.all_eq_true.1 h x hx);rw [e] at this;cases this
theorem progL_app (a b : List Pr) : progL (a ++ b) = progL a ++ progL b := by unfold progL;rw [List.flatMap_append]
/-- what stands in the statements at their places -/
theorem at_inps (I : List InpD) (O : List OutD) (R : List Rul) (g : Nat) : inpsOf (prAt g 0 (prsOf I O R)) = I ∧ outsOf (prAt g 0 (prsOf I O R)) = O ∧ rulesOf (prAt g 0 (prsOf I O R)) = R.map toR := by
 have hR : ∀ (R : List Rul) (p : Nat),inpsOf (prAt g p (R.map .rule)) = [] ∧ outsOf (prAt g p (R.map .rule)) = [] ∧ rulesOf (prAt g p (R.map .rule)) = R.map toR := by
  intro R
  induction R with
  | nil => intro p;exact ⟨rfl,rfl,rfl⟩
  | cons x r ih =>
   intro p;obtain ⟨h1,h2,h3⟩ := ih (p + (prL (.rule x)).length + g);exact ⟨h1,h2,congrArg (toR x :: ·) h3⟩
 have hO : ∀ (O : List OutD) (p : Nat),inpsOf (prAt g p (O.map prO ++ R.map .rule)) = [] ∧ outsOf (prAt g p (O.map prO ++ R.map .rule)) = O ∧ rulesOf (prAt g p (O.map prO ++ R.map .rule)) = R.map toR := by
  intro O
  induction O with
  | nil => intro p;exact hR R p
  | cons x r ih =>
   intro p;obtain ⟨h1,h2,h3⟩ := ih (p + (prL (prO x)).length + g);exact ⟨h1,congrArg (x :: ·) h2,h3⟩
 have hI : ∀ (I : List InpD) (p : Nat),inpsOf (prAt g p (prsOf I O R)) = I ∧ outsOf (prAt g p (prsOf I O R)) = O ∧ rulesOf (prAt g p (prsOf I O R)) = R.map toR := by
  intro I
  induction I with
  | nil => intro p;exact hO O p
  | cons x r ih =>
   intro p;obtain ⟨h1,h2,h3⟩ := ih (p + (prL (prI x)).length + g);exact ⟨congrArg (x :: ·) h1,h2,h3⟩
 exact hI I 0
/-! ### how long a program's text is -/
def progWt (I : List InpD) (O : List OutD) (R : List Rul) : Nat := (I.map fun x => x.1.size + x.2.2.size + 4).sum + (O.map fun x => x.1.size + 3).sum + (R.map ruleWt).sum
theorem arL_le (n : Int) : (arL n).length ≤ 2 := by unfold arL;split <;> simp
theorem prog_len {I : List InpD} {O : List OutD} {R : List Rul} (h : progOk I O R = true) : (progL (prsOf I O R)).length ≤ 4 * progWt I O R := by
 unfold progOk at h;rw [Bool.and_eq_true,Bool.and_eq_true] at h
 have hR : ∀ R : List Rul,okR R = true → (progL (R.map .rule)).length ≤ 4 * (R.map ruleWt).sum := by
  intro R
  induction R with
  | nil => intro _;exact Nat.zero_le _
  | cons x r ih =>
   intro ho;unfold okR at ho;rw [List.all_cons,Bool.and_eq_true] at ho;have h1 := ih ho.2;have h2 := rule_len ho.1;have e : progL ((x :: r).map .rule) = bl (ruleL x) ++ [10] ++ progL (r.map .rule) := rfl;rw [e];simp only [List.length_append,List.length_cons,List.length_nil,List.map_cons,List.sum_cons] at *;omega
 have hO : ∀ O : List OutD,(progL (O.map prO)).length ≤ 4 * (O.map fun x => x.1.size + 3).sum := by
  intro O
  induction O with
  | nil => exact Nat.zero_le _
  | cons x r ih =>
   have e : progL ((x :: r).map prO) = prL (prO x) ++ [10] ++ progL (r.map prO) := rfl;have h2 := arL_le x.2;have h3 : (bl x.1).length = x.1.size := bl_length _;have h4 : sOutput.length = 6 := rfl;rw [e];simp only [prL,prO,List.length_append,List.length_cons,List.length_nil,List.map_cons,List.sum_cons] at *;omega
 have hI : ∀ I : List InpD,(progL (I.map prI)).length ≤ 4 * (I.map fun x => x.1.size + x.2.2.size + 4).sum := by
  intro I
  induction I with
  | nil => exact Nat.zero_le _
  | cons x r ih =>
   have e : progL ((x :: r).map prI) = prL (prI x) ++ [10] ++ progL (r.map prI) := rfl;have h2 := arL_le x.2.1;have h3 : (bl x.1).length = x.1.size := bl_length _;have h4 : sInput.length = 5 := rfl;have h5 := quote_len (bl x.2.2);have h6 := (escs_len (bl x.2.2)).2;have h7 : (bl x.2.2).length = x.2.2.size := bl_length _;rw [e]
   simp only [prL,prI,List.length_append,List.length_cons,List.length_nil,List.map_cons,List.sum_cons] at *;omega
 have h1 := hI I;have h2 := hO O;have h3 := hR R h.2.2;unfold prsOf progWt;rw [progL_app,progL_app,List.length_append,List.length_append];omega
end Go.Proofs.YtclioihichcpiaaDoor
