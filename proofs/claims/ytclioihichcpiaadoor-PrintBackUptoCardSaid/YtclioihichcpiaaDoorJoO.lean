/- Print: an atom, in the document. -/
import Derived.Test.YtclioihichcpiaaDoorJoI
import Derived.Deep.RegionWith
set_option maxHeartbeats 8000000
set_option maxRecDepth 100000
namespace Go.Proofs.YtclioihichcpiaaDoor
open Go.RowKit Go.Shelf Lx
theorem atom_cells {w w1 : World} {a b : Value} {t : TypeId} (hb : Below (w.alloc (.cells #[a,b] t)).heap.size (w.alloc (.cells #[a,b] t)) w1) : Below w.heap.size w w1 := ((Below.refl _ _).al _).trans (hb.mono (by rw [World.size_alloc];omega))
theorem okT_take {l : List (Bool × ByteArray)} {k : Nat} (hlt : k < l.length) (h : okT (l.take k) = true) (hx : termOk l[k].1 (bl l[k].2) = true) : okT (l.take (k + 1)) = true := by
 unfold okT at h ⊢;rw [List.take_succ_eq_append_getElem hlt,List.all_append,h];simp [hx]
theorem okT_not {l : List (Bool × ByteArray)} {k : Nat} (hlt : k < l.length) (hx : termOk l[k].1 (bl l[k].2) = false) : okT l = false := by
 unfold okT;rw [List.all_eq_false];exact ⟨l[k],List.getElem_mem hlt,by simp [hx]⟩
theorem rk_Atom (p : ByteArray) (a : Option Addr) (l : List (Bool × ByteArray)) (cap : Nat) (w : World) (hp : p.size ≤ 1048576) (ht : Terms w a l) :
    Calls Tryd.prog 68 #[.agg #[.string p,.slice a l.length cap]] w fun e w' => e = .returned (.bool (atomOk p l)) ∧ Below w.heap.size w w' := by
 have hnm := fun w => rp_Name p w (by omega)
 cases hn : nameB (bl p) with
 | false =>
  have hS : Hid (atomOk p l = false) := Lib.hid (by unfold atomOk;rw [hn,Bool.and_false,Bool.false_and]);rw [hn] at hnm;go_enter Tryd.func68,Tryd.ntmps68
  go_wp2_with (go_at_call 67;refine (hnm _).mono ?_;rintro e w' ⟨rfl,rfl⟩)
  go_ret;rw [hS.out];exact ⟨rfl,(Below.refl _ _).al _⟩
 | true =>
  rw [hn] at hnm
  by_cases h16 : l.length ≤ 16
  · have hO : Hid (atomOk p l = okT l) := Lib.hid (by unfold atomOk;rw [hn,decide_eq_true h16,Bool.and_true,Bool.and_true]);go_enter Tryd.func68,Tryd.ntmps68
    go_wp2_with (go_at_call 67;refine (hnm _).mono ?_;rintro e w' ⟨rfl,rfl⟩)
    go_loopw [3] (fun i wr => ∃ (k : Nat),k ≤ l.length ∧ i = .int .i64 k ∧ Hid (okT (l.take k) = true) ∧ Hid (Below (w.alloc (.cells #[.string p,.slice a l.length cap] 51)).heap.size (w.alloc (.cells #[.string p,.slice a l.length cap] 51)) wr)) (fun i _ => l.length - (intOf i).toNat)
    case atStart => exact ⟨0,Nat.zero_le _,rfl,Lib.hid rfl,Lib.hid (Below.refl _ _)⟩
    case round =>
     obtain ⟨k,hk,rfl,hok,hb⟩ := hrel;obtain ⟨hc1,hc2⟩ := new_cells hb.out
     by_cases hlt : k < l.length
     · obtain ⟨q,rfl,hd1,hd2⟩ := ((ht.new _).below hb.out).cells k l[k] (List.getElem?_eq_getElem hlt);have hsz := ht.size l[k] (List.getElem_mem hlt);have hkT := fun w => rk_Term l[k].1 l[k].2 w hsz
       cases hx : termOk l[k].1 (bl l[k].2) with
       | true =>
        rw [hx] at hkT;have hok' := Lib.hid (okT_take hlt hok.out hx);clear hx hok hsz;generalize l[k] = x at hd1 hd2 hkT;obtain ⟨xv,xs⟩ := x;dsimp only at hd1 hd2 hkT
        go_wp2_with (go_at_call 85;refine (hkT _).mono ?_;rintro e w2 ⟨rfl,hb2⟩;replace hb2 := Lib.hid (hb.out.trans (hb2.mono hb.out.size)))
        go_roundw
        case rel => exact ⟨k + 1,by omega,by go_num,hok',hb2⟩
        case measure => simp [intOf];omega
       | false =>
        rw [hx] at hkT;have hS := Lib.hid (hO.out.trans (okT_not hlt hx));clear hx hok hsz;generalize l[k] = x at hd1 hd2 hkT;obtain ⟨xv,xs⟩ := x;dsimp only at hd1 hd2 hkT
        go_wp2_with (go_at_call 85;refine (hkT _).mono ?_;rintro e w2 ⟨rfl,hb2⟩;replace hb2 := Lib.hid (hb.out.trans (hb2.mono hb.out.size)))
        go_ret;rw [hS.out];exact ⟨rfl,atom_cells hb2.out⟩
     · have hke : k = l.length := by omega
       subst hke;rw [List.take_length] at hok;go_wp2_with fail;go_ret;rw [hO.out,hok.out];exact ⟨rfl,atom_cells hb.out⟩
  · have hS : Hid (atomOk p l = false) := Lib.hid (by unfold atomOk;rw [decide_eq_false h16,Bool.and_false]);go_enter Tryd.func68,Tryd.ntmps68
    go_wp2_with (go_at_call 67;refine (hnm _).mono ?_;rintro e w' ⟨rfl,rfl⟩)
    go_ret;rw [hS.out];exact ⟨rfl,(Below.refl _ _).al _⟩
def part (p : ByteArray) (l : List (Bool × ByteArray)) (k : Nat) : ByteArray := if k = 0 then p else p ++ ⟨#[40]⟩ ++ commas (l.take k)
end Go.Proofs.YtclioihichcpiaaDoor
/- Print: atoms and literals, in the document. (gen_prr.py) -/
namespace Go.Proofs.YtclioihichcpiaaDoor
open Go.RowKit Go.Shelf Lx
theorem new_cells7 {w w1 : World} {a b c d e f g x y : Value} {t u : TypeId} (hb : Below ((w.alloc (.cells #[a,b,c,d,e,f,g] t)).alloc (.cells #[x,y] u)).heap.size ((w.alloc (.cells #[a,b,c,d,e,f,g] t)).alloc (.cells #[x,y] u)) w1) : (w1.cell? ⟨w.heap.size,0,none⟩ = some a ∧ w1.cell? ⟨w.heap.size,1,none⟩ = some b ∧ w1.cell? ⟨w.heap.size,2,none⟩ = some c ∧ w1.cell? ⟨w.heap.size,3,none⟩ = some d ∧ w1.cell? ⟨w.heap.size,4,none⟩ = some e ∧ w1.cell? ⟨w.heap.size,5,none⟩ = some f ∧ w1.cell? ⟨w.heap.size,6,none⟩ = some g) ∧ w1.cell? ⟨w.heap.size + 1,0,none⟩ = some x ∧ w1.cell? ⟨w.heap.size + 1,1,none⟩ = some y := by
 have h : w1.heap[w.heap.size]? = some (.cells #[a,b,c,d,e,f,g] t) := (hb.block _ (by rw [World.size_alloc,World.size_alloc];omega)).trans (by rw [heap_alloc_old];exact heap_alloc_new _ _;rw [World.size_alloc];omega);have h2 : w1.heap[w.heap.size + 1]? = some (.cells #[x,y] u) := (hb.block _ (by rw [World.size_alloc,World.size_alloc];omega)).trans (heap_second _ _ _)
 exact ⟨⟨by simp [World.cell?,h],by simp [World.cell?,h],by simp [World.cell?,h],by simp [World.cell?,h],by simp [World.cell?,h],by simp [World.cell?,h],by simp [World.cell?,h]⟩,by simp [World.cell?,h2],by simp [World.cell?,h2]⟩
theorem lit_cells {w w1 : World} {o o2 : Obj} (hb : Below ((w.alloc o).alloc o2).heap.size ((w.alloc o).alloc o2) w1) : Below w.heap.size w w1 := (((Below.refl _ _).al _).al _).trans (hb.mono (by rw [World.size_alloc,World.size_alloc];omega))
theorem rk_Literal_1 (p : ByteArray) (a : Option Addr) (l : List (Bool × ByteArray)) (cap : Nat) (lv rv : Bool) (lt rt : ByteArray) (w : World) (hp : p.size ≤ 1048576) (ht : Terms w a l) :
    Calls Tryd.prog 69 #[.agg #[.int .i64 1,.string p,.slice a l.length cap,.bool lv,.string lt,.bool rv,.string rt]] w fun e w' => e = .returned (.bool (litOk ⟨1,p,l,(lv,lt),(rv,rt)⟩)) ∧ Below w.heap.size w w' := by
 have hk := fun w ht => rk_Atom p a l cap w hp ht
 cases ha : atomOk p l with
 | false =>
  have hS : Hid (litOk ⟨1,p,l,(lv,lt),(rv,rt)⟩ = false) := Lib.hid (by unfold litOk;rw [if_neg (show ¬ ((1 : Int) = 3) from by decide)];dsimp only;rw [ha,Bool.and_false,Bool.false_and]);rw [ha] at hk;go_enter Tryd.func69,Tryd.ntmps69
  go_wp2_with (go_at_call 68;refine (hk _ ((ht.new _).new _)).mono ?_;rintro e w1 ⟨rfl,hb1⟩;obtain ⟨⟨hc1,hc2,hc3,hc4,hc5,hc6,hc7⟩,hc8,hc9⟩ := new_cells7 hb1;replace hb1 := Lib.hid hb1)
  all_goals (go_ret;rw [hS.out];exact ⟨rfl,lit_cells hb1.out⟩)
 | true =>
  rw [ha] at hk
  cases hz : zeroT (lv,lt) && zeroT (rv,rt) with
  | true =>
   have hz1 := (Bool.and_eq_true_iff.1 hz).1;have hz2 := (Bool.and_eq_true_iff.1 hz).2;unfold zeroT at hz1 hz2;simp at hz1 hz2;obtain ⟨rfl,h1⟩ := hz1;obtain ⟨rfl,h2⟩ := hz2;have hS : Hid (litOk ⟨1,p,l,(false,lt),(false,rt)⟩ = true) := Lib.hid (by unfold litOk;rw [if_neg (show ¬ ((1 : Int) = 3) from by decide)];dsimp only;rw [ha,hz];rfl);clear hz ha
   go_enter Tryd.func69,Tryd.ntmps69
   go_wp2_with (go_at_call 68;refine (hk _ ((ht.new _).new _)).mono ?_;rintro e w1 ⟨rfl,hb1⟩;obtain ⟨⟨hc1,hc2,hc3,hc4,hc5,hc6,hc7⟩,hc8,hc9⟩ := new_cells7 hb1;replace hb1 := Lib.hid hb1)
   all_goals (go_ret;rw [hS.out];exact ⟨rfl,lit_cells hb1.out⟩)
  | false =>
   have hS : Hid (litOk ⟨1,p,l,(lv,lt),(rv,rt)⟩ = false) := Lib.hid (by unfold litOk;rw [if_neg (show ¬ ((1 : Int) = 3) from by decide)];dsimp only;rw [hz,Bool.and_false]);clear ha;unfold zeroT at hz
   have hz' : lv = true ∨ (lv = false ∧ ¬ lt.toList = []) ∨ (lv = false ∧ lt.toList = [] ∧ rv = true) ∨ (lv = false ∧ lt.toList = [] ∧ rv = false ∧ ¬ rt.toList = []) := by
    cases lv <;> cases rv <;> simp at hz ⊢
    · by_cases h : lt.toList = []
      · exact .inr ⟨h,hz h⟩
      · exact .inl h
    · by_cases h : lt.toList = []
      · exact .inr h
      · exact .inl h
   clear hz;rcases hz' with rfl | ⟨rfl,h1⟩ | ⟨rfl,h1,rfl⟩ | ⟨rfl,h1,rfl,h2⟩
   all_goals go_enter Tryd.func69,Tryd.ntmps69
   all_goals go_wp2_with (go_at_call 68;refine (hk _ ((ht.new _).new _)).mono ?_;rintro e w1 ⟨rfl,hb1⟩;obtain ⟨⟨hc1,hc2,hc3,hc4,hc5,hc6,hc7⟩,hc8,hc9⟩ := new_cells7 hb1;replace hb1 := Lib.hid hb1)
   all_goals (go_ret;rw [hS.out];exact ⟨rfl,lit_cells hb1.out⟩)
theorem rk_Literal_2 (p : ByteArray) (a : Option Addr) (l : List (Bool × ByteArray)) (cap : Nat) (lv rv : Bool) (lt rt : ByteArray) (w : World) (hp : p.size ≤ 1048576) (ht : Terms w a l) :
    Calls Tryd.prog 69 #[.agg #[.int .i64 2,.string p,.slice a l.length cap,.bool lv,.string lt,.bool rv,.string rt]] w fun e w' => e = .returned (.bool (litOk ⟨2,p,l,(lv,lt),(rv,rt)⟩)) ∧ Below w.heap.size w w' := by
 have hk := fun w ht => rk_Atom p a l cap w hp ht
 cases ha : atomOk p l with
 | false =>
  have hS : Hid (litOk ⟨2,p,l,(lv,lt),(rv,rt)⟩ = false) := Lib.hid (by unfold litOk;rw [if_neg (show ¬ ((2 : Int) = 3) from by decide)];dsimp only;rw [ha,Bool.and_false,Bool.false_and]);rw [ha] at hk;go_enter Tryd.func69,Tryd.ntmps69
  go_wp2_with (go_at_call 68;refine (hk _ ((ht.new _).new _)).mono ?_;rintro e w1 ⟨rfl,hb1⟩;obtain ⟨⟨hc1,hc2,hc3,hc4,hc5,hc6,hc7⟩,hc8,hc9⟩ := new_cells7 hb1;replace hb1 := Lib.hid hb1)
  all_goals (go_ret;rw [hS.out];exact ⟨rfl,lit_cells hb1.out⟩)
 | true =>
  rw [ha] at hk
  cases hz : zeroT (lv,lt) && zeroT (rv,rt) with
  | true =>
   have hz1 := (Bool.and_eq_true_iff.1 hz).1;have hz2 := (Bool.and_eq_true_iff.1 hz).2;unfold zeroT at hz1 hz2;simp at hz1 hz2;obtain ⟨rfl,h1⟩ := hz1;obtain ⟨rfl,h2⟩ := hz2;have hS : Hid (litOk ⟨2,p,l,(false,lt),(false,rt)⟩ = true) := Lib.hid (by unfold litOk;rw [if_neg (show ¬ ((2 : Int) = 3) from by decide)];dsimp only;rw [ha,hz];rfl);clear hz ha
   go_enter Tryd.func69,Tryd.ntmps69
   go_wp2_with (go_at_call 68;refine (hk _ ((ht.new _).new _)).mono ?_;rintro e w1 ⟨rfl,hb1⟩;obtain ⟨⟨hc1,hc2,hc3,hc4,hc5,hc6,hc7⟩,hc8,hc9⟩ := new_cells7 hb1;replace hb1 := Lib.hid hb1)
   all_goals (go_ret;rw [hS.out];exact ⟨rfl,lit_cells hb1.out⟩)
  | false =>
   have hS : Hid (litOk ⟨2,p,l,(lv,lt),(rv,rt)⟩ = false) := Lib.hid (by unfold litOk;rw [if_neg (show ¬ ((2 : Int) = 3) from by decide)];dsimp only;rw [hz,Bool.and_false]);clear ha;unfold zeroT at hz
   have hz' : lv = true ∨ (lv = false ∧ ¬ lt.toList = []) ∨ (lv = false ∧ lt.toList = [] ∧ rv = true) ∨ (lv = false ∧ lt.toList = [] ∧ rv = false ∧ ¬ rt.toList = []) := by
    cases lv <;> cases rv <;> simp at hz ⊢
    · by_cases h : lt.toList = []
      · exact .inr ⟨h,hz h⟩
      · exact .inl h
    · by_cases h : lt.toList = []
      · exact .inr h
      · exact .inl h
   clear hz;rcases hz' with rfl | ⟨rfl,h1⟩ | ⟨rfl,h1,rfl⟩ | ⟨rfl,h1,rfl,h2⟩
   all_goals go_enter Tryd.func69,Tryd.ntmps69
   all_goals go_wp2_with (go_at_call 68;refine (hk _ ((ht.new _).new _)).mono ?_;rintro e w1 ⟨rfl,hb1⟩;obtain ⟨⟨hc1,hc2,hc3,hc4,hc5,hc6,hc7⟩,hc8,hc9⟩ := new_cells7 hb1;replace hb1 := Lib.hid hb1)
   all_goals (go_ret;rw [hS.out];exact ⟨rfl,lit_cells hb1.out⟩)
theorem rk_Literal_3 (p : ByteArray) (a : Option Addr) (l : List (Bool × ByteArray)) (cap : Nat) (lv rv : Bool) (lt rt : ByteArray) (w : World) (hl : lt.size ≤ 1048576) (hr : rt.size ≤ 1048576) :
    Calls Tryd.prog 69 #[.agg #[.int .i64 3,.string p,.slice a l.length cap,.bool lv,.string lt,.bool rv,.string rt]] w fun e w' => e = .returned (.bool (litOk ⟨3,p,l,(lv,lt),(rv,rt)⟩)) ∧ Below w.heap.size w w' := by
 have hr1 := fun w => rk_Term lv lt w hl;have hr2 := fun w => rk_Term rv rt w hr;have hL : Hid (litOk ⟨3,p,l,(lv,lt),(rv,rt)⟩ = (termOk lv (bl lt) && termOk rv (bl rt) && decide (p.toList = []) && decide (l.length = 0))) := Lib.hid (by unfold litOk okT;rw [if_pos rfl];simp);generalize termOk lv (bl lt) = o1 at hr1 hL;generalize termOk rv (bl rt) = o2 at hr2 hL
 cases o1 with
 | false =>
  go_enter Tryd.func69,Tryd.ntmps69
  go_wp2_with (go_at_call 85;refine (hr1 _).mono ?_;rintro e w1 ⟨rfl,hb1⟩;obtain ⟨⟨hc1,hc2,hc3,hc4,hc5,hc6,hc7⟩,hc8,hc9⟩ := new_cells7 hb1;replace hb1 := Lib.hid hb1)
  all_goals (go_ret;rw [hL.out];exact ⟨rfl,lit_cells hb1.out⟩)
 | true =>
  cases o2 with
  | false =>
   go_enter Tryd.func69,Tryd.ntmps69
   go_wp2_with (first
   | (go_at_call 85;have hg := hb1.out;clear hg;refine (hr2 _).mono ?_;rintro e w2 ⟨rfl,hb2⟩;replace hb2 := Lib.hid (hb1.out.trans (hb2.mono hb1.out.size));obtain ⟨⟨hd1,hd2,hd3,hd4,hd5,hd6,hd7⟩,hd8,hd9⟩ := new_cells7 hb2.out)
   | (go_at_call 85;refine (hr1 _).mono ?_;rintro e w1 ⟨rfl,hb1⟩;obtain ⟨⟨hc1,hc2,hc3,hc4,hc5,hc6,hc7⟩,hc8,hc9⟩ := new_cells7 hb1;replace hb1 := Lib.hid hb1))
   all_goals (go_ret;rw [hL.out];exact ⟨rfl,lit_cells hb2.out⟩)
  | true =>
   by_cases hp : p.toList = []
   · by_cases h0 : l.length = 0
     · have hS := Lib.hid (hL.out.trans (by rw [decide_eq_true hp,decide_eq_true h0]));have h0' : ((l.length : Int) == 0) = true := by rw [beq_iff_eq];omega
       go_enter Tryd.func69,Tryd.ntmps69
       go_wp2_with (first
   | (go_at_call 85;have hg := hb1.out;clear hg;refine (hr2 _).mono ?_;rintro e w2 ⟨rfl,hb2⟩;replace hb2 := Lib.hid (hb1.out.trans (hb2.mono hb1.out.size));obtain ⟨⟨hd1,hd2,hd3,hd4,hd5,hd6,hd7⟩,hd8,hd9⟩ := new_cells7 hb2.out)
   | (go_at_call 85;refine (hr1 _).mono ?_;rintro e w1 ⟨rfl,hb1⟩;obtain ⟨⟨hc1,hc2,hc3,hc4,hc5,hc6,hc7⟩,hc8,hc9⟩ := new_cells7 hb1;replace hb1 := Lib.hid hb1))
       all_goals (go_ret;rw [hS.out];exact ⟨rfl,lit_cells hb2.out⟩)
     · have hS := Lib.hid (hL.out.trans (by rw [decide_eq_false h0,Bool.and_false]));have h0' : ((l.length : Int) == 0) = false := by rw [beq_eq_false_iff_ne];omega
       go_enter Tryd.func69,Tryd.ntmps69
       go_wp2_with (first
   | (go_at_call 85;have hg := hb1.out;clear hg;refine (hr2 _).mono ?_;rintro e w2 ⟨rfl,hb2⟩;replace hb2 := Lib.hid (hb1.out.trans (hb2.mono hb1.out.size));obtain ⟨⟨hd1,hd2,hd3,hd4,hd5,hd6,hd7⟩,hd8,hd9⟩ := new_cells7 hb2.out)
   | (go_at_call 85;refine (hr1 _).mono ?_;rintro e w1 ⟨rfl,hb1⟩;obtain ⟨⟨hc1,hc2,hc3,hc4,hc5,hc6,hc7⟩,hc8,hc9⟩ := new_cells7 hb1;replace hb1 := Lib.hid hb1))
       all_goals (go_ret;rw [hS.out];exact ⟨rfl,lit_cells hb2.out⟩)
   · have hS := Lib.hid (hL.out.trans (by rw [decide_eq_false hp,Bool.and_false,Bool.false_and]));go_enter Tryd.func69,Tryd.ntmps69
     go_wp2_with (first
   | (go_at_call 85;have hg := hb1.out;clear hg;refine (hr2 _).mono ?_;rintro e w2 ⟨rfl,hb2⟩;replace hb2 := Lib.hid (hb1.out.trans (hb2.mono hb1.out.size));obtain ⟨⟨hd1,hd2,hd3,hd4,hd5,hd6,hd7⟩,hd8,hd9⟩ := new_cells7 hb2.out)
   | (go_at_call 85;refine (hr1 _).mono ?_;rintro e w1 ⟨rfl,hb1⟩;obtain ⟨⟨hc1,hc2,hc3,hc4,hc5,hc6,hc7⟩,hc8,hc9⟩ := new_cells7 hb1;replace hb1 := Lib.hid hb1))
     all_goals (go_ret;rw [hS.out];exact ⟨rfl,lit_cells hb2.out⟩)
theorem rk_Literal_0 (k : Int) (p : ByteArray) (a : Option Addr) (l : List (Bool × ByteArray)) (cap : Nat) (lv rv : Bool) (lt rt : ByteArray) (w : World) (h1 : ¬ k = 1) (h2 : ¬ k = 2) (h3 : ¬ k = 3) :
    Calls Tryd.prog 69 #[.agg #[.int .i64 k,.string p,.slice a l.length cap,.bool lv,.string lt,.bool rv,.string rt]] w fun e w' => e = .returned (.bool (litOk ⟨k,p,l,(lv,lt),(rv,rt)⟩)) ∧ Below w.heap.size w w' := by
 have hS : Hid (litOk ⟨k,p,l,(lv,lt),(rv,rt)⟩ = false) := Lib.hid (by unfold litOk;rw [if_neg h3];dsimp only;rw [decide_eq_false h1,decide_eq_false h2];rfl);have k1 : (k == 1) = false := by rw [beq_eq_false_iff_ne];exact h1
 have k2 : (k == 2) = false := by rw [beq_eq_false_iff_ne];exact h2
 have k3 : (k == 3) = false := by rw [beq_eq_false_iff_ne];exact h3
 clear h1 h2 h3;go_enter Tryd.func69,Tryd.ntmps69;go_wp2_with fail
 all_goals (go_ret;rw [hS.out];exact ⟨rfl,((Below.refl _ _).al _).al _⟩)
theorem rk_Literal (x : Lit) (a : Option Addr) (cap : Nat) (w : World) (hp : x.p.size ≤ 1048576) (ht : Terms w a x.a) (hl : x.l.2.size ≤ 1048576) (hr : x.r.2.size ≤ 1048576) :
    Calls Tryd.prog 69 #[.agg (litV x a cap)] w fun e w' => e = .returned (.bool (litOk x)) ∧ Below w.heap.size w w' := by
 obtain ⟨k,p,l,⟨lv,lt⟩,⟨rv,rt⟩⟩ := x;unfold litV;dsimp only at hp ht hl hr ⊢
 by_cases h1 : k = 1
 · subst h1;exact rk_Literal_1 p a l cap lv rv lt rt w hp ht
 · by_cases h2 : k = 2
   · subst h2;exact rk_Literal_2 p a l cap lv rv lt rt w hp ht
   · by_cases h3 : k = 3
     · subst h3;exact rk_Literal_3 p a l cap lv rv lt rt w hl hr
     · exact rk_Literal_0 k p a l cap lv rv lt rt w h1 h2 h3
theorem one_cell {w w1 : World} {o : Obj} (hb : Below (w.alloc o).heap.size (w.alloc o) w1) : Below w.heap.size w w1 := ((Below.refl _ _).al _).trans (hb.mono (by rw [World.size_alloc];omega))
end Go.Proofs.YtclioihichcpiaaDoor
/- Print: a rule, in the document. -/
namespace Go.Proofs.YtclioihichcpiaaDoor
open Go.RowKit Go.Shelf Lx
theorem okL_take {l : List Lit} {k : Nat} (hlt : k < l.length) (h : okL (l.take k) = true) (hx : litOk l[k] = true) : okL (l.take (k + 1)) = true := by
 unfold okL at h ⊢;rw [List.take_succ_eq_append_getElem hlt,List.all_append,h];simp [hx]
theorem okL_not {l : List Lit} {k : Nat} (hlt : k < l.length) (hx : litOk l[k] = false) : okL l = false := by
 unfold okL;rw [List.all_eq_false];exact ⟨l[k],List.getElem_mem hlt,by simp [hx]⟩
/-- the room of a rule's own block -/
abbrev ruleB (h : ByteArray) (a : Option Addr) (l : List (Bool × ByteArray)) (cap : Nat) (ba : Option Addr) (b : List Lit) (bcap : Nat) : Obj := .cells #[.string h,.slice a l.length cap,.slice ba b.length bcap] 54
theorem rk_Rule (h : ByteArray) (a : Option Addr) (l : List (Bool × ByteArray)) (cap : Nat) (ba : Option Addr) (b : List Lit) (bcap : Nat) (w : World) (hh : h.size ≤ 1048576) (ht : Terms w a l) (hb : Lits w ba b) :
    Calls Tryd.prog 52 #[.agg #[.string h,.slice a l.length cap,.slice ba b.length bcap]] w fun e w' => e = .returned (.bool (ruleOk ⟨h,l,b⟩)) ∧ Below w.heap.size w w' := by
 have hk := fun w ht => rk_Atom h a l cap w hh ht
 cases ha : atomOk h l with
 | false =>
  have hS : Hid (ruleOk ⟨h,l,b⟩ = false) := Lib.hid (by unfold ruleOk;dsimp only;rw [ha,Bool.false_and,Bool.false_and]);rw [ha] at hk;go_enter Tryd.func52,Tryd.ntmps52
  go_wp2_with (go_at_call 68;refine (hk _ (ht.new _)).mono ?_;rintro e w1 ⟨rfl,hb1⟩;obtain ⟨hc1,hc2,hc3⟩ := new_cells3 hb1;replace hb1 := Lib.hid hb1)
  go_ret;rw [hS.out];exact ⟨rfl,one_cell hb1.out⟩
 | true =>
  rw [ha] at hk
  by_cases h256 : b.length ≤ 256
  · have hO : Hid (ruleOk ⟨h,l,b⟩ = okL b) := Lib.hid (by unfold ruleOk;dsimp only;rw [ha,decide_eq_true h256,Bool.and_true,Bool.true_and]);clear ha;go_enter Tryd.func52,Tryd.ntmps52
    go_wp2_with (go_at_call 68;refine (hk _ (ht.new _)).mono ?_;rintro e w1 ⟨rfl,hb1⟩;obtain ⟨hc1,hc2,hc3⟩ := new_cells3 hb1;replace hb1 := Lib.hid hb1)
    go_loopw [3] (fun i wr => ∃ (k : Nat),k ≤ b.length ∧ i = .int .i64 k ∧ Hid (okL (b.take k) = true) ∧ Hid (Below (w.alloc (ruleB h a l cap ba b bcap)).heap.size (w.alloc (ruleB h a l cap ba b bcap)) wr)) (fun i _ => b.length - (intOf i).toNat)
    case atStart => exact ⟨0,Nat.zero_le _,rfl,Lib.hid rfl,hb1⟩
    case round =>
     obtain ⟨k,hkk,rfl,hok,hbw⟩ := hrel;obtain ⟨hc4,hc5,hc6⟩ := new_cells3 hbw.out
     by_cases hlt : k < b.length
     · obtain ⟨q,ad,acap,rfl,hd1,hd2,hd3,hd4,hd5,hd6,hd7,hat⟩ := ((hb.new _).below hbw.out).cells k b[k] (List.getElem?_eq_getElem hlt);obtain ⟨hz1,hz2,hz3⟩ := hb.size b[k] (List.getElem_mem hlt);have hLk := rk_Literal b[k] ad acap;have hkT := fun w ht => hLk w hz1 ht hz2 hz3;clear hLk
       cases hx : litOk b[k] with
       | true =>
        rw [hx] at hkT;have hok' := Lib.hid (okL_take hlt hok.out hx);clear hx hok hz1 hz2 hz3;generalize b[k] = x at hd1 hd2 hd3 hd4 hd5 hd6 hd7 hat hkT;obtain ⟨xk,xp,xa,⟨xlv,xlt⟩,⟨xrv,xrt⟩⟩ := x;unfold litV at hkT;dsimp only at hd1 hd2 hd3 hd4 hd5 hd6 hd7 hat hkT
        go_wp2_with (go_at_call 69;refine (hkT _ hat).mono ?_;rintro e w2 ⟨rfl,hb2⟩;replace hb2 := Lib.hid (hbw.out.trans (hb2.mono hbw.out.size)))
        go_roundw
        case rel => exact ⟨k + 1,by omega,by go_num,hok',hb2⟩
        case measure => simp [intOf];omega
       | false =>
        rw [hx] at hkT;have hS := Lib.hid (hO.out.trans (okL_not hlt hx));clear hx hok hz1 hz2 hz3;generalize b[k] = x at hd1 hd2 hd3 hd4 hd5 hd6 hd7 hat hkT;obtain ⟨xk,xp,xa,⟨xlv,xlt⟩,⟨xrv,xrt⟩⟩ := x;unfold litV at hkT;dsimp only at hd1 hd2 hd3 hd4 hd5 hd6 hd7 hat hkT
        go_wp2_with (go_at_call 69;refine (hkT _ hat).mono ?_;rintro e w2 ⟨rfl,hb2⟩;replace hb2 := Lib.hid (hbw.out.trans (hb2.mono hbw.out.size)))
        go_ret;rw [hS.out];exact ⟨rfl,one_cell hb2.out⟩
     · have hke : k = b.length := by omega
       subst hke;rw [List.take_length] at hok;go_wp2_with fail;go_ret;rw [hO.out,hok.out];exact ⟨rfl,one_cell hbw.out⟩
  · have hS : Hid (ruleOk ⟨h,l,b⟩ = false) := Lib.hid (by unfold ruleOk;dsimp only;rw [decide_eq_false h256,Bool.and_false]);clear ha;go_enter Tryd.func52,Tryd.ntmps52
    go_wp2_with (go_at_call 68;refine (hk _ (ht.new _)).mono ?_;rintro e w1 ⟨rfl,hb1⟩;obtain ⟨hc1,hc2,hc3⟩ := new_cells3 hb1;replace hb1 := Lib.hid hb1)
    go_ret;rw [hS.out];exact ⟨rfl,one_cell hb1.out⟩
end Go.Proofs.YtclioihichcpiaaDoor
