/- Print: the document's comparisons of any two rows. -/
import Derived.Test.YtclioihichcpiaaDoorKtA
set_option maxHeartbeats 8000000
set_option maxRecDepth 100000
namespace Go.Proofs.YtclioihichcpiaaDoor
open Go.RowKit Lx
theorem neq_texts {a b : ByteArray} (h : a ≠ b) : ¬ a.toList = b.toList := fun e => h (by
  rw [ByteArray.toList_eq,ByteArray.toList_eq] at e;cases a;cases b;simp at e;rw [e])
theorem eq_lists {α : Type _} {l l' : List α} {k N : Nat} (hN : l.length = N) (hN2 : l'.length = N) (hk : k = N) (h : ∀ j,j < k → l[j]? = l'[j]?) : l = l' := by
 apply List.ext_getElem?
 intro j
 by_cases hj : j < k
 · exact h j hj
 · rw [List.getElem?_eq_none (by omega),List.getElem?_eq_none (by omega)]
theorem same_step {α : Type _} {l l' : List α} {k : Nat} {x : α} (h : ∀ j,j < k → l[j]? = l'[j]?) (h1 : l[k]? = some x) (h2 : l'[k]? = some x) : ∀ j,j < k + 1 → l[j]? = l'[j]? := by
 intro j hj
 by_cases hjk : j = k
 · rw [hjk,h1,h2]
 · exact h j (by omega)
theorem ne_at {α : Type _} {l l' : List α} {k : Nat} {x y : α} (h1 : l[k]? = some x) (h2 : l'[k]? = some y) (hxy : x ≠ y) : l ≠ l' := fun e => hxy (by rw [e,h2] at h1;injection h1 with h1;exact h1.symm)
theorem sr_terms (a a' : Option Addr) (l l' : List (Bool × ByteArray)) (cap cap' : Nat) (w : World) (h1 : RT w a l) (h2 : RT w a' l') :
    Calls Tryd.prog 75 #[.slice a l.length cap,.slice a' l'.length cap'] w fun e w' => e = .returned (.bool (decide (l = l'))) ∧ Below w.heap.size w w' := by
 have hlen := h1.len;have hlen2 := h2.len;obtain ⟨R,hR⟩ : ∃ R,decide (l = l') = R := ⟨_,rfl⟩;rw [hR]
 by_cases hne : l.length = l'.length
 · obtain ⟨N,hN⟩ : ∃ N,l.length = N := ⟨_,rfl⟩;have hN2 : l'.length = N := by omega
   rw [hN] at hlen ⊢;rw [hN2] at hlen2 ⊢;clear hne;replace hR := Lib.hid hR;have hNN := Lib.hid (And.intro hN hN2);clear hN2 hN;go_enter Tryd.func75,Tryd.ntmps75;go_wp2_with fail
   go_loopw [5] (fun i wr => ∃ (k : Nat),k ≤ N ∧ i = .int .i64 k ∧ Hid (Below w.heap.size w wr) ∧ Hid (∀ j,j < k → l[j]? = l'[j]?)) (fun i _ => N - (intOf i).toNat)
   case atStart => exact ⟨0,Nat.zero_le _,rfl,Lib.hid (Below.refl _ _),Lib.hid (fun j hj => absurd hj (Nat.not_lt_zero _))⟩
   case round =>
    obtain ⟨k,hk,rfl,hb,hsame⟩ := hrel
    by_cases hlt : k < N
    · obtain ⟨x,e1⟩ : ∃ x,l[k]? = some x := ⟨_,List.getElem?_eq_getElem (by rw [hNN.out.1];exact hlt)⟩;obtain ⟨y,e2⟩ : ∃ y,l'[k]? = some y := ⟨_,List.getElem?_eq_getElem (by rw [hNN.out.2];exact hlt)⟩;obtain ⟨p,rfl,hc1,hc2⟩ := (h1.below hb.out).cells k _ e1;obtain ⟨q,rfl,hd1,hd2⟩ := (h2.below hb.out).cells k _ e2;obtain ⟨xv,xs⟩ := x;obtain ⟨yv,ys⟩ := y
      replace e1 := Lib.hid e1;replace e2 := Lib.hid e2;dsimp only at hc1 hc2 hd1 hd2;have hq0 : (0 : Int) ≤ (k : Int) := Int.natCast_nonneg _;have hq1 : (k : Int) < (N : Int) := by omega
      by_cases hxy : xv = yv ∧ xs = ys
      · obtain ⟨rfl,rfl⟩ := hxy;go_wp2_with fail;go_quiet (fail);have hb2 := Lib.hid (hb.out.drewN nq);generalize wr.drewN nq = wq at hb2 ⊢;go_wp2_with fail;go_roundw
        case rel => exact ⟨k + 1,by omega,by go_num,hb2,Lib.hid (same_step hsame.out e1.out e2.out)⟩
        case measure => simp [intOf];omega
      · have hF : Hid (false = R) := Lib.hid (by rw [← hR.out];exact (decide_eq_false (ne_at e1.out e2.out (fun e => hxy (by injection e with e3 e4;exact ⟨e3,e4⟩)))).symm)
        by_cases hv : xv = yv
        · subst hv;have hs := neq_texts fun e : xs = ys => hxy ⟨rfl,e⟩;clear hxy;go_wp2_with fail;go_quiet (fail);have hb2 := Lib.hid (hb.out.drewN nq);generalize wr.drewN nq = wq at hb2 ⊢;go_wp2_with fail;go_ret;exact ⟨by rw [← hF.out];rfl,hb2.out⟩
        · have hv2 : (xv == yv) = false := by cases xv <;> cases yv <;> simp at hv ⊢
          clear hxy hv;go_wp2_with fail;go_quiet (fail);have hb2 := Lib.hid (hb.out.drewN nq);generalize wr.drewN nq = wq at hb2 ⊢;go_wp2_with fail;go_ret;exact ⟨by rw [← hF.out];rfl,hb2.out⟩
    · have hke : k = N := by omega
      have hT : Hid (true = R) := Lib.hid (by rw [← hR.out];exact (decide_eq_true (eq_lists hNN.out.1 hNN.out.2 hke hsame.out)).symm);subst hke;go_wp2_with fail;go_ret;exact ⟨by rw [← hT.out];rfl,hb.out⟩
 · have hF : Hid (false = R) := Lib.hid (by rw [← hR];exact (decide_eq_false (fun e => hne (by rw [e]))).symm);have hn2 : ((l.length : Int) != (l'.length : Int)) = true := by simp;omega
   go_enter Tryd.func75,Tryd.ntmps75;go_wp2_with fail;go_ret;exact ⟨by rw [← hF.out];rfl,Below.refl _ _⟩
end Go.Proofs.YtclioihichcpiaaDoor
/- Print: the document's comparisons of any two atoms, literals, bodies, rules. (gen_phd.py) -/
namespace Go.Proofs.YtclioihichcpiaaDoor
open Go.RowKit Lx
theorem k_second (w : World) (o1 o2 : Obj) : ((w.alloc o1).alloc o2).heap[w.heap.size + 1]? = some o2 := by
 have := heap_alloc_new (w.alloc o1) o2;rw [World.size_alloc] at this;exact this
theorem k_cells {w w1 : World} {o o2 : Obj} (hb : Below ((w.alloc o).alloc o2).heap.size ((w.alloc o).alloc o2) w1) : Below w.heap.size w w1 := (((Below.refl _ _).al _).al _).trans (hb.mono (by rw [World.size_alloc,World.size_alloc];omega))
theorem k_two {w w1 : World} {o o2 : Obj} (hb : Below ((w.alloc o).alloc o2).heap.size ((w.alloc o).alloc o2) w1) : Below w.heap.size w w1 ∧ w1.heap[w.heap.size]? = some o ∧ w1.heap[w.heap.size + 1]? = some o2 := by
 refine ⟨k_cells hb,(hb.block _ (by rw [World.size_alloc,World.size_alloc];omega)).trans (by rw [heap_alloc_old];exact heap_alloc_new _ _;rw [World.size_alloc];omega),(hb.block _ (by rw [World.size_alloc,World.size_alloc];omega)).trans (k_second _ _ _)⟩
/-- a literal's cells -/
abbrev litQ (x : PLit) (a : Option Addr) (c : Nat) : Array Value := #[.int .i64 x.k,.string x.p,.slice a x.a.length c,.bool x.l.1,.string x.l.2,.bool x.r.1,.string x.r.2]
theorem k_fourteen {w w1 : World} {x y : PLit} {a a' : Option Addr} {c c' : Nat} {t : TypeId} (hb : Below ((w.alloc (.cells (litQ x a c) t)).alloc (.cells (litQ y a' c') t)).heap.size ((w.alloc (.cells (litQ x a c) t)).alloc (.cells (litQ y a' c') t)) w1) :
    (w1.cell? ⟨w.heap.size,3,none⟩ = some (.bool x.l.1) ∧ w1.cell? ⟨w.heap.size,4,none⟩ = some (.string x.l.2) ∧ w1.cell? ⟨w.heap.size,5,none⟩ = some (.bool x.r.1) ∧ w1.cell? ⟨w.heap.size,6,none⟩ = some (.string x.r.2)) ∧ (w1.cell? ⟨w.heap.size + 1,3,none⟩ = some (.bool y.l.1) ∧ w1.cell? ⟨w.heap.size + 1,4,none⟩ = some (.string y.l.2) ∧ w1.cell? ⟨w.heap.size + 1,5,none⟩ = some (.bool y.r.1) ∧ w1.cell? ⟨w.heap.size + 1,6,none⟩ = some (.string y.r.2)) := by
 obtain ⟨_,h1,h2⟩ := k_two hb;exact ⟨⟨by simp [World.cell?,h1],by simp [World.cell?,h1],by simp [World.cell?,h1],by simp [World.cell?,h1]⟩,by simp [World.cell?,h2],by simp [World.cell?,h2],by simp [World.cell?,h2],by simp [World.cell?,h2]⟩
noncomputable instance : DecidableEq PLit := fun _ _ => Classical.propDecidable _
noncomputable instance : DecidableEq PRule := fun _ _ => Classical.propDecidable _
theorem bool_ne {a b : Bool} (h : ¬ a = b) : (a == b) = false := by cases a <;> cases b <;> simp at h ⊢
theorem sr_atom (p p' : ByteArray) (a a' : Option Addr) (l l' : List (Bool × ByteArray)) (cap cap' : Nat) (w : World) (h1 : RT w a l) (h2 : RT w a' l') :
    Calls Tryd.prog 58 #[.agg #[.string p,.slice a l.length cap],.agg #[.string p',.slice a' l'.length cap']] w fun e w' => e = .returned (.bool (decide (p = p' ∧ l = l'))) ∧ Below w.heap.size w w' := by
 have hs := fun w h1 h2 => sr_terms a a' l l' cap cap' w h1 h2
 by_cases hp : p = p'
 · subst hp
   by_cases hl : l = l'
   · subst hl;rw [decide_eq_true rfl] at hs;rw [decide_eq_true ⟨rfl,rfl⟩];go_enter Tryd.func58,Tryd.ntmps58
     go_wp2_with (go_at_call 75;refine (hs _ ((h1.new _).new _) ((h2.new _).new _)).mono ?_;rintro e w1 ⟨rfl,hb1⟩;replace hb1 := Lib.hid hb1)
     go_ret;exact ⟨rfl,k_cells hb1.out⟩
   · rw [decide_eq_false hl] at hs;rw [decide_eq_false (fun h => hl h.2)];clear hl;go_enter Tryd.func58,Tryd.ntmps58
     go_wp2_with (go_at_call 75;refine (hs _ ((h1.new _).new _) ((h2.new _).new _)).mono ?_;rintro e w1 ⟨rfl,hb1⟩;replace hb1 := Lib.hid hb1)
     go_ret;exact ⟨rfl,k_cells hb1.out⟩
 · have hn := neq_texts hp;rw [decide_eq_false (fun h => hp h.1)];clear hp hs;go_enter Tryd.func58,Tryd.ntmps58;go_wp2_with fail;go_ret;exact ⟨rfl,k_cells (Below.refl _ _)⟩
theorem plit_ne {x y : PLit} (h : x ≠ y) : x.k ≠ y.k ∨ (x.k = y.k ∧ ¬ (x.p = y.p ∧ x.a = y.a)) ∨ (x.k = y.k ∧ x.p = y.p ∧ x.a = y.a ∧ x.l ≠ y.l) ∨ (x.k = y.k ∧ x.p = y.p ∧ x.a = y.a ∧ x.l = y.l ∧ x.r ≠ y.r) := by
 by_cases h1 : x.k = y.k
 · by_cases h2 : x.p = y.p ∧ x.a = y.a
   · by_cases h3 : x.l = y.l
     · refine .inr (.inr (.inr ⟨h1,h2.1,h2.2,h3,fun h4 => h ?_⟩));cases x;cases y;simp at h1 h2 h3 h4;simp [h1,h2,h3,h4]
     · exact .inr (.inr (.inl ⟨h1,h2.1,h2.2,h3⟩))
   · exact .inr (.inl ⟨h1,h2⟩)
 · exact .inl h1
theorem sr_lit1 (x y : PLit) (a a' : Option Addr) (cap cap' : Nat) (w : World) (h1 : RT w a x.a) (h2 : RT w a' y.a) (hne : x.k ≠ y.k) :
    Calls Tryd.prog 76 #[.agg (litQ x a cap),.agg (litQ y a' cap')] w fun e w' => e = .returned (.bool false) ∧ Below w.heap.size w w' := by
 have hs := fun w h1 h2 => sr_atom x.p y.p a a' x.a y.a cap cap' w h1 h2;have hcc := fun (w1 : World) => @k_fourteen w w1 x y a a' cap cap' 79;obtain ⟨k,p,l,⟨lv,lt⟩,⟨rv,rt⟩⟩ := x;obtain ⟨k',p',l',⟨lv',lt'⟩,⟨rv',rt'⟩⟩ := y;unfold litQ at hcc ⊢;dsimp only at h1 h2 hs hcc hne ⊢;replace hcc := Lib.hid hcc;have hk : (k == k') = false := by simpa using hne
 clear hne hs hcc;go_enter Tryd.func76,Tryd.ntmps76;go_wp2_with fail;go_ret;exact ⟨rfl,k_cells (Below.refl _ _)⟩
theorem sr_lit2 (x y : PLit) (a a' : Option Addr) (cap cap' : Nat) (w : World) (h1 : RT w a x.a) (h2 : RT w a' y.a) (hne : x.k = y.k ∧ ¬ (x.p = y.p ∧ x.a = y.a)) :
    Calls Tryd.prog 76 #[.agg (litQ x a cap),.agg (litQ y a' cap')] w fun e w' => e = .returned (.bool false) ∧ Below w.heap.size w w' := by
 have hs := fun w h1 h2 => sr_atom x.p y.p a a' x.a y.a cap cap' w h1 h2;have hcc := fun (w1 : World) => @k_fourteen w w1 x y a a' cap cap' 79;obtain ⟨k,p,l,⟨lv,lt⟩,⟨rv,rt⟩⟩ := x;obtain ⟨k',p',l',⟨lv',lt'⟩,⟨rv',rt'⟩⟩ := y;unfold litQ at hcc ⊢;dsimp only at h1 h2 hs hcc hne ⊢;obtain ⟨rfl,hq⟩ := hne;rw [decide_eq_false hq] at hs;clear hq;replace hcc := Lib.hid hcc
 go_enter Tryd.func76,Tryd.ntmps76
 go_wp2_with (go_at_call 58;refine (hs _ ((h1.new _).new _) ((h2.new _).new _)).mono ?_;rintro e w1 ⟨rfl,hb1⟩;obtain ⟨⟨c1,c2,c3,c4⟩,d1,d2,d3,d4⟩ := hcc.out w1 hb1;replace hb1 := Lib.hid hb1)
 go_ret;exact ⟨rfl,k_cells hb1.out⟩
theorem sr_lit3a (x y : PLit) (a a' : Option Addr) (cap cap' : Nat) (w : World) (h1 : RT w a x.a) (h2 : RT w a' y.a) (hne : x.k = y.k ∧ x.p = y.p ∧ x.a = y.a ∧ x.l.1 ≠ y.l.1) :
    Calls Tryd.prog 76 #[.agg (litQ x a cap),.agg (litQ y a' cap')] w fun e w' => e = .returned (.bool false) ∧ Below w.heap.size w w' := by
 have hs := fun w h1 h2 => sr_atom x.p y.p a a' x.a y.a cap cap' w h1 h2;have hcc := fun (w1 : World) => @k_fourteen w w1 x y a a' cap cap' 79;obtain ⟨k,p,l,⟨lv,lt⟩,⟨rv,rt⟩⟩ := x;obtain ⟨k',p',l',⟨lv',lt'⟩,⟨rv',rt'⟩⟩ := y;unfold litQ at hcc ⊢;dsimp only at h1 h2 hs hcc hne ⊢;obtain ⟨rfl,rfl,rfl,hq⟩ := hne;rw [decide_eq_true ⟨rfl,rfl⟩] at hs;have hq2 := bool_ne hq;clear hq
 replace hcc := Lib.hid hcc;go_enter Tryd.func76,Tryd.ntmps76
 go_wp2_with (go_at_call 58;refine (hs _ ((h1.new _).new _) ((h2.new _).new _)).mono ?_;rintro e w1 ⟨rfl,hb1⟩;obtain ⟨⟨c1,c2,c3,c4⟩,d1,d2,d3,d4⟩ := hcc.out w1 hb1;replace hb1 := Lib.hid hb1)
 go_ret;exact ⟨rfl,k_cells hb1.out⟩
theorem sr_lit3b (x y : PLit) (a a' : Option Addr) (cap cap' : Nat) (w : World) (h1 : RT w a x.a) (h2 : RT w a' y.a) (hne : x.k = y.k ∧ x.p = y.p ∧ x.a = y.a ∧ x.l.1 = y.l.1 ∧ x.l.2 ≠ y.l.2) :
    Calls Tryd.prog 76 #[.agg (litQ x a cap),.agg (litQ y a' cap')] w fun e w' => e = .returned (.bool false) ∧ Below w.heap.size w w' := by
 have hs := fun w h1 h2 => sr_atom x.p y.p a a' x.a y.a cap cap' w h1 h2;have hcc := fun (w1 : World) => @k_fourteen w w1 x y a a' cap cap' 79;obtain ⟨k,p,l,⟨lv,lt⟩,⟨rv,rt⟩⟩ := x;obtain ⟨k',p',l',⟨lv',lt'⟩,⟨rv',rt'⟩⟩ := y;unfold litQ at hcc ⊢;dsimp only at h1 h2 hs hcc hne ⊢;obtain ⟨rfl,rfl,rfl,rfl,hq⟩ := hne;rw [decide_eq_true ⟨rfl,rfl⟩] at hs;have hq2 := neq_texts hq
 clear hq;replace hcc := Lib.hid hcc;go_enter Tryd.func76,Tryd.ntmps76
 go_wp2_with (go_at_call 58;refine (hs _ ((h1.new _).new _) ((h2.new _).new _)).mono ?_;rintro e w1 ⟨rfl,hb1⟩;obtain ⟨⟨c1,c2,c3,c4⟩,d1,d2,d3,d4⟩ := hcc.out w1 hb1;replace hb1 := Lib.hid hb1)
 go_ret;exact ⟨rfl,k_cells hb1.out⟩
theorem sr_lit4a (x y : PLit) (a a' : Option Addr) (cap cap' : Nat) (w : World) (h1 : RT w a x.a) (h2 : RT w a' y.a) (hne : x.k = y.k ∧ x.p = y.p ∧ x.a = y.a ∧ x.l = y.l ∧ x.r.1 ≠ y.r.1) :
    Calls Tryd.prog 76 #[.agg (litQ x a cap),.agg (litQ y a' cap')] w fun e w' => e = .returned (.bool false) ∧ Below w.heap.size w w' := by
 have hs := fun w h1 h2 => sr_atom x.p y.p a a' x.a y.a cap cap' w h1 h2;have hcc := fun (w1 : World) => @k_fourteen w w1 x y a a' cap cap' 79;obtain ⟨k,p,l,⟨lv,lt⟩,⟨rv,rt⟩⟩ := x;obtain ⟨k',p',l',⟨lv',lt'⟩,⟨rv',rt'⟩⟩ := y;unfold litQ at hcc ⊢;dsimp only at h1 h2 hs hcc hne ⊢;obtain ⟨rfl,rfl,rfl,hl,hq⟩ := hne;injection hl with hl1 hl2;subst hl1 hl2
 rw [decide_eq_true ⟨rfl,rfl⟩] at hs;have hq2 := bool_ne hq;clear hq;replace hcc := Lib.hid hcc;go_enter Tryd.func76,Tryd.ntmps76
 go_wp2_with (go_at_call 58;refine (hs _ ((h1.new _).new _) ((h2.new _).new _)).mono ?_;rintro e w1 ⟨rfl,hb1⟩;obtain ⟨⟨c1,c2,c3,c4⟩,d1,d2,d3,d4⟩ := hcc.out w1 hb1;replace hb1 := Lib.hid hb1)
 go_ret;exact ⟨rfl,k_cells hb1.out⟩
theorem sr_lit4b (x y : PLit) (a a' : Option Addr) (cap cap' : Nat) (w : World) (h1 : RT w a x.a) (h2 : RT w a' y.a) (hne : x.k = y.k ∧ x.p = y.p ∧ x.a = y.a ∧ x.l = y.l ∧ x.r.1 = y.r.1 ∧ x.r.2 ≠ y.r.2) :
    Calls Tryd.prog 76 #[.agg (litQ x a cap),.agg (litQ y a' cap')] w fun e w' => e = .returned (.bool false) ∧ Below w.heap.size w w' := by
 have hs := fun w h1 h2 => sr_atom x.p y.p a a' x.a y.a cap cap' w h1 h2;have hcc := fun (w1 : World) => @k_fourteen w w1 x y a a' cap cap' 79;obtain ⟨k,p,l,⟨lv,lt⟩,⟨rv,rt⟩⟩ := x;obtain ⟨k',p',l',⟨lv',lt'⟩,⟨rv',rt'⟩⟩ := y;unfold litQ at hcc ⊢;dsimp only at h1 h2 hs hcc hne ⊢;obtain ⟨rfl,rfl,rfl,hl,rfl,hq⟩ := hne;injection hl with hl1 hl2;subst hl1 hl2
 rw [decide_eq_true ⟨rfl,rfl⟩] at hs;have hq2 := neq_texts hq;clear hq;replace hcc := Lib.hid hcc;go_enter Tryd.func76,Tryd.ntmps76
 go_wp2_with (go_at_call 58;refine (hs _ ((h1.new _).new _) ((h2.new _).new _)).mono ?_;rintro e w1 ⟨rfl,hb1⟩;obtain ⟨⟨c1,c2,c3,c4⟩,d1,d2,d3,d4⟩ := hcc.out w1 hb1;replace hb1 := Lib.hid hb1)
 go_ret;exact ⟨rfl,k_cells hb1.out⟩
theorem sr_lit5 (x y : PLit) (a a' : Option Addr) (cap cap' : Nat) (w : World) (h1 : RT w a x.a) (h2 : RT w a' y.a) (hne : x = y) :
    Calls Tryd.prog 76 #[.agg (litQ x a cap),.agg (litQ y a' cap')] w fun e w' => e = .returned (.bool true) ∧ Below w.heap.size w w' := by
 have hs := fun w h1 h2 => sr_atom x.p y.p a a' x.a y.a cap cap' w h1 h2;have hcc := fun (w1 : World) => @k_fourteen w w1 x y a a' cap cap' 79;obtain ⟨k,p,l,⟨lv,lt⟩,⟨rv,rt⟩⟩ := x;obtain ⟨k',p',l',⟨lv',lt'⟩,⟨rv',rt'⟩⟩ := y;unfold litQ at hcc ⊢;dsimp only at h1 h2 hs hcc hne ⊢;injection hne with e1 e2 e3 e4 e5;injection e4 with e6 e7;injection e5 with e8 e9
 subst e1 e2 e3 e6 e7 e8 e9;rw [decide_eq_true ⟨rfl,rfl⟩] at hs;replace hcc := Lib.hid hcc;go_enter Tryd.func76,Tryd.ntmps76
 go_wp2_with (go_at_call 58;refine (hs _ ((h1.new _).new _) ((h2.new _).new _)).mono ?_;rintro e w1 ⟨rfl,hb1⟩;obtain ⟨⟨c1,c2,c3,c4⟩,d1,d2,d3,d4⟩ := hcc.out w1 hb1;replace hb1 := Lib.hid hb1)
 go_ret;exact ⟨rfl,k_cells hb1.out⟩
theorem sr_lit (x y : PLit) (a a' : Option Addr) (cap cap' : Nat) (w : World) (h1 : RT w a x.a) (h2 : RT w a' y.a) :
    Calls Tryd.prog 76 #[.agg (litQ x a cap),.agg (litQ y a' cap')] w fun e w' => e = .returned (.bool (decide (x = y))) ∧ Below w.heap.size w w' := by
 by_cases h : x = y
 · rw [decide_eq_true h];exact sr_lit5 x y a a' cap cap' w h1 h2 h
 · rw [decide_eq_false h]
   have pair : ∀ {u v : Bool × ByteArray},u ≠ v → u.1 ≠ v.1 ∨ (u.1 = v.1 ∧ u.2 ≠ v.2) := fun {u v} h => by
    obtain ⟨u1,u2⟩ := u;obtain ⟨v1,v2⟩ := v
    by_cases e : u1 = v1
    · exact .inr ⟨e,fun e2 => h (by dsimp only at e2;rw [e,e2])⟩
    · exact .inl e
   rcases plit_ne h with q | q | ⟨q1,q2,q3,q⟩ | ⟨q1,q2,q3,q4,q⟩
   · exact sr_lit1 x y a a' cap cap' w h1 h2 q
   · exact sr_lit2 x y a a' cap cap' w h1 h2 q
   · rcases pair q with q | q
     · exact sr_lit3a x y a a' cap cap' w h1 h2 ⟨q1,q2,q3,q⟩
     · exact sr_lit3b x y a a' cap cap' w h1 h2 ⟨q1,q2,q3,q⟩
   · rcases pair q with q | q
     · exact sr_lit4a x y a a' cap cap' w h1 h2 ⟨q1,q2,q3,q4,q⟩
     · exact sr_lit4b x y a a' cap cap' w h1 h2 ⟨q1,q2,q3,q4,q⟩
theorem sr_body (a a' : Option Addr) (l l' : List PLit) (cap cap' : Nat) (w : World) (h1 : RL w a l) (h2 : RL w a' l') :
    Calls Tryd.prog 59 #[.slice a l.length cap,.slice a' l'.length cap'] w fun e w' => e = .returned (.bool (decide (l = l'))) ∧ Below w.heap.size w w' := by
 have hlen := h1.len;have hlen2 := h2.len;obtain ⟨R,hR⟩ : ∃ R,decide (l = l') = R := ⟨_,rfl⟩;rw [hR]
 by_cases hne : l.length = l'.length
 · obtain ⟨N, hN⟩ : ∃ N,l.length = N := ⟨_,rfl⟩;have hN2 : l'.length = N := by omega
   rw [hN] at hlen ⊢;rw [hN2] at hlen2 ⊢;clear hne;replace hR := Lib.hid hR;have hNN := Lib.hid (And.intro hN hN2);clear hN2 hN;go_enter Tryd.func59,Tryd.ntmps59;go_wp2_with fail
   go_loopw [5,6] (fun i _ wr => ∃ (k : Nat),k ≤ N ∧ i = .int .i64 k ∧ Hid (Below w.heap.size w wr) ∧ Hid (∀ j,j < k → l[j]? = l'[j]?)) (fun i _ _ => N - (intOf i).toNat)
   case atStart => exact ⟨0,Nat.zero_le _,rfl,Lib.hid (Below.refl _ _),Lib.hid (fun j hj => absurd hj (Nat.not_lt_zero _))⟩
   case round =>
    obtain ⟨k,hk,rfl,hbw,hsame⟩ := hrel
    by_cases hlt : k < N
    · obtain ⟨x,e1⟩ : ∃ x,l[k]? = some x := ⟨_,List.getElem?_eq_getElem (by rw [hNN.out.1];exact hlt)⟩;obtain ⟨y,e2⟩ : ∃ y,l'[k]? = some y := ⟨_,List.getElem?_eq_getElem (by rw [hNN.out.2];exact hlt)⟩;obtain ⟨q,ad,adc,rfl,hd1,hd2,hd3,hd4,hd5,hd6,hd7,hat⟩ := h1.cells k _ e1;obtain ⟨q2,ad2,ad2c,rfl,he1,he2,he3,he4,he5,he6,he7,hat2⟩ := h2.cells k _ e2
      have hsl := sr_lit x y ad ad2 adc ad2c;obtain ⟨xk,xp,xa,⟨xlv,xlt⟩,⟨xrv,xrt⟩⟩ := x;obtain ⟨yk,yp,ya,⟨ylv,ylt⟩,⟨yrv,yrt⟩⟩ := y;unfold litQ at hsl;dsimp only at hd1 hd2 hd3 hd4 hd5 hd6 hd7 hat he1 he2 he3 he4 he5 he6 he7 hat2 hsl
      have hkeep : ∀ w',Below w.heap.size w w' → w'.cell? (q.add (k * 7)) = some (.int .i64 xk) ∧ w'.cell? ⟨(q.add (k * 7)).block,(q.add (k * 7)).off + 1,none⟩ = some (.string xp) ∧ w'.cell? ⟨(q.add (k * 7)).block,(q.add (k * 7)).off + 2,none⟩ = some (.slice ad xa.length adc) ∧ w'.cell? ⟨(q.add (k * 7)).block,(q.add (k * 7)).off + 3,none⟩ = some (.bool xlv) ∧ w'.cell? ⟨(q.add (k * 7)).block,(q.add (k * 7)).off + 4,none⟩ = some (.string xlt) ∧ w'.cell? ⟨(q.add (k * 7)).block,(q.add (k * 7)).off + 5,none⟩ = some (.bool xrv) ∧ w'.cell? ⟨(q.add (k * 7)).block,(q.add (k * 7)).off + 6,none⟩ = some (.string xrt) ∧ w'.cell? (q2.add (k * 7)) = some (.int .i64 yk) ∧ w'.cell? ⟨(q2.add (k * 7)).block,(q2.add (k * 7)).off + 1,none⟩ = some (.string yp) ∧ w'.cell? ⟨(q2.add (k * 7)).block,(q2.add (k * 7)).off + 2,none⟩ = some (.slice ad2 ya.length ad2c) ∧ w'.cell? ⟨(q2.add (k * 7)).block,(q2.add (k * 7)).off + 3,none⟩ = some (.bool ylv) ∧ w'.cell? ⟨(q2.add (k * 7)).block,(q2.add (k * 7)).off + 4,none⟩ = some (.string ylt) ∧ w'.cell? ⟨(q2.add (k * 7)).block,(q2.add (k * 7)).off + 5,none⟩ = some (.bool yrv) ∧ w'.cell? ⟨(q2.add (k * 7)).block,(q2.add (k * 7)).off + 6,none⟩ = some (.string yrt) := fun w' hb =>
       ⟨cell_below hb rfl hd1,cell_below hb rfl hd2,cell_below hb rfl hd3,cell_below hb rfl hd4,cell_below hb rfl hd5,cell_below hb rfl hd6,cell_below hb rfl hd7,cell_below hb rfl he1,cell_below hb rfl he2,cell_below hb rfl he3,cell_below hb rfl he4,cell_below hb rfl he5,cell_below hb rfl he6,cell_below hb rfl he7⟩
      have hk14 := hkeep wr hbw.out;replace hkeep := Lib.hid hkeep;clear hd1 hd2 hd3 hd4 hd5 hd6 hd7 he1 he2 he3 he4 he5 he6 he7;obtain ⟨c1,c2,c3,c4,c5,c6,c7,c8,c9,c10,c11,c12,c13,c14⟩ := hk14;replace hat := Lib.hid hat;replace hat2 := Lib.hid hat2;replace e1 := Lib.hid e1;replace e2 := Lib.hid e2;have hq0 : (0 : Int) ≤ (k : Int) := Int.natCast_nonneg _
      have hq1 : (k : Int) < (N : Int) := by omega
      by_cases hxy : (⟨xk,xp,xa,(xlv,xlt),(xrv,xrt)⟩ : PLit) = ⟨yk,yp,ya,(ylv,ylt),(yrv,yrt)⟩
      · rw [decide_eq_true hxy] at hsl;rw [← hxy] at e2;clear hxy;go_wp2_with fail
        go_region_held3 (fun w' => w'.cell? (q.add (k * 7)) = some (.int .i64 xk) ∧ w'.cell? ⟨(q.add (k * 7)).block,(q.add (k * 7)).off + 1,none⟩ = some (.string xp) ∧ w'.cell? ⟨(q.add (k * 7)).block,(q.add (k * 7)).off + 2,none⟩ = some (.slice ad xa.length adc) ∧ w'.cell? ⟨(q.add (k * 7)).block,(q.add (k * 7)).off + 3,none⟩ = some (.bool xlv) ∧ w'.cell? ⟨(q.add (k * 7)).block,(q.add (k * 7)).off + 4,none⟩ = some (.string xlt) ∧ w'.cell? ⟨(q.add (k * 7)).block,(q.add (k * 7)).off + 5,none⟩ = some (.bool xrv) ∧ w'.cell? ⟨(q.add (k * 7)).block,(q.add (k * 7)).off + 6,none⟩ = some (.string xrt) ∧ w'.cell? (q2.add (k * 7)) = some (.int .i64 yk) ∧ w'.cell? ⟨(q2.add (k * 7)).block,(q2.add (k * 7)).off + 1,none⟩ = some (.string yp) ∧ w'.cell? ⟨(q2.add (k * 7)).block,(q2.add (k * 7)).off + 2,none⟩ = some (.slice ad2 ya.length ad2c) ∧ w'.cell? ⟨(q2.add (k * 7)).block,(q2.add (k * 7)).off + 3,none⟩ = some (.bool ylv) ∧ w'.cell? ⟨(q2.add (k * 7)).block,(q2.add (k * 7)).off + 4,none⟩ = some (.string ylt) ∧ w'.cell? ⟨(q2.add (k * 7)).block,(q2.add (k * 7)).off + 5,none⟩ = some (.bool yrv) ∧ w'.cell? ⟨(q2.add (k * 7)).block,(q2.add (k * 7)).off + 6,none⟩ = some (.string yrt))
          (first
            | exact hkeep.out _ hbw.out.drew
            | exact hkeep.out _ hb2.out)
          (first
            | (go_at_call 76;refine (hsl _ (hat.out.below hbw.out.drew) (hat2.out.below hbw.out.drew)).mono ?_;rintro e w2 ⟨rfl,hb20⟩
               have hb2 := Lib.hid (hbw.out.drew.trans (hb20.mono (Below.size hbw.out.drew)));clear hb20))
        go_wp2_with fail;go_roundw
        case rel => exact ⟨k + 1,by omega,by go_num,hb2,Lib.hid (same_step hsame.out e1.out e2.out)⟩
        case measure => simp [intOf];omega
      · rw [decide_eq_false hxy] at hsl;have hF : Hid (false = R) := Lib.hid (by rw [← hR.out];exact (decide_eq_false (ne_at e1.out e2.out hxy)).symm);clear hxy;go_wp2_with fail
        go_region_held3 (fun w' => w'.cell? (q.add (k * 7)) = some (.int .i64 xk) ∧ w'.cell? ⟨(q.add (k * 7)).block,(q.add (k * 7)).off + 1,none⟩ = some (.string xp) ∧ w'.cell? ⟨(q.add (k * 7)).block,(q.add (k * 7)).off + 2,none⟩ = some (.slice ad xa.length adc) ∧ w'.cell? ⟨(q.add (k * 7)).block,(q.add (k * 7)).off + 3,none⟩ = some (.bool xlv) ∧ w'.cell? ⟨(q.add (k * 7)).block,(q.add (k * 7)).off + 4,none⟩ = some (.string xlt) ∧ w'.cell? ⟨(q.add (k * 7)).block,(q.add (k * 7)).off + 5,none⟩ = some (.bool xrv) ∧ w'.cell? ⟨(q.add (k * 7)).block,(q.add (k * 7)).off + 6,none⟩ = some (.string xrt) ∧ w'.cell? (q2.add (k * 7)) = some (.int .i64 yk) ∧ w'.cell? ⟨(q2.add (k * 7)).block,(q2.add (k * 7)).off + 1,none⟩ = some (.string yp) ∧ w'.cell? ⟨(q2.add (k * 7)).block,(q2.add (k * 7)).off + 2,none⟩ = some (.slice ad2 ya.length ad2c) ∧ w'.cell? ⟨(q2.add (k * 7)).block,(q2.add (k * 7)).off + 3,none⟩ = some (.bool ylv) ∧ w'.cell? ⟨(q2.add (k * 7)).block,(q2.add (k * 7)).off + 4,none⟩ = some (.string ylt) ∧ w'.cell? ⟨(q2.add (k * 7)).block,(q2.add (k * 7)).off + 5,none⟩ = some (.bool yrv) ∧ w'.cell? ⟨(q2.add (k * 7)).block,(q2.add (k * 7)).off + 6,none⟩ = some (.string yrt))
          (first
            | exact hkeep.out _ hbw.out.drew
            | exact hkeep.out _ hb2.out)
          (first
            | (go_at_call 76;refine (hsl _ (hat.out.below hbw.out.drew) (hat2.out.below hbw.out.drew)).mono ?_;rintro e w2 ⟨rfl,hb20⟩
               have hb2 := Lib.hid (hbw.out.drew.trans (hb20.mono (Below.size hbw.out.drew)));clear hb20))
        go_wp2_with fail;go_ret;exact ⟨by rw [← hF.out];rfl,hb2.out⟩
    · have hke : k = N := by omega
      have hT : Hid (true = R) := Lib.hid (by rw [← hR.out];exact (decide_eq_true (eq_lists hNN.out.1 hNN.out.2 hke hsame.out)).symm);subst hke;go_wp2_with fail;go_ret;exact ⟨by rw [← hT.out];rfl,hbw.out⟩
 · have hF : Hid (false = R) := Lib.hid (by rw [← hR];exact (decide_eq_false (fun e => hne (by rw [e]))).symm);have hn2 : ((l.length : Int) != (l'.length : Int)) = true := by simp;omega
   go_enter Tryd.func59,Tryd.ntmps59;go_wp2_with fail;go_ret;exact ⟨by rw [← hF.out];rfl,Below.refl _ _⟩
theorem k_rows {w w1 : World} {a b c x y z : Value} {t u : TypeId} (hb : Below ((w.alloc (.cells #[a,b,c] t)).alloc (.cells #[x,y,z] u)).heap.size ((w.alloc (.cells #[a,b,c] t)).alloc (.cells #[x,y,z] u)) w1) :
    (w1.cell? ⟨w.heap.size,0,none⟩ = some a ∧ w1.cell? ⟨w.heap.size,1,none⟩ = some b ∧ w1.cell? ⟨w.heap.size,2,none⟩ = some c) ∧ w1.cell? ⟨w.heap.size + 1,0,none⟩ = some x ∧ w1.cell? ⟨w.heap.size + 1,1,none⟩ = some y ∧ w1.cell? ⟨w.heap.size + 1,2,none⟩ = some z := by
 obtain ⟨_,h1,h2⟩ := k_two hb;exact ⟨⟨by simp [World.cell?,h1],by simp [World.cell?,h1],by simp [World.cell?,h1]⟩,by simp [World.cell?,h2],by simp [World.cell?,h2],by simp [World.cell?,h2]⟩
theorem sr_rule (x y : PRule) (a a' ba ba' : Option Addr) (cap cap' bc bc2 : Nat) (w : World) (h1 : RT w a x.a) (h2 : RT w a' y.a) (h3 : RL w ba x.b) (h4 : RL w ba' y.b) :
    Calls Tryd.prog 35 #[.agg #[.string x.p,.slice a x.a.length cap,.slice ba x.b.length bc],.agg #[.string y.p,.slice a' y.a.length cap',.slice ba' y.b.length bc2]] w fun e w' => e = .returned (.bool (decide (x = y))) ∧ Below w.heap.size w w' := by
 have hs := fun w h1 h2 => sr_atom x.p y.p a a' x.a y.a cap cap' w h1 h2;have ht := fun w h1 h2 => sr_body ba ba' x.b y.b bc bc2 w h1 h2;obtain ⟨p,l,b⟩ := x;obtain ⟨p',l',b'⟩ := y;dsimp only at h1 h2 h3 h4 hs ht ⊢
 by_cases hA : p = p' ∧ l = l'
 · rw [decide_eq_true hA] at hs
   by_cases hb : b = b'
   · rw [decide_eq_true hb] at ht;rw [decide_eq_true (show (⟨p,l,b⟩ : PRule) = ⟨p',l',b'⟩ by rw [hA.1,hA.2,hb])];clear hA hb;go_enter Tryd.func35,Tryd.ntmps35
     go_wp2_with (first | (go_at_call 59;refine (ht _ (h3.below hB.out) (h4.below hB.out)).mono ?_;rintro e w2 ⟨rfl,hb2⟩;have hB2 := Lib.hid (hB.out.trans (hb2.mono hB.out.size));clear hb2) | (go_at_call 58;refine (hs _ ((h1.new _).new _) ((h2.new _).new _)).mono ?_;rintro e w1 ⟨rfl,hb1⟩;obtain ⟨⟨z0,z1,z2⟩,y0,y1,y2⟩ := k_rows hb1;have hB := Lib.hid (k_cells hb1);clear hb1))
     go_ret;exact ⟨rfl,hB2.out⟩
   · rw [decide_eq_false hb] at ht;rw [decide_eq_false (show ¬ (⟨p,l,b⟩ : PRule) = ⟨p',l',b'⟩ from fun e => hb (by injection e))];clear hA hb;go_enter Tryd.func35,Tryd.ntmps35
     go_wp2_with (first | (go_at_call 59;refine (ht _ (h3.below hB.out) (h4.below hB.out)).mono ?_;rintro e w2 ⟨rfl,hb2⟩;have hB2 := Lib.hid (hB.out.trans (hb2.mono hB.out.size));clear hb2) | (go_at_call 58;refine (hs _ ((h1.new _).new _) ((h2.new _).new _)).mono ?_;rintro e w1 ⟨rfl,hb1⟩;obtain ⟨⟨z0,z1,z2⟩,y0,y1,y2⟩ := k_rows hb1;have hB := Lib.hid (k_cells hb1);clear hb1))
     go_ret;exact ⟨rfl,hB2.out⟩
 · rw [decide_eq_false hA] at hs;rw [decide_eq_false (show ¬ (⟨p,l,b⟩ : PRule) = ⟨p',l',b'⟩ from fun e => hA (by injection e with e1 e2 e3;exact ⟨e1,e2⟩))];clear hA ht;go_enter Tryd.func35,Tryd.ntmps35
   go_wp2_with ((go_at_call 58;refine (hs _ ((h1.new _).new _) ((h2.new _).new _)).mono ?_;rintro e w1 ⟨rfl,hb1⟩;obtain ⟨⟨z0,z1,z2⟩,y0,y1,y2⟩ := k_rows hb1;have hB := Lib.hid (k_cells hb1);clear hb1))
   go_ret;exact ⟨rfl,hB.out⟩
end Go.Proofs.YtclioihichcpiaaDoor
/- Print: two alike programs are found alike by the document. (gen_phe.py) -/
namespace Go.Proofs.YtclioihichcpiaaDoor
open Go.RowKit Lx
theorem sr_same (p : ByteArray) (l : List (Bool × ByteArray)) (b : List PLit) (a a' ba ba' : Option Addr) (cap cap' bc bc2 : Nat) (w : World) (h1 : RT w a l) (h2 : RT w a' l) (h3 : RL w ba b) (h4 : RL w ba' b) :
    Calls Tryd.prog 35 #[.agg #[.string p,.slice a l.length cap,.slice ba b.length bc],.agg #[.string p,.slice a' l.length cap',.slice ba' b.length bc2]] w fun e w' => e = .returned (.bool true) ∧ Below w.heap.size w w' := by
 have h := sr_rule ⟨p,l,b⟩ ⟨p,l,b⟩ a a' ba ba' cap cap' bc bc2 w h1 h2 h3 h4;rw [decide_eq_true rfl] at h;exact h
theorem sr_program (A : List (ByteArray × Int × ByteArray)) (B : List (ByteArray × Int)) (C : List PRule) (a0 a1 a2 b0 b1 b2 : Option Addr) (c0 c1 c2 d0 d1 d2 : Nat) (w : World)
    (hA : RI w a0 A) (hA' : RI w b0 A) (hB : RO w a1 B) (hB' : RO w b1 B) (hC : RR w a2 C) (hC' : RR w b2 C) :
    Calls Tryd.prog 13 #[.agg #[.slice a0 A.length c0,.slice a1 B.length c1,.slice a2 C.length c2],.agg #[.slice b0 A.length d0,.slice b1 B.length d1,.slice b2 C.length d2]] w fun e w' => e = .returned (.bool true) ∧ Below w.heap.size w w' := by
 have hlA := hA.len;have hlB := hB.len;have hlC := hC.len;go_enter Tryd.func13,Tryd.ntmps13;go_wp2_with fail;have hn : ∃ w1 : World,w1 = (w.alloc (.cells #[.slice a0 A.length c0,.slice a1 B.length c1,.slice a2 C.length c2] 26)).alloc (.cells #[.slice b0 A.length d0,.slice b1 B.length d1,.slice b2 C.length d2] 26) := ⟨_,rfl⟩;obtain ⟨w1,hw1⟩ := hn
 obtain ⟨hB1,g1,g2⟩ := @k_two w w1 (.cells #[.slice a0 A.length c0,.slice a1 B.length c1,.slice a2 C.length c2] 26) (.cells #[.slice b0 A.length d0,.slice b1 B.length d1,.slice b2 C.length d2] 26) (by rw [hw1];exact Below.refl _ _);rw [← hw1];clear hw1;have x0 := (cell_of_row _ _ 0 _ _ _ g1).trans rfl;have x1 := (cell_of_row _ _ 1 _ _ _ g1).trans rfl
 have x2 := (cell_of_row _ _ 2 _ _ _ g1).trans rfl;have v0 := (cell_of_row _ _ 0 _ _ _ g2).trans rfl;have v1 := (cell_of_row _ _ 1 _ _ _ g2).trans rfl;have v2 := (cell_of_row _ _ 2 _ _ _ g2).trans rfl;clear g1 g2;have hlow : Hid (∀ wr,Below w1.heap.size w1 wr → Below w.heap.size w wr) := Lib.hid fun wr h => hB1.trans (h.mono hB1.size);clear hB1
 have hk6 : Hid (∀ wr,Below w1.heap.size w1 wr → wr.cell? ⟨w.heap.size,0,none⟩ = some (.slice a0 A.length c0) ∧ wr.cell? ⟨w.heap.size + 1,0,none⟩ = some (.slice b0 A.length d0) ∧ wr.cell? ⟨w.heap.size,1,none⟩ = some (.slice a1 B.length c1) ∧ wr.cell? ⟨w.heap.size + 1,1,none⟩ = some (.slice b1 B.length d1) ∧ wr.cell? ⟨w.heap.size,2,none⟩ = some (.slice a2 C.length c2) ∧ wr.cell? ⟨w.heap.size + 1,2,none⟩ = some (.slice b2 C.length d2)) := Lib.hid fun wr h => ⟨cell_below h rfl x0,cell_below h rfl v0,cell_below h rfl x1,cell_below h rfl v1,cell_below h rfl x2,cell_below h rfl v2⟩
 have hb0 : Hid (Below w1.heap.size w1 w1) := Lib.hid (Below.refl _ _)
 go_loopw [5] (fun i wr => ∃ (k : Nat),k ≤ A.length ∧ i = .int .i64 k ∧ Hid (Below w1.heap.size w1 wr)) (fun i _ => A.length - (intOf i).toNat)
 case atStart => exact ⟨0,Nat.zero_le _,rfl,hb0⟩
 case round =>
  clear hb0;obtain ⟨k,hk,rfl,hbw⟩ := hrel;obtain ⟨z0,y0,z1,y1,z2,y2⟩ := hk6.out _ hbw.out
  by_cases hlt : k < A.length
  · obtain ⟨p,rfl,hd0,hd1,hd2⟩ := (hA.below (hlow.out _ hbw.out)).cells k A[k] (List.getElem?_eq_getElem hlt);obtain ⟨q,rfl,he0,he1,he2⟩ := (hA'.below (hlow.out _ hbw.out)).cells k A[k] (List.getElem?_eq_getElem hlt);generalize A[k] = x at hd0 hd1 hd2 he0 he1 he2;obtain ⟨xp,xn,xf⟩ := x;dsimp only at hd0 hd1 hd2 he0 he1 he2;have hq0 : (0 : Int) ≤ (k : Int) := Int.natCast_nonneg _
    have hq1 : (k : Int) < (A.length : Int) := by omega
    go_wp2_with fail;go_quiet (fail);have hb2 := Lib.hid (hbw.out.drewN nq);generalize wr.drewN nq = wq at hb2 ⊢;go_wp2_with fail;go_roundw
    case rel => exact ⟨k + 1,by omega,by go_num,hb2⟩
    case measure => simp [intOf];omega
  · have hke : k = A.length := by omega
    subst hke;have hb0 := hbw;clear hlt hk hbw;go_wp2_with fail;clear z0 z1 z2 y0 y1 y2
    go_loopw [6] (fun i wr => ∃ (k : Nat),k ≤ B.length ∧ i = .int .i64 k ∧ Hid (Below w1.heap.size w1 wr)) (fun i _ => B.length - (intOf i).toNat)
    case atStart => exact ⟨0,Nat.zero_le _,rfl,hb0⟩
    case round =>
     clear hb0;obtain ⟨k,hk,rfl,hbw⟩ := hrel;obtain ⟨z0,y0,z1,y1,z2,y2⟩ := hk6.out _ hbw.out
     by_cases hlt : k < B.length
     · obtain ⟨p,rfl,hd0,hd1⟩ := (hB.below (hlow.out _ hbw.out)).cells k B[k] (List.getElem?_eq_getElem hlt);obtain ⟨q,rfl,he0,he1⟩ := (hB'.below (hlow.out _ hbw.out)).cells k B[k] (List.getElem?_eq_getElem hlt);generalize B[k] = x at hd0 hd1 he0 he1;obtain ⟨xp,xn⟩ := x;dsimp only at hd0 hd1 he0 he1;have hq0 : (0 : Int) ≤ (k : Int) := Int.natCast_nonneg _
       have hq1 : (k : Int) < (B.length : Int) := by omega
       go_wp2_with fail;go_quiet (fail);have hb2 := Lib.hid (hbw.out.drewN nq);generalize wr.drewN nq = wq at hb2 ⊢;go_wp2_with fail;go_roundw
       case rel => exact ⟨k + 1,by omega,by go_num,hb2⟩
       case measure => simp [intOf];omega
     · have hke : k = B.length := by omega
       subst hke;have hb0 := hbw;clear hlt hk hbw;go_wp2_with fail;clear z0 z1 z2 y0 y1 y2
       go_loopw [7,8] (fun i _ wr => ∃ (k : Nat),k ≤ C.length ∧ i = .int .i64 k ∧ Hid (Below w1.heap.size w1 wr)) (fun i _ _ => C.length - (intOf i).toNat)
       case atStart => exact ⟨0,Nat.zero_le _,rfl,hb0⟩
       case round =>
        clear hb0;obtain ⟨k,hk,rfl,hbw⟩ := hrel;obtain ⟨z0,y0,z1,y1,z2,y2⟩ := hk6.out _ hbw.out
        by_cases hlt : k < C.length
        · obtain ⟨p,ad,adc,bd,bdc,rfl,hd0,hd1,hd2,t1,t2⟩ := (hC.below (hlow.out _ hbw.out)).cells k C[k] (List.getElem?_eq_getElem hlt);obtain ⟨q,ad2,adc2,bd2,bdc2,rfl,he0,he1,he2,u1,u2⟩ := (hC'.below (hlow.out _ hbw.out)).cells k C[k] (List.getElem?_eq_getElem hlt);generalize C[k] = x at hd0 hd1 hd2 t1 t2 he0 he1 he2 u1 u2;obtain ⟨xp,xa,xb⟩ := x
          dsimp only at hd0 hd1 hd2 t1 t2 he0 he1 he2 u1 u2;have hkr := fun w h1 h2 h3 h4 => sr_same xp xa xb ad ad2 bd bd2 adc adc2 bdc bdc2 w h1 h2 h3 h4
          have hkeep : ∀ w',Below wr.heap.size wr w' → w'.cell? ⟨w.heap.size,2,none⟩ = some (.slice (some p) C.length c2) ∧ w'.cell? ⟨w.heap.size + 1,2,none⟩ = some (.slice (some q) C.length d2) ∧ w'.cell? (p.add (k * 3)) = some (.string xp) ∧ w'.cell? ⟨(p.add (k * 3)).block,(p.add (k * 3)).off + 1,none⟩ = some (.slice ad xa.length adc) ∧ w'.cell? ⟨(p.add (k * 3)).block,(p.add (k * 3)).off + 2,none⟩ = some (.slice bd xb.length bdc) ∧ w'.cell? (q.add (k * 3)) = some (.string xp) ∧ w'.cell? ⟨(q.add (k * 3)).block,(q.add (k * 3)).off + 1,none⟩ = some (.slice ad2 xa.length adc2) ∧ w'.cell? ⟨(q.add (k * 3)).block,(q.add (k * 3)).off + 2,none⟩ = some (.slice bd2 xb.length bdc2) := fun w' hb =>
           ⟨cell_below hb rfl z2,cell_below hb rfl y2,cell_below hb rfl hd0,cell_below hb rfl hd1,cell_below hb rfl hd2,cell_below hb rfl he0,cell_below hb rfl he1,cell_below hb rfl he2⟩
          replace hkeep := Lib.hid hkeep;replace t1 := Lib.hid t1;replace t2 := Lib.hid t2;have t3 := Lib.hid u1;have t4 := Lib.hid u2;clear u1 u2;have hq0 : (0 : Int) ≤ (k : Int) := Int.natCast_nonneg _;have hq1 : (k : Int) < (C.length : Int) := by omega
          go_wp2_with fail
          go_region_held3 (fun w' => w'.cell? ⟨w.heap.size,2,none⟩ = some (.slice (some p) C.length c2) ∧ w'.cell? ⟨w.heap.size + 1,2,none⟩ = some (.slice (some q) C.length d2) ∧ w'.cell? (p.add (k * 3)) = some (.string xp) ∧ w'.cell? ⟨(p.add (k * 3)).block,(p.add (k * 3)).off + 1,none⟩ = some (.slice ad xa.length adc) ∧ w'.cell? ⟨(p.add (k * 3)).block,(p.add (k * 3)).off + 2,none⟩ = some (.slice bd xb.length bdc) ∧ w'.cell? (q.add (k * 3)) = some (.string xp) ∧ w'.cell? ⟨(q.add (k * 3)).block,(q.add (k * 3)).off + 1,none⟩ = some (.slice ad2 xa.length adc2) ∧ w'.cell? ⟨(q.add (k * 3)).block,(q.add (k * 3)).off + 2,none⟩ = some (.slice bd2 xb.length bdc2))
            (first
              | exact hkeep.out _ (Below.refl _ _).drew
              | exact hkeep.out _ hb2.out)
            (first
              | (go_at_call 35;refine (hkr _ (t1.out.below (Below.refl _ _).drew) (t3.out.below (Below.refl _ _).drew) (t2.out.below (Below.refl _ _).drew) (t4.out.below (Below.refl _ _).drew)).mono ?_;rintro e w2 ⟨rfl,hb20⟩
                 have hb2 := Lib.hid ((Below.refl wr.heap.size wr).drew.trans hb20);clear hb20))
          have hb3 := Lib.hid (hbw.out.trans (hb2.out.mono hbw.out.size));go_wp2_with fail;go_roundw
          case rel => exact ⟨k + 1,by omega,by go_num,hb3⟩
          case measure => simp [intOf];omega
        · have hke : k = C.length := by omega
          subst hke;go_wp2_with fail;go_ret;exact ⟨rfl,hlow.out _ hbw.out⟩
end Go.Proofs.YtclioihichcpiaaDoor
