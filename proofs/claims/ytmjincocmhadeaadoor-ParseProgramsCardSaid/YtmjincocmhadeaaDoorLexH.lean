/- lex.signs, lex.next: strings and signs. -/
import Derived.Test.YtmjincocmhadeaaDoorProg
import Derived.Test.YtmjincocmhadeaaDoorBase
import Derived.Test.YtmjincocmhadeaaDoorBytes
import Derived.Test.YtmjincocmhadeaaDoorLexSpec
import Derived.Test.YtmjincocmhadeaaDoorLexA
import Derived.Test.YtmjincocmhadeaaDoorLexB
import Derived.Test.YtmjincocmhadeaaDoorLexE
import Derived.Test.YtmjincocmhadeaaDoorLexG
namespace Go.Proofs.YtmjincocmhadeaaDoor
set_option maxHeartbeats 2000000
open Go.RowKit Lx
theorem size58 : (Tryd.prog.info? 119).map (fun i => i.size) = some 7 := by kernel_rfl
theorem one58 : ((#[.string ⟨#[40]⟩,.string ⟨#[41]⟩,.string ⟨#[44]⟩,.string ⟨#[46]⟩,.string ⟨#[47]⟩,.string ⟨#[58,45]⟩,.string ⟨#[33,61]⟩] : Array Value).all fun x => x.oneCell') = true := by simp [Value.oneCell']
theorem lx_signs (w : World) : Calls Tryd.prog 67 #[] w fun e w' => e = .returned (.agg #[.string ⟨#[40]⟩,.string ⟨#[41]⟩,.string ⟨#[44]⟩,.string ⟨#[46]⟩,.string ⟨#[47]⟩,.string ⟨#[58,45]⟩,.string ⟨#[33,61]⟩]) ∧ Below w.heap.size w w' := by
 go_enter Tryd.func67,Tryd.ntmps67;have hz : Hid ((w.alloc (.cells #[.string ⟨#[]⟩,.string ⟨#[]⟩,.string ⟨#[]⟩,.string ⟨#[]⟩,.string ⟨#[]⟩,.string ⟨#[]⟩,.string ⟨#[]⟩] 119)).heap[w.heap.size]? = some (.cells #[.string ⟨#[]⟩,.string ⟨#[]⟩,.string ⟨#[]⟩,.string ⟨#[]⟩,.string ⟨#[]⟩,.string ⟨#[]⟩,.string ⟨#[]⟩] 119)) := heap_alloc_new _ _
 go_wp2_with (refine wpList_store_rowA rfl 119 (.tmp 0) (.tmp 1) rfl w.heap.size #[.string ⟨#[40]⟩,.string ⟨#[41]⟩,.string ⟨#[44]⟩,.string ⟨#[46]⟩,.string ⟨#[47]⟩,.string ⟨#[58,45]⟩,.string ⟨#[33,61]⟩] rfl rfl 119 #[.string ⟨#[]⟩,.string ⟨#[]⟩,.string ⟨#[]⟩,.string ⟨#[]⟩,.string ⟨#[]⟩,.string ⟨#[]⟩,.string ⟨#[]⟩] hz.out size58 rfl one58 ?_)
 intro w2 hg hgr hsz;have hb2 : Below w.heap.size w w2 := ((Below.refl _ _).al _).grown hgr (by simp) (by intro k hk;injection hk with hk;omega);clear hgr hsz hz;go_wp2_with fail;refine bodyPost_ret (v := .agg #[.string ⟨#[40]⟩,.string ⟨#[41]⟩,.string ⟨#[44]⟩,.string ⟨#[46]⟩,.string ⟨#[47]⟩,.string ⟨#[58,45]⟩,.string ⟨#[33,61]⟩]) ?_ rfl ⟨rfl,hb2⟩
 exact results_cell_row rfl _ _ w.heap.size 119 _ (0,0) _ rfl hg.out Tryd.underlying119 rfl size58
/-- a token in cells -/
def tokC (t : Tok) : Array Value := tokCs t.kind t.text t.at_ t.end_
def NPost (s : ByteArray) (at_ : Nat) (w : World) (e : Ending) (w' : World) : Prop :=
  e = .returned (.tuple #[.agg (tokC (nextT ((bl s).drop at_) at_).1),.bool (nextT ((bl s).drop at_) at_).2]) ∧ Below w.heap.size w w'
theorem NPost.of {s : ByteArray} {at_ : Nat} {w w' : World} {t : Tok} {b : Bool} {cs : Array Value} (h : nextT ((bl s).drop at_) at_ = (t,b)) (hc : cs = tokC t) (hb : Below w.heap.size w w') : NPost s at_ w (.returned (.tuple #[.agg cs,.bool b])) w' := by
 unfold NPost;rw [h,hc];exact ⟨rfl,hb⟩
namespace Lx
theorem next_str (c : UInt8) (r : Bs) (at_ : Nat) (h : bi c = 34) : nextT (c :: r) at_ = (⟨4,if (quo r 0).2.2 then (quo r 0).1 else [],at_,at_ + 1 + (quo r 0).2.1⟩,(quo r 0).2.2) := by
 unfold nextT;simp only [];rw [if_pos h]
theorem next_sign1 (c : UInt8) (r : Bs) (at_ : Nat) (k d : Int) (h : ¬ bi c = 34) (hs : signI (bi c) = some (k,1,d)) : nextT (c :: r) at_ = (⟨k,[],at_,at_ + 1⟩,true) := by
 unfold nextT;simp only [];rw [if_neg h,hs];rfl
theorem next_sign2 (c d : UInt8) (r : Bs) (at_ : Nat) (k x : Int) (h : ¬ bi c = 34) (hs : signI (bi c) = some (k,2,x)) (hd : bi d = x) : nextT (c :: d :: r) at_ = (⟨k,[],at_,at_ + 2⟩,true) := by
 unfold nextT;simp only [];rw [if_neg h,hs];simp [firstB,hd]
theorem next_sign2n (c : UInt8) (r : Bs) (at_ : Nat) (k x : Int) (h : ¬ bi c = 34) (hs : signI (bi c) = some (k,2,x)) (hd : firstB (fun y => decide (y = x)) r = false) : nextT (c :: r) at_ = (⟨k,[],at_,at_ + 1⟩,false) := by
 unfold nextT;simp only [];rw [if_neg h,hs];simp [hd]
end Lx
theorem lx_next_str (s : ByteArray) (a0 : Nat) (w : World) (hs : s.size ≤ 4194304) (hlt : a0 < s.size) (h34 : bat s a0 = 34) :
    Calls Tryd.prog 55 #[.string s,.int .i64 a0] w (NPost s a0 w) := by
 have hidx := fun w => run_index_str (P := Tryd.prog) Tryd.underlying9 s a0 hlt w;have g1 : (bat s a0 == 34) = true := by simp [h34]
 have hnx : Hid (nextT ((bl s).drop a0) a0 = (⟨4,if (quo ((bl s).drop (a0 + 1)) 0).2.2 then (quo ((bl s).drop (a0 + 1)) 0).1 else [],a0,a0 + 1 + (quo ((bl s).drop (a0 + 1)) 0).2.1⟩,(quo ((bl s).drop (a0 + 1)) 0).2.2)) := by
  show _ = _;rw [drop_bl s a0 hlt,next_str _ _ _ h34]
 clear h34;have hW : Hid ((w.alloc (.cells #[.int .i64 0,.string ⟨#[]⟩,.int .i64 0,.int .i64 0] 67)).heap[w.heap.size]? = some (.cells (tokCs 0 [] 0 0) 67)) := heap_alloc_new _ _;have hWb : Below w.heap.size w (w.alloc (.cells #[.int .i64 0,.string ⟨#[]⟩,.int .i64 0,.int .i64 0] 67)) := (Below.refl _ _).al _
 have hWs : w.heap.size < (w.alloc (.cells #[.int .i64 0,.string ⟨#[]⟩,.int .i64 0,.int .i64 0] 67)).heap.size := by simp
 go_enter Tryd.func55,Tryd.ntmps55;go_wp2_with fail;generalize w.alloc (.cells #[.int .i64 0,.string ⟨#[]⟩,.int .i64 0,.int .i64 0] 67) = W at hW hWb hWs ⊢;refine (lx_quoted s _ _ hs (by omega) (by omega)).mono ?_;rintro e w2 ⟨he,hb2⟩;rw [show ((a0 : Int) + 1).toNat = a0 + 1 from by omega] at he
 obtain ⟨B,hB⟩ : ∃ B,B = (if (quo ((bl s).drop (a0 + 1)) 0).2.2 then (quo ((bl s).drop (a0 + 1)) 0).1 else []) := ⟨_,rfl⟩;obtain ⟨K,hK⟩ : ∃ K,K = (quo ((bl s).drop (a0 + 1)) 0).2.1 := ⟨_,rfl⟩;obtain ⟨ok,hok⟩ : ∃ ok,ok = (quo ((bl s).drop (a0 + 1)) 0).2.2 := ⟨_,rfl⟩;have hnx2 := hnx.out;rw [← hB,← hK,← hok] at hnx2;rw [← hB,← hK,← hok] at he;subst he;clear hB hK hok hnx
 have hcell : Hid (w2.heap[w.heap.size]? = some (.cells (tokCs 0 [] 0 0) 67)) := (hb2.block _ hWs).trans hW.out;replace hnx2 := Lh hnx2
 go_wp2_with (refine wpList_store_rowA rfl 67 (.tmp 4) (.tmp 30) rfl w.heap.size (tokCs 4 B a0 ((a0 + 1 + K : Nat) : Int)) rfl rfl 67 (tokCs 0 [] 0 0) hcell.out sizeTok rfl (tokCs_one _ _ _ _) ?_)
 intro w3 hg3 hgr hsz;have hb3 : Below w.heap.size w w3 := (hWb.trans (hb2.mono (by omega))).grown hgr (by have := hb2.size;omega) (by intro k hk;injection hk with hk;omega);clear hgr hsz;go_wp2_with fail;refine bodyPost_ret (v := .tuple #[.agg (tokCs 4 B a0 ((a0 + 1 + K : Nat) : Int)),.bool ok]) ?_ rfl (NPost.of hnx2.out rfl hb3)
 exact results_cell2 rfl _ _ w.heap.size 67 _ (0,0) _ rfl hg3.out Tryd.underlying67 rfl sizeTok _ rfl
end Go.Proofs.YtmjincocmhadeaaDoor
