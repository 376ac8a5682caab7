/- Print: the small rule. -/
import Derived.Test.YtclioihichcpiaaDoorJoI
set_option maxHeartbeats 8000000
set_option maxRecDepth 100000
namespace Go.Proofs.YtclioihichcpiaaDoor
open Go.RowKit Go.Shelf Lx
def knownR : Rul := ⟨⟨#[112]⟩,[(true,⟨#[88]⟩),(false,⟨#[65]⟩)],[⟨2,⟨#[113]⟩,[],(false,⟨#[]⟩),(false,⟨#[]⟩)⟩]⟩
theorem known_S : ruleS knownR = ⟨#[112,40,88,44,32,34,65,34,41,32,58,45,32,110,111,116,32,113,46]⟩ ∧ ruleE knownR = 0 := by
 constructor <;> kernel_rfl
theorem Terms.none (w : World) (a : Option Addr) : Terms w a [] := ⟨by simp,fun j x hj => by simp at hj,fun x hx => by simp at hx⟩
theorem Lits.one {w : World} {b : Nat} {x : Lit} {ad : Option Addr} {cap : Nat} {t : TypeId} (h : w.heap[b]? = some (.cells (litV x ad cap) t)) (ht : Terms w ad x.a) (hs : x.p.size ≤ 1048576 ∧ x.l.2.size ≤ 1048576 ∧ x.r.2.size ≤ 1048576) : Lits w (some ⟨b,0,none⟩) [x] := by
 refine ⟨by simp,fun j y hj => ?_,by intro y hy;simp at hy;subst hy;exact hs⟩
 match j,hj with
 | 0,hj =>
  simp at hj;subst hj;refine ⟨_,ad,cap,rfl,?_,?_,?_,?_,?_,?_,?_,ht⟩
  all_goals simp [World.cell?,Addr.add,h,litV]
theorem known_call (w : World) (t1 t2 t3 : TypeId) (v : Value) :
    Calls Tryd.prog 25 #[.agg #[.string ⟨#[112]⟩,.slice (some ⟨w.heap.size,0,none⟩) 2 2,.slice (some ⟨w.heap.size + 1,0,none⟩) 1 1]] (((w.alloc (.cells #[.bool true,.string ⟨#[88]⟩,.bool false,.string ⟨#[65]⟩] t1)).alloc (.cells #[.int .i64 2,.string ⟨#[113]⟩,.slice none 0 0,.bool false,.string ⟨#[]⟩,.bool false,.string ⟨#[]⟩] t2)).alloc (.cells #[.string ⟨#[112]⟩,.slice (some ⟨w.heap.size,0,none⟩) 2 2,v] t3)) fun e w' => e = .returned (.tuple #[.string ⟨#[112,40,88,44,32,34,65,34,41,32,58,45,32,110,111,116,32,113,46]⟩,.int .i64 0]) ∧ Below w.heap.size w w' := by
 have h1 : Terms (w.alloc (.cells #[.bool true,.string ⟨#[88]⟩,.bool false,.string ⟨#[65]⟩] t1)) (some ⟨w.heap.size,0,none⟩) [(true,⟨#[88]⟩),(false,⟨#[65]⟩)] := Terms.two (heap_alloc_new _ _) (by decide) (by decide)
 have h2 : Lits ((w.alloc (.cells #[.bool true,.string ⟨#[88]⟩,.bool false,.string ⟨#[65]⟩] t1)).alloc (.cells #[.int .i64 2,.string ⟨#[113]⟩,.slice none 0 0,.bool false,.string ⟨#[]⟩,.bool false,.string ⟨#[]⟩] t2)) (some ⟨w.heap.size + 1,0,none⟩) [⟨2,⟨#[113]⟩,[],(false,⟨#[]⟩),(false,⟨#[]⟩)⟩] :=
   Lits.one (ad := none) (cap := 0) (heap_second _ _ _) (Terms.none _ _) (by refine ⟨?_,?_,?_⟩ <;> decide)
 have := pt_Rule ⟨#[112]⟩ (some ⟨w.heap.size,0,none⟩) [(true,⟨#[88]⟩),(false,⟨#[65]⟩)] 2 (some ⟨w.heap.size + 1,0,none⟩) [⟨2,⟨#[113]⟩,[],(false,⟨#[]⟩),(false,⟨#[]⟩)⟩] 1 _ (by decide) ((h1.new _).new (.cells #[.string ⟨#[112]⟩,.slice (some ⟨w.heap.size,0,none⟩) 2 2,v] t3)) (h2.new _);refine this.mono ?_;rintro e w' ⟨rfl,hb⟩
 refine ⟨?_,((((Below.refl _ _).al _).al _).al _).trans (hb.mono (by rw [World.size_alloc,World.size_alloc,World.size_alloc];omega))⟩;have := known_S;unfold knownR at this;rw [this.1,this.2]
theorem lw_known (w : World) :
    Calls Tryd.prog 10 #[] w fun e w' => e = .returned (.bool true) ∧ Below w.heap.size w w' := by
 go_enter Tryd.func10,Tryd.ntmps10
 go_wp2_with (go_at_call 25;refine (known_call _ _ _ _ _).mono ?_;rintro e w1 ⟨rfl,hb1⟩;replace hb1 := Lib.hid hb1)
 go_ret;exact ⟨rfl,hb1.out⟩
end Go.Proofs.YtclioihichcpiaaDoor
