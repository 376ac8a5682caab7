/- Parse: the law's literal. -/
import Derived.Test.YtmjincocmhadeaaPdC
namespace Go.Proofs.Ytmjincocmhadeaa
open Go.RowKit Lx
set_option maxHeartbeats 1000000 in
set_option maxRecDepth 100000 in
theorem w8_literal (k : Int) (p : ByteArray) (a : List (Bool × ByteArray)) (lb : Bool) (ls : ByteArray) (rb : Bool) (rs : ByteArray) (va : Option Addr) (vc lo : Nat) (w : World) (hown : w.ownsRow lo 64 2 (.slice va a.length vc) a.length (flatTT a)) (h : okLit ⟨k, p, a, (lb, ls), (rb, rs)⟩) :
    Calls Try.prog 24 #[.agg #[.int .i64 k, .string p, .slice va a.length vc, .bool lb, .string ls, .bool rb, .string rs]] w fun e w' => e = .returned (.bool true) ∧ Below w.heap.size w w' := by
  have hbb : Hid (Below w.heap.size w (w.alloc (.cells #[.int .i64 k, .string p, .slice va a.length vc, .bool lb, .string ls, .bool rb, .string rs] 66))) := Lib.hid ((Below.refl _ _).al _)
  rcases h with ⟨h1, h2, h3, h4, h5⟩ | ⟨h1, h2, h3, h4⟩
  · dsimp only at h1 h2 h3 h4 h5
    subst h1 h4 h5
    have ht1 := fun w => w8_term (lb, ls) w h2
    have ht2 := fun w => w8_term (rb, rs) w h3
    clear h2 h3 hown
    dsimp only at ht1 ht2
    have hr : ∀ i v, (#[.int .i64 3, .string ⟨#[]⟩, .slice va ([] : List (Bool × ByteArray)).length vc, .bool lb, .string ls, .bool rb, .string rs] : Array Value)[i]? = some v → (w.alloc (.cells #[.int .i64 3, .string ⟨#[]⟩, .slice va ([] : List (Bool × ByteArray)).length vc, .bool lb, .string ls, .bool rb, .string rs] 66)).cell? ⟨w.heap.size, i, none⟩ = some v := fun i v hv => (cell_of_row _ _ _ _ _ _ (heap_alloc_new w _)).trans hv
    have kk : Hid (∀ w', Below (w.alloc (.cells #[.int .i64 3, .string ⟨#[]⟩, .slice va ([] : List (Bool × ByteArray)).length vc, .bool lb, .string ls, .bool rb, .string rs] 66)).heap.size (w.alloc (.cells #[.int .i64 3, .string ⟨#[]⟩, .slice va ([] : List (Bool × ByteArray)).length vc, .bool lb, .string ls, .bool rb, .string rs] 66)) w' → w'.cell? ⟨w.heap.size, 1, none⟩ = some (.string ⟨#[]⟩) ∧ w'.cell? ⟨w.heap.size, 2, none⟩ = some (.slice va 0 vc) ∧ w'.cell? ⟨w.heap.size, 5, none⟩ = some (.bool rb) ∧ w'.cell? ⟨w.heap.size, 6, none⟩ = some (.string rs)) := Lib.hid fun w' hb =>
      ⟨cell_below hb rfl (hr 1 _ rfl), cell_below hb rfl (hr 2 _ rfl), cell_below hb rfl (hr 5 _ rfl), cell_below hb rfl (hr 6 _ rfl)⟩
    clear hr
    go_enter Try.func24, Try.ntmps24
    go_wp2_with (first
      | (go_at_call 43
         have hg := ht1
         refine (ht1 _).mono ?_
         rintro e w1 ⟨rfl, hb1⟩
         obtain ⟨k1, k2, k5, k6⟩ := kk.out _ hb1
         replace hb1 := Lib.hid hb1
         clear hg ht1)
      | (go_at_call 43
         refine (ht2 _).mono ?_
         rintro e w2 ⟨rfl, hb2⟩
         have hb3 := Lib.hid (hb1.out.trans (hb2.mono hb1.out.size))
         clear k1 k2 k5 k6
         obtain ⟨k1, k2, k5, k6⟩ := kk.out _ hb3.out
         clear hb2))
    go_ret
    exact ⟨rfl, hbb.out.trans (hb3.out.mono hbb.out.size)⟩
  · dsimp only at h1 h2 h3 h4
    injection h3 with e1 e2
    injection h4 with e3 e4
    subst e1 e2 e3 e4
    have ha := fun w hown => w8_atom p a va vc lo w hown h2
    have hown1 := hown.alloc (.cells #[.int .i64 k, .string p, .slice va a.length vc, .bool false, .string ⟨#[]⟩, .bool false, .string ⟨#[]⟩] 66)
    have hc := Lib.hid (ha _ hown1)
    have hr : ∀ i v, (#[.int .i64 k, .string p, .slice va a.length vc, .bool false, .string ⟨#[]⟩, .bool false, .string ⟨#[]⟩] : Array Value)[i]? = some v → (w.alloc (.cells #[.int .i64 k, .string p, .slice va a.length vc, .bool false, .string ⟨#[]⟩, .bool false, .string ⟨#[]⟩] 66)).cell? ⟨w.heap.size, i, none⟩ = some v := fun i v hv => (cell_of_row _ _ _ _ _ _ (heap_alloc_new w _)).trans hv
    have kk : Hid (∀ w', Below (w.alloc (.cells #[.int .i64 k, .string p, .slice va a.length vc, .bool false, .string ⟨#[]⟩, .bool false, .string ⟨#[]⟩] 66)).heap.size (w.alloc (.cells #[.int .i64 k, .string p, .slice va a.length vc, .bool false, .string ⟨#[]⟩, .bool false, .string ⟨#[]⟩] 66)) w' → w'.cell? ⟨w.heap.size, 3, none⟩ = some (.bool false) ∧ w'.cell? ⟨w.heap.size, 4, none⟩ = some (.string ⟨#[]⟩) ∧ w'.cell? ⟨w.heap.size, 5, none⟩ = some (.bool false) ∧ w'.cell? ⟨w.heap.size, 6, none⟩ = some (.string ⟨#[]⟩)) := Lib.hid fun w' hb =>
      ⟨cell_below hb rfl (hr 3 _ rfl), cell_below hb rfl (hr 4 _ rfl), cell_below hb rfl (hr 5 _ rfl), cell_below hb rfl (hr 6 _ rfl)⟩
    clear hr hown hown1 ha h2
    rcases h1 with rfl | rfl
    all_goals
      go_enter Try.func24, Try.ntmps24
      go_wp2_with (go_at_call 23; refine hc.out.mono ?_; rintro e w1 ⟨rfl, hb1⟩; obtain ⟨k3, k4, k5, k6⟩ := kk.out _ hb1; replace hb1 := Lib.hid hb1)
      go_ret
      exact ⟨rfl, hbb.out.trans (hb1.out.mono hbb.out.size)⟩
end Go.Proofs.Ytmjincocmhadeaa
