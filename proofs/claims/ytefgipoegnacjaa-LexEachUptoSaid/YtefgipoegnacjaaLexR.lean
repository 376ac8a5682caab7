/- the reference's next. -/
import Derived.Test.YtefgipoegnacjaaProg
import Derived.Test.YtefgipoegnacjaaBase
import Derived.Test.YtefgipoegnacjaaBytes
import Derived.Test.YtefgipoegnacjaaLexSpec
import Derived.Test.YtefgipoegnacjaaLexA
import Derived.Test.YtefgipoegnacjaaLexB
import Derived.Test.YtefgipoegnacjaaLexD
import Derived.Test.YtefgipoegnacjaaLexE
import Derived.Test.YtefgipoegnacjaaLexG
import Derived.Test.YtefgipoegnacjaaLexH
import Derived.Test.YtefgipoegnacjaaLexO
import Derived.Test.YtefgipoegnacjaaLexQ
namespace Go.Proofs.Ytefgipoegnacjaa
open Go.RowKit Lx

def RPost (s : ByteArray) (at_ : Nat) (w : World) (e : Ending) (w' : World) : Prop :=
  e = .returned (.tuple #[.agg (tokC (nextT ((bl s).drop at_) at_).1), .int .i64 ((if (nextT ((bl s).drop at_) at_).1.kind = 0 then at_ else (nextT ((bl s).drop at_) at_).1.end_ : Nat) : Int), .bool (nextT ((bl s).drop at_) at_).2]) ∧ Below w.heap.size w w'
theorem RPost.of {s : ByteArray} {at_ : Nat} {w w' : World} {t : Tok} {b : Bool} {cs : Array Value} {n : Int} (h : nextT ((bl s).drop at_) at_ = (t, b)) (hc : cs = tokC t) (hn : n = ((if t.kind = 0 then at_ else t.end_ : Nat) : Int)) (hb : Below w.heap.size w w') : RPost s at_ w (.returned (.tuple #[.agg cs, .int .i64 n, .bool b])) w' := by
  unfold RPost; rw [h, hc, hn]; exact ⟨rfl, hb⟩

set_option maxHeartbeats 2000000 in
theorem rx_next_str (s : ByteArray) (a0 : Nat) (w : World) (hs : s.size ≤ 4194304) (hlt : a0 < s.size) (h34 : bat s a0 = 34) :
    Calls Try.prog 33 #[.string s, .int .i64 a0] w (RPost s a0 w) := by
  have hidx := fun w => run_index_str (P := Try.prog) Try.underlying9 s a0 hlt w
  have g1 : (bat s a0 == 34) = true := by simp [h34]
  have hnx : Hid (nextT ((bl s).drop a0) a0 = (⟨4, if (quo ((bl s).drop (a0 + 1)) 0).2.2 then (quo ((bl s).drop (a0 + 1)) 0).1 else [], a0, a0 + 1 + (quo ((bl s).drop (a0 + 1)) 0).2.1⟩, (quo ((bl s).drop (a0 + 1)) 0).2.2)) := by
    show _ = _; rw [drop_bl s a0 hlt, next_str _ _ _ h34]
  clear h34
  have hW : Hid ((w.alloc (.cells #[.int .i64 0, .string ⟨#[]⟩, .int .i64 0, .int .i64 0] 25)).heap[w.heap.size]? = some (.cells (tokCs 0 [] 0 0) 25)) := heap_alloc_new _ _
  have hWb : Below w.heap.size w (w.alloc (.cells #[.int .i64 0, .string ⟨#[]⟩, .int .i64 0, .int .i64 0] 25)) := (Below.refl _ _).al _
  have hWs : w.heap.size < (w.alloc (.cells #[.int .i64 0, .string ⟨#[]⟩, .int .i64 0, .int .i64 0] 25)).heap.size := by simp
  go_enter Try.func33, Try.ntmps33
  go_wp2_with fail
  generalize w.alloc (.cells #[.int .i64 0, .string ⟨#[]⟩, .int .i64 0, .int .i64 0] 25) = W at hW hWb hWs ⊢
  refine (rx_str s _ _ hs (by omega) (by omega)).mono ?_
  rintro e w2 ⟨he, hb2⟩
  rw [Int.toNat_natCast] at he
  obtain ⟨B, hB⟩ : ∃ B, B = (quo ((bl s).drop (a0 + 1)) 0).1 := ⟨_, rfl⟩
  obtain ⟨K, hK⟩ : ∃ K, K = (quo ((bl s).drop (a0 + 1)) 0).2.1 := ⟨_, rfl⟩
  obtain ⟨ok, hok⟩ : ∃ ok, ok = (quo ((bl s).drop (a0 + 1)) 0).2.2 := ⟨_, rfl⟩
  have hnx2 := hnx.out
  rw [← hB, ← hK, ← hok] at hnx2
  rw [← hB, ← hK, ← hok] at he
  subst he
  clear hB hK hok hnx
  replace hnx2 := Lib.hid hnx2
  have hg2 : w.heap.size < w2.heap.size := by have := hb2.size; omega
  cases ok
  · go_wp2_with (refine wpList_store_rowA rfl 25 (.tmp 7) (.tmp 23) rfl w2.heap.size (tokCs 0 [] 0 0) rfl rfl 25 (tokCs 0 [] 0 0) (heap_alloc_new _ _) sizeTok rfl (tokCs_one _ _ _ _) ?_)
    intro w3 hg3 hgr hsz
    have hb3 : Below W.heap.size W w3 := (hb2.al _).grown hgr (by have := hb2.size; simp; omega) (by intro k hk; injection hk with hk; have := hb2.size; omega)
    have hcell : Hid (w3.heap[w.heap.size]? = some (.cells (tokCs 0 [] 0 0) 25)) := (hb3.block _ hWs).trans hW.out
    have hs3 : w2.heap.size < w3.heap.size := by have h := hsz.out; first | omega | (simp at h; omega)
    clear hgr hsz hb2
    go_wp2_with (refine wpList_store_rowA rfl 25 (.tmp 4) (.tmp 30) rfl w.heap.size (tokCs 4 [] a0 ((a0 + 1 + K : Nat) : Int)) rfl rfl 25 (tokCs 0 [] 0 0) hcell.out sizeTok rfl (tokCs_one _ _ _ _) ?_)
    intro w4 hg4 hgr hsz
    have hb4 : Below w.heap.size w w4 := (hWb.trans (hb3.mono (by omega))).grown hgr (by omega) (by intro k hk; injection hk with hk; omega)
    clear hgr hsz
    go_wp2_with fail
    refine bodyPost_ret (v := .tuple #[.agg (tokCs 4 [] a0 ((a0 + 1 + K : Nat) : Int)), .int .i64 ((a0 + 1 + K : Nat) : Int), .bool false]) ?_ rfl (RPost.of hnx2.out rfl rfl hb4)
    exact results_cell3 rfl _ _ w.heap.size 25 _ (0, 0) _ rfl hg4.out Try.underlying25 rfl sizeTok _ _ rfl rfl
  · go_wp2_with (refine wpList_store_rowA rfl 25 (.tmp 7) (.tmp 23) rfl w2.heap.size (tokCs 4 B a0 ((a0 + 1 + K : Nat) : Int)) rfl rfl 25 (tokCs 0 [] 0 0) (heap_alloc_new _ _) sizeTok rfl (tokCs_one _ _ _ _) ?_)
    intro w3 hg3 hgr hsz
    have hb3 : Below W.heap.size W w3 := (hb2.al _).grown hgr (by have := hb2.size; simp; omega) (by intro k hk; injection hk with hk; have := hb2.size; omega)
    have hcell : Hid (w3.heap[w.heap.size]? = some (.cells (tokCs 0 [] 0 0) 25)) := (hb3.block _ hWs).trans hW.out
    have hs3 : w2.heap.size < w3.heap.size := by have h := hsz.out; first | omega | (simp at h; omega)
    clear hgr hsz hb2
    go_wp2_with (first
      | (refine wpList_load_row rfl 25 (.tmp 7) rfl w2.heap.size rfl 25 (tokCs 4 B a0 ((a0 + 1 + K : Nat) : Int)) (0, 0) _ hg3.out Try.underlying25 rfl sizeTok ?_)
      | (refine wpList_store_rowA rfl 25 (.tmp 4) (.tmp 32) rfl w.heap.size (tokCs 4 B a0 ((a0 + 1 + K : Nat) : Int)) rfl rfl 25 (tokCs 0 [] 0 0) hcell.out sizeTok rfl (tokCs_one _ _ _ _) ?_))
    intro w4 hg4 hgr hsz
    have hb4 : Below w.heap.size w w4 := (hWb.trans (hb3.mono (by omega))).grown hgr (by omega) (by intro k hk; injection hk with hk; omega)
    clear hgr hsz
    go_wp2_with fail
    refine bodyPost_ret (v := .tuple #[.agg (tokCs 4 B a0 ((a0 + 1 + K : Nat) : Int)), .int .i64 ((a0 + 1 + K : Nat) : Int), .bool true]) ?_ rfl (RPost.of hnx2.out rfl rfl hb4)
    exact results_cell3 rfl _ _ w.heap.size 25 _ (0, 0) _ rfl hg4.out Try.underlying25 rfl sizeTok _ _ rfl rfl

end Go.Proofs.Ytefgipoegnacjaa
