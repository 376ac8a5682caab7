/- The reference's str. -/
import Derived.Test.YtefgipoegnacjaaProg
import Derived.Test.YtefgipoegnacjaaBase
import Derived.Test.YtefgipoegnacjaaBytes
import Derived.Test.YtefgipoegnacjaaLexSpec
import Derived.Test.YtefgipoegnacjaaLexA
import Derived.Test.YtefgipoegnacjaaLexB
import Derived.Test.YtefgipoegnacjaaLexE
import Derived.Test.YtefgipoegnacjaaLexF
namespace Go.Proofs.Ytefgipoegnacjaa
open Go.RowKit Lx

theorem pieceL_range (l : Bs) : -4 ≤ (pieceL l).2 ∧ (pieceL l).2 ≤ 4 := by
  unfold pieceL
  repeat' split
  all_goals simp

/-- a token's cells -/
def tokCs (k : Int) (l : Bs) (a b : Int) : Array Value := #[.int .i64 k, .string (mk l), .int .i64 a, .int .i64 b]
theorem tokCs_one (k : Int) (l : Bs) (a b : Int) : ((tokCs k l a b).all fun x => x.oneCell') = true := by simp [tokCs, Value.oneCell']
theorem sizeTok : (Try.prog.info? 25).map (fun i => i.size) = some 4 := by kernel_rfl

/-- the post of str: the token at at_, how far, whole -/
def SPost (s : ByteArray) (at_ : Nat) (w : World) (e : Ending) (w' : World) : Prop :=
  e = .returned (.tuple #[.agg (if (quo ((bl s).drop (at_ + 1)) 0).2.2 then tokCs 4 (quo ((bl s).drop (at_ + 1)) 0).1 at_ ((at_ + 1 + (quo ((bl s).drop (at_ + 1)) 0).2.1 : Nat) : Int) else tokCs 0 [] 0 0),
    .int .i64 ((at_ + 1 + (quo ((bl s).drop (at_ + 1)) 0).2.1 : Nat) : Int), .bool (quo ((bl s).drop (at_ + 1)) 0).2.2]) ∧ Below w.heap.size w w'
theorem SPost.bad {s : ByteArray} {at_ j : Nat} {w w' : World} {acc b : Bs} {n : Int} {k : Nat} (h : QAt (quo ((bl s).drop (at_ + 1)) 0) (at_ + 1) acc j (b, k, false)) (hn : n = ((j + k : Nat) : Int)) (hb : Below w.heap.size w w') :
    SPost s at_ w (.returned (.tuple #[.agg (tokCs 0 [] 0 0), .int .i64 n, .bool false])) w' := by
  unfold SPost
  rw [h.ok, h.far, hn]
  exact ⟨rfl, hb⟩
theorem SPost.good {s : ByteArray} {at_ j : Nat} {w w' : World} {acc : Bs} (h : QAt (quo ((bl s).drop (at_ + 1)) 0) (at_ + 1) acc j ([], 1, true)) (hb : Below w.heap.size w w') :
    SPost s at_ w (.returned (.tuple #[.agg (tokCs 4 acc at_ ((j : Int) + 1)), .int .i64 ((j : Int) + 1), .bool true])) w' := by
  unfold SPost
  have ht : (quo ((bl s).drop (at_ + 1)) 0).1 = acc := by rcases h.text with h | h
                                                          · simpa using h
                                                          · cases h
  rw [h.ok, h.far, ht]
  exact ⟨rfl, hb⟩

set_option maxHeartbeats 4000000 in
theorem rx_str (s : ByteArray) (i : Int) (w : World) (hs : s.size ≤ 4194304) (hi0 : 0 ≤ i) (hi1 : i < s.size) :
    Calls Try.prog 44 #[.string s, .int .i64 i] w (SPost s i.toNat w) := by
  obtain ⟨a0, rfl⟩ := Int.eq_ofNat_of_zero_le hi0
  rw [Int.toNat_natCast]
  obtain ⟨ib, hib, hz0, hz1, hz2⟩ := info_parts infoByte
  have hW : Hid ((w.alloc (.cells #[.int .i64 0, .string ⟨#[]⟩, .int .i64 0, .int .i64 0] 25)).heap[w.heap.size]? = some (.cells (tokCs 0 [] 0 0) 25)) := heap_alloc_new _ _
  have hWb : Below w.heap.size w (w.alloc (.cells #[.int .i64 0, .string ⟨#[]⟩, .int .i64 0, .int .i64 0] 25)) := (Below.refl _ _).al _
  have hWs : w.heap.size < (w.alloc (.cells #[.int .i64 0, .string ⟨#[]⟩, .int .i64 0, .int .i64 0] 25)).heap.size := by simp
  go_enter Try.func44, Try.ntmps44
  go_wp2_with fail
  generalize w.alloc (.cells #[.int .i64 0, .string ⟨#[]⟩, .int .i64 0, .int .i64 0] 25) = W at hW hWb hWs ⊢
  go_loopw [7, 8, 9, 10] (fun b i c n wr => ∃ (j : Nat) (acc : Bs), j ≤ s.size ∧ i = .int .i64 j ∧ acc.length ≤ 1024 ∧ Hid (wr.ownsRow W.heap.size 5 1 b acc.length (acc.map u8v)) ∧ Hid (Below W.heap.size W wr) ∧
      Hid (QAt (quo ((bl s).drop (a0 + 1)) 0) (a0 + 1) acc j (quo ((bl s).drop j) acc.length))) (fun _ i _ _ _ => s.size - (intOf i).toNat)
  case atStart => exact ⟨a0 + 1, [], by omega, by go_num, by simp, World.ownsRow_nil _ _ _ _, Below.refl _ _, ⟨.inl rfl, rfl, rfl⟩⟩
  case round =>
    obtain ⟨j, acc, hj, rfl, hlen, hown0, hb0, hq⟩ := hrel
    obtain ⟨va, vc, rfl, hva⟩ := own_slice hown0.out
    clear hva
    have hcell : Hid (wr.heap[w.heap.size]? = some (.cells (tokCs 0 [] 0 0) 25)) := (hb0.out.block _ hWs).trans hW.out
    by_cases hlt : j < s.size
    · have hidx := fun w => run_index_str (P := Try.prog) Try.underlying9 s j hlt w
      have hq0 := hq.out
      rw [drop_bl s j hlt] at hq0
      have hbi : bi ((bl s).getD j 0) = bat s j := rfl
      by_cases h34 : bat s j = 34
      · rw [quo_34 _ _ _ (hbi.trans h34)] at hq0
        have hconv := run_string_own (P := Try.prog) Try.underlying35 Try.underlying5 Try.underlying9 hown0.out
        have g1 : (bat s j == 34) = true := by simp [h34]
        replace hq0 := Lib.hid hq0
        clear h34 hbi hq
        go_wp2_with (refine wpList_store_rowA rfl 25 (.tmp 4) (.tmp 26) rfl w.heap.size (tokCs 4 acc a0 ((j : Int) + 1)) rfl rfl 25 (tokCs 0 [] 0 0) hcell.out sizeTok rfl (tokCs_one _ _ _ _) ?_)
        intro w2 hg2 hgr hsz
        have hb2 : Below w.heap.size w w2 := (hWb.trans (hb0.out.mono (by omega))).grown hgr (by have := hb0.out.size; omega) (by intro k hk; injection hk with hk; omega)
        clear hgr hsz
        go_wp2_with fail
        refine bodyPost_ret (v := .tuple #[.agg (tokCs 4 acc a0 ((j : Int) + 1)), .int .i64 ((j : Int) + 1), .bool true]) ?_ rfl (SPost.good hq0.out hb2)
        exact results_cell3 rfl _ _ w.heap.size 25 _ (0, 0) _ rfl hg2.out Try.underlying25 rfl sizeTok _ _ rfl rfl
      · have g1 : (bat s j == 34) = false := by rw [beq_eq_false_iff_ne]; exact h34
        have hp := rx_piece s (j : Int) wr hs (by omega) (by omega)
        rw [Int.toNat_natCast] at hp
        replace hp := Lib.hid hp
        by_cases hn : acc.length = 1024
        · have g2 : ((acc.length : Int) == 1024) = true := by simp [hn]
          have hq2 : Hid (QAt (quo ((bl s).drop (a0 + 1)) 0) (a0 + 1) acc j ([], 0, false)) := by
            have := hq0; rw [quo_bad _ _ _ (by rw [hbi]; exact h34) (.inl hn)] at this; exact this
          clear hn hq0 hbi hq
          go_wp2_with fail
          refine hp.out.mono ?_
          rintro e wp ⟨rfl, hd⟩
          have hbp : Hid (Below W.heap.size W wp) := hb0.out.trans (hd.below _)
          have hcp : Hid (wp.heap[w.heap.size]? = some (.cells (tokCs 0 [] 0 0) 25)) := (hbp.out.block _ hWs).trans hW.out
          clear hd hp hcell hb0 hown0
          go_wp2_with (refine wpList_store_rowA rfl 25 (.tmp 4) (.tmp 38) rfl w.heap.size (tokCs 0 [] 0 0) rfl rfl 25 (tokCs 0 [] 0 0) hcp.out sizeTok rfl (tokCs_one _ _ _ _) ?_)
          intro w2 hg2 hgr hsz
          have hb2 : Below w.heap.size w w2 := (hWb.trans (hbp.out.mono (by omega))).grown hgr (by have := hbp.out.size; omega) (by intro k hk; injection hk with hk; omega)
          clear hgr hsz
          go_wp2_with fail
          refine bodyPost_ret (v := .tuple #[.agg (tokCs 0 [] 0 0), .int .i64 (j : Int), .bool false]) ?_ rfl (SPost.bad hq2.out (by omega) hb2)
          exact results_cell3 rfl _ _ w.heap.size 25 _ (0, 0) _ rfl hg2.out Try.underlying25 rfl sizeTok _ _ rfl rfl
        · have g2 : ((acc.length : Int) == 1024) = false := by rw [beq_eq_false_iff_ne]; omega
          have hpc := quo_piece ((bl s).getD j 0) ((bl s).drop (j + 1)) acc.length (by rw [hbi]; exact h34) hn
          rw [← drop_bl s j hlt] at hpc hq0
          rcases hpc with ⟨hneg, hquo⟩ | ⟨b, k, hk1, hk2, hpe, hquo⟩
          · have hq2 : Hid (QAt (quo ((bl s).drop (a0 + 1)) 0) (a0 + 1) acc j ([], (-(pieceL ((bl s).drop j)).2 - 1).toNat, false)) := by
              have := hq0; rw [hquo] at this; exact this
            obtain ⟨N, hN⟩ : ∃ N, N = (pieceL ((bl s).drop j)).2 := ⟨_, rfl⟩
            have hNr := pieceL_range ((bl s).drop j)
            rw [← hN] at hneg hq2 hNr
            have gn : decide (N < 0) = true := decide_eq_true hneg
            replace hN := Lib.hid hN
            clear hn hq0 hbi hq hquo
            go_wp2_with fail
            refine hp.out.mono ?_
            rintro e wp ⟨he, hd⟩
            rw [← hN.out] at he
            subst he
            have hbp : Hid (Below W.heap.size W wp) := hb0.out.trans (hd.below _)
            have hcp : Hid (wp.heap[w.heap.size]? = some (.cells (tokCs 0 [] 0 0) 25)) := (hbp.out.block _ hWs).trans hW.out
            clear hd hp hcell hb0 hown0 hN
            go_wp2_with (refine wpList_store_rowA rfl 25 (.tmp 4) (.tmp 42) rfl w.heap.size (tokCs 0 [] 0 0) rfl rfl 25 (tokCs 0 [] 0 0) hcp.out sizeTok rfl (tokCs_one _ _ _ _) ?_)
            intro w2 hg2 hgr hsz
            have hb2 : Below w.heap.size w w2 := (hWb.trans (hbp.out.mono (by omega))).grown hgr (by have := hbp.out.size; omega) (by intro k hk; injection hk with hk; omega)
            clear hgr hsz
            go_wp2_with fail
            refine bodyPost_ret (v := .tuple #[.agg (tokCs 0 [] 0 0), .int .i64 ((j : Int) - N - 1), .bool false]) ?_ rfl (SPost.bad hq2.out (by omega) hb2)
            exact results_cell3 rfl _ _ w.heap.size 25 _ (0, 0) _ rfl hg2.out Try.underlying25 rfl sizeTok _ _ rfl rfl
          · have hq2 : Hid (QAt (quo ((bl s).drop (a0 + 1)) 0) (a0 + 1) (acc ++ [b]) (j + k) (quo ((bl s).drop (j + k)) (acc.length + 1))) := by
              have := hq0; rw [hquo] at this
              have h2 := QAt.one this
              rw [List.drop_drop] at h2
              exact h2
            have hkl : j + k ≤ s.size := by rw [List.length_drop, bl_length] at hk2; omega
            have gn : decide ((k : Int) < 0) = false := decide_eq_false (by omega)
            have hlen2 : acc.length < 1024 := by omega
            replace hpe := Lib.hid hpe
            clear hn hq0 hbi hq hquo
            go_wp2_with fail
            refine hp.out.mono ?_
            rintro e wp ⟨he, hd⟩
            rw [hpe.out] at he
            subst he
            have hbp : Hid (Below W.heap.size W wp) := hb0.out.trans (hd.below _)
            have hownp : Hid (wp.ownsRow W.heap.size 5 1 (.slice va acc.length vc) acc.length (acc.map u8v)) := own_below hown0.out (hd.below _)
            have h63 : Hid (acc.length + 1 ≤ maxLen) := by show acc.length + 1 ≤ maxLen; unfold maxLen; omega
            have h64 : Hid ((acc.length + 1) * 1 ≤ 140737488355328) := by show (acc.length + 1) * 1 ≤ 140737488355328; omega
            clear hd hp hcell hb0 hown0 hpe
            go_wp2_with (first
              | (at_builtin; refine wpList_append_own _ rfl (.tmp 47) (.tmp 49) 35 rfl W.heap.size 5 ib (.int .u8 0) 1 1 Try.underlying35 hib hz0 hz1 hz2 rfl (by decide) _ acc.length _ rfl (hownp.out.alloc _) ⟨wp.heap.size, 0, none⟩ 1 1 [.int .u8 (bi b)] rfl rfl own_cells_one (by intro u hu; simp at hu; subst hu; rfl) h63.out h64.out (by rw [World.size_alloc]; have := hbp.out.size; omega) ?_))
            intro v2 w2 hown2 hgrow2 hv2
            have hb2 : Hid (Below W.heap.size W w2) := own_grown hownp.out hbp.out hgrow2
            have hown3 : Hid (w2.ownsRow W.heap.size 5 1 v2 (acc ++ [b]).length ((acc ++ [b]).map u8v)) := by rw [List.length_append]; exact own_snoc hown2
            clear hown2 hgrow2 hv2
            go_wp2
            go_roundw
            case rel => exact ⟨j + k, acc ++ [b], by omega, by go_num, by simp; omega, hown3, hb2, by rw [List.length_append]; exact hq2⟩
            case measure => simp [intOf]; omega
    · have hq2 : Hid (QAt (quo ((bl s).drop (a0 + 1)) 0) (a0 + 1) acc j ([], 0, false)) := by
        have := hq.out; rw [drop_bl_end s j (by omega), quo_nil] at this; exact this
      clear hq
      go_wp2_with (refine wpList_store_rowA rfl 25 (.tmp 4) (.tmp 54) rfl w.heap.size (tokCs 0 [] 0 0) rfl rfl 25 (tokCs 0 [] 0 0) hcell.out sizeTok rfl (tokCs_one _ _ _ _) ?_)
      intro w2 hg2 hgr hsz
      have hb2 : Below w.heap.size w w2 := (hWb.trans (hb0.out.mono (by omega))).grown hgr (by have := hb0.out.size; omega) (by intro k hk; injection hk with hk; omega)
      clear hgr hsz
      go_wp2_with fail
      refine bodyPost_ret (v := .tuple #[.agg (tokCs 0 [] 0 0), .int .i64 (j : Int), .bool false]) ?_ rfl (SPost.bad hq2.out (by omega) hb2)
      exact results_cell3 rfl _ _ w.heap.size 25 _ (0, 0) _ rfl hg2.out Try.underlying25 rfl sizeTok _ _ rfl rfl

end Go.Proofs.Ytefgipoegnacjaa
