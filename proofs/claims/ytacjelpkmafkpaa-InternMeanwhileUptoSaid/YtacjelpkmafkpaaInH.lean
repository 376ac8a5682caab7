/- Intern: the document's table: Put, PutAll. -/
import Derived.Test.YtacjelpkmafkpaaInG
namespace Go.Proofs.Ytacjelpkmafkpaa
open Go.RowKit It
set_option maxHeartbeats 2000000
set_option maxRecDepth 100000
section
variable {w w' : World} {B rb : Nat} {v : Value} {L : List ByteArray}
def RPutP (w : World) (B rb : Nat) (v : Value) (L' : List ByteArray) (w' : World) : Prop :=
  ∃ v', RTab w' B rb v' L' ∧ KeptR (RTabB rb v) w w' ∧ ∀ k, v'.ownBlock = some k → v.ownBlock = some k ∨ w.heap.size ≤ k
theorem rf_Put (h : RTab w B rb v L) (s : ByteArray) (hl : L.length + 1 ≤ 8796093022208) : Calls Try.prog 13 #[.pointer (some ⟨rb, 0, none⟩), .string s] w fun e w' => e = .returned (.tuple #[.int .i64 (L.idxOf s : Nat), .int .i64 0]) ∧ RPutP w B rb v (put L s) w' := by
  obtain ⟨c0, f0⟩ := h.cells
  obtain ⟨is, his, hz0, hz1, hz2⟩ := info_parts infoStr
  obtain ⟨va, vc, rfl, -⟩ := own_slice h.row
  have h0 := Lib.hid h
  have hfi := Lib.hid (rf_Find h s)
  clear h
  by_cases hm : s ∈ L
  · have hfi' := hfi.out
    unfold FindP at hfi'
    rw [decide_eq_true hm] at hfi'
    replace hfi' := Lib.hid hfi'
    replace hm := Lib.hid hm
    go_enter Try.func13, Try.ntmps13
    go_wp2_with (go_at_call 27; refine hfi'.out.mono ?_; rintro e w1 ⟨⟨c, rfl, hc⟩, rfl⟩; replace hc := Lib.hid hc)
    go_ret2
    refine ⟨by rw [← hc.out hm.out]; rfl, _, ?_, KeptR.refl _ _, fun k hk => .inl hk⟩
    unfold put
    rw [if_pos hm.out]; exact h0.out
  · have hfi' := hfi.out
    unfold FindP at hfi'
    rw [decide_eq_false hm] at hfi'
    replace hfi' := Lib.hid hfi'
    replace hm := Lib.hid hm
    have hlt := (h0.out.lt rb (.inl rfl)).2
    have hge := h0.out.ge
    have hne := Lib.hid h0.out.ne
    have hbs : Hid (B ≤ w.heap.size) := Lib.hid (by omega)
    have h63 : Hid (L.length + 1 ≤ maxLen) := Lib.hid (by unfold maxLen; omega)
    have h64 : Hid ((L.length + 1) * 16 ≤ 140737488355328) := Lib.hid (by omega)
    replace hlt := Lib.hid hlt
    clear hge
    go_enter Try.func13, Try.ntmps13
    go_wp2_with (first
      | (go_at_call 27; refine hfi'.out.mono ?_; rintro e w1 ⟨⟨c, rfl, hc⟩, rfl⟩; clear hc)
      | (at_builtin; refine wpList_append_two _ rfl (.tmp 22) (.tmp 24) 22 rfl B 9 is (.string ⟨#[]⟩) 1 16 Try.underlying22 his hz0 hz1 hz2 rfl (by decide) _ L.length (L.map Value.string) rfl (h0.out.row.alloc _) ⟨w.heap.size, 0, none⟩ 1 1 [.string s] rfl rfl (cell_one_new _ _ _) (by intro u hu; simp at hu; subst hu; rfl) (by decide) h63.out h64.out (by rw [World.size_alloc]; have := hbs.out; omega) ?_))
    intro g c2 w2 hown hg
    have hgv : (Value.slice va L.length vc).ownBlock = some g ∨ g = w.heap.size + 1 := hg.imp (fun h => h.1) (fun h => h.1)
    have hgl : (w.alloc (.cells #[.string s] 9)).heap.size = w.heap.size + 1 := World.size_alloc _ _
    obtain ⟨r, hgr, hr2⟩ : ∃ r, (w.alloc (.cells #[.string s] 9)).grownBy w2 r ∧ ∀ k, r = some k → k = g := by
      rcases hg with h | h
      · exact ⟨_, h.2, fun k hk => by injection hk with hk; exact hk.symm⟩
      · exact ⟨_, h.2, fun k hk => by cases hk⟩
    have hgb : g ≠ rb := by
      rcases hgv with h | h
      · intro e; exact hne.out (by rw [h, e])
      · have := hlt.out; omega
    have k2 : w2.heap[rb]? = _ := (hgr.block rb (by rw [hgl]; have := hlt.out; omega) (fun e => hgb (hr2 rb e.symm).symm)).trans ((heap_alloc_old w (.cells #[.string s] 9) hlt.out).trans h0.out.blk)
    have c2' : w2.cell? ⟨rb, 0, none⟩ = some (.slice va L.length vc) := cell_of_row _ _ _ _ _ _ k2
    have f2 : w2.frozen? ⟨rb, 0, none⟩ = false := frozen_of_row _ _ _ _ _ k2
    have k3 := heap_setCell_same w2 rb 0 _ _ (.slice (some ⟨g, 0, none⟩) (L.length + 1) c2) k2
    have c3 : (w2.setCell ⟨rb, 0, none⟩ (.slice (some ⟨g, 0, none⟩) (L.length + 1) c2)).cell? ⟨rb, 0, none⟩ = some (.slice (some ⟨g, 0, none⟩) (L.length + 1) c2) := cell_of_row _ _ _ _ _ _ k3
    have hown2 := Lib.hid hown
    have hk3 : Hid (KeptR (RTabB rb (.slice va L.length vc)) w (w2.setCell ⟨rb, 0, none⟩ (.slice (some ⟨g, 0, none⟩) (L.length + 1) c2))) := Lib.hid ((((KeptR.refl _ w).al _).grown hgr (fun k hk => by
      rw [hr2 k hk]
      rcases hgv with h | h
      · exact .inl (.inr h)
      · right; omega)).set (.inl (.inl rfl)))
    have hk3' := Lib.hid k3
    have hgv' := Lib.hid hgv
    have hgb' := Lib.hid hgb
    clear hown hg hgr hr2 k2 hgv hgb hgl k3
    go_wp2_with fail
    go_ret2
    refine ⟨by rw [List.idxOf_eq_length hm.out]; rfl, .slice (some ⟨g, 0, none⟩) (L.length + 1) c2, ?_, hk3.out, fun k hk => ?_⟩
    · unfold put
      rw [if_neg hm.out]
      refine ⟨hk3'.out, ?_, by rw [List.length_append]; exact hl, h0.out.ge⟩
      have := own_setOther (g := rb) (i := 0) (u := .slice (some ⟨g, 0, none⟩) (L.length + 1) c2) hown2.out (fun e => hgb'.out (by injection e))
      rw [List.length_append, List.map_append]; exact this
    · cases hk
      exact hgv'.out.imp id fun e => by show w.heap.size ≤ g; omega
end
end Go.Proofs.Ytacjelpkmafkpaa
