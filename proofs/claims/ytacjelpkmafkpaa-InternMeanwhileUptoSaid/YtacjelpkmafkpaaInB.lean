/- Intern: New, made, Put, Find, Len, Text. -/
import Derived.Test.YtacjelpkmafkpaaInA
namespace Go.Proofs.Ytacjelpkmafkpaa
open Go.RowKit It
set_option maxHeartbeats 2000000
set_option maxRecDepth 100000
theorem neq_map (m : Nat) (w : World) : (binOp .neq 58 (.map (some m)) (.map none)).run Try.prog w = .ok (.bool true) w := rfl
attribute [local go_sem] neq_map
theorem own_slice {w : World} {base : Nat} {e : TypeId} {size : Nat} {v : Value} {n : Nat} {xs : List Value} (h : w.ownsRow base e size v n xs) : ∃ a c, v = .slice a n c ∧ (a = none → n = 0) := by
  rcases h.2 with ⟨rfl, rfl⟩ | ⟨k, cap, cur, rfl, _⟩
  · exact ⟨none, 0, rfl, fun _ => rfl⟩
  · exact ⟨_, _, rfl, fun h => by cases h⟩
section
variable {w : World} {B b mb : Nat} {v : Value} {L : List ByteArray}
theorem in_New (w : World) : Calls Try.prog 6 #[] w fun e w' => ∃ b mb, e = .returned (.pointer (some ⟨b, 0, none⟩)) ∧ Tab w' w.heap.size b (.slice none 0 0) mb [] ∧ Below w.heap.size w w' := by
  have hmm := @run_makeMap Try.prog
  go_enter Try.func6, Try.ntmps6
  go_wp2
  go_ret
  refine ⟨_, _, rfl, ⟨?_, World.ownsRow_nil _ _ _ _, ⟨_, (World.ownsMap_made _ _ _ _).alloc _, Rel.nil⟩, List.nodup_nil, (fun s hs => by cases hs), Nat.zero_le _, ?_, ?_⟩, ((Below.refl _ _).al _).al _⟩
  · have := heap_alloc_new (w.alloc (.map #[] 0)) (.cells #[.slice none 0 0, .map (some w.heap.size)] 60)
    rw [World.size_alloc] at this; exact this
  · omega
  · omega
theorem in_made (h : Tab w B b v mb L) : Calls Try.prog 25 #[.pointer (some ⟨b, 0, none⟩)] w fun e w' => e = .returned (.bool true) ∧ w = w' := by
  obtain ⟨c0, c1, -⟩ := h.cells
  go_enter Try.func25, Try.ntmps25
  go_wp2
  go_ret
  exact ⟨rfl, rfl⟩
theorem in_Len (h : Tab w B b v mb L) : Calls Try.prog 19 #[.pointer (some ⟨b, 0, none⟩)] w fun e w' => e = .returned (.int .i64 L.length) ∧ w = w' := by
  obtain ⟨c0, c1, -⟩ := h.cells
  obtain ⟨va, vc, rfl, -⟩ := own_slice h.row
  replace h := Lib.hid h
  go_enter Try.func19, Try.ntmps19
  go_wp2_with (go_at_call 25; refine (in_made h.out).mono ?_; rintro e w1 ⟨rfl, rfl⟩)
  go_ret
  exact ⟨rfl, rfl⟩
theorem in_Find (h : Tab w B b v mb L) (s : ByteArray) (hs : s.size ≤ maxLen) : Calls Try.prog 21 #[.pointer (some ⟨b, 0, none⟩), .string s] w fun e w' => (∃ c, e = .returned (.tuple #[.int .i64 c, .bool (decide (s ∈ L))]) ∧ (s ∈ L → c = (L.idxOf s : Nat))) ∧ w = w' := by
  obtain ⟨c0, c1, -⟩ := h.cells
  obtain ⟨D, hD, hr⟩ := h.map_
  obtain ⟨r1, r2⟩ := hr s
  replace h := Lib.hid h
  replace hD := Lib.hid hD
  replace r1 := Lib.hid r1
  replace r2 := Lib.hid r2
  have hkey := Lib.hid (WideMaps.keyOf_string_mk Try.underlying9 hs)
  clear hr
  go_enter Try.func21, Try.ntmps21
  go_wp2_with (first
    | (go_at_call 25; refine (in_made h.out).mono ?_; rintro e w1 ⟨rfl, rfl⟩)
    | (at_lookup; refine wpList_lookup_own_ok_int _ rfl _ _ 58 rfl 9 3 .i64 strLaw Try.underlying58 Try.underlying3 (zeroInt _) mb _ D rfl hD.out _ _ rfl hkey.out ?_; intro c hat hwc))
  go_ret2
  refine ⟨⟨c, by rw [← show Maps.has D (.string s.data.toList) = decide (s ∈ L) from r1.out]; rfl, fun hm => ?_⟩, rfl⟩
  have := (r2.out hm _).symm.trans hat
  injection this with this
  injection this with _ this
  exact this.symm
/-- what a text put in leaves -/
def PutP (w : World) (B b : Nat) (v : Value) (mb : Nat) (L : List ByteArray) (L' : List ByteArray) (w' : World) : Prop :=
  ∃ v', Tab w' B b v' mb L' ∧ KeptR (TabB b v mb) w w' ∧ (∀ k, v'.ownBlock = some k → v.ownBlock = some k ∨ w.heap.size ≤ k) ∧ ∀ g c j, v = .slice (some ⟨g, 0, none⟩) L.length c → j < L.length → w'.cell? ⟨g, j, none⟩ = w.cell? ⟨g, j, none⟩
theorem in_Put (h : Tab w B b v mb L) (s : ByteArray) (hs : s.size ≤ maxLen) (hl : L.length + 1 ≤ 8796093022208) : Calls Try.prog 12 #[.pointer (some ⟨b, 0, none⟩), .string s] w fun e w' => e = .returned (.tuple #[.int .i64 (L.idxOf s : Nat), .int .i64 0]) ∧ PutP w B b v mb L (put L s) w' := by
  obtain ⟨c0, c1, f0⟩ := h.cells
  obtain ⟨D, hD, hr⟩ := h.map_
  obtain ⟨r1, r2⟩ := hr s
  obtain ⟨is, his, hz0, hz1, hz2⟩ := info_parts infoStr
  obtain ⟨va, vc, rfl, -⟩ := own_slice h.row
  have hIs := hD.isMap
  have h0 := Lib.hid h
  replace hD := Lib.hid hD
  replace r1 := Lib.hid r1
  replace r2 := Lib.hid r2
  replace hr := Lib.hid hr
  have hkey := Lib.hid (WideMaps.keyOf_string_mk Try.underlying9 hs)
  clear h
  by_cases hm : s ∈ L
  · have r1' : Hid (Maps.has D (.string s.data.toList) = true) := Lib.hid (r1.out.trans (decide_eq_true hm))
    replace hm := Lib.hid hm
    go_enter Try.func12, Try.ntmps12
    go_wp2_with (first
      | (go_at_call 25; refine (in_made h0.out).mono ?_; rintro e w1 ⟨rfl, rfl⟩)
      | (at_lookup; refine wpList_lookup_own_ok_int _ rfl _ _ 58 rfl 9 3 .i64 strLaw Try.underlying58 Try.underlying3 (zeroInt _) mb _ D rfl hD.out _ _ rfl hkey.out ?_; intro c hat hwc; rw [r1'.out]))
    go_ret2
    have hc := (r2.out hm.out _).symm.trans hat
    injection hc with hc
    injection hc with _ hc
    refine ⟨by rw [hc]; rfl, _, ?_, KeptR.refl _ _, fun k hk => .inl hk, fun _ _ _ _ _ => rfl⟩
    unfold put
    rw [if_pos hm.out]; exact h0.out
  · have r1' : Hid (Maps.has D (.string s.data.toList) = false) := Lib.hid (r1.out.trans (decide_eq_false hm))
    have hb := Lib.hid h0.out.mb_ne
    replace hm := Lib.hid hm
    go_enter Try.func12, Try.ntmps12
    go_wp2_with (first
      | (go_at_call 25; refine (in_made h0.out).mono ?_; rintro e w1 ⟨rfl, rfl⟩)
      | (at_lookup; refine wpList_lookup_own_ok_int _ rfl _ _ 58 rfl 9 3 .i64 strLaw Try.underlying58 Try.underlying3 (zeroInt _) mb _ D rfl hD.out _ _ rfl hkey.out ?_; intro c hat hwc; rw [r1'.out])
      | (at_mapUpdate; refine wpList_mapUpdate_own _ rfl _ _ _ 58 rfl 9 3 strLaw Try.underlying58 (plainElem Try.prog 3) mb L.length D rfl hD.out (by unfold maxLen; omega) _ _ _ rfl rfl hkey.out _ [] (plainElem_int Try.underlying3 (WalkArith.wf_i64 (by omega))) ?_))
    intro w1 hown1 hg1
    have k0 : w1.heap[b]? = _ := (hg1.block b (Array.getElem?_eq_some_iff.1 h0.out.blk).1 (fun e => hb.out.1 (by injection e with e; exact e.symm))).trans h0.out.blk
    have c0' : w1.cell? ⟨b, 0, none⟩ = some (.slice va L.length vc) := cell_of_row _ _ _ _ _ _ k0
    have row1 : Hid (w1.ownsRow B 9 1 (.slice va L.length vc) L.length (L.map Value.string)) := Lib.hid (own_grownOther h0.out.row hg1 (fun k hk e => hb.out.2.1 (by rw [hk, e])))
    have hge := h0.out.ge
    have hlt := (h0.out.lt b (.inl rfl)).2
    have hs1 := hg1.size
    have hbs : Hid (B ≤ w1.heap.size) := Lib.hid (by omega)
    have h63 : Hid (L.length + 1 ≤ maxLen) := Lib.hid (by unfold maxLen; omega)
    have h64 : Hid ((L.length + 1) * 16 ≤ 140737488355328) := Lib.hid (by omega)
    have hg1' := Lib.hid hg1
    have hown1' := Lib.hid hown1
    have k0' := Lib.hid k0
    have f0' : w1.frozen? ⟨b, 0, none⟩ = false := frozen_of_row _ _ _ _ _ k0
    clear hg1 hown1 k0 hge hlt hs1 r1' r1 hat hwc
    go_wp2_with (at_builtin; refine wpList_append_two _ rfl (.tmp 38) (.tmp 40) 22 rfl B 9 is (.string ⟨#[]⟩) 1 16 Try.underlying22 his hz0 hz1 hz2 rfl (by decide) _ L.length (L.map Value.string) rfl (row1.out.alloc _) ⟨w1.heap.size, 0, none⟩ 1 1 [.string s] rfl rfl (cell_one_new _ _ _) (by intro u hu; simp at hu; subst hu; rfl) (by decide) h63.out h64.out (by rw [World.size_alloc]; have := hbs.out; omega) ?_)
    intro g c2 w2 hown hg
    have hgl : (w1.alloc (.cells #[.string s] 9)).heap.size = w1.heap.size + 1 := World.size_alloc _ _
    have hgv : (Value.slice va L.length vc).ownBlock = some g ∨ g = w1.heap.size + 1 := hg.imp (fun h => h.1) (fun h => h.1)
    obtain ⟨r, hgr, hr2⟩ : ∃ r, (w1.alloc (.cells #[.string s] 9)).grownBy w2 r ∧ ∀ k, r = some k → k = g := by
      rcases hg with h | h
      · exact ⟨_, h.2, fun k hk => by injection hk with hk; exact hk.symm⟩
      · exact ⟨_, h.2, fun k hk => by cases hk⟩
    have hblt := (Array.getElem?_eq_some_iff.1 k0'.out).1
    have hgb : g ≠ b := by
      rcases hgv with h | h
      · intro e; exact hb.out.2.2 (by rw [h, e])
      · omega
    have hgm : g ≠ mb := by
      rcases hgv with h | h
      · intro e; exact hb.out.2.1 (by rw [h, e])
      · have := hown1'.out.lt; omega
    have k2 : w2.heap[b]? = _ := (hgr.block b (by rw [hgl]; omega) (fun e => hgb (hr2 b e.symm).symm)).trans ((heap_alloc_old w1 (.cells #[.string s] 9) hblt).trans k0'.out)
    have c2' : w2.cell? ⟨b, 0, none⟩ = some (.slice va L.length vc) := cell_of_row _ _ _ _ _ _ k2
    have f2 : w2.frozen? ⟨b, 0, none⟩ = false := frozen_of_row _ _ _ _ _ k2
    have hown2 := Lib.hid hown
    have hmap2 : Hid ((w2.setCell ⟨b, 0, none⟩ (.slice (some ⟨g, 0, none⟩) (L.length + 1) c2)).ownsMap Try.prog 9 (plainElem Try.prog 3) mb (L.length + 1) (D.put (sKey s) (.lit (.int .i64 (L.length : Nat))))) := Lib.hid (((hown1'.out.alloc _).kept hgr (fun e => hgm (hr2 mb e.symm).symm)).setCell (by show mb ≠ b; exact hb.out.1) _)
    have hk3 : Hid (KeptR (TabB b (.slice va L.length vc) mb) w (w2.setCell ⟨b, 0, none⟩ (.slice (some ⟨g, 0, none⟩) (L.length + 1) c2))) := Lib.hid (((((KeptR.refl _ w).grown hg1'.out (fun k hk => .inl (.inr (.inl (by injection hk with hk; exact hk.symm))))).al _).grown hgr (fun k hk => by
      rw [hr2 k hk]
      rcases hgv with h | h
      · exact .inl (.inr (.inr h))
      · right; have := hg1'.out.size; omega)).set (.inl (.inl rfl)))
    have hold : Hid (∀ g0, (Value.slice va L.length vc).ownBlock = some g0 → g = w1.heap.size + 1 → w2.heap[g0]? = w.heap[g0]?) := Lib.hid fun g0 h0' hn => by
      have hlt0 := (own_lt h0.out.row g0 h0').2
      have hs1 := hg1'.out.size
      rw [hgr.block g0 (by rw [hgl]; omega) (fun e => by have := hr2 g0 e.symm; omega), heap_alloc_old w1 _ (by omega), hg1'.out.block g0 hlt0 (fun e => by injection e with e; exact hb.out.2.1 (by rw [h0', e]))]
    have hk2' := Lib.hid k2
    have hgv' := Lib.hid hgv
    have hgb' := Lib.hid hgb
    clear hown hg hgr hr2 hblt k2 hgv hgb hgm hgl
    go_wp2_with fail
    go_ret2
    refine ⟨by rw [List.idxOf_eq_length hm.out]; rfl, .slice (some ⟨g, 0, none⟩) (L.length + 1) c2, ?_, hk3.out, fun k hk => ?_, fun g0 c j hv hj => ?_⟩
    · unfold put
      rw [if_neg hm.out]
      refine ⟨heap_setCell_same _ _ _ _ _ _ hk2'.out, ?_, ⟨_, ?_, hr.out.put hIs hm.out⟩, ?_, fun x hx => ?_, by rw [List.length_append]; exact hl, h0.out.ge⟩
      · have := own_setOther (g := b) (i := 0) (u := .slice (some ⟨g, 0, none⟩) (L.length + 1) c2) hown2.out (fun e => hgb'.out (by injection e))
        rw [List.length_append, List.map_append]; exact this
      · rw [List.length_append]; exact hmap2.out
      · have := put_nodup h0.out.nodup s
        unfold put at this
        rw [if_neg hm.out] at this; exact this
      · rcases List.mem_append.1 hx with hx | hx
        · exact h0.out.size x hx
        · simp at hx; subst hx; exact hs
    · cases hk
      exact hgv'.out.imp id fun e => by have := hg1'.out.size; show w.heap.size ≤ g; omega
    · have hrow0 := h0.out.row
      injection hv with hv _ hv3
      subst hv hv3
      rw [World.cell?_setCell_other (w := w2) (a := ⟨b, 0, none⟩) (h := by intro e; injection e with e; exact hb.out.2.2 (by rw [e]; rfl))]
      rcases hgv'.out with h | h
      · have hgg : g0 = g := by injection h
        subst hgg
        rw [hown2.out.cellAt j (by omega), hrow0.cellAt j (by omega), List.getElem?_append_left (by simpa using hj)]
      · exact World.cell?_of_block (hold.out g0 rfl h)
end
end Go.Proofs.Ytacjelpkmafkpaa
