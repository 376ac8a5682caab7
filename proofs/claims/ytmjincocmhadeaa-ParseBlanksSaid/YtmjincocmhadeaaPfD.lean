/- Parse: ParseJoins. (gen_pfd.py) -/
import Derived.Test.YtmjincocmhadeaaPfC
import Derived.Test.YtmjincocmhadeaaPmI
namespace Go.Proofs.Ytmjincocmhadeaa
open Go.RowKit Lx
set_option maxHeartbeats 4000000 in
set_option maxRecDepth 100000 in
theorem law8_joins_long (s t : ByteArray) (w : World) (hl : 20000 < s.size ∨ 20000 < t.size) :
    Calls Try.prog 5 #[.string s, .string t] w fun e w' => e = .returned (.bool true) ∧ Below w.heap.size w w' := by
  have hwk := Lib.hid w8_works
  by_cases h0 : 20000 < s.size
  · have d0 : decide ((20000 : Int) < (s.size : Int)) = true := by rw [decide_eq_true_eq]; omega
    clear hl
    go_enter Try.func5, Try.ntmps5
    go_wp2_with (first
      | (go_at_call 8
         refine (w8_long _ _).mono ?_
         rw [d0]
         rintro e wl ⟨rfl, rfl⟩)
      | (go_at_call 9
         refine (hwk.out _).mono ?_
         rintro e w1 ⟨rfl, hb1⟩))
    go_ret
    exact ⟨rfl, hb1⟩
  · have d0 : decide ((20000 : Int) < (s.size : Int)) = false := by rw [decide_eq_false_iff_not]; omega
    have d1 : decide ((20000 : Int) < (t.size : Int)) = true := by rw [decide_eq_true_eq]; omega
    clear hl
    go_enter Try.func5, Try.ntmps5
    go_wp2_with (first
      | (go_at_call 8
         have hg := d0
         refine (w8_long _ _).mono ?_
         rw [d0]
         rintro e wl ⟨rfl, rfl⟩
         clear hg d0)
      | (go_at_call 8
         refine (w8_long _ _).mono ?_
         rw [d1]
         rintro e wl ⟨rfl, rfl⟩)
      | (go_at_call 9
         refine (hwk.out _).mono ?_
         rintro e w1 ⟨rfl, hb1⟩))
    go_ret
    exact ⟨rfl, hb1⟩
/-- whatever is told, it has this form -/
theorem pa_Program_any (s : ByteArray) (w : World) (hs : s.size ≤ 4194304) :
    Calls Try.prog 15 #[.string s] w fun e w' => ∃ v0 n0 c0 v1 n1 c1 v2 n2 c2 v3 n3 c3 v4 n4 c4 v5 n5 c5 at_ er, e = .returned (.tuple #[.agg #[.slice v0 n0 c0, .slice v1 n1 c1, .slice v2 n2 c2], .agg #[.slice v3 n3 c3, .slice v4 n4 c4, .slice v5 n5 c5], .int .i64 at_, .int .i64 er]) ∧ Below w.heap.size w w' := by
  refine (pa_Program s w hs).mono ?_
  intro e w' h
  unfold PgPost at h
  cases hx : psText s with
  | error x =>
    rw [hx] at h
    exact ⟨_, _, _, _, _, _, _, _, _, _, _, _, _, _, _, _, _, _, _, _, h.1, h.2⟩
  | ok l =>
    rw [hx] at h
    obtain ⟨R0, R1, R2, R3, R4, R5, rfl, hb, hpg⟩ := h
    obtain ⟨v0, c0, rfl⟩ := Prg.form0 hpg; obtain ⟨v1, c1, rfl⟩ := Prg.form1 hpg; obtain ⟨v2, c2, rfl⟩ := Prg.form2 hpg; obtain ⟨v3, c3, rfl⟩ := Prg.form3 hpg; obtain ⟨v4, c4, rfl⟩ := Prg.form4 hpg; obtain ⟨v5, c5, rfl⟩ := Prg.form5 hpg
    exact ⟨_, _, _, _, _, _, _, _, _, _, _, _, _, _, _, _, _, _, _, _, rfl, hb⟩
theorem size_join (s t : ByteArray) : (s ++ ⟨#[10]⟩ ++ t).size = s.size + 1 + t.size := by
  rw [← bl_length, bl_appP, bl_appP, List.length_append, List.length_append, bl_length, bl_length]; rfl
set_option maxHeartbeats 4000000 in
set_option maxRecDepth 100000 in
theorem law8_joins_err (s t : ByteArray) (w : World) (h0 : s.size ≤ 20000) (h1 : t.size ≤ 20000) (x : Int) (hx : psText s = .error x) :
    Calls Try.prog 5 #[.string s, .string t] w fun e w' => e = .returned (.bool true) ∧ Below w.heap.size w w' := by
  have d0 : decide ((20000 : Int) < (s.size : Int)) = false := by rw [decide_eq_false_iff_not]; omega
  have d1 : decide ((20000 : Int) < (t.size : Int)) = false := by rw [decide_eq_false_iff_not]; omega
  have hsj : (s ++ ⟨#[10]⟩ ++ t).size ≤ 4194304 := by rw [size_join]; omega
  have hwk := Lib.hid w8_works
  have hnum := Lib.hid w8_num
  have hp1 := fun w => pa_Program s w (by omega)
  rw [hx] at hp1
  unfold PgPost at hp1
  dsimp only at hp1
  replace hp1 := Lib.hid hp1
  have hp2 := Lib.hid fun w => pa_Program_any t w (by omega)
  have hp3 := Lib.hid fun w => pa_Program_any (s ++ ⟨#[10]⟩ ++ t) w hsj
  clear hx hsj
  go_enter Try.func5, Try.ntmps5
  go_wp2_with (first
  | (go_at_call 8
     have hg := d0
     refine (w8_long _ _).mono ?_
     rw [d0]
     rintro e wl ⟨rfl, rfl⟩
     clear hg d0)
  | (go_at_call 8
     have hg := d1
     refine (w8_long _ _).mono ?_
     rw [d1]
     rintro e wl ⟨rfl, rfl⟩
     clear hg d1)
  | (go_at_call 15
     have hg := hp1
     refine (hp1.out _).mono ?_
     rintro e w1 ⟨rfl, hbl⟩
     have hb1 := Lib.hid ((Below.refl w.heap.size w).trans (hbl.mono (Below.refl w.heap.size w).size))
     clear hg hp1 hbl)
  | (go_at_call 15
     have hg := hp2
     refine (hp2.out _).mono ?_
     rintro e w2 ⟨v0p, n0p, c0p, v1p, n1p, c1p, v2p, n2p, c2p, v3p, n3p, c3p, v4p, n4p, c4p, v5p, n5p, c5p, at_p, erp, rfl, hbl⟩
     have hb2 := Lib.hid (((hb1.out.al _).al _).trans (hbl.mono ((hb1.out.al _).al _).size))
     clear hg hp2 hbl)
  | (go_at_call 15
     have hg := hp3
     refine (hp3.out _).mono ?_
     rintro e w3 ⟨v0q, n0q, c0q, v1q, n1q, c1q, v2q, n2q, c2q, v3q, n3q, c3q, v4q, n4q, c4q, v5q, n5q, c5q, at_q, erq, rfl, hbl⟩
     have hb3 := Lib.hid (((hb2.out.al _).al _).trans (hbl.mono ((hb2.out.al _).al _).size))
     clear hg hp3 hbl)
  | (go_at_call 13
     refine (hnum.out _ _).mono ?_
     rintro e wn ⟨rfl, rfl⟩)
  | (go_at_call 9
     refine (hwk.out _).mono ?_
     rintro e w9 ⟨rfl, hbl⟩
     have hb9 := Lib.hid (((hb3.out.al _).al _).trans (hbl.mono ((hb3.out.al _).al _).size))
     clear hbl))
  go_ret
  exact ⟨rfl, hb9.out⟩
set_option maxHeartbeats 4000000 in
set_option maxRecDepth 100000 in
theorem law8_joins_mid (s t : ByteArray) (w : World) (h0 : s.size ≤ 20000) (h1 : t.size ≤ 20000) (l : List Stmt) (hx : psText s = .ok l) (y : Int) (hy : psText t = .error y) (hz : psText (s ++ ⟨#[10]⟩ ++ t) = .error ((s.size : Int) + 1 + y)) :
    Calls Try.prog 5 #[.string s, .string t] w fun e w' => e = .returned (.bool true) ∧ Below w.heap.size w w' := by
  have d0 : decide ((20000 : Int) < (s.size : Int)) = false := by rw [decide_eq_false_iff_not]; omega
  have d1 : decide ((20000 : Int) < (t.size : Int)) = false := by rw [decide_eq_false_iff_not]; omega
  have hsj : (s ++ ⟨#[10]⟩ ++ t).size ≤ 4194304 := by rw [size_join]; omega
  have hwk := Lib.hid w8_works
  have hnum := Lib.hid w8_num
  have hr := psFar_range t
  have hF : psFar t = y := by unfold psFar; rw [hy]
  rw [hF] at hr
  obtain ⟨hr0, hr1⟩ := hr
  have hp1 := fun w => pa_Program s w (by omega)
  rw [hx] at hp1
  unfold PgPost at hp1
  dsimp only at hp1
  replace hp1 := Lib.hid hp1
  have hp2 := fun w => pa_Program t w (by omega)
  rw [hy] at hp2
  unfold PgPost at hp2
  dsimp only at hp2
  replace hp2 := Lib.hid hp2
  have hp4 := hp2
  have hp3 := fun w => pa_Program (s ++ ⟨#[10]⟩ ++ t) w hsj
  rw [hz] at hp3
  unfold PgPost at hp3
  dsimp only at hp3
  replace hp3 := Lib.hid hp3
  clear hx hy hz hF hsj
  go_enter Try.func5, Try.ntmps5
  go_wp2_with (first
  | (go_at_call 8
     have hg := d0
     refine (w8_long _ _).mono ?_
     rw [d0]
     rintro e wl ⟨rfl, rfl⟩
     clear hg d0)
  | (go_at_call 8
     have hg := d1
     refine (w8_long _ _).mono ?_
     rw [d1]
     rintro e wl ⟨rfl, rfl⟩
     clear hg d1)
  | (go_at_call 15
     have hg := hp1
     refine (hp1.out _).mono ?_
     rintro e w1 ⟨R0, R1, R2, R3, R4, R5, rfl, hbl, hpg⟩
     have hb1 := Lib.hid ((Below.refl w.heap.size w).trans (hbl.mono (Below.refl w.heap.size w).size))
     obtain ⟨v0, c0, rfl⟩ := Prg.form0 hpg; obtain ⟨v1, c1, rfl⟩ := Prg.form1 hpg; obtain ⟨v2, c2, rfl⟩ := Prg.form2 hpg; obtain ⟨v3, c3, rfl⟩ := Prg.form3 hpg; obtain ⟨v4, c4, rfl⟩ := Prg.form4 hpg; obtain ⟨v5, c5, rfl⟩ := Prg.form5 hpg
     clear hpg
     clear hg hp1 hbl)
  | (go_at_call 15
     have hg := hp2
     refine (hp2.out _).mono ?_
     rintro e w2 ⟨rfl, hbl⟩
     have hb2 := Lib.hid (((hb1.out.al _).al _).trans (hbl.mono ((hb1.out.al _).al _).size))
     clear hg hp2 hbl)
  | (go_at_call 15
     have hg := hp3
     refine (hp3.out _).mono ?_
     rintro e w3 ⟨rfl, hbl⟩
     have hb3 := Lib.hid (((hb2.out.al _).al _).trans (hbl.mono ((hb2.out.al _).al _).size))
     clear hg hp3 hbl)
  | (go_at_call 15
     have hg := hp4
     refine (hp4.out _).mono ?_
     rintro e w4 ⟨rfl, hbl⟩
     have hb4 := Lib.hid (((hb3.out.al _).al _).trans (hbl.mono ((hb3.out.al _).al _).size))
     clear hg hp4 hbl)
  | (go_at_call 13
     refine (hnum.out _ _).mono ?_
     rintro e wn ⟨rfl, rfl⟩)
  | (go_at_call 9
     refine (hwk.out _).mono ?_
     rintro e w9 ⟨rfl, hbl⟩
     have hb9 := Lib.hid (((hb4.out.al _).al _).trans (hbl.mono ((hb4.out.al _).al _).size))
     clear hbl))
  go_ret
  exact ⟨rfl, hb9.out⟩
/-- what stands while the two programs are put together -/
structure JS (WB W : World) (gB gX : Nat) (B0 B1 B2 X0 X1 X2 : Value) : Prop where
  bl : Below WB.heap.size WB W
  cb : W.heap[gB]? = some (.cells #[B0, B1, B2] 42)
  cx : W.heap[gX]? = some (.cells #[X0, X1, X2] 45)
  hB : WB.heap.size ≤ gB
  hX : WB.heap.size ≤ gX
  ne : gX ≠ gB
section
variable {WB W W' : World} {gB gX : Nat} {B0 B1 B2 X0 X1 X2 : Value}
theorem JS.below (h : JS WB W gB gX B0 B1 B2 X0 X1 X2) (hb : Below W.heap.size W W') : JS WB W' gB gX B0 B1 B2 X0 X1 X2 :=
  ⟨h.bl.trans (hb.mono h.bl.size), (hb.block _ (Array.getElem?_eq_some_iff.1 h.cb).1).trans h.cb, (hb.block _ (Array.getElem?_eq_some_iff.1 h.cx).1).trans h.cx, h.hB, h.hX, h.ne⟩
theorem JS.free (h : JS WB W gB gX B0 B1 B2 X0 X1 X2) : (∀ k, W.frozen? ⟨gB, k, none⟩ = false) ∧ (∀ k, W.frozen? ⟨gX, k, none⟩ = false) ∧ (W.cell? ⟨gB, 0, none⟩ = some B0 ∧ W.cell? ⟨gB, 1, none⟩ = some B1 ∧ W.cell? ⟨gB, 2, none⟩ = some B2) ∧ W.cell? ⟨gX, 0, none⟩ = some X0 ∧ W.cell? ⟨gX, 1, none⟩ = some X1 ∧ W.cell? ⟨gX, 2, none⟩ = some X2 := by
  have h1 := h.cb
  have h2 := h.cx
  exact ⟨fun k => by simp [World.frozen?, h1], fun k => by simp [World.frozen?, h2], ⟨by simp [World.cell?, h1], by simp [World.cell?, h1], by simp [World.cell?, h1]⟩, by simp [World.cell?, h2], by simp [World.cell?, h2], by simp [World.cell?, h2]⟩
theorem JS.putb0 (h : JS WB W gB gX B0 B1 B2 X0 X1 X2) (v : Value) : JS WB (W.setCell ⟨gB, 0, none⟩ v) gB gX v B1 B2 X0 X1 X2 :=
  ⟨h.bl.setCell (p := ⟨gB, 0, none⟩) h.hB v, Go.heap_setCell_same W gB 0 _ _ v h.cb, (heap_setCell_other _ _ _ _ h.ne).trans h.cx, h.hB, h.hX, h.ne⟩
theorem JS.putb1 (h : JS WB W gB gX B0 B1 B2 X0 X1 X2) (v : Value) : JS WB (W.setCell ⟨gB, 1, none⟩ v) gB gX B0 v B2 X0 X1 X2 :=
  ⟨h.bl.setCell (p := ⟨gB, 1, none⟩) h.hB v, Go.heap_setCell_same W gB 1 _ _ v h.cb, (heap_setCell_other _ _ _ _ h.ne).trans h.cx, h.hB, h.hX, h.ne⟩
theorem JS.putb2 (h : JS WB W gB gX B0 B1 B2 X0 X1 X2) (v : Value) : JS WB (W.setCell ⟨gB, 2, none⟩ v) gB gX B0 B1 v X0 X1 X2 :=
  ⟨h.bl.setCell (p := ⟨gB, 2, none⟩) h.hB v, Go.heap_setCell_same W gB 2 _ _ v h.cb, (heap_setCell_other _ _ _ _ h.ne).trans h.cx, h.hB, h.hX, h.ne⟩
theorem JS.putx0 (h : JS WB W gB gX B0 B1 B2 X0 X1 X2) (v : Value) : JS WB (W.setCell ⟨gX, 0, none⟩ v) gB gX B0 B1 B2 v X1 X2 :=
  ⟨h.bl.setCell (p := ⟨gX, 0, none⟩) h.hX v, (heap_setCell_other _ _ _ _ h.ne.symm).trans h.cb, Go.heap_setCell_same W gX 0 _ _ v h.cx, h.hB, h.hX, h.ne⟩
theorem JS.putx1 (h : JS WB W gB gX B0 B1 B2 X0 X1 X2) (v : Value) : JS WB (W.setCell ⟨gX, 1, none⟩ v) gB gX B0 B1 B2 X0 v X2 :=
  ⟨h.bl.setCell (p := ⟨gX, 1, none⟩) h.hX v, (heap_setCell_other _ _ _ _ h.ne.symm).trans h.cb, Go.heap_setCell_same W gX 1 _ _ v h.cx, h.hB, h.hX, h.ne⟩
theorem JS.putx2 (h : JS WB W gB gX B0 B1 B2 X0 X1 X2) (v : Value) : JS WB (W.setCell ⟨gX, 2, none⟩ v) gB gX B0 B1 B2 X0 X1 v :=
  ⟨h.bl.setCell (p := ⟨gX, 2, none⟩) h.hX v, (heap_setCell_other _ _ _ _ h.ne.symm).trans h.cb, Go.heap_setCell_same W gX 2 _ _ v h.cx, h.hB, h.hX, h.ne⟩
end
theorem infoInpP : (Try.prog.info? 56).map (fun i => (i.zero, i.size, i.bytes)) = some (some (.agg #[.string ⟨#[]⟩, .int .i64 0, .string ⟨#[]⟩]), 3, 40) := by kernel_rfl
theorem infoOutP : (Try.prog.info? 59).map (fun i => (i.zero, i.size, i.bytes)) = some (some (.agg #[.string ⟨#[]⟩, .int .i64 0]), 2, 24) := by kernel_rfl
theorem inL_one (l : List (ByteArray × Int × ByteArray)) : ∀ u ∈ inL l, u.oneCell' = true := by
  intro u hu
  obtain ⟨x, -, hx⟩ := List.mem_flatMap.1 hu
  simp [inC] at hx
  rcases hx with rfl | rfl | rfl <;> rfl
theorem outL_one (l : List (ByteArray × Int)) : ∀ u ∈ outL l, u.oneCell' = true := by
  intro u hu
  obtain ⟨x, -, hx⟩ := List.mem_flatMap.1 hu
  simp [outC] at hx
  rcases hx with rfl | rfl <;> rfl
theorem ruL_one {w : World} {lo : Nat} (L : List (PRule × Value × Value)) (hin : ∀ y ∈ L, RuleIn w lo y.2.1 y.2.2 y.1) : ∀ u ∈ ruL L, u.oneCell' = true := by
  intro u hu
  obtain ⟨x, hy, hx⟩ := List.mem_flatMap.1 hu
  obtain ⟨xa, xn, xc, ya, yn, yc, e1, e2⟩ := (hin x hy).form
  simp [ruC] at hx
  rcases hx with rfl | rfl | rfl
  · rfl
  · rw [e1]; rfl
  · rw [e2]; rfl
theorem own_flat {α : Type} {w : World} {lo : Nat} {e : TypeId} {k : Nat} {v : Value} {n : Nat} {f : α → List Value} {l : List α} (h : w.ownsRow lo e k v n (l.flatMap f)) : (l.flatMap f).length = n * k := h.1
theorem PrgS.upP {w w' : World} {lo : Nat} {R0 R1 R2 R3 R4 R5 : Value} {l : List Stmt} (h : PrgS w lo R0 R1 R2 R3 R4 R5 l) (hb : Below w.heap.size w w') : PrgS w' lo R0 R1 R2 R3 R4 R5 l := Prg.beneath h hb
theorem two_new (w : World) (a b : Obj) : Below w.heap.size w ((w.alloc a).alloc b) ∧ ((w.alloc a).alloc b).heap[w.heap.size]? = some a ∧ ((w.alloc a).alloc b).heap[w.heap.size + 1]? = some b ∧ ((w.alloc a).alloc b).heap.size = w.heap.size + 1 + 1 := by
  have h := kt_two (Below.refl _ ((w.alloc a).alloc b))
  exact ⟨h.1, h.2.1, h.2.2, by simp only [World.size_alloc]⟩
set_option maxHeartbeats 4000000 in
set_option maxRecDepth 100000 in
theorem law8_joins_ok (s t : ByteArray) (w : World) (h0 : s.size ≤ 20000) (h1 : t.size ≤ 20000) (l m z : List Stmt) (hx : psText s = .ok l) (hy : psText t = .ok m) (hz : psText (s ++ ⟨#[10]⟩ ++ t) = .ok (l ++ z)) (hst : StsR (movedR (s.size + 1)) m z) :
    Calls Try.prog 5 #[.string s, .string t] w fun e w' => e = .returned (.bool true) ∧ Below w.heap.size w w' := by
  have d0 : decide ((20000 : Int) < (s.size : Int)) = false := by rw [decide_eq_false_iff_not]; omega
  have d1 : decide ((20000 : Int) < (t.size : Int)) = false := by rw [decide_eq_false_iff_not]; omega
  have hsj : (s ++ ⟨#[10]⟩ ++ t).size ≤ 4194304 := by rw [size_join]; omega
  have hwk := Lib.hid w8_works
  have hnum := Lib.hid w8_num
  have hxh := Lib.hid hx
  have hyh := Lib.hid hy
  have hzh := Lib.hid hz
  have hsth := Lib.hid hst
  have hp1 := fun w => pa_Program s w (by omega)
  rw [hx] at hp1
  unfold PgPost at hp1
  dsimp only at hp1
  replace hp1 := Lib.hid hp1
  have hp2 := fun w => pa_Program t w (by omega)
  rw [hy] at hp2
  unfold PgPost at hp2
  dsimp only at hp2
  replace hp2 := Lib.hid hp2
  have hp3 := fun w => pa_Program (s ++ ⟨#[10]⟩ ++ t) w hsj
  rw [hz] at hp3
  unfold PgPost at hp3
  dsimp only at hp3
  replace hp3 := Lib.hid hp3
  replace hsj := Lib.hid hsj
  clear hx hy hz hst
  go_enter Try.func5, Try.ntmps5
  go_wp2_with (first
  | (go_at_call 8
     have hg := d0
     refine (w8_long _ _).mono ?_
     rw [d0]
     rintro e wl ⟨rfl, rfl⟩
     clear hg d0)
  | (go_at_call 8
     have hg := d1
     refine (w8_long _ _).mono ?_
     rw [d1]
     rintro e wl ⟨rfl, rfl⟩
     clear hg d1)
  | (go_at_call 15
     have hg := hp1
     refine (hp1.out _).mono ?_
     rintro e w1 ⟨R0, R1, R2, R3, R4, R5, rfl, hbl, hpg⟩
     have hb1 := Lib.hid ((Below.refl w.heap.size w).trans (hbl.mono (Below.refl w.heap.size w).size))
     have hg1 := Lib.hid hpg
     obtain ⟨v0, c0, rfl⟩ := Prg.form0 hpg; obtain ⟨v1, c1, rfl⟩ := Prg.form1 hpg; obtain ⟨v2, c2, rfl⟩ := Prg.form2 hpg; obtain ⟨v3, c3, rfl⟩ := Prg.form3 hpg; obtain ⟨v4, c4, rfl⟩ := Prg.form4 hpg; obtain ⟨v5, c5, rfl⟩ := Prg.form5 hpg
     clear hpg
     clear hg hp1 hbl)
  | (go_at_call 15
     have hg := hp2
     refine (hp2.out _).mono ?_
     rintro e w2 ⟨R0, R1, R2, R3, R4, R5, rfl, hbl, hpg⟩
     have hb2 := Lib.hid (((hb1.out.al _).al _).trans (hbl.mono ((hb1.out.al _).al _).size))
     have hk1 := kt_two hbl
     have hq1 : Hid (w2.heap[w1.heap.size]? = some (.cells #[.slice v0 (inpsOf l).length c0, .slice v1 (outsOf l).length c1, .slice v2 (rulesOf l).length c2] 42) ∧ w2.heap[w1.heap.size + 1]? = some (.cells #[.slice v3 (inAts l).length c3, .slice v4 (outAts l).length c4, .slice v5 (ruAts l).length c5] 45)) := Lib.hid hk1.2
     have hg1 := Lib.hid (PrgS.upP hg1.out (kt_cells hbl))
     have hg2 := Lib.hid hpg
     obtain ⟨u0, d0, rfl⟩ := Prg.form0 hpg; obtain ⟨u1, d1, rfl⟩ := Prg.form1 hpg; obtain ⟨u2, d2, rfl⟩ := Prg.form2 hpg; obtain ⟨u3, d3, rfl⟩ := Prg.form3 hpg; obtain ⟨u4, d4, rfl⟩ := Prg.form4 hpg; obtain ⟨u5, d5, rfl⟩ := Prg.form5 hpg
     clear hk1 hpg
     clear hg hp2 hbl)
  | (go_at_call 15
     have hg := hp3
     refine (hp3.out _).mono ?_
     rintro e w3 ⟨R0, R1, R2, R3, R4, R5, rfl, hbl, hpg⟩
     have hb3 := Lib.hid (((hb2.out.al _).al _).trans (hbl.mono ((hb2.out.al _).al _).size))
     have hk2 := kt_two hbl
     have hB32 := kt_cells hbl
     have hq2 : Hid (w3.heap[w2.heap.size]? = some (.cells #[.slice u0 (inpsOf m).length d0, .slice u1 (outsOf m).length d1, .slice u2 (rulesOf m).length d2] 42) ∧ w3.heap[w2.heap.size + 1]? = some (.cells #[.slice u3 (inAts m).length d3, .slice u4 (outAts m).length d4, .slice u5 (ruAts m).length d5] 45)) := Lib.hid hk2.2
     have hg1 := Lib.hid (PrgS.upP hg1.out hB32)
     have hg2 := Lib.hid (PrgS.upP hg2.out hB32)
     have hg3 := Lib.hid hpg
     have hq1 : Hid (w3.heap[w1.heap.size]? = some (.cells #[.slice v0 (inpsOf l).length c0, .slice v1 (outsOf l).length c1, .slice v2 (rulesOf l).length c2] 42) ∧ w3.heap[w1.heap.size + 1]? = some (.cells #[.slice v3 (inAts l).length c3, .slice v4 (outAts l).length c4, .slice v5 (ruAts l).length c5] 45)) := Lib.hid ⟨(hB32.block _ (Array.getElem?_eq_some_iff.1 hq1.out.1).1).trans hq1.out.1, (hB32.block _ (Array.getElem?_eq_some_iff.1 hq1.out.2).1).trans hq1.out.2⟩
     obtain ⟨x0, f0, rfl⟩ := Prg.form0 hpg; obtain ⟨x1, f1, rfl⟩ := Prg.form1 hpg; obtain ⟨x2, f2, rfl⟩ := Prg.form2 hpg; obtain ⟨x3, f3, rfl⟩ := Prg.form3 hpg; obtain ⟨x4, f4, rfl⟩ := Prg.form4 hpg; obtain ⟨x5, f5, rfl⟩ := Prg.form5 hpg
     clear hk2 hB32 hpg
     clear hg hp3 hbl)
  | (go_at_call 13
     refine (hnum.out _ _).mono ?_
     rintro e wn ⟨rfl, rfl⟩))
  obtain ⟨WB, hWB⟩ : ∃ WB, WB = (w3.alloc (.cells #[.slice x0 (inpsOf (l ++ z)).length f0, .slice x1 (outsOf (l ++ z)).length f1, .slice x2 (rulesOf (l ++ z)).length f2] 42)).alloc (.cells #[.slice x3 (inAts (l ++ z)).length f3, .slice x4 (outAts (l ++ z)).length f4, .slice x5 (ruAts (l ++ z)).length f5] 45) := ⟨_, rfl⟩
  obtain ⟨W, hW⟩ : ∃ W, W = (WB.alloc (.cells #[.slice none 0 0, .slice none 0 0, .slice none 0 0] 42)).alloc (.cells #[.slice none 0 0, .slice none 0 0, .slice none 0 0] 45) := ⟨_, rfl⟩
  obtain ⟨hB3, kx, ky, sz3⟩ := two_new w3 (.cells #[.slice x0 (inpsOf (l ++ z)).length f0, .slice x1 (outsOf (l ++ z)).length f1, .slice x2 (rulesOf (l ++ z)).length f2] 42) (.cells #[.slice x3 (inAts (l ++ z)).length f3, .slice x4 (outAts (l ++ z)).length f4, .slice x5 (ruAts (l ++ z)).length f5] 45)
  obtain ⟨hB4, kB, kX, sz4⟩ := two_new WB (.cells #[.slice none 0 0, .slice none 0 0, .slice none 0 0] 42) (.cells #[.slice none 0 0, .slice none 0 0, .slice none 0 0] 45)
  rw [← hWB] at hB3 kx ky sz3
  rw [← hW] at hB4 kB kX sz4
  rw [← hWB, ← hW]
  clear hW hWB
  have kp := (hB3.block _ (Array.getElem?_eq_some_iff.1 hq1.out.1).1).trans hq1.out.1
  have kq := (hB3.block _ (Array.getElem?_eq_some_iff.1 hq1.out.2).1).trans hq1.out.2
  have ku := (hB3.block _ (Array.getElem?_eq_some_iff.1 hq2.out.1).1).trans hq2.out.1
  have kv := (hB3.block _ (Array.getElem?_eq_some_iff.1 hq2.out.2).1).trans hq2.out.2
  have hbB := Lib.hid (hb3.out.trans (hB3.mono hb3.out.size))
  have hg1 := Lib.hid (PrgS.upP hg1.out hB3)
  have hg2 := Lib.hid (PrgS.upP hg2.out hB3)
  have hg3 := Lib.hid (PrgS.upP hg3.out hB3)
  have hr1 := Lib.hid (prg_rows (by omega) hxh.out hg1.out)
  have hr2 := Lib.hid (prg_rows (by omega) hyh.out hg2.out)
  have hr3 := Lib.hid (prg_rows hsj.out hzh.out hg3.out)
  have hl1 := text_len hxh.out
  have hl2 := text_len hyh.out
  obtain ⟨n10, n11, n12⟩ := parts_le l
  obtain ⟨n20, n21, n22⟩ := parts_le m
  have n13 := in_len l
  have n14 := out_len l
  have n15 := ru_len l
  have n23 := in_len m
  have n24 := out_len m
  have n25 := ru_len m
  obtain ⟨s0, s1, s2, s3, s4, s5⟩ := sts_parts hsth.out
  obtain ⟨t0, t1, t2, t3, t4, t5⟩ := parts_app l z
  rw [s0] at t0
  rw [s1] at t1
  rw [s2] at t2
  rw [s3] at t3
  rw [s4] at t4
  rw [s5] at t5
  clear s0 s1 s2 s3 s4 s5
  have hv2 := text_ats hyh.out (by omega)
  have hat : Hid ((∀ a ∈ inAts m, a ≤ 4194304) ∧ (∀ a ∈ outAts m, a ≤ 4194304) ∧ (∀ a ∈ ruAts m, a ≤ 4194304)) := Lib.hid (by
    obtain ⟨q0, q1, q2⟩ := ats_mem m
    exact ⟨fun a h => (by obtain ⟨s, hs, rfl⟩ := q0 a h; exact hv2 s hs), fun a h => (by obtain ⟨s, hs, rfl⟩ := q1 a h; exact hv2 s hs), fun a h => (by obtain ⟨s, hs, rfl⟩ := q2 a h; exact hv2 s hs)⟩)
  clear hv2
  have b0 : (inpsOf l).length ≤ 20000 := by omega
  have b1 : (outsOf l).length ≤ 20000 := by omega
  have b2 : (rulesOf l).length ≤ 20000 := by omega
  have b3 : (inAts l).length ≤ 20000 := by omega
  have b4 : (outAts l).length ≤ 20000 := by omega
  have b5 : (ruAts l).length ≤ 20000 := by omega
  have a0 : (inpsOf m).length ≤ 20000 := by omega
  have a1 : (outsOf m).length ≤ 20000 := by omega
  have a2 : (rulesOf m).length ≤ 20000 := by omega
  have a3 : (inAts m).length ≤ 20000 := by omega
  have a4 : (outAts m).length ≤ 20000 := by omega
  have a5 : (ruAts m).length ≤ 20000 := by omega
  clear n10 n11 n12 n20 n21 n22 n13 n14 n15 n23 n24 n25 hl1 hl2
  obtain ⟨L1, hL1, o12, i1⟩ := hg1.out.r2
  obtain ⟨L2, hL2, o22, i2⟩ := hg2.out.r2
  have e1 : L1.length = (rulesOf l).length := by rw [← hL1, List.length_map]
  have e2 : L2.length = (rulesOf m).length := by rw [← hL2, List.length_map]
  rw [e1] at o12
  rw [e2] at o22
  replace o12 := Lib.hid o12
  replace o22 := Lib.hid o22
  have o10 := Lib.hid hg1.out.r0
  have o20 := Lib.hid hg2.out.r0
  have o11 := Lib.hid hg1.out.r1
  have o21 := Lib.hid hg2.out.r1
  replace i1 := Lib.hid i1
  replace i2 := Lib.hid i2
  have y0 : Hid ((inpsOf (l ++ z)).length = (inpsOf l).length + (inpsOf m).length) := Lib.hid (by rw [t0, List.length_append])
  have y1 : Hid ((outsOf (l ++ z)).length = (outsOf l).length + (outsOf m).length) := Lib.hid (by rw [t1, List.length_append])
  have y2 : Hid ((rulesOf (l ++ z)).length = (rulesOf l).length + (rulesOf m).length) := Lib.hid (by rw [t2, List.length_append])
  replace t0 := Lib.hid t0
  replace t1 := Lib.hid t1
  replace t2 := Lib.hid t2
  replace t3 := Lib.hid t3
  replace t4 := Lib.hid t4
  replace t5 := Lib.hid t5
  replace e1 := Lib.hid e1
  replace e2 := Lib.hid e2
  replace hL1 := Lib.hid hL1
  replace hL2 := Lib.hid hL2
  clear hq1 hq2 hg1 hg2 hg3
  rw [sz3] at kB kX sz4
  have hgb : Hid (W.heap.size = w3.heap.size + 1 + 1 + 1 + 1) := Lib.hid sz4
  have hjs : Hid (JS WB W (w3.heap.size + 1 + 1) (w3.heap.size + 1 + 1 + 1) (.slice none 0 0) (.slice none 0 0) (.slice none 0 0) (.slice none 0 0) (.slice none 0 0) (.slice none 0 0)) := Lib.hid ⟨hB4, kB, kX, by omega, by omega, by omega⟩
  clear hB4 kB kX sz3 sz4 hB3
  generalize w1.heap.size = g5 at *
  generalize w2.heap.size = g9 at *
  generalize w3.heap.size = g13 at *
  have hW0 : Hid (∃ B0, g13 + 1 + 1 + 1 < B0 ∧ B0 ≤ W.heap.size) := Lib.hid ⟨_, by have := hgb.out; omega, Nat.le_refl _⟩
  obtain ⟨B0, hB00, hB01⟩ := hW0.out
  replace hB00 := Lib.hid hB00
  replace hB01 := Lib.hid hB01
  clear hW0 hgb
  have c50 := (cell_of_row _ _ 0 _ _ _ kp).trans rfl
  have c51 := (cell_of_row _ _ 1 _ _ _ kp).trans rfl
  have c52 := (cell_of_row _ _ 2 _ _ _ kp).trans rfl
  have c60 := (cell_of_row _ _ 0 _ _ _ kq).trans rfl
  have c61 := (cell_of_row _ _ 1 _ _ _ kq).trans rfl
  have c62 := (cell_of_row _ _ 2 _ _ _ kq).trans rfl
  have c90 := (cell_of_row _ _ 0 _ _ _ ku).trans rfl
  have c91 := (cell_of_row _ _ 1 _ _ _ ku).trans rfl
  have c92 := (cell_of_row _ _ 2 _ _ _ ku).trans rfl
  have cv0 := (cell_of_row _ _ 0 _ _ _ kv).trans rfl
  have cv1 := (cell_of_row _ _ 1 _ _ _ kv).trans rfl
  have cv2 := (cell_of_row _ _ 2 _ _ _ kv).trans rfl
  have hcs : Hid ((WB.cell? ⟨g5, 0, none⟩ = some (.slice v0 (inpsOf l).length c0) ∧ WB.cell? ⟨g5, 1, none⟩ = some (.slice v1 (outsOf l).length c1) ∧ WB.cell? ⟨g5, 2, none⟩ = some (.slice v2 (rulesOf l).length c2)) ∧ (WB.cell? ⟨g9, 0, none⟩ = some (.slice u0 (inpsOf m).length d0) ∧ WB.cell? ⟨g9, 1, none⟩ = some (.slice u1 (outsOf m).length d1) ∧ WB.cell? ⟨g9, 2, none⟩ = some (.slice u2 (rulesOf m).length d2)) ∧ (WB.cell? ⟨g5 + 1, 0, none⟩ = some (.slice v3 (inAts l).length c3) ∧ WB.cell? ⟨g5 + 1, 1, none⟩ = some (.slice v4 (outAts l).length c4) ∧ WB.cell? ⟨g5 + 1, 2, none⟩ = some (.slice v5 (ruAts l).length c5)) ∧ WB.cell? ⟨g9 + 1, 0, none⟩ = some (.slice u3 (inAts m).length d3) ∧ WB.cell? ⟨g9 + 1, 1, none⟩ = some (.slice u4 (outAts m).length d4) ∧ WB.cell? ⟨g9 + 1, 2, none⟩ = some (.slice u5 (ruAts m).length d5)) := Lib.hid ⟨⟨c50, c51, c52⟩, ⟨c90, c91, c92⟩, ⟨c60, c61, c62⟩, cv0, cv1, cv2⟩
  replace kx := Lib.hid kx
  replace ky := Lib.hid ky
  clear c50 c51 c52 c60 c61 c62 c90 c91 c92 cv0 cv1 cv2 kp kq ku kv
  obtain ⟨ii, hii, hi0, hi1, hi2⟩ := info_parts infoInpP
  obtain ⟨io, hio, ho0, ho1, ho2⟩ := info_parts infoOutP
  obtain ⟨ir, hir, hr00, hr01, hr02⟩ := info_parts infoRule
  have hkp : Hid (∀ w', Below WB.heap.size WB w' → (fun w' => w'.cell? ⟨g5, 0, none⟩ = some (.slice v0 (inpsOf l).length c0) ∧ w'.cell? ⟨g9, 0, none⟩ = some (.slice u0 (inpsOf m).length d0)) w') := Lib.hid fun w' hb => ⟨cell_below hb rfl hcs.out.1.1, cell_below hb rfl hcs.out.2.1.1⟩
  have hbE : Hid (Below WB.heap.size WB (W.alloc (.cells #[] 56)).drew) := Lib.hid ((hjs.out.bl.al _).drew)
  have hownE : Hid ((W.alloc (.cells #[] 56)).drew.ownsRow W.heap.size 56 3 (.slice (some ⟨W.heap.size, 0, none⟩) 0 0) 0 []) := Lib.hid (own_below (World.ownsRow_lit W #[] 0 (Nat.le_refl _) (by decide) rfl) (Below.refl _ _).drew)
  refine wp_region_T (fun w' => w'.cell? ⟨g5, 0, none⟩ = some (.slice v0 (inpsOf l).length c0) ∧ w'.cell? ⟨g9, 0, none⟩ = some (.slice u0 (inpsOf m).length d0)) [1, 2, 4, 5] (by kernel_rfl) (hkp.out _ hjs.out.bl.drew) (fun hHeld => ?_)
  refine wpAnyT_take (i := 1) (oi := _) (v := ?_) rfl rfl (by kernel_rfl) (by kernel_rfl) (by kernel_rfl) (fun _ _ _ h => h) (Or.inl ⟨by rfl, ?_⟩) (by assumption) ?_
  rotate_left
  · intro w hSw
    try dsimp only at hSw
    go_simp
    try with_reducible rfl
  refine wpAnyT_take (i := 2) (oi := _) (v := ?_) rfl rfl (by kernel_rfl) (by kernel_rfl) (by kernel_rfl) (fun _ _ _ h => h) (Or.inl ⟨by rfl, ?_⟩) (by assumption) ?_
  rotate_left
  · intro w hSw
    try dsimp only at hSw
    go_simp
    try with_reducible rfl
  refine wpAnyT_take (i := 4) (oi := _) (v := ?_) rfl rfl (by kernel_rfl) (by kernel_rfl) (by kernel_rfl) (fun _ _ _ h => h) (Or.inl ⟨by rfl, ?_⟩) (by assumption) ?_
  rotate_left
  · intro w hSw
    try dsimp only at hSw
    go_simp
    try with_reducible rfl
  refine wpAnyT_take (i := 5) (oi := _) (v := ?_) rfl rfl (by kernel_rfl) (by kernel_rfl) (by kernel_rfl) (fun _ _ _ h => h) (Or.inl ⟨by rfl, ?_⟩) (by assumption) ?_
  rotate_left
  · intro w hSw
    try dsimp only at hSw
    go_simp
    try with_reducible rfl
  refine wpAnyT_one (i := 0) (o := _) (by kernel_rfl) rfl (fun K hK => ?_)
  go_simp
  refine hK.out _ _ (hkp.out _ hbE.out) ?_
  clear hK K
  refine wpAnyT_one (i := 3) (o := _) (by kernel_rfl) rfl (fun K hK => ?_)
  refine step_append_anyP (w := (W.alloc (.cells #[] 56)).drew) ?gu0A (.tmp 83) (.tmp 85) 38 ?op0A W.heap.size 56 ii (.agg #[.string ⟨#[]⟩, .int .i64 0, .string ⟨#[]⟩]) 3 40 Try.underlying38 hii hi0 hi1 hi2 (by rfl) (by decide) (.slice (some ⟨W.heap.size, 0, none⟩) 0 0) 0 [] ?ea0A hownE.out v0 (inpsOf l).length c0 (inL (inpsOf l)) ?eb0A o10.out.1 ?nw0A (inL_one _) (by unfold maxLen; omega) (by omega) (by show _ ≤ (W.alloc _).heap.size; rw [World.size_alloc]; omega) ?re0A
  case gu0A => rfl
  case op0A => rfl
  case ea0A => rfl
  case eb0A => rfl
  case nw0A => exact own_news (own_below o10.out hbE.out)
  intro vA wA hownA hgrA
  have hbA : Hid (Below W.heap.size W wA) := Lib.hid (((Below.refl _ _).al _).drew.grown hgrA (by show _ ≤ (W.alloc _).heap.size; rw [World.size_alloc]; omega) (own_ge hownE.out))
  simp only [Nat.zero_add, List.nil_append] at hownA
  obtain ⟨yA, eA, rfl, -⟩ := own_slice hownA
  replace hownA := Lib.hid hownA
  have hbEA := Lib.hid (hjs.out.bl.trans (hbA.out.mono hjs.out.bl.size))
  clear hgrA
  refine hK.out _ _ (hkp.out _ hbEA.out) ?_
  clear hK K
  refine wpAnyT_one (i := 6) (o := _) (by kernel_rfl) rfl (fun K hK => ?_)
  refine step_append_anyP (w := wA) ?gu0B (.tmp 86) (.tmp 88) 38 ?op0B W.heap.size 56 ii (.agg #[.string ⟨#[]⟩, .int .i64 0, .string ⟨#[]⟩]) 3 40 Try.underlying38 hii hi0 hi1 hi2 (by rfl) (by decide) (.slice yA (inpsOf l).length eA) (inpsOf l).length (inL (inpsOf l)) ?ea0B hownA.out u0 (inpsOf m).length d0 (inL (inpsOf m)) ?eb0B o20.out.1 ?nw0B (inL_one _) (by unfold maxLen; omega) (by omega) hbA.out.size ?re0B
  case gu0B => rfl
  case op0B => rfl
  case ea0B => rfl
  case eb0B => rfl
  case nw0B => exact own_news (own_below o20.out hbEA.out)
  intro vB wC hownC hgrC
  have hbC : Hid (Below W.heap.size W wC) := Lib.hid (hbA.out.grown hgrC hbA.out.size (own_ge hownA.out))
  rw [← y0.out] at hownC
  obtain ⟨yy0, ee0, rfl, -⟩ := own_slice hownC
  have hownD := Lib.hid (own_baseP hownC hB01.out)
  have hjC := Lib.hid (hjs.out.below hbC.out)
  obtain ⟨fB, fX, ⟨q0, q1, q2⟩, q3, q4, q5⟩ := hjC.out.free
  have ff := fB 0
  have hjD := Lib.hid (hjC.out.putb0 (.slice yy0 (inpsOf (l ++ z)).length ee0))
  clear hgrC hownC fB fX
  refine hK.out _ _ (hkp.out _ hjC.out.bl) ?_
  clear hK K
  refine wpAnyT_free (i := 7) (o := _) (by kernel_rfl) rfl (by kernel_rfl) (fun K hK => ?_)
  go_simp
  refine hK.out _ _ ?_
  clear hK K
  refine wpAnyT_free (i := 8) (o := _) (by kernel_rfl) rfl (by kernel_rfl) (fun K hK => ?_)
  go_simp
  refine hK.out _ _ ?_
  clear hK K
  refine wpAnyT_done (by kernel_rfl) ?_ _
  clear hHeld hkp hbE hownE hbA hownA hbEA q0 q1 q2 q3 q4 q5 ff
  have hOn0 : Hid ((wC.setCell ⟨(g13 + 1 + 1), 0, none⟩ (.slice yy0 (inpsOf (l ++ z)).length ee0)).ownsRow B0 56 3 (.slice yy0 (inpsOf (l ++ z)).length ee0) (inpsOf (l ++ z)).length ((inL (inpsOf l)) ++ (inL (inpsOf m)))) := Lib.hid (own_mvd hownD.out ((Mvd.refl (g13 + 1 + 1) wC).set 0 (.slice yy0 (inpsOf (l ++ z)).length ee0)) (by have := hB00.out; omega))
  have hB02 : Hid (B0 ≤ (wC.setCell ⟨(g13 + 1 + 1), 0, none⟩ (.slice yy0 (inpsOf (l ++ z)).length ee0)).heap.size) := Lib.hid (Nat.le_trans (Nat.le_trans hB01.out hbC.out.size) ((Mvd.refl (g13 + 1 + 1) wC).set 0 (.slice yy0 (inpsOf (l ++ z)).length ee0)).size)
  have hjs' := hjD
  clear hjs hjC hjD hownD hbC hB01
  generalize wC.setCell ⟨(g13 + 1 + 1), 0, none⟩ (.slice yy0 (inpsOf (l ++ z)).length ee0) = W at hjs' hOn0  hB02 ⊢
  have hjs := hjs'
  have hB01 := hB02
  have hO0 := hOn0
  clear hjs' hB02 hOn0
  refine ‹∀ (a : Act) (w : World), Code.wp _ _ _ a w → _› _ _ ?_
  go_wp2_with fail
  have hkp : Hid (∀ w', Below WB.heap.size WB w' → (fun w' => w'.cell? ⟨g5, 1, none⟩ = some (.slice v1 (outsOf l).length c1) ∧ w'.cell? ⟨g9, 1, none⟩ = some (.slice u1 (outsOf m).length d1)) w') := Lib.hid fun w' hb => ⟨cell_below hb rfl hcs.out.1.2.1, cell_below hb rfl hcs.out.2.1.2.1⟩
  have hbE : Hid (Below WB.heap.size WB (W.alloc (.cells #[] 59)).drew) := Lib.hid ((hjs.out.bl.al _).drew)
  have hownE : Hid ((W.alloc (.cells #[] 59)).drew.ownsRow W.heap.size 59 2 (.slice (some ⟨W.heap.size, 0, none⟩) 0 0) 0 []) := Lib.hid (own_below (World.ownsRow_lit W #[] 0 (Nat.le_refl _) (by decide) rfl) (Below.refl _ _).drew)
  refine wp_region_T (fun w' => w'.cell? ⟨g5, 1, none⟩ = some (.slice v1 (outsOf l).length c1) ∧ w'.cell? ⟨g9, 1, none⟩ = some (.slice u1 (outsOf m).length d1)) [1, 2, 4, 5] (by kernel_rfl) (hkp.out _ hjs.out.bl.drew) (fun hHeld => ?_)
  refine wpAnyT_take (i := 1) (oi := _) (v := ?_) rfl rfl (by kernel_rfl) (by kernel_rfl) (by kernel_rfl) (fun _ _ _ h => h) (Or.inl ⟨by rfl, ?_⟩) (by assumption) ?_
  rotate_left
  · intro w hSw
    try dsimp only at hSw
    go_simp
    try with_reducible rfl
  refine wpAnyT_take (i := 2) (oi := _) (v := ?_) rfl rfl (by kernel_rfl) (by kernel_rfl) (by kernel_rfl) (fun _ _ _ h => h) (Or.inl ⟨by rfl, ?_⟩) (by assumption) ?_
  rotate_left
  · intro w hSw
    try dsimp only at hSw
    go_simp
    try with_reducible rfl
  refine wpAnyT_take (i := 4) (oi := _) (v := ?_) rfl rfl (by kernel_rfl) (by kernel_rfl) (by kernel_rfl) (fun _ _ _ h => h) (Or.inl ⟨by rfl, ?_⟩) (by assumption) ?_
  rotate_left
  · intro w hSw
    try dsimp only at hSw
    go_simp
    try with_reducible rfl
  refine wpAnyT_take (i := 5) (oi := _) (v := ?_) rfl rfl (by kernel_rfl) (by kernel_rfl) (by kernel_rfl) (fun _ _ _ h => h) (Or.inl ⟨by rfl, ?_⟩) (by assumption) ?_
  rotate_left
  · intro w hSw
    try dsimp only at hSw
    go_simp
    try with_reducible rfl
  refine wpAnyT_one (i := 0) (o := _) (by kernel_rfl) rfl (fun K hK => ?_)
  go_simp
  refine hK.out _ _ (hkp.out _ hbE.out) ?_
  clear hK K
  refine wpAnyT_one (i := 3) (o := _) (by kernel_rfl) rfl (fun K hK => ?_)
  refine step_append_anyP (w := (W.alloc (.cells #[] 59)).drew) ?gu1A (.tmp 91) (.tmp 93) 39 ?op1A W.heap.size 59 io (.agg #[.string ⟨#[]⟩, .int .i64 0]) 2 24 Try.underlying39 hio ho0 ho1 ho2 (by rfl) (by decide) (.slice (some ⟨W.heap.size, 0, none⟩) 0 0) 0 [] ?ea1A hownE.out v1 (outsOf l).length c1 (outL (outsOf l)) ?eb1A o11.out.1 ?nw1A (outL_one _) (by unfold maxLen; omega) (by omega) (by show _ ≤ (W.alloc _).heap.size; rw [World.size_alloc]; omega) ?re1A
  case gu1A => rfl
  case op1A => rfl
  case ea1A => rfl
  case eb1A => rfl
  case nw1A => exact own_news (own_below o11.out hbE.out)
  intro vA wA hownA hgrA
  have hbA : Hid (Below W.heap.size W wA) := Lib.hid (((Below.refl _ _).al _).drew.grown hgrA (by show _ ≤ (W.alloc _).heap.size; rw [World.size_alloc]; omega) (own_ge hownE.out))
  simp only [Nat.zero_add, List.nil_append] at hownA
  obtain ⟨yA, eA, rfl, -⟩ := own_slice hownA
  replace hownA := Lib.hid hownA
  have hbEA := Lib.hid (hjs.out.bl.trans (hbA.out.mono hjs.out.bl.size))
  clear hgrA
  refine hK.out _ _ (hkp.out _ hbEA.out) ?_
  clear hK K
  refine wpAnyT_one (i := 6) (o := _) (by kernel_rfl) rfl (fun K hK => ?_)
  refine step_append_anyP (w := wA) ?gu1B (.tmp 94) (.tmp 96) 39 ?op1B W.heap.size 59 io (.agg #[.string ⟨#[]⟩, .int .i64 0]) 2 24 Try.underlying39 hio ho0 ho1 ho2 (by rfl) (by decide) (.slice yA (outsOf l).length eA) (outsOf l).length (outL (outsOf l)) ?ea1B hownA.out u1 (outsOf m).length d1 (outL (outsOf m)) ?eb1B o21.out.1 ?nw1B (outL_one _) (by unfold maxLen; omega) (by omega) hbA.out.size ?re1B
  case gu1B => rfl
  case op1B => rfl
  case ea1B => rfl
  case eb1B => rfl
  case nw1B => exact own_news (own_below o21.out hbEA.out)
  intro vB wC hownC hgrC
  have hbC : Hid (Below W.heap.size W wC) := Lib.hid (hbA.out.grown hgrC hbA.out.size (own_ge hownA.out))
  rw [← y1.out] at hownC
  obtain ⟨yy1, ee1, rfl, -⟩ := own_slice hownC
  have hownD := Lib.hid (own_baseP hownC hB01.out)
  have hjC := Lib.hid (hjs.out.below hbC.out)
  obtain ⟨fB, fX, ⟨q0, q1, q2⟩, q3, q4, q5⟩ := hjC.out.free
  have ff := fB 1
  have hjD := Lib.hid (hjC.out.putb1 (.slice yy1 (outsOf (l ++ z)).length ee1))
  clear hgrC hownC fB fX
  refine hK.out _ _ (hkp.out _ hjC.out.bl) ?_
  clear hK K
  refine wpAnyT_free (i := 7) (o := _) (by kernel_rfl) rfl (by kernel_rfl) (fun K hK => ?_)
  go_simp
  refine hK.out _ _ ?_
  clear hK K
  refine wpAnyT_free (i := 8) (o := _) (by kernel_rfl) rfl (by kernel_rfl) (fun K hK => ?_)
  go_simp
  refine hK.out _ _ ?_
  clear hK K
  refine wpAnyT_done (by kernel_rfl) ?_ _
  clear hHeld hkp hbE hownE hbA hownA hbEA q0 q1 q2 q3 q4 q5 ff
  have hOn1 : Hid ((wC.setCell ⟨(g13 + 1 + 1), 1, none⟩ (.slice yy1 (outsOf (l ++ z)).length ee1)).ownsRow B0 59 2 (.slice yy1 (outsOf (l ++ z)).length ee1) (outsOf (l ++ z)).length ((outL (outsOf l)) ++ (outL (outsOf m)))) := Lib.hid (own_mvd hownD.out ((Mvd.refl (g13 + 1 + 1) wC).set 1 (.slice yy1 (outsOf (l ++ z)).length ee1)) (by have := hB00.out; omega))
  have hO0' := Lib.hid (own_mvd (own_below hO0.out hbC.out) ((Mvd.refl (g13 + 1 + 1) wC).set 1 (.slice yy1 (outsOf (l ++ z)).length ee1)) (by have := hB00.out; omega))
  have hB02 : Hid (B0 ≤ (wC.setCell ⟨(g13 + 1 + 1), 1, none⟩ (.slice yy1 (outsOf (l ++ z)).length ee1)).heap.size) := Lib.hid (Nat.le_trans (Nat.le_trans hB01.out hbC.out.size) ((Mvd.refl (g13 + 1 + 1) wC).set 1 (.slice yy1 (outsOf (l ++ z)).length ee1)).size)
  have hjs' := hjD
  clear hjs hjC hjD hownD hbC hB01 hO0
  generalize wC.setCell ⟨(g13 + 1 + 1), 1, none⟩ (.slice yy1 (outsOf (l ++ z)).length ee1) = W at hjs' hOn1 hO0' hB02 ⊢
  have hjs := hjs'
  have hB01 := hB02
  have hO1 := hOn1
  clear hjs' hB02 hOn1
  have hO0 := hO0'
  clear hO0'
  refine ‹∀ (a : Act) (w : World), Code.wp _ _ _ a w → _› _ _ ?_
  go_wp2_with fail
  have hkp : Hid (∀ w', Below WB.heap.size WB w' → (fun w' => w'.cell? ⟨g5, 2, none⟩ = some (.slice v2 (rulesOf l).length c2) ∧ w'.cell? ⟨g9, 2, none⟩ = some (.slice u2 (rulesOf m).length d2)) w') := Lib.hid fun w' hb => ⟨cell_below hb rfl hcs.out.1.2.2, cell_below hb rfl hcs.out.2.1.2.2⟩
  have hbE : Hid (Below WB.heap.size WB (W.alloc (.cells #[] 29)).drew) := Lib.hid ((hjs.out.bl.al _).drew)
  have hownE : Hid ((W.alloc (.cells #[] 29)).drew.ownsRow W.heap.size 29 3 (.slice (some ⟨W.heap.size, 0, none⟩) 0 0) 0 []) := Lib.hid (own_below (World.ownsRow_lit W #[] 0 (Nat.le_refl _) (by decide) rfl) (Below.refl _ _).drew)
  refine wp_region_T (fun w' => w'.cell? ⟨g5, 2, none⟩ = some (.slice v2 (rulesOf l).length c2) ∧ w'.cell? ⟨g9, 2, none⟩ = some (.slice u2 (rulesOf m).length d2)) [1, 2, 4, 5] (by kernel_rfl) (hkp.out _ hjs.out.bl.drew) (fun hHeld => ?_)
  refine wpAnyT_take (i := 1) (oi := _) (v := ?_) rfl rfl (by kernel_rfl) (by kernel_rfl) (by kernel_rfl) (fun _ _ _ h => h) (Or.inl ⟨by rfl, ?_⟩) (by assumption) ?_
  rotate_left
  · intro w hSw
    try dsimp only at hSw
    go_simp
    try with_reducible rfl
  refine wpAnyT_take (i := 2) (oi := _) (v := ?_) rfl rfl (by kernel_rfl) (by kernel_rfl) (by kernel_rfl) (fun _ _ _ h => h) (Or.inl ⟨by rfl, ?_⟩) (by assumption) ?_
  rotate_left
  · intro w hSw
    try dsimp only at hSw
    go_simp
    try with_reducible rfl
  refine wpAnyT_take (i := 4) (oi := _) (v := ?_) rfl rfl (by kernel_rfl) (by kernel_rfl) (by kernel_rfl) (fun _ _ _ h => h) (Or.inl ⟨by rfl, ?_⟩) (by assumption) ?_
  rotate_left
  · intro w hSw
    try dsimp only at hSw
    go_simp
    try with_reducible rfl
  refine wpAnyT_take (i := 5) (oi := _) (v := ?_) rfl rfl (by kernel_rfl) (by kernel_rfl) (by kernel_rfl) (fun _ _ _ h => h) (Or.inl ⟨by rfl, ?_⟩) (by assumption) ?_
  rotate_left
  · intro w hSw
    try dsimp only at hSw
    go_simp
    try with_reducible rfl
  refine wpAnyT_one (i := 0) (o := _) (by kernel_rfl) rfl (fun K hK => ?_)
  go_simp
  refine hK.out _ _ (hkp.out _ hbE.out) ?_
  clear hK K
  refine wpAnyT_one (i := 3) (o := _) (by kernel_rfl) rfl (fun K hK => ?_)
  refine step_append_anyP (w := (W.alloc (.cells #[] 29)).drew) ?gu2A (.tmp 99) (.tmp 101) 40 ?op2A W.heap.size 29 ir (.agg #[.string ⟨#[]⟩, .slice none 0 0, .slice none 0 0]) 3 64 Try.underlying40 hir hr00 hr01 hr02 (by rfl) (by decide) (.slice (some ⟨W.heap.size, 0, none⟩) 0 0) 0 [] ?ea2A hownE.out v2 (rulesOf l).length c2 (ruL L1) ?eb2A o12.out.1 ?nw2A (ruL_one _ i1.out) (by unfold maxLen; omega) (by omega) (by show _ ≤ (W.alloc _).heap.size; rw [World.size_alloc]; omega) ?re2A
  case gu2A => rfl
  case op2A => rfl
  case ea2A => rfl
  case eb2A => rfl
  case nw2A => exact own_news (own_below o12.out hbE.out)
  intro vA wA hownA hgrA
  have hbA : Hid (Below W.heap.size W wA) := Lib.hid (((Below.refl _ _).al _).drew.grown hgrA (by show _ ≤ (W.alloc _).heap.size; rw [World.size_alloc]; omega) (own_ge hownE.out))
  simp only [Nat.zero_add, List.nil_append] at hownA
  obtain ⟨yA, eA, rfl, -⟩ := own_slice hownA
  replace hownA := Lib.hid hownA
  have hbEA := Lib.hid (hjs.out.bl.trans (hbA.out.mono hjs.out.bl.size))
  clear hgrA
  refine hK.out _ _ (hkp.out _ hbEA.out) ?_
  clear hK K
  refine wpAnyT_one (i := 6) (o := _) (by kernel_rfl) rfl (fun K hK => ?_)
  refine step_append_anyP (w := wA) ?gu2B (.tmp 102) (.tmp 104) 40 ?op2B W.heap.size 29 ir (.agg #[.string ⟨#[]⟩, .slice none 0 0, .slice none 0 0]) 3 64 Try.underlying40 hir hr00 hr01 hr02 (by rfl) (by decide) (.slice yA (rulesOf l).length eA) (rulesOf l).length (ruL L1) ?ea2B hownA.out u2 (rulesOf m).length d2 (ruL L2) ?eb2B o22.out.1 ?nw2B (ruL_one _ i2.out) (by unfold maxLen; omega) (by omega) hbA.out.size ?re2B
  case gu2B => rfl
  case op2B => rfl
  case ea2B => rfl
  case eb2B => rfl
  case nw2B => exact own_news (own_below o22.out hbEA.out)
  intro vB wC hownC hgrC
  have hbC : Hid (Below W.heap.size W wC) := Lib.hid (hbA.out.grown hgrC hbA.out.size (own_ge hownA.out))
  rw [← y2.out] at hownC
  obtain ⟨yy2, ee2, rfl, -⟩ := own_slice hownC
  have hownD := Lib.hid (own_baseP hownC hB01.out)
  have hjC := Lib.hid (hjs.out.below hbC.out)
  obtain ⟨fB, fX, ⟨q0, q1, q2⟩, q3, q4, q5⟩ := hjC.out.free
  have ff := fB 2
  have hjD := Lib.hid (hjC.out.putb2 (.slice yy2 (rulesOf (l ++ z)).length ee2))
  clear hgrC hownC fB fX
  refine hK.out _ _ (hkp.out _ hjC.out.bl) ?_
  clear hK K
  refine wpAnyT_free (i := 7) (o := _) (by kernel_rfl) rfl (by kernel_rfl) (fun K hK => ?_)
  go_simp
  refine hK.out _ _ ?_
  clear hK K
  refine wpAnyT_free (i := 8) (o := _) (by kernel_rfl) rfl (by kernel_rfl) (fun K hK => ?_)
  go_simp
  refine hK.out _ _ ?_
  clear hK K
  refine wpAnyT_done (by kernel_rfl) ?_ _
  clear hHeld hkp hbE hownE hbA hownA hbEA q0 q1 q2 q3 q4 q5 ff
  have hOn2 : Hid ((wC.setCell ⟨(g13 + 1 + 1), 2, none⟩ (.slice yy2 (rulesOf (l ++ z)).length ee2)).ownsRow B0 29 3 (.slice yy2 (rulesOf (l ++ z)).length ee2) (rulesOf (l ++ z)).length ((ruL L1) ++ (ruL L2))) := Lib.hid (own_mvd hownD.out ((Mvd.refl (g13 + 1 + 1) wC).set 2 (.slice yy2 (rulesOf (l ++ z)).length ee2)) (by have := hB00.out; omega))
  have hO0' := Lib.hid (own_mvd (own_below hO0.out hbC.out) ((Mvd.refl (g13 + 1 + 1) wC).set 2 (.slice yy2 (rulesOf (l ++ z)).length ee2)) (by have := hB00.out; omega))
  have hO1' := Lib.hid (own_mvd (own_below hO1.out hbC.out) ((Mvd.refl (g13 + 1 + 1) wC).set 2 (.slice yy2 (rulesOf (l ++ z)).length ee2)) (by have := hB00.out; omega))
  have hB02 : Hid (B0 ≤ (wC.setCell ⟨(g13 + 1 + 1), 2, none⟩ (.slice yy2 (rulesOf (l ++ z)).length ee2)).heap.size) := Lib.hid (Nat.le_trans (Nat.le_trans hB01.out hbC.out.size) ((Mvd.refl (g13 + 1 + 1) wC).set 2 (.slice yy2 (rulesOf (l ++ z)).length ee2)).size)
  have hjs' := hjD
  clear hjs hjC hjD hownD hbC hB01 hO0 hO1
  generalize wC.setCell ⟨(g13 + 1 + 1), 2, none⟩ (.slice yy2 (rulesOf (l ++ z)).length ee2) = W at hjs' hOn2 hO0' hO1' hB02 ⊢
  have hjs := hjs'
  have hB01 := hB02
  have hO2 := hOn2
  clear hjs' hB02 hOn2
  have hO0 := hO0'
  clear hO0'
  have hO1 := hO1'
  clear hO1'
  refine ‹∀ (a : Act) (w : World), Code.wp _ _ _ a w → _› _ _ ?_
  have z1 := cell_below hjs.out.bl rfl hcs.out.2.2.1.1
  have z2 := cell_below hjs.out.bl rfl hcs.out.2.2.2.1
  go_wp2_with fail
  have hmv := w8_moved v3 u3 (inAts l) (inAts m) c3 d3 (s.size + 1) W (hr1.out.a0.below hjs.out.bl) (hr2.out.a0.below hjs.out.bl) (by omega) (by omega) hat.out.1 (by omega)
  rw [← t3.out, show ((s.size + 1 : Nat) : Int) = (s.size : Int) + 1 from rfl] at hmv
  go_wp2_with (
    (go_at_call 17
     refine hmv.mono ?_
     clear hmv z1 z2
     rintro e w5 ⟨yy3, ee3, rfl, hbl, hownM⟩
     replace hownM := Lib.hid (own_baseP hownM hB01.out)
     have hjC := Lib.hid (hjs.out.below hbl)
     obtain ⟨fB, fX, ⟨q0, q1, q2⟩, q3, q4, q5⟩ := hjC.out.free
     have ff := fX 0
     have hjs' := Lib.hid (hjC.out.putx0 (.slice yy3 (inAts (l ++ z)).length ee3))
     have hO3' := Lib.hid (own_mvd hownM.out ((Mvd.refl (g13 + 1 + 1 + 1) w5).set 0 (.slice yy3 (inAts (l ++ z)).length ee3)) (by have := hB00.out; omega))
     have hO0' := Lib.hid (own_mvd (own_below hO0.out hbl) ((Mvd.refl (g13 + 1 + 1 + 1) w5).set 0 (.slice yy3 (inAts (l ++ z)).length ee3)) (by have := hB00.out; omega))
     have hO1' := Lib.hid (own_mvd (own_below hO1.out hbl) ((Mvd.refl (g13 + 1 + 1 + 1) w5).set 0 (.slice yy3 (inAts (l ++ z)).length ee3)) (by have := hB00.out; omega))
     have hO2' := Lib.hid (own_mvd (own_below hO2.out hbl) ((Mvd.refl (g13 + 1 + 1 + 1) w5).set 0 (.slice yy3 (inAts (l ++ z)).length ee3)) (by have := hB00.out; omega))
     have hB02 : Hid (B0 ≤ (w5.setCell ⟨(g13 + 1 + 1 + 1), 0, none⟩ (.slice yy3 (inAts (l ++ z)).length ee3)).heap.size) := Lib.hid (Nat.le_trans (Nat.le_trans hB01.out hbl.size) ((Mvd.refl (g13 + 1 + 1 + 1) w5).set 0 (.slice yy3 (inAts (l ++ z)).length ee3)).size)
     clear fB fX hjs hjC hownM hbl hB01 hO0 hO1 hO2
     have z1 := cell_below hjs'.out.bl rfl hcs.out.2.2.1.2.1
     have z2 := cell_below hjs'.out.bl rfl hcs.out.2.2.2.2.1
  ))
  clear q0 q1 q2 q3 q4 q5 ff
  generalize (w5.setCell ⟨(g13 + 1 + 1 + 1), 0, none⟩ (.slice yy3 (inAts (l ++ z)).length ee3)) = W at hjs' hO3' hO0' hO1' hO2' hB02 z1 z2 ⊢
  have hjs := hjs'
  have hB01 := hB02
  have hO3 := hO3'
  clear hjs' hB02 hO3'
  have hO0 := hO0'
  clear hO0'
  have hO1 := hO1'
  clear hO1'
  have hO2 := hO2'
  clear hO2'
  have hmv := w8_moved v4 u4 (outAts l) (outAts m) c4 d4 (s.size + 1) W (hr1.out.a1.below hjs.out.bl) (hr2.out.a1.below hjs.out.bl) (by omega) (by omega) hat.out.2.1 (by omega)
  rw [← t4.out, show ((s.size + 1 : Nat) : Int) = (s.size : Int) + 1 from rfl] at hmv
  go_wp2_with (
    (go_at_call 17
     refine hmv.mono ?_
     clear hmv z1 z2
     rintro e w5 ⟨yy4, ee4, rfl, hbl, hownM⟩
     replace hownM := Lib.hid (own_baseP hownM hB01.out)
     have hjC := Lib.hid (hjs.out.below hbl)
     obtain ⟨fB, fX, ⟨q0, q1, q2⟩, q3, q4, q5⟩ := hjC.out.free
     have ff := fX 1
     have hjs' := Lib.hid (hjC.out.putx1 (.slice yy4 (outAts (l ++ z)).length ee4))
     have hO4' := Lib.hid (own_mvd hownM.out ((Mvd.refl (g13 + 1 + 1 + 1) w5).set 1 (.slice yy4 (outAts (l ++ z)).length ee4)) (by have := hB00.out; omega))
     have hO0' := Lib.hid (own_mvd (own_below hO0.out hbl) ((Mvd.refl (g13 + 1 + 1 + 1) w5).set 1 (.slice yy4 (outAts (l ++ z)).length ee4)) (by have := hB00.out; omega))
     have hO1' := Lib.hid (own_mvd (own_below hO1.out hbl) ((Mvd.refl (g13 + 1 + 1 + 1) w5).set 1 (.slice yy4 (outAts (l ++ z)).length ee4)) (by have := hB00.out; omega))
     have hO2' := Lib.hid (own_mvd (own_below hO2.out hbl) ((Mvd.refl (g13 + 1 + 1 + 1) w5).set 1 (.slice yy4 (outAts (l ++ z)).length ee4)) (by have := hB00.out; omega))
     have hO3' := Lib.hid (own_mvd (own_below hO3.out hbl) ((Mvd.refl (g13 + 1 + 1 + 1) w5).set 1 (.slice yy4 (outAts (l ++ z)).length ee4)) (by have := hB00.out; omega))
     have hB02 : Hid (B0 ≤ (w5.setCell ⟨(g13 + 1 + 1 + 1), 1, none⟩ (.slice yy4 (outAts (l ++ z)).length ee4)).heap.size) := Lib.hid (Nat.le_trans (Nat.le_trans hB01.out hbl.size) ((Mvd.refl (g13 + 1 + 1 + 1) w5).set 1 (.slice yy4 (outAts (l ++ z)).length ee4)).size)
     clear fB fX hjs hjC hownM hbl hB01 hO0 hO1 hO2 hO3
     have z1 := cell_below hjs'.out.bl rfl hcs.out.2.2.1.2.2
     have z2 := cell_below hjs'.out.bl rfl hcs.out.2.2.2.2.2
  ))
  clear q0 q1 q2 q3 q4 q5 ff
  generalize (w5.setCell ⟨(g13 + 1 + 1 + 1), 1, none⟩ (.slice yy4 (outAts (l ++ z)).length ee4)) = W at hjs' hO4' hO0' hO1' hO2' hO3' hB02 z1 z2 ⊢
  have hjs := hjs'
  have hB01 := hB02
  have hO4 := hO4'
  clear hjs' hB02 hO4'
  have hO0 := hO0'
  clear hO0'
  have hO1 := hO1'
  clear hO1'
  have hO2 := hO2'
  clear hO2'
  have hO3 := hO3'
  clear hO3'
  have hmv := w8_moved v5 u5 (ruAts l) (ruAts m) c5 d5 (s.size + 1) W (hr1.out.a2.below hjs.out.bl) (hr2.out.a2.below hjs.out.bl) (by omega) (by omega) hat.out.2.2 (by omega)
  rw [← t5.out, show ((s.size + 1 : Nat) : Int) = (s.size : Int) + 1 from rfl] at hmv
  go_wp2_with (
    (go_at_call 17
     refine hmv.mono ?_
     clear hmv z1 z2
     rintro e w5 ⟨yy5, ee5, rfl, hbl, hownM⟩
     replace hownM := Lib.hid (own_baseP hownM hB01.out)
     have hjC := Lib.hid (hjs.out.below hbl)
     obtain ⟨fB, fX, ⟨q0, q1, q2⟩, q3, q4, q5⟩ := hjC.out.free
     have ff := fX 2
     have hjs' := Lib.hid (hjC.out.putx2 (.slice yy5 (ruAts (l ++ z)).length ee5))
     have hO5' := Lib.hid (own_mvd hownM.out ((Mvd.refl (g13 + 1 + 1 + 1) w5).set 2 (.slice yy5 (ruAts (l ++ z)).length ee5)) (by have := hB00.out; omega))
     have hO0' := Lib.hid (own_mvd (own_below hO0.out hbl) ((Mvd.refl (g13 + 1 + 1 + 1) w5).set 2 (.slice yy5 (ruAts (l ++ z)).length ee5)) (by have := hB00.out; omega))
     have hO1' := Lib.hid (own_mvd (own_below hO1.out hbl) ((Mvd.refl (g13 + 1 + 1 + 1) w5).set 2 (.slice yy5 (ruAts (l ++ z)).length ee5)) (by have := hB00.out; omega))
     have hO2' := Lib.hid (own_mvd (own_below hO2.out hbl) ((Mvd.refl (g13 + 1 + 1 + 1) w5).set 2 (.slice yy5 (ruAts (l ++ z)).length ee5)) (by have := hB00.out; omega))
     have hO3' := Lib.hid (own_mvd (own_below hO3.out hbl) ((Mvd.refl (g13 + 1 + 1 + 1) w5).set 2 (.slice yy5 (ruAts (l ++ z)).length ee5)) (by have := hB00.out; omega))
     have hO4' := Lib.hid (own_mvd (own_below hO4.out hbl) ((Mvd.refl (g13 + 1 + 1 + 1) w5).set 2 (.slice yy5 (ruAts (l ++ z)).length ee5)) (by have := hB00.out; omega))
     have hB02 : Hid (B0 ≤ (w5.setCell ⟨(g13 + 1 + 1 + 1), 2, none⟩ (.slice yy5 (ruAts (l ++ z)).length ee5)).heap.size) := Lib.hid (Nat.le_trans (Nat.le_trans hB01.out hbl.size) ((Mvd.refl (g13 + 1 + 1 + 1) w5).set 2 (.slice yy5 (ruAts (l ++ z)).length ee5)).size)
     clear fB fX hjs hjC hownM hbl hB01 hO0 hO1 hO2 hO3 hO4
  ))
  clear q0 q1 q2 q3 q4 q5 ff
  generalize (w5.setCell ⟨(g13 + 1 + 1 + 1), 2, none⟩ (.slice yy5 (ruAts (l ++ z)).length ee5)) = W at hjs' hO5' hO0' hO1' hO2' hO3' hO4' hB02 ⊢
  have hjs := hjs'
  have hB01 := hB02
  have hO5 := hO5'
  clear hjs' hB02 hO5'
  have hO0 := hO0'
  clear hO0'
  have hO1 := hO1'
  clear hO1'
  have hO2 := hO2'
  clear hO2'
  have hO3 := hO3'
  clear hO3'
  have hO4 := hO4'
  clear hO4'
  have kx1 := (hjs.out.bl.block _ (Array.getElem?_eq_some_iff.1 kx.out).1).trans kx.out
  have ky1 := (hjs.out.bl.block _ (Array.getElem?_eq_some_iff.1 ky.out).1).trans ky.out
  have hr4 := Lib.hid (hr3.out.below hjs.out.bl)
  have hRI : Hid (RI W yy0 (inpsOf (l ++ z))) := Lib.hid (own_RI (by have := hO0.out; rw [inL, inL, ← List.flatMap_append, ← t0.out] at this; exact this))
  have hRO : Hid (RO W yy1 (outsOf (l ++ z))) := Lib.hid (own_RO (by have := hO1.out; rw [outL, outL, ← List.flatMap_append, ← t1.out] at this; exact this))
  have hLL : rulesOf (l ++ z) = (L1 ++ L2).map fun y => y.1 := by rw [t2.out, List.map_append, hL1.out, hL2.out]
  have hLn : (rulesOf (l ++ z)).length = (L1 ++ L2).length := by rw [hLL, List.length_map]
  have hRR : Hid (RR W yy2 (rulesOf (l ++ z))) := Lib.hid (by
    have h2 := hO2.out
    rw [hLn, ruL, ruL, ← List.flatMap_append] at h2
    rw [hLL]
    refine rules_RR (lo2 := 0) h2 fun y hy => ?_
    rcases List.mem_append.1 hy with hy | hy
    · exact ((i1.out y hy).base (Nat.zero_le _)).below hjs.out.bl
    · exact ((i2.out y hy).base (Nat.zero_le _)).below hjs.out.bl)
  clear hLL hLn
  have hav := text_ats hzh.out hsj.out
  obtain ⟨q0, q1, q2⟩ := ats_mem (l ++ z)
  have hl3 := text_len hzh.out
  have hs3 := hsj.out
  obtain ⟨p0, p1, p2⟩ := parts_le (l ++ z)
  have r3 := in_len (l ++ z)
  have r4 := out_len (l ++ z)
  have r5 := ru_len (l ++ z)
  have hI3 : Hid (Ints .i64 W yy3 (ia (inAts (l ++ z)))) := Lib.hid (own_ints hO3.out (by omega) fun x hx => by obtain ⟨s, hs, rfl⟩ := q0 x hx; have := hav s hs; omega)
  have hI4 : Hid (Ints .i64 W yy4 (ia (outAts (l ++ z)))) := Lib.hid (own_ints hO4.out (by omega) fun x hx => by obtain ⟨s, hs, rfl⟩ := q1 x hx; have := hav s hs; omega)
  have hI5 : Hid (Ints .i64 W yy5 (ia (ruAts (l ++ z)))) := Lib.hid (own_ints hO5.out (by omega) fun x hx => by obtain ⟨s, hs, rfl⟩ := q2 x hx; have := hav s hs; omega)
  clear hav q0 q1 q2 hl3 hs3 p0 p1 p2 r3 r4 r5 b0 b1 b2 b3 b4 b5 a0 a1 a2 a3 a4 a5
  have hkp := Lib.hid (kt_program (inpsOf (l ++ z)) (outsOf (l ++ z)) (rulesOf (l ++ z)) x0 x1 x2 yy0 yy1 yy2 f0 f1 f2 ee0 ee1 ee2 W hr4.out.i hRI.out hr4.out.o hRO.out hr4.out.r hRR.out)
  have hpl : Hid (∀ w', Below W.heap.size W w' → Calls Try.prog 19 #[.agg #[.slice x3 (inAts (l ++ z)).length f3, .slice x4 (outAts (l ++ z)).length f4, .slice x5 (ruAts (l ++ z)).length f5], .agg #[.slice yy3 (inAts (l ++ z)).length ee3, .slice yy4 (outAts (l ++ z)).length ee4, .slice yy5 (ruAts (l ++ z)).length ee5]] w' fun e w2 => e = .returned (.bool true) ∧ Below w'.heap.size w' w2) := Lib.hid fun w' hb => by
    have := w8_places x3 x4 x5 yy3 yy4 yy5 (ia (inAts (l ++ z))) (ia (outAts (l ++ z))) (ia (ruAts (l ++ z))) f3 f4 f5 ee3 ee4 ee5 w' (hr4.out.a0.below hb) (hr4.out.a1.below hb) (hr4.out.a2.below hb) (hI3.out.below hb) (hI4.out.below hb) (hI5.out.below hb)
    rw [ia_len, ia_len, ia_len] at this
    exact this
  obtain ⟨-, -, ⟨w0, w1, w2⟩, w3, w4, w5⟩ := hjs.out.free
  have hcl : Hid (∀ w', Below W.heap.size W w' → (w'.cell? ⟨g13 + 1, 0, none⟩ = some (.slice x3 (inAts (l ++ z)).length f3) ∧ w'.cell? ⟨g13 + 1, 1, none⟩ = some (.slice x4 (outAts (l ++ z)).length f4) ∧ w'.cell? ⟨g13 + 1, 2, none⟩ = some (.slice x5 (ruAts (l ++ z)).length f5)) ∧ w'.cell? ⟨(g13 + 1 + 1 + 1), 0, none⟩ = some (.slice yy3 (inAts (l ++ z)).length ee3) ∧ w'.cell? ⟨(g13 + 1 + 1 + 1), 1, none⟩ = some (.slice yy4 (outAts (l ++ z)).length ee4) ∧ w'.cell? ⟨(g13 + 1 + 1 + 1), 2, none⟩ = some (.slice yy5 (ruAts (l ++ z)).length ee5)) := Lib.hid fun w' hb => ⟨⟨cell_below hb rfl ((cell_of_row _ _ 0 _ _ _ ky1).trans rfl), cell_below hb rfl ((cell_of_row _ _ 1 _ _ _ ky1).trans rfl), cell_below hb rfl ((cell_of_row _ _ 2 _ _ _ ky1).trans rfl)⟩, cell_below hb rfl w3, cell_below hb rfl w4, cell_below hb rfl w5⟩
  have z0 := (cell_of_row _ _ 0 _ _ _ kx1).trans rfl
  have z1 := (cell_of_row _ _ 1 _ _ _ kx1).trans rfl
  have z2 := (cell_of_row _ _ 2 _ _ _ kx1).trans rfl
  have hbW := Lib.hid (hbB.out.trans (hjs.out.bl.mono hbB.out.size))
  clear kx1 ky1 w3 w4 w5 hjs hO0 hO1 hO2 hO3 hO4 hO5 hRI hRO hRR hI3 hI4 hI5 hr1 hr2 hr3 hr4
  go_wp2_with (first
    | (go_at_call 13
       refine (hnum.out _ _).mono ?_
       rintro e wn ⟨rfl, rfl⟩)
    | (go_at_call 18
       refine hkp.out.mono ?_
       rintro e w6 ⟨rfl, hbl⟩
       obtain ⟨⟨m0, m1, m2⟩, m3, m4, m5⟩ := hcl.out _ hbl
       have hb6 := Lib.hid hbl
       clear hbl)
    | (go_at_call 19
       refine (hpl.out _ hb6.out).mono ?_
       rintro e w7 ⟨rfl, hbl⟩
       have hb7 := Lib.hid (hb6.out.trans (hbl.mono hb6.out.size))
       clear hbl)
    | (go_at_call 9
       refine (hwk.out _).mono ?_
       rintro e w9 ⟨rfl, hbl⟩
       have hb9 := Lib.hid (hbW.out.trans ((hb7.out.trans (hbl.mono hb7.out.size)).mono hbW.out.size))
       clear hbl))
  go_ret
  exact ⟨rfl, hb9.out⟩
theorem law_ParseJoins (s t : ByteArray) (w : World) (_ : s.size ≤ 140737488351232) (_ : t.size ≤ 140737488351232) :
    Calls Try.prog 5 #[.string s, .string t] w fun e w' => e = .returned (.bool true) ∧ Below w.heap.size w w' := by
  by_cases hl : 20000 < s.size ∨ 20000 < t.size
  · exact law8_joins_long s t w hl
  have h0 : s.size ≤ 20000 := by omega
  have h1 : t.size ≤ 20000 := by omega
  cases hx : psText s with
  | error x => exact law8_joins_err s t w h0 h1 x hx
  | ok l =>
    rcases text_join (t := t) hx with ⟨m, z, hy, hz, hst⟩ | ⟨x, hy, hz⟩
    · exact law8_joins_ok s t w h0 h1 l m z hx hy hz hst
    · exact law8_joins_mid s t w h0 h1 l hx x hy hz
end Go.Proofs.Ytmjincocmhadeaa
