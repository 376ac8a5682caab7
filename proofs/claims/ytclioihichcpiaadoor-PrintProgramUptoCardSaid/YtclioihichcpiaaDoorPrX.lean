/- Print: kept copies. -/
import Derived.Test.YtclioihichcpiaaDoorJoN
import Derived.Deep.QuietTactic
import Derived.BigQuiet
namespace Go.Proofs.YtclioihichcpiaaDoor
open Go.RowKit Go.Shelf Lx
set_option maxHeartbeats 2000000 in
set_option maxRecDepth 100000 in
theorem sm_terms (a a' : Option Addr) (l : List (Bool × ByteArray)) (cap cap' : Nat) (w : World) (h1 : Terms w a l) (h2 : Terms w a' l) :
    Calls Tryd.prog 75 #[.slice a l.length cap, .slice a' l.length cap'] w fun e w' => e = .returned (.bool true) ∧ Below w.heap.size w w' := by
  have hlen := h1.len
  go_enter Tryd.func75, Tryd.ntmps75
  go_wp2_with fail
  go_loopw [5] (fun i wr => ∃ (k : Nat), k ≤ l.length ∧ i = .int .i64 k ∧ Hid (Below w.heap.size w wr)) (fun i _ => l.length - (intOf i).toNat)
  case atStart => exact ⟨0, Nat.zero_le _, rfl, Lib.hid (Below.refl _ _)⟩
  case round =>
    obtain ⟨k, hk, rfl, hb⟩ := hrel
    by_cases hlt : k < l.length
    · obtain ⟨p, rfl, hc1, hc2⟩ := (h1.below hb.out).cells k l[k] (List.getElem?_eq_getElem hlt)
      obtain ⟨q, rfl, hd1, hd2⟩ := (h2.below hb.out).cells k l[k] (List.getElem?_eq_getElem hlt)
      generalize l[k] = x at hc1 hc2 hd1 hd2
      obtain ⟨xv, xs⟩ := x
      dsimp only at hc1 hc2 hd1 hd2
      have hq0 : (0 : Int) ≤ (k : Int) := Int.natCast_nonneg _
      have hq1 : (k : Int) < (l.length : Int) := by omega
      go_wp2_with fail
      go_quiet (fail)
      have hb2 := Lib.hid (hb.out.drewN nq)
      generalize wr.drewN nq = wq at hb2 ⊢
      go_wp2_with fail
      go_roundw
      case rel => exact ⟨k + 1, by omega, by go_num, hb2⟩
      case measure => simp [intOf]; omega
    · have hke : k = l.length := by omega
      subst hke
      go_wp2_with fail
      go_ret
      exact ⟨rfl, hb.out⟩
theorem two_cells {w w1 : World} {o o2 : Obj} (hb : Below ((w.alloc o).alloc o2).heap.size ((w.alloc o).alloc o2) w1) : Below w.heap.size w w1 ∧ w1.heap[w.heap.size]? = some o ∧ w1.heap[w.heap.size + 1]? = some o2 := by
  refine ⟨lit_cells hb, (hb.block _ (by rw [World.size_alloc, World.size_alloc]; omega)).trans (by rw [heap_alloc_old]; exact heap_alloc_new _ _; rw [World.size_alloc]; omega), (hb.block _ (by rw [World.size_alloc, World.size_alloc]; omega)).trans (heap_second _ _ _)⟩
set_option maxHeartbeats 2000000 in
set_option maxRecDepth 100000 in
theorem sm_atom (p : ByteArray) (a a' : Option Addr) (l : List (Bool × ByteArray)) (cap cap' : Nat) (w : World) (h1 : Terms w a l) (h2 : Terms w a' l) :
    Calls Tryd.prog 58 #[.agg #[.string p, .slice a l.length cap], .agg #[.string p, .slice a' l.length cap']] w fun e w' => e = .returned (.bool true) ∧ Below w.heap.size w w' := by
  have hs := fun w h1 h2 => sm_terms a a' l cap cap' w h1 h2
  go_enter Tryd.func58, Tryd.ntmps58
  go_wp2_with (go_at_call 75; refine (hs _ ((h1.new _).new _) ((h2.new _).new _)).mono ?_; rintro e w1 ⟨rfl, hb1⟩; replace hb1 := Lib.hid hb1)
  go_ret
  exact ⟨rfl, lit_cells hb1.out⟩
theorem fourteen {w w1 : World} {x y : Lit} {a a' : Option Addr} {c c' : Nat} {t : TypeId} (hb : Below ((w.alloc (.cells (litV x a c) t)).alloc (.cells (litV y a' c') t)).heap.size ((w.alloc (.cells (litV x a c) t)).alloc (.cells (litV y a' c') t)) w1) :
    (w1.cell? ⟨w.heap.size, 3, none⟩ = some (.bool x.l.1) ∧ w1.cell? ⟨w.heap.size, 4, none⟩ = some (.string x.l.2) ∧ w1.cell? ⟨w.heap.size, 5, none⟩ = some (.bool x.r.1) ∧ w1.cell? ⟨w.heap.size, 6, none⟩ = some (.string x.r.2)) ∧ (w1.cell? ⟨w.heap.size + 1, 3, none⟩ = some (.bool y.l.1) ∧ w1.cell? ⟨w.heap.size + 1, 4, none⟩ = some (.string y.l.2) ∧ w1.cell? ⟨w.heap.size + 1, 5, none⟩ = some (.bool y.r.1) ∧ w1.cell? ⟨w.heap.size + 1, 6, none⟩ = some (.string y.r.2)) := by
  obtain ⟨_, h1, h2⟩ := two_cells hb
  exact ⟨⟨by simp [World.cell?, h1, litV], by simp [World.cell?, h1, litV], by simp [World.cell?, h1, litV], by simp [World.cell?, h1, litV]⟩, by simp [World.cell?, h2, litV], by simp [World.cell?, h2, litV], by simp [World.cell?, h2, litV], by simp [World.cell?, h2, litV]⟩
set_option maxHeartbeats 2000000 in
set_option maxRecDepth 100000 in
theorem sm_lit (x : Lit) (a a' : Option Addr) (cap cap' : Nat) (w : World) (h1 : Terms w a x.a) (h2 : Terms w a' x.a) :
    Calls Tryd.prog 76 #[.agg (litV x a cap), .agg (litV x a' cap')] w fun e w' => e = .returned (.bool true) ∧ Below w.heap.size w w' := by
  have hs := fun w h1 h2 => sm_atom x.p a a' x.a cap cap' w h1 h2
  have hcc := fun (w1 : World) => @fourteen w w1 x x a a' cap cap' 79
  obtain ⟨k, p, l, ⟨lv, lt⟩, ⟨rv, rt⟩⟩ := x
  unfold litV at hcc ⊢
  dsimp only at h1 h2 hs hcc ⊢
  replace hcc := Lib.hid hcc
  go_enter Tryd.func76, Tryd.ntmps76
  go_wp2_with (go_at_call 58; refine (hs _ ((h1.new _).new _) ((h2.new _).new _)).mono ?_; rintro e w1 ⟨rfl, hb1⟩; obtain ⟨⟨c1, c2, c3, c4⟩, d1, d2, d3, d4⟩ := hcc.out w1 hb1; replace hb1 := Lib.hid hb1)
  go_ret
  exact ⟨rfl, lit_cells hb1.out⟩
set_option maxHeartbeats 2000000 in
set_option maxRecDepth 100000 in
theorem kp_atom (p : ByteArray) (g c : Nat) (a' : Option Addr) (l : List (Bool × ByteArray)) (cap' : Nat) (w : World) (h1 : TermsM w g l c) (h2 : Terms w a' l) :
    Calls Tryd.prog 48 #[.agg #[.string p, .slice (some ⟨g, 0, none⟩) l.length c], .agg #[.string p, .slice a' l.length cap']] w fun e w' => e = .returned (.bool true) ∧ Below w.heap.size w w' := by
  have hs := fun w h1 h2 => sm_atom p (some ⟨g, 0, none⟩) a' l c cap' w h1 h2
  have hlen := h1.len
  have hcap := h1.cap
  go_enter Tryd.func48, Tryd.ntmps48
  go_wp2_with (go_at_call 58; refine (hs _ ((h1.terms.new _).new _) ((h2.new _).new _)).mono ?_; rintro e w1 ⟨rfl, hb1⟩; obtain ⟨c1, c2⟩ := ((h1.below (((Below.refl _ _).al _).al _)).below hb1).marked; unfold markB at c1 c2; replace hb1 := Lib.hid hb1)
  go_ret
  exact ⟨rfl, lit_cells hb1.out⟩
set_option maxHeartbeats 4000000 in
set_option maxRecDepth 100000 in
theorem sm_body (a a' : Option Addr) (b : List Lit) (cap cap' : Nat) (w : World) (h1 : Lits w a b) (h2 : Lits w a' b) :
    Calls Tryd.prog 59 #[.slice a b.length cap, .slice a' b.length cap'] w fun e w' => e = .returned (.bool true) ∧ Below w.heap.size w w' := by
  have hlen := h1.len
  go_enter Tryd.func59, Tryd.ntmps59
  go_wp2_with fail
  go_loopw [5, 6] (fun i _ wr => ∃ (k : Nat), k ≤ b.length ∧ i = .int .i64 k ∧ Hid (Below w.heap.size w wr)) (fun i _ _ => b.length - (intOf i).toNat)
  case atStart => exact ⟨0, Nat.zero_le _, rfl, Lib.hid (Below.refl _ _)⟩
  case round =>
    obtain ⟨k, hk, rfl, hbw⟩ := hrel
    by_cases hlt : k < b.length
    · obtain ⟨q, ad, adc, rfl, hd1, hd2, hd3, hd4, hd5, hd6, hd7, hat⟩ := h1.cells k b[k] (List.getElem?_eq_getElem hlt)
      obtain ⟨q2, ad2, ad2c, rfl, he1, he2, he3, he4, he5, he6, he7, hat2⟩ := h2.cells k b[k] (List.getElem?_eq_getElem hlt)
      have hsl := sm_lit b[k] ad ad2 adc ad2c
      generalize b[k] = x at hd1 hd2 hd3 hd4 hd5 hd6 hd7 hat he1 he2 he3 he4 he5 he6 he7 hat2 hsl
      obtain ⟨xk, xp, xa, ⟨xlv, xlt⟩, ⟨xrv, xrt⟩⟩ := x
      unfold litV at hsl
      dsimp only at hd1 hd2 hd3 hd4 hd5 hd6 hd7 hat he1 he2 he3 he4 he5 he6 he7 hat2 hsl
      have hkeep : ∀ w', Below w.heap.size w w' → w'.cell? (q.add (k * 7)) = some (.int .i64 xk) ∧ w'.cell? ⟨(q.add (k * 7)).block, (q.add (k * 7)).off + 1, none⟩ = some (.string xp) ∧ w'.cell? ⟨(q.add (k * 7)).block, (q.add (k * 7)).off + 2, none⟩ = some (.slice ad xa.length adc) ∧ w'.cell? ⟨(q.add (k * 7)).block, (q.add (k * 7)).off + 3, none⟩ = some (.bool xlv) ∧ w'.cell? ⟨(q.add (k * 7)).block, (q.add (k * 7)).off + 4, none⟩ = some (.string xlt) ∧ w'.cell? ⟨(q.add (k * 7)).block, (q.add (k * 7)).off + 5, none⟩ = some (.bool xrv) ∧ w'.cell? ⟨(q.add (k * 7)).block, (q.add (k * 7)).off + 6, none⟩ = some (.string xrt) ∧ w'.cell? (q2.add (k * 7)) = some (.int .i64 xk) ∧ w'.cell? ⟨(q2.add (k * 7)).block, (q2.add (k * 7)).off + 1, none⟩ = some (.string xp) ∧ w'.cell? ⟨(q2.add (k * 7)).block, (q2.add (k * 7)).off + 2, none⟩ = some (.slice ad2 xa.length ad2c) ∧ w'.cell? ⟨(q2.add (k * 7)).block, (q2.add (k * 7)).off + 3, none⟩ = some (.bool xlv) ∧ w'.cell? ⟨(q2.add (k * 7)).block, (q2.add (k * 7)).off + 4, none⟩ = some (.string xlt) ∧ w'.cell? ⟨(q2.add (k * 7)).block, (q2.add (k * 7)).off + 5, none⟩ = some (.bool xrv) ∧ w'.cell? ⟨(q2.add (k * 7)).block, (q2.add (k * 7)).off + 6, none⟩ = some (.string xrt) := fun w' hb =>
        ⟨cell_below hb rfl hd1, cell_below hb rfl hd2, cell_below hb rfl hd3, cell_below hb rfl hd4, cell_below hb rfl hd5, cell_below hb rfl hd6, cell_below hb rfl hd7, cell_below hb rfl he1, cell_below hb rfl he2, cell_below hb rfl he3, cell_below hb rfl he4, cell_below hb rfl he5, cell_below hb rfl he6, cell_below hb rfl he7⟩
      have hk14 := hkeep wr hbw.out
      replace hkeep := Lib.hid hkeep
      clear hd1 hd2 hd3 hd4 hd5 hd6 hd7 he1 he2 he3 he4 he5 he6 he7
      obtain ⟨c1, c2, c3, c4, c5, c6, c7, c8, c9, c10, c11, c12, c13, c14⟩ := hk14
      replace hat := Lib.hid hat
      replace hat2 := Lib.hid hat2
      have hq0 : (0 : Int) ≤ (k : Int) := Int.natCast_nonneg _
      have hq1 : (k : Int) < (b.length : Int) := by omega
      go_wp2_with fail
      go_region_held3 (fun w' => w'.cell? (q.add (k * 7)) = some (.int .i64 xk) ∧ w'.cell? ⟨(q.add (k * 7)).block, (q.add (k * 7)).off + 1, none⟩ = some (.string xp) ∧ w'.cell? ⟨(q.add (k * 7)).block, (q.add (k * 7)).off + 2, none⟩ = some (.slice ad xa.length adc) ∧ w'.cell? ⟨(q.add (k * 7)).block, (q.add (k * 7)).off + 3, none⟩ = some (.bool xlv) ∧ w'.cell? ⟨(q.add (k * 7)).block, (q.add (k * 7)).off + 4, none⟩ = some (.string xlt) ∧ w'.cell? ⟨(q.add (k * 7)).block, (q.add (k * 7)).off + 5, none⟩ = some (.bool xrv) ∧ w'.cell? ⟨(q.add (k * 7)).block, (q.add (k * 7)).off + 6, none⟩ = some (.string xrt) ∧ w'.cell? (q2.add (k * 7)) = some (.int .i64 xk) ∧ w'.cell? ⟨(q2.add (k * 7)).block, (q2.add (k * 7)).off + 1, none⟩ = some (.string xp) ∧ w'.cell? ⟨(q2.add (k * 7)).block, (q2.add (k * 7)).off + 2, none⟩ = some (.slice ad2 xa.length ad2c) ∧ w'.cell? ⟨(q2.add (k * 7)).block, (q2.add (k * 7)).off + 3, none⟩ = some (.bool xlv) ∧ w'.cell? ⟨(q2.add (k * 7)).block, (q2.add (k * 7)).off + 4, none⟩ = some (.string xlt) ∧ w'.cell? ⟨(q2.add (k * 7)).block, (q2.add (k * 7)).off + 5, none⟩ = some (.bool xrv) ∧ w'.cell? ⟨(q2.add (k * 7)).block, (q2.add (k * 7)).off + 6, none⟩ = some (.string xrt))
        (first
          | exact hkeep.out _ hbw.out.drew
          | exact hkeep.out _ hb2.out)
        (first
          | (go_at_call 76; refine (hsl _ (hat.out.below hbw.out.drew) (hat2.out.below hbw.out.drew)).mono ?_; rintro e w2 ⟨rfl, hb20⟩
             have hb2 := Lib.hid (hbw.out.drew.trans (hb20.mono (Below.size hbw.out.drew)))
             clear hb20))
      go_wp2_with fail
      go_roundw
      case rel => exact ⟨k + 1, by omega, by go_num, hb2⟩
      case measure => simp [intOf]; omega
    · have hke : k = b.length := by omega
      subst hke
      go_wp2_with fail
      go_ret
      exact ⟨rfl, hbw.out⟩
set_option maxHeartbeats 4000000 in
set_option maxRecDepth 100000 in
theorem kp_body (B cB : Nat) (L : List (Lit × Nat × Nat)) (a' : Option Addr) (cap' : Nat) (w : World) (h1 : LitsM w B L cB) (h2 : Lits w a' (L.map (·.1))) :
    Calls Tryd.prog 49 #[.slice (some ⟨B, 0, none⟩) L.length cB, .slice a' L.length cap'] w fun e w' => e = .returned (.bool true) ∧ Below w.heap.size w w' := by
  have hs := fun w h1 h2 => sm_body (some ⟨B, 0, none⟩) a' (L.map (·.1)) cB cap' w h1 h2
  rw [List.length_map] at hs
  have hlen := h1.len
  have hcap := h1.cap
  go_enter Tryd.func49, Tryd.ntmps49
  go_wp2_with (go_at_call 59; refine (hs _ h1.lits h2).mono ?_; rintro e w1 ⟨rfl, hb1⟩; replace hb1 := Lib.hid hb1)
  go_loopw [6, 7] (fun i _ wr => ∃ (k : Nat), k ≤ L.length ∧ i = .int .i64 k ∧ Hid (Below w.heap.size w wr)) (fun i _ _ => L.length - (intOf i).toNat)
  case atStart => exact ⟨0, Nat.zero_le _, rfl, hb1⟩
  case round =>
    obtain ⟨k, hk, rfl, hbw⟩ := hrel
    by_cases hlt : k < L.length
    · have hy : L[k]? = some L[k] := List.getElem?_eq_getElem hlt
      have hx : (L.map (·.1))[k]? = some (L[k]).1 := by rw [List.getElem?_map, hy]; rfl
      have hin := Lib.hid (h1.inner L[k] (List.getElem_mem hlt))
      have hd2 := h1.cell k 1 (by decide) hy rfl
      have hd3 := h1.cell k 2 (by decide) hy rfl
      obtain ⟨q2, ad2, ad2c, rfl, he1, he2, he3, he4, he5, he6, he7, hat2⟩ := h2.cells k _ hx
      have hka := kp_atom (L[k]).1.p (L[k]).2.1 (L[k]).2.2 ad2 (L[k]).1.a ad2c
      clear hx hy
      generalize L[k] = y at hin hd2 hd3 he1 he2 he3 he4 he5 he6 he7 hat2 hka
      obtain ⟨⟨xk, xp, xa, ⟨xlv, xlt⟩, ⟨xrv, xrt⟩⟩, g, gc⟩ := y
      dsimp only at hin hd2 hd3 he1 he2 he3 he4 he5 he6 he7 hat2 hka
      have hkeep : ∀ w', Below w.heap.size w w' → w'.cell? ⟨B, k * 7 + 1, none⟩ = some (.string xp) ∧ w'.cell? ⟨B, k * 7 + 2, none⟩ = some (.slice (some ⟨g, 0, none⟩) xa.length gc) ∧ w'.cell? ⟨(q2.add (k * 7)).block, (q2.add (k * 7)).off + 1, none⟩ = some (.string xp) ∧ w'.cell? ⟨(q2.add (k * 7)).block, (q2.add (k * 7)).off + 2, none⟩ = some (.slice ad2 xa.length ad2c) := fun w' hb =>
        ⟨cell_below hb rfl hd2, cell_below hb rfl hd3, cell_below hb rfl he2, cell_below hb rfl he3⟩
      have hk14 := hkeep wr hbw.out
      replace hkeep := Lib.hid hkeep
      clear hd2 hd3 he1 he2 he3 he4 he5 he6 he7
      obtain ⟨c1, c2, c3, c4⟩ := hk14
      replace hat2 := Lib.hid hat2
      have hq0 : (0 : Int) ≤ (k : Int) := Int.natCast_nonneg _
      have hq1 : (k : Int) < (L.length : Int) := by omega
      go_wp2_with fail
      go_region_held3 (fun w' => w'.cell? ⟨B, k * 7 + 1, none⟩ = some (.string xp) ∧ w'.cell? ⟨B, k * 7 + 2, none⟩ = some (.slice (some ⟨g, 0, none⟩) xa.length gc) ∧ w'.cell? ⟨(q2.add (k * 7)).block, (q2.add (k * 7)).off + 1, none⟩ = some (.string xp) ∧ w'.cell? ⟨(q2.add (k * 7)).block, (q2.add (k * 7)).off + 2, none⟩ = some (.slice ad2 xa.length ad2c))
        (first
          | exact hkeep.out _ hbw.out.drew
          | exact hkeep.out _ hb2.out)
        (first
          | (go_at_call 48; refine (hka _ (hin.out.below hbw.out.drew) (hat2.out.below hbw.out.drew)).mono ?_; rintro e w2 ⟨rfl, hb20⟩
             have hb2 := Lib.hid (hbw.out.drew.trans (hb20.mono (Below.size hbw.out.drew)))
             clear hb20))
      go_wp2_with fail
      go_roundw
      case rel => exact ⟨k + 1, by omega, by go_num, hb2⟩
      case measure => simp [intOf]; omega
    · have hke : k = L.length := by omega
      subst hke
      obtain ⟨m1, m2⟩ := (h1.below hbw.out).marked
      go_wp2_with fail
      go_ret
      exact ⟨rfl, hbw.out⟩
set_option maxHeartbeats 4000000 in
set_option maxRecDepth 100000 in
theorem kp_rule (h : ByteArray) (g c : Nat) (l : List (Bool × ByteArray)) (B cB : Nat) (L : List (Lit × Nat × Nat)) (a ba : Option Addr) (cap bcap : Nat) (w : World) (h1 : TermsM w g l c) (h2 : Terms w a l) (h3 : LitsM w B L cB) (h4 : Lits w ba (L.map (·.1))) :
    Calls Tryd.prog 28 #[.agg #[.string h, .slice (some ⟨g, 0, none⟩) l.length c, .slice (some ⟨B, 0, none⟩) L.length cB], .agg #[.string h, .slice a l.length cap, .slice ba L.length bcap]] w fun e w' => e = .returned (.bool true) ∧ Below w.heap.size w w' := by
  have ha := fun w h1 h2 => kp_atom h g c a l cap w h1 h2
  have hb := fun w h3 h4 => kp_body B cB L ba bcap w h3 h4
  go_enter Tryd.func28, Tryd.ntmps28
  go_wp2_with (first
    | (go_at_call 49; refine (hb _ ((h3.below (((Below.refl _ _).al _).al _)).below hb1.out) (((h4.new _).new _).below hb1.out)).mono ?_; rintro e w2 ⟨rfl, hb2⟩; replace hb2 := Lib.hid (hb1.out.trans (hb2.mono hb1.out.size)))
    | (go_at_call 48; refine (ha _ (h1.below (((Below.refl _ _).al _).al _)) ((h2.new _).new _)).mono ?_; rintro e w1 ⟨rfl, hb1⟩; obtain ⟨⟨c1, c2, c3⟩, d1, d2⟩ := two_rules hb1; have d3 : w1.cell? ⟨w.heap.size + 1, 2, none⟩ = some (.slice ba L.length bcap) := by simp [World.cell?, d1]
       clear d1 d2; replace hb1 := Lib.hid hb1))
  go_ret
  exact ⟨rfl, lit_cells hb2.out⟩
end Go.Proofs.YtclioihichcpiaaDoor
