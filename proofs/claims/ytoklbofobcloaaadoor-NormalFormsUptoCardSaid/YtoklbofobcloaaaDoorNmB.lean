/- Normal: copies kept; rows compared (printed by gen_nmbase.py out of the Print texts). -/
import Derived.Test.YtoklbofobcloaaaDoorNmA
import Derived.Deep.QuietTactic
import Derived.BigQuiet
namespace Go.Proofs.YtoklbofobcloaaaDoor
open Go.RowKit
set_option maxHeartbeats 2000000 in
set_option maxRecDepth 100000 in
theorem sm_terms (a a' : Option Addr) (l : List (Bool × ByteArray)) (cap cap' : Nat) (w : World) (h1 : Terms w a l) (h2 : Terms w a' l) :
    Calls Tryd.prog 68 #[.slice a l.length cap, .slice a' l.length cap'] w fun e w' => e = .returned (.bool true) ∧ Below w.heap.size w w' := by
  have hlen := h1.len
  go_enter Tryd.func68, Tryd.ntmps68
  go_wp2_with fail
  go_loopw [5] (fun i wr => ∃ (k : Nat), k ≤ l.length ∧ i = .int .i64 k ∧ Hid (Below w.heap.size w wr)) (fun i _ => l.length - (intOf i).toNat)
  case atStart => exact ⟨0, Nat.zero_le _, rfl, Lib.hid (Below.refl _ _)⟩
  case round =>
    obtain ⟨k, hk, rfl, hb⟩ := hrel
    by_cases hlt : k < l.length
    · obtain ⟨p, rfl, hc1, hc2⟩ := (h1.below hb.out).cells k l[k] (List.getElem?_eq_getElem hlt)
      obtain ⟨q, rfl, hd1, hd2⟩ := (h2.below hb.out).cells k l[k] (List.getElem?_eq_getElem hlt)
      generalize l[k] = x at hc1 hc2 hd1 hd2
      obtain ⟨xv, xs⟩ := x
      dsimp only at hc1 hc2 hd1 hd2
      have hq0 : (0 : Int) ≤ (k : Int) := Int.natCast_nonneg _
      have hq1 : (k : Int) < (l.length : Int) := by omega
      go_wp2_with fail
      go_quiet (fail)
      have hb2 := Lib.hid (hb.out.drewN nq)
      generalize wr.drewN nq = wq at hb2 ⊢
      go_wp2_with fail
      go_roundw
      case rel => exact ⟨k + 1, by omega, by go_num, hb2⟩
      case measure => simp [intOf]; omega
    · have hke : k = l.length := by omega
      subst hke
      go_wp2_with fail
      go_ret
      exact ⟨rfl, hb.out⟩
theorem two_cells {w w1 : World} {o o2 : Obj} (hb : Below ((w.alloc o).alloc o2).heap.size ((w.alloc o).alloc o2) w1) : Below w.heap.size w w1 ∧ w1.heap[w.heap.size]? = some o ∧ w1.heap[w.heap.size + 1]? = some o2 := by
  refine ⟨lit_cells hb, (hb.block _ (by rw [World.size_alloc, World.size_alloc]; omega)).trans (by rw [heap_alloc_old]; exact heap_alloc_new _ _; rw [World.size_alloc]; omega), (hb.block _ (by rw [World.size_alloc, World.size_alloc]; omega)).trans (heap_second _ _ _)⟩
set_option maxHeartbeats 2000000 in
set_option maxRecDepth 100000 in
theorem sm_atom (p : ByteArray) (a a' : Option Addr) (l : List (Bool × ByteArray)) (cap cap' : Nat) (w : World) (h1 : Terms w a l) (h2 : Terms w a' l) :
    Calls Tryd.prog 49 #[.agg #[.string p, .slice a l.length cap], .agg #[.string p, .slice a' l.length cap']] w fun e w' => e = .returned (.bool true) ∧ Below w.heap.size w w' := by
  have hs := fun w h1 h2 => sm_terms a a' l cap cap' w h1 h2
  go_enter Tryd.func49, Tryd.ntmps49
  go_wp2_with (go_at_call 68; refine (hs _ ((h1.new _).new _) ((h2.new _).new _)).mono ?_; rintro e w1 ⟨rfl, hb1⟩; replace hb1 := Lib.hid hb1)
  go_ret
  exact ⟨rfl, lit_cells hb1.out⟩
theorem fourteen {w w1 : World} {x y : Lit} {a a' : Option Addr} {c c' : Nat} {t : TypeId} (hb : Below ((w.alloc (.cells (litV x a c) t)).alloc (.cells (litV y a' c') t)).heap.size ((w.alloc (.cells (litV x a c) t)).alloc (.cells (litV y a' c') t)) w1) :
    (w1.cell? ⟨w.heap.size, 3, none⟩ = some (.bool x.l.1) ∧ w1.cell? ⟨w.heap.size, 4, none⟩ = some (.string x.l.2) ∧ w1.cell? ⟨w.heap.size, 5, none⟩ = some (.bool x.r.1) ∧ w1.cell? ⟨w.heap.size, 6, none⟩ = some (.string x.r.2)) ∧ (w1.cell? ⟨w.heap.size + 1, 3, none⟩ = some (.bool y.l.1) ∧ w1.cell? ⟨w.heap.size + 1, 4, none⟩ = some (.string y.l.2) ∧ w1.cell? ⟨w.heap.size + 1, 5, none⟩ = some (.bool y.r.1) ∧ w1.cell? ⟨w.heap.size + 1, 6, none⟩ = some (.string y.r.2)) := by
  obtain ⟨_, h1, h2⟩ := two_cells hb
  exact ⟨⟨by simp [World.cell?, h1, litV], by simp [World.cell?, h1, litV], by simp [World.cell?, h1, litV], by simp [World.cell?, h1, litV]⟩, by simp [World.cell?, h2, litV], by simp [World.cell?, h2, litV], by simp [World.cell?, h2, litV], by simp [World.cell?, h2, litV]⟩
set_option maxHeartbeats 2000000 in
set_option maxRecDepth 100000 in
theorem sm_lit (x : Lit) (a a' : Option Addr) (cap cap' : Nat) (w : World) (h1 : Terms w a x.a) (h2 : Terms w a' x.a) :
    Calls Tryd.prog 69 #[.agg (litV x a cap), .agg (litV x a' cap')] w fun e w' => e = .returned (.bool true) ∧ Below w.heap.size w w' := by
  have hs := fun w h1 h2 => sm_atom x.p a a' x.a cap cap' w h1 h2
  have hcc := fun (w1 : World) => @fourteen w w1 x x a a' cap cap' 44
  obtain ⟨k, p, l, ⟨lv, lt⟩, ⟨rv, rt⟩⟩ := x
  unfold litV at hcc ⊢
  dsimp only at h1 h2 hs hcc ⊢
  replace hcc := Lib.hid hcc
  go_enter Tryd.func69, Tryd.ntmps69
  go_wp2_with (go_at_call 49; refine (hs _ ((h1.new _).new _) ((h2.new _).new _)).mono ?_; rintro e w1 ⟨rfl, hb1⟩; obtain ⟨⟨c1, c2, c3, c4⟩, d1, d2, d3, d4⟩ := hcc.out w1 hb1; replace hb1 := Lib.hid hb1)
  go_ret
  exact ⟨rfl, lit_cells hb1.out⟩
set_option maxHeartbeats 2000000 in
set_option maxRecDepth 100000 in
theorem kp_atom (p : ByteArray) (g c : Nat) (a' : Option Addr) (l : List (Bool × ByteArray)) (cap' : Nat) (w : World) (h1 : TermsM w g l c) (h2 : Terms w a' l) :
    Calls Tryd.prog 51 #[.agg #[.string p, .slice (some ⟨g, 0, none⟩) l.length c], .agg #[.string p, .slice a' l.length cap']] w fun e w' => e = .returned (.bool true) ∧ Below w.heap.size w w' := by
  have hs := fun w h1 h2 => sm_atom p (some ⟨g, 0, none⟩) a' l c cap' w h1 h2
  have hlen := h1.len
  have hcap := h1.cap
  go_enter Tryd.func51, Tryd.ntmps51
  go_wp2_with (go_at_call 49; refine (hs _ ((h1.terms.new _).new _) ((h2.new _).new _)).mono ?_; rintro e w1 ⟨rfl, hb1⟩; obtain ⟨c1, c2⟩ := ((h1.below (((Below.refl _ _).al _).al _)).below hb1).marked; unfold markB at c1 c2; replace hb1 := Lib.hid hb1)
  go_ret
  exact ⟨rfl, lit_cells hb1.out⟩
set_option maxHeartbeats 4000000 in
set_option maxRecDepth 100000 in
theorem sm_body (a a' : Option Addr) (b : List Lit) (cap cap' : Nat) (w : World) (h1 : Lits w a b) (h2 : Lits w a' b) :
    Calls Tryd.prog 50 #[.slice a b.length cap, .slice a' b.length cap'] w fun e w' => e = .returned (.bool true) ∧ Below w.heap.size w w' := by
  have hlen := h1.len
  go_enter Tryd.func50, Tryd.ntmps50
  go_wp2_with fail
  go_loopw [5, 6] (fun i _ wr => ∃ (k : Nat), k ≤ b.length ∧ i = .int .i64 k ∧ Hid (Below w.heap.size w wr)) (fun i _ _ => b.length - (intOf i).toNat)
  case atStart => exact ⟨0, Nat.zero_le _, rfl, Lib.hid (Below.refl _ _)⟩
  case round =>
    obtain ⟨k, hk, rfl, hbw⟩ := hrel
    by_cases hlt : k < b.length
    · obtain ⟨q, ad, adc, rfl, hd1, hd2, hd3, hd4, hd5, hd6, hd7, hat⟩ := h1.cells k b[k] (List.getElem?_eq_getElem hlt)
      obtain ⟨q2, ad2, ad2c, rfl, he1, he2, he3, he4, he5, he6, he7, hat2⟩ := h2.cells k b[k] (List.getElem?_eq_getElem hlt)
      have hsl := sm_lit b[k] ad ad2 adc ad2c
      generalize b[k] = x at hd1 hd2 hd3 hd4 hd5 hd6 hd7 hat he1 he2 he3 he4 he5 he6 he7 hat2 hsl
      obtain ⟨xk, xp, xa, ⟨xlv, xlt⟩, ⟨xrv, xrt⟩⟩ := x
      unfold litV at hsl
      dsimp only at hd1 hd2 hd3 hd4 hd5 hd6 hd7 hat he1 he2 he3 he4 he5 he6 he7 hat2 hsl
      have hkeep : ∀ w', Below w.heap.size w w' → w'.cell? (q.add (k * 7)) = some (.int .i64 xk) ∧ w'.cell? ⟨(q.add (k * 7)).block, (q.add (k * 7)).off + 1, none⟩ = some (.string xp) ∧ w'.cell? ⟨(q.add (k * 7)).block, (q.add (k * 7)).off + 2, none⟩ = some (.slice ad xa.length adc) ∧ w'.cell? ⟨(q.add (k * 7)).block, (q.add (k * 7)).off + 3, none⟩ = some (.bool xlv) ∧ w'.cell? ⟨(q.add (k * 7)).block, (q.add (k * 7)).off + 4, none⟩ = some (.string xlt) ∧ w'.cell? ⟨(q.add (k * 7)).block, (q.add (k * 7)).off + 5, none⟩ = some (.bool xrv) ∧ w'.cell? ⟨(q.add (k * 7)).block, (q.add (k * 7)).off + 6, none⟩ = some (.string xrt) ∧ w'.cell? (q2.add (k * 7)) = some (.int .i64 xk) ∧ w'.cell? ⟨(q2.add (k * 7)).block, (q2.add (k * 7)).off + 1, none⟩ = some (.string xp) ∧ w'.cell? ⟨(q2.add (k * 7)).block, (q2.add (k * 7)).off + 2, none⟩ = some (.slice ad2 xa.length ad2c) ∧ w'.cell? ⟨(q2.add (k * 7)).block, (q2.add (k * 7)).off + 3, none⟩ = some (.bool xlv) ∧ w'.cell? ⟨(q2.add (k * 7)).block, (q2.add (k * 7)).off + 4, none⟩ = some (.string xlt) ∧ w'.cell? ⟨(q2.add (k * 7)).block, (q2.add (k * 7)).off + 5, none⟩ = some (.bool xrv) ∧ w'.cell? ⟨(q2.add (k * 7)).block, (q2.add (k * 7)).off + 6, none⟩ = some (.string xrt) := fun w' hb =>
        ⟨cell_below hb rfl hd1, cell_below hb rfl hd2, cell_below hb rfl hd3, cell_below hb rfl hd4, cell_below hb rfl hd5, cell_below hb rfl hd6, cell_below hb rfl hd7, cell_below hb rfl he1, cell_below hb rfl he2, cell_below hb rfl he3, cell_below hb rfl he4, cell_below hb rfl he5, cell_below hb rfl he6, cell_below hb rfl he7⟩
      have hk14 := hkeep wr hbw.out
      replace hkeep := Lib.hid hkeep
      clear hd1 hd2 hd3 hd4 hd5 hd6 hd7 he1 he2 he3 he4 he5 he6 he7
      obtain ⟨c1, c2, c3, c4, c5, c6, c7, c8, c9, c10, c11, c12, c13, c14⟩ := hk14
      replace hat := Lib.hid hat
      replace hat2 := Lib.hid hat2
      have hq0 : (0 : Int) ≤ (k : Int) := Int.natCast_nonneg _
      have hq1 : (k : Int) < (b.length : Int) := by omega
      go_wp2_with fail
      go_region_held3 (fun w' => w'.cell? (q.add (k * 7)) = some (.int .i64 xk) ∧ w'.cell? ⟨(q.add (k * 7)).block, (q.add (k * 7)).off + 1, none⟩ = some (.string xp) ∧ w'.cell? ⟨(q.add (k * 7)).block, (q.add (k * 7)).off + 2, none⟩ = some (.slice ad xa.length adc) ∧ w'.cell? ⟨(q.add (k * 7)).block, (q.add (k * 7)).off + 3, none⟩ = some (.bool xlv) ∧ w'.cell? ⟨(q.add (k * 7)).block, (q.add (k * 7)).off + 4, none⟩ = some (.string xlt) ∧ w'.cell? ⟨(q.add (k * 7)).block, (q.add (k * 7)).off + 5, none⟩ = some (.bool xrv) ∧ w'.cell? ⟨(q.add (k * 7)).block, (q.add (k * 7)).off + 6, none⟩ = some (.string xrt) ∧ w'.cell? (q2.add (k * 7)) = some (.int .i64 xk) ∧ w'.cell? ⟨(q2.add (k * 7)).block, (q2.add (k * 7)).off + 1, none⟩ = some (.string xp) ∧ w'.cell? ⟨(q2.add (k * 7)).block, (q2.add (k * 7)).off + 2, none⟩ = some (.slice ad2 xa.length ad2c) ∧ w'.cell? ⟨(q2.add (k * 7)).block, (q2.add (k * 7)).off + 3, none⟩ = some (.bool xlv) ∧ w'.cell? ⟨(q2.add (k * 7)).block, (q2.add (k * 7)).off + 4, none⟩ = some (.string xlt) ∧ w'.cell? ⟨(q2.add (k * 7)).block, (q2.add (k * 7)).off + 5, none⟩ = some (.bool xrv) ∧ w'.cell? ⟨(q2.add (k * 7)).block, (q2.add (k * 7)).off + 6, none⟩ = some (.string xrt))
        (first
          | exact hkeep.out _ hbw.out.drew
          | exact hkeep.out _ hb2.out)
        (first
          | (go_at_call 69; refine (hsl _ (hat.out.below hbw.out.drew) (hat2.out.below hbw.out.drew)).mono ?_; rintro e w2 ⟨rfl, hb20⟩
             have hb2 := Lib.hid (hbw.out.drew.trans (hb20.mono (Below.size hbw.out.drew)))
             clear hb20))
      go_wp2_with fail
      go_roundw
      case rel => exact ⟨k + 1, by omega, by go_num, hb2⟩
      case measure => simp [intOf]; omega
    · have hke : k = b.length := by omega
      subst hke
      go_wp2_with fail
      go_ret
      exact ⟨rfl, hbw.out⟩
set_option maxHeartbeats 4000000 in
set_option maxRecDepth 100000 in
theorem kp_body (B cB : Nat) (L : List (Lit × Nat × Nat)) (a' : Option Addr) (cap' : Nat) (w : World) (h1 : LitsM w B L cB) (h2 : Lits w a' (L.map (·.1))) :
    Calls Tryd.prog 52 #[.slice (some ⟨B, 0, none⟩) L.length cB, .slice a' L.length cap'] w fun e w' => e = .returned (.bool true) ∧ Below w.heap.size w w' := by
  have hs := fun w h1 h2 => sm_body (some ⟨B, 0, none⟩) a' (L.map (·.1)) cB cap' w h1 h2
  rw [List.length_map] at hs
  have hlen := h1.len
  have hcap := h1.cap
  go_enter Tryd.func52, Tryd.ntmps52
  go_wp2_with (go_at_call 50; refine (hs _ h1.lits h2).mono ?_; rintro e w1 ⟨rfl, hb1⟩; replace hb1 := Lib.hid hb1)
  go_loopw [6, 7] (fun i _ wr => ∃ (k : Nat), k ≤ L.length ∧ i = .int .i64 k ∧ Hid (Below w.heap.size w wr)) (fun i _ _ => L.length - (intOf i).toNat)
  case atStart => exact ⟨0, Nat.zero_le _, rfl, hb1⟩
  case round =>
    obtain ⟨k, hk, rfl, hbw⟩ := hrel
    by_cases hlt : k < L.length
    · have hy : L[k]? = some L[k] := List.getElem?_eq_getElem hlt
      have hx : (L.map (·.1))[k]? = some (L[k]).1 := by rw [List.getElem?_map, hy]; rfl
      have hin := Lib.hid (h1.inner L[k] (List.getElem_mem hlt))
      have hd2 := h1.cell k 1 (by decide) hy rfl
      have hd3 := h1.cell k 2 (by decide) hy rfl
      obtain ⟨q2, ad2, ad2c, rfl, he1, he2, he3, he4, he5, he6, he7, hat2⟩ := h2.cells k _ hx
      have hka := kp_atom (L[k]).1.p (L[k]).2.1 (L[k]).2.2 ad2 (L[k]).1.a ad2c
      clear hx hy
      generalize L[k] = y at hin hd2 hd3 he1 he2 he3 he4 he5 he6 he7 hat2 hka
      obtain ⟨⟨xk, xp, xa, ⟨xlv, xlt⟩, ⟨xrv, xrt⟩⟩, g, gc⟩ := y
      dsimp only at hin hd2 hd3 he1 he2 he3 he4 he5 he6 he7 hat2 hka
      have hkeep : ∀ w', Below w.heap.size w w' → w'.cell? ⟨B, k * 7 + 1, none⟩ = some (.string xp) ∧ w'.cell? ⟨B, k * 7 + 2, none⟩ = some (.slice (some ⟨g, 0, none⟩) xa.length gc) ∧ w'.cell? ⟨(q2.add (k * 7)).block, (q2.add (k * 7)).off + 1, none⟩ = some (.string xp) ∧ w'.cell? ⟨(q2.add (k * 7)).block, (q2.add (k * 7)).off + 2, none⟩ = some (.slice ad2 xa.length ad2c) := fun w' hb =>
        ⟨cell_below hb rfl hd2, cell_below hb rfl hd3, cell_below hb rfl he2, cell_below hb rfl he3⟩
      have hk14 := hkeep wr hbw.out
      replace hkeep := Lib.hid hkeep
      clear hd2 hd3 he1 he2 he3 he4 he5 he6 he7
      obtain ⟨c1, c2, c3, c4⟩ := hk14
      replace hat2 := Lib.hid hat2
      have hq0 : (0 : Int) ≤ (k : Int) := Int.natCast_nonneg _
      have hq1 : (k : Int) < (L.length : Int) := by omega
      go_wp2_with fail
      go_region_held3 (fun w' => w'.cell? ⟨B, k * 7 + 1, none⟩ = some (.string xp) ∧ w'.cell? ⟨B, k * 7 + 2, none⟩ = some (.slice (some ⟨g, 0, none⟩) xa.length gc) ∧ w'.cell? ⟨(q2.add (k * 7)).block, (q2.add (k * 7)).off + 1, none⟩ = some (.string xp) ∧ w'.cell? ⟨(q2.add (k * 7)).block, (q2.add (k * 7)).off + 2, none⟩ = some (.slice ad2 xa.length ad2c))
        (first
          | exact hkeep.out _ hbw.out.drew
          | exact hkeep.out _ hb2.out)
        (first
          | (go_at_call 51; refine (hka _ (hin.out.below hbw.out.drew) (hat2.out.below hbw.out.drew)).mono ?_; rintro e w2 ⟨rfl, hb20⟩
             have hb2 := Lib.hid (hbw.out.drew.trans (hb20.mono (Below.size hbw.out.drew)))
             clear hb20))
      go_wp2_with fail
      go_roundw
      case rel => exact ⟨k + 1, by omega, by go_num, hb2⟩
      case measure => simp [intOf]; omega
    · have hke : k = L.length := by omega
      subst hke
      obtain ⟨m1, m2⟩ := (h1.below hbw.out).marked
      go_wp2_with fail
      go_ret
      exact ⟨rfl, hbw.out⟩
set_option maxHeartbeats 4000000 in
set_option maxRecDepth 100000 in
theorem kp_rule (h : ByteArray) (g c : Nat) (l : List (Bool × ByteArray)) (B cB : Nat) (L : List (Lit × Nat × Nat)) (a ba : Option Addr) (cap bcap : Nat) (w : World) (h1 : TermsM w g l c) (h2 : Terms w a l) (h3 : LitsM w B L cB) (h4 : Lits w ba (L.map (·.1))) :
    Calls Tryd.prog 22 #[.agg #[.string h, .slice (some ⟨g, 0, none⟩) l.length c, .slice (some ⟨B, 0, none⟩) L.length cB], .agg #[.string h, .slice a l.length cap, .slice ba L.length bcap]] w fun e w' => e = .returned (.bool true) ∧ Below w.heap.size w w' := by
  have ha := fun w h1 h2 => kp_atom h g c a l cap w h1 h2
  have hb := fun w h3 h4 => kp_body B cB L ba bcap w h3 h4
  go_enter Tryd.func22, Tryd.ntmps22
  go_wp2_with (first
    | (go_at_call 52; refine (hb _ ((h3.below (((Below.refl _ _).al _).al _)).below hb1.out) (((h4.new _).new _).below hb1.out)).mono ?_; rintro e w2 ⟨rfl, hb2⟩; replace hb2 := Lib.hid (hb1.out.trans (hb2.mono hb1.out.size)))
    | (go_at_call 51; refine (ha _ (h1.below (((Below.refl _ _).al _).al _)) ((h2.new _).new _)).mono ?_; rintro e w1 ⟨rfl, hb1⟩; obtain ⟨⟨c1, c2, c3⟩, d1, d2⟩ := two_rules hb1; have d3 : w1.cell? ⟨w.heap.size + 1, 2, none⟩ = some (.slice ba L.length bcap) := by simp [World.cell?, d1]
       clear d1 d2; replace hb1 := Lib.hid hb1))
  go_ret
  exact ⟨rfl, lit_cells hb2.out⟩
theorem neq_texts {a b : ByteArray} (h : a ≠ b) : ¬ a.toList = b.toList := fun e => h (by
  rw [ByteArray.toList_eq, ByteArray.toList_eq] at e
  cases a; cases b
  simp at e
  rw [e])
theorem eq_lists {α : Type _} {l l' : List α} {k N : Nat} (hN : l.length = N) (hN2 : l'.length = N) (hk : k = N) (h : ∀ j, j < k → l[j]? = l'[j]?) : l = l' := by
  apply List.ext_getElem?
  intro j
  by_cases hj : j < k
  · exact h j hj
  · rw [List.getElem?_eq_none (by omega), List.getElem?_eq_none (by omega)]
theorem same_step {α : Type _} {l l' : List α} {k : Nat} {x : α} (h : ∀ j, j < k → l[j]? = l'[j]?) (h1 : l[k]? = some x) (h2 : l'[k]? = some x) : ∀ j, j < k + 1 → l[j]? = l'[j]? := by
  intro j hj
  by_cases hjk : j = k
  · rw [hjk, h1, h2]
  · exact h j (by omega)
theorem ne_at {α : Type _} {l l' : List α} {k : Nat} {x y : α} (h1 : l[k]? = some x) (h2 : l'[k]? = some y) (hxy : x ≠ y) : l ≠ l' := fun e => hxy (by rw [e, h2] at h1; injection h1 with h1; exact h1.symm)
set_option maxHeartbeats 4000000 in
set_option maxRecDepth 100000 in
theorem sr_terms (a a' : Option Addr) (l l' : List (Bool × ByteArray)) (cap cap' : Nat) (w : World) (h1 : Terms w a l) (h2 : Terms w a' l') :
    Calls Tryd.prog 68 #[.slice a l.length cap, .slice a' l'.length cap'] w fun e w' => e = .returned (.bool (decide (l = l'))) ∧ Below w.heap.size w w' := by
  have hlen := h1.len
  have hlen2 := h2.len
  obtain ⟨R, hR⟩ : ∃ R, decide (l = l') = R := ⟨_, rfl⟩
  rw [hR]
  by_cases hne : l.length = l'.length
  · obtain ⟨N, hN⟩ : ∃ N, l.length = N := ⟨_, rfl⟩
    have hN2 : l'.length = N := by omega
    rw [hN] at hlen ⊢
    rw [hN2] at hlen2 ⊢
    clear hne
    replace hR := Lib.hid hR
    have hNN := Lib.hid (And.intro hN hN2)
    clear hN2 hN
    go_enter Tryd.func68, Tryd.ntmps68
    go_wp2_with fail
    go_loopw [5] (fun i wr => ∃ (k : Nat), k ≤ N ∧ i = .int .i64 k ∧ Hid (Below w.heap.size w wr) ∧ Hid (∀ j, j < k → l[j]? = l'[j]?)) (fun i _ => N - (intOf i).toNat)
    case atStart => exact ⟨0, Nat.zero_le _, rfl, Lib.hid (Below.refl _ _), Lib.hid (fun j hj => absurd hj (Nat.not_lt_zero _))⟩
    case round =>
      obtain ⟨k, hk, rfl, hb, hsame⟩ := hrel
      by_cases hlt : k < N
      · obtain ⟨x, e1⟩ : ∃ x, l[k]? = some x := ⟨_, List.getElem?_eq_getElem (by rw [hNN.out.1]; exact hlt)⟩
        obtain ⟨y, e2⟩ : ∃ y, l'[k]? = some y := ⟨_, List.getElem?_eq_getElem (by rw [hNN.out.2]; exact hlt)⟩
        obtain ⟨p, rfl, hc1, hc2⟩ := (h1.below hb.out).cells k _ e1
        obtain ⟨q, rfl, hd1, hd2⟩ := (h2.below hb.out).cells k _ e2
        obtain ⟨xv, xs⟩ := x
        obtain ⟨yv, ys⟩ := y
        replace e1 := Lib.hid e1
        replace e2 := Lib.hid e2
        dsimp only at hc1 hc2 hd1 hd2
        have hq0 : (0 : Int) ≤ (k : Int) := Int.natCast_nonneg _
        have hq1 : (k : Int) < (N : Int) := by omega
        by_cases hxy : xv = yv ∧ xs = ys
        · obtain ⟨rfl, rfl⟩ := hxy
          go_wp2_with fail
          go_quiet (fail)
          have hb2 := Lib.hid (hb.out.drewN nq)
          generalize wr.drewN nq = wq at hb2 ⊢
          go_wp2_with fail
          go_roundw
          case rel => exact ⟨k + 1, by omega, by go_num, hb2, Lib.hid (same_step hsame.out e1.out e2.out)⟩
          case measure => simp [intOf]; omega
        · have hF : Hid (false = R) := Lib.hid (by rw [← hR.out]; exact (decide_eq_false (ne_at e1.out e2.out (fun e => hxy (by injection e with e3 e4; exact ⟨e3, e4⟩)))).symm)
          by_cases hv : xv = yv
          · subst hv
            have hs := neq_texts fun e : xs = ys => hxy ⟨rfl, e⟩
            clear hxy
            go_wp2_with fail
            go_quiet (fail)
            have hb2 := Lib.hid (hb.out.drewN nq)
            generalize wr.drewN nq = wq at hb2 ⊢
            go_wp2_with fail
            go_ret
            exact ⟨by rw [← hF.out]; rfl, hb2.out⟩
          · have hv2 : (xv == yv) = false := by cases xv <;> cases yv <;> simp at hv ⊢
            clear hxy hv
            go_wp2_with fail
            go_quiet (fail)
            have hb2 := Lib.hid (hb.out.drewN nq)
            generalize wr.drewN nq = wq at hb2 ⊢
            go_wp2_with fail
            go_ret
            exact ⟨by rw [← hF.out]; rfl, hb2.out⟩
      · have hke : k = N := by omega
        have hT : Hid (true = R) := Lib.hid (by rw [← hR.out]; exact (decide_eq_true (eq_lists hNN.out.1 hNN.out.2 hke hsame.out)).symm)
        subst hke
        go_wp2_with fail
        go_ret
        exact ⟨by rw [← hT.out]; rfl, hb.out⟩
  · have hF : Hid (false = R) := Lib.hid (by rw [← hR]; exact (decide_eq_false (fun e => hne (by rw [e]))).symm)
    have hn2 : ((l.length : Int) != (l'.length : Int)) = true := by simp; omega
    go_enter Tryd.func68, Tryd.ntmps68
    go_wp2_with fail
    go_ret
    exact ⟨by rw [← hF.out]; rfl, Below.refl _ _⟩
theorem k_second (w : World) (o1 o2 : Obj) : ((w.alloc o1).alloc o2).heap[w.heap.size + 1]? = some o2 := by
  have := heap_alloc_new (w.alloc o1) o2
  rw [World.size_alloc] at this; exact this
theorem k_cells {w w1 : World} {o o2 : Obj} (hb : Below ((w.alloc o).alloc o2).heap.size ((w.alloc o).alloc o2) w1) : Below w.heap.size w w1 := (((Below.refl _ _).al _).al _).trans (hb.mono (by rw [World.size_alloc, World.size_alloc]; omega))
theorem k_two {w w1 : World} {o o2 : Obj} (hb : Below ((w.alloc o).alloc o2).heap.size ((w.alloc o).alloc o2) w1) : Below w.heap.size w w1 ∧ w1.heap[w.heap.size]? = some o ∧ w1.heap[w.heap.size + 1]? = some o2 := by
  refine ⟨k_cells hb, (hb.block _ (by rw [World.size_alloc, World.size_alloc]; omega)).trans (by rw [heap_alloc_old]; exact heap_alloc_new _ _; rw [World.size_alloc]; omega), (hb.block _ (by rw [World.size_alloc, World.size_alloc]; omega)).trans (k_second _ _ _)⟩
/-- a literal's cells -/
abbrev litQ (x : Lit) (a : Option Addr) (c : Nat) : Array Value := #[.int .i64 x.k, .string x.p, .slice a x.a.length c, .bool x.l.1, .string x.l.2, .bool x.r.1, .string x.r.2]
theorem k_fourteen {w w1 : World} {x y : Lit} {a a' : Option Addr} {c c' : Nat} {t : TypeId} (hb : Below ((w.alloc (.cells (litQ x a c) t)).alloc (.cells (litQ y a' c') t)).heap.size ((w.alloc (.cells (litQ x a c) t)).alloc (.cells (litQ y a' c') t)) w1) :
    (w1.cell? ⟨w.heap.size, 3, none⟩ = some (.bool x.l.1) ∧ w1.cell? ⟨w.heap.size, 4, none⟩ = some (.string x.l.2) ∧ w1.cell? ⟨w.heap.size, 5, none⟩ = some (.bool x.r.1) ∧ w1.cell? ⟨w.heap.size, 6, none⟩ = some (.string x.r.2)) ∧ (w1.cell? ⟨w.heap.size + 1, 3, none⟩ = some (.bool y.l.1) ∧ w1.cell? ⟨w.heap.size + 1, 4, none⟩ = some (.string y.l.2) ∧ w1.cell? ⟨w.heap.size + 1, 5, none⟩ = some (.bool y.r.1) ∧ w1.cell? ⟨w.heap.size + 1, 6, none⟩ = some (.string y.r.2)) := by
  obtain ⟨_, h1, h2⟩ := k_two hb
  exact ⟨⟨by simp [World.cell?, h1], by simp [World.cell?, h1], by simp [World.cell?, h1], by simp [World.cell?, h1]⟩, by simp [World.cell?, h2], by simp [World.cell?, h2], by simp [World.cell?, h2], by simp [World.cell?, h2]⟩
noncomputable instance : DecidableEq Lit := fun _ _ => Classical.propDecidable _
noncomputable instance : DecidableEq Rul := fun _ _ => Classical.propDecidable _
theorem bool_ne {a b : Bool} (h : ¬ a = b) : (a == b) = false := by cases a <;> cases b <;> simp at h ⊢
set_option maxHeartbeats 4000000 in
set_option maxRecDepth 100000 in
theorem sr_atom (p p' : ByteArray) (a a' : Option Addr) (l l' : List (Bool × ByteArray)) (cap cap' : Nat) (w : World) (h1 : Terms w a l) (h2 : Terms w a' l') :
    Calls Tryd.prog 49 #[.agg #[.string p, .slice a l.length cap], .agg #[.string p', .slice a' l'.length cap']] w fun e w' => e = .returned (.bool (decide (p = p' ∧ l = l'))) ∧ Below w.heap.size w w' := by
  have hs := fun w h1 h2 => sr_terms a a' l l' cap cap' w h1 h2
  by_cases hp : p = p'
  · subst hp
    by_cases hl : l = l'
    · subst hl
      rw [decide_eq_true rfl] at hs
      rw [decide_eq_true ⟨rfl, rfl⟩]
      go_enter Tryd.func49, Tryd.ntmps49
      go_wp2_with (go_at_call 68; refine (hs _ ((h1.new _).new _) ((h2.new _).new _)).mono ?_; rintro e w1 ⟨rfl, hb1⟩; replace hb1 := Lib.hid hb1)
      go_ret
      exact ⟨rfl, k_cells hb1.out⟩
    · rw [decide_eq_false hl] at hs
      rw [decide_eq_false (fun h => hl h.2)]
      clear hl
      go_enter Tryd.func49, Tryd.ntmps49
      go_wp2_with (go_at_call 68; refine (hs _ ((h1.new _).new _) ((h2.new _).new _)).mono ?_; rintro e w1 ⟨rfl, hb1⟩; replace hb1 := Lib.hid hb1)
      go_ret
      exact ⟨rfl, k_cells hb1.out⟩
  · have hn := neq_texts hp
    rw [decide_eq_false (fun h => hp h.1)]
    clear hp hs
    go_enter Tryd.func49, Tryd.ntmps49
    go_wp2_with fail
    go_ret
    exact ⟨rfl, k_cells (Below.refl _ _)⟩
theorem plit_ne {x y : Lit} (h : x ≠ y) : x.k ≠ y.k ∨ (x.k = y.k ∧ ¬ (x.p = y.p ∧ x.a = y.a)) ∨ (x.k = y.k ∧ x.p = y.p ∧ x.a = y.a ∧ x.l ≠ y.l) ∨ (x.k = y.k ∧ x.p = y.p ∧ x.a = y.a ∧ x.l = y.l ∧ x.r ≠ y.r) := by
  by_cases h1 : x.k = y.k
  · by_cases h2 : x.p = y.p ∧ x.a = y.a
    · by_cases h3 : x.l = y.l
      · refine .inr (.inr (.inr ⟨h1, h2.1, h2.2, h3, fun h4 => h ?_⟩))
        cases x; cases y; simp at h1 h2 h3 h4; simp [h1, h2, h3, h4]
      · exact .inr (.inr (.inl ⟨h1, h2.1, h2.2, h3⟩))
    · exact .inr (.inl ⟨h1, h2⟩)
  · exact .inl h1
set_option maxHeartbeats 4000000 in
set_option maxRecDepth 100000 in
theorem sr_lit1 (x y : Lit) (a a' : Option Addr) (cap cap' : Nat) (w : World) (h1 : Terms w a x.a) (h2 : Terms w a' y.a) (hne : x.k ≠ y.k) :
    Calls Tryd.prog 69 #[.agg (litQ x a cap), .agg (litQ y a' cap')] w fun e w' => e = .returned (.bool false) ∧ Below w.heap.size w w' := by
  have hs := fun w h1 h2 => sr_atom x.p y.p a a' x.a y.a cap cap' w h1 h2
  have hcc := fun (w1 : World) => @k_fourteen w w1 x y a a' cap cap' 44
  obtain ⟨k, p, l, ⟨lv, lt⟩, ⟨rv, rt⟩⟩ := x
  obtain ⟨k', p', l', ⟨lv', lt'⟩, ⟨rv', rt'⟩⟩ := y
  unfold litQ at hcc ⊢
  dsimp only at h1 h2 hs hcc hne ⊢
  replace hcc := Lib.hid hcc
  have hk : (k == k') = false := by simpa using hne
  clear hne hs hcc
  go_enter Tryd.func69, Tryd.ntmps69
  go_wp2_with fail
  go_ret
  exact ⟨rfl, k_cells (Below.refl _ _)⟩
set_option maxHeartbeats 4000000 in
set_option maxRecDepth 100000 in
theorem sr_lit2 (x y : Lit) (a a' : Option Addr) (cap cap' : Nat) (w : World) (h1 : Terms w a x.a) (h2 : Terms w a' y.a) (hne : x.k = y.k ∧ ¬ (x.p = y.p ∧ x.a = y.a)) :
    Calls Tryd.prog 69 #[.agg (litQ x a cap), .agg (litQ y a' cap')] w fun e w' => e = .returned (.bool false) ∧ Below w.heap.size w w' := by
  have hs := fun w h1 h2 => sr_atom x.p y.p a a' x.a y.a cap cap' w h1 h2
  have hcc := fun (w1 : World) => @k_fourteen w w1 x y a a' cap cap' 44
  obtain ⟨k, p, l, ⟨lv, lt⟩, ⟨rv, rt⟩⟩ := x
  obtain ⟨k', p', l', ⟨lv', lt'⟩, ⟨rv', rt'⟩⟩ := y
  unfold litQ at hcc ⊢
  dsimp only at h1 h2 hs hcc hne ⊢
  obtain ⟨rfl, hq⟩ := hne
  rw [decide_eq_false hq] at hs
  clear hq
  replace hcc := Lib.hid hcc
  go_enter Tryd.func69, Tryd.ntmps69
  go_wp2_with (go_at_call 49; refine (hs _ ((h1.new _).new _) ((h2.new _).new _)).mono ?_; rintro e w1 ⟨rfl, hb1⟩; obtain ⟨⟨c1, c2, c3, c4⟩, d1, d2, d3, d4⟩ := hcc.out w1 hb1; replace hb1 := Lib.hid hb1)
  go_ret
  exact ⟨rfl, k_cells hb1.out⟩
set_option maxHeartbeats 4000000 in
set_option maxRecDepth 100000 in
theorem sr_lit3a (x y : Lit) (a a' : Option Addr) (cap cap' : Nat) (w : World) (h1 : Terms w a x.a) (h2 : Terms w a' y.a) (hne : x.k = y.k ∧ x.p = y.p ∧ x.a = y.a ∧ x.l.1 ≠ y.l.1) :
    Calls Tryd.prog 69 #[.agg (litQ x a cap), .agg (litQ y a' cap')] w fun e w' => e = .returned (.bool false) ∧ Below w.heap.size w w' := by
  have hs := fun w h1 h2 => sr_atom x.p y.p a a' x.a y.a cap cap' w h1 h2
  have hcc := fun (w1 : World) => @k_fourteen w w1 x y a a' cap cap' 44
  obtain ⟨k, p, l, ⟨lv, lt⟩, ⟨rv, rt⟩⟩ := x
  obtain ⟨k', p', l', ⟨lv', lt'⟩, ⟨rv', rt'⟩⟩ := y
  unfold litQ at hcc ⊢
  dsimp only at h1 h2 hs hcc hne ⊢
  obtain ⟨rfl, rfl, rfl, hq⟩ := hne
  rw [decide_eq_true ⟨rfl, rfl⟩] at hs
  have hq2 := bool_ne hq
  clear hq
  replace hcc := Lib.hid hcc
  go_enter Tryd.func69, Tryd.ntmps69
  go_wp2_with (go_at_call 49; refine (hs _ ((h1.new _).new _) ((h2.new _).new _)).mono ?_; rintro e w1 ⟨rfl, hb1⟩; obtain ⟨⟨c1, c2, c3, c4⟩, d1, d2, d3, d4⟩ := hcc.out w1 hb1; replace hb1 := Lib.hid hb1)
  go_ret
  exact ⟨rfl, k_cells hb1.out⟩
set_option maxHeartbeats 4000000 in
set_option maxRecDepth 100000 in
theorem sr_lit3b (x y : Lit) (a a' : Option Addr) (cap cap' : Nat) (w : World) (h1 : Terms w a x.a) (h2 : Terms w a' y.a) (hne : x.k = y.k ∧ x.p = y.p ∧ x.a = y.a ∧ x.l.1 = y.l.1 ∧ x.l.2 ≠ y.l.2) :
    Calls Tryd.prog 69 #[.agg (litQ x a cap), .agg (litQ y a' cap')] w fun e w' => e = .returned (.bool false) ∧ Below w.heap.size w w' := by
  have hs := fun w h1 h2 => sr_atom x.p y.p a a' x.a y.a cap cap' w h1 h2
  have hcc := fun (w1 : World) => @k_fourteen w w1 x y a a' cap cap' 44
  obtain ⟨k, p, l, ⟨lv, lt⟩, ⟨rv, rt⟩⟩ := x
  obtain ⟨k', p', l', ⟨lv', lt'⟩, ⟨rv', rt'⟩⟩ := y
  unfold litQ at hcc ⊢
  dsimp only at h1 h2 hs hcc hne ⊢
  obtain ⟨rfl, rfl, rfl, rfl, hq⟩ := hne
  rw [decide_eq_true ⟨rfl, rfl⟩] at hs
  have hq2 := neq_texts hq
  clear hq
  replace hcc := Lib.hid hcc
  go_enter Tryd.func69, Tryd.ntmps69
  go_wp2_with (go_at_call 49; refine (hs _ ((h1.new _).new _) ((h2.new _).new _)).mono ?_; rintro e w1 ⟨rfl, hb1⟩; obtain ⟨⟨c1, c2, c3, c4⟩, d1, d2, d3, d4⟩ := hcc.out w1 hb1; replace hb1 := Lib.hid hb1)
  go_ret
  exact ⟨rfl, k_cells hb1.out⟩
set_option maxHeartbeats 4000000 in
set_option maxRecDepth 100000 in
theorem sr_lit4a (x y : Lit) (a a' : Option Addr) (cap cap' : Nat) (w : World) (h1 : Terms w a x.a) (h2 : Terms w a' y.a) (hne : x.k = y.k ∧ x.p = y.p ∧ x.a = y.a ∧ x.l = y.l ∧ x.r.1 ≠ y.r.1) :
    Calls Tryd.prog 69 #[.agg (litQ x a cap), .agg (litQ y a' cap')] w fun e w' => e = .returned (.bool false) ∧ Below w.heap.size w w' := by
  have hs := fun w h1 h2 => sr_atom x.p y.p a a' x.a y.a cap cap' w h1 h2
  have hcc := fun (w1 : World) => @k_fourteen w w1 x y a a' cap cap' 44
  obtain ⟨k, p, l, ⟨lv, lt⟩, ⟨rv, rt⟩⟩ := x
  obtain ⟨k', p', l', ⟨lv', lt'⟩, ⟨rv', rt'⟩⟩ := y
  unfold litQ at hcc ⊢
  dsimp only at h1 h2 hs hcc hne ⊢
  obtain ⟨rfl, rfl, rfl, hl, hq⟩ := hne
  injection hl with hl1 hl2
  subst hl1 hl2
  rw [decide_eq_true ⟨rfl, rfl⟩] at hs
  have hq2 := bool_ne hq
  clear hq
  replace hcc := Lib.hid hcc
  go_enter Tryd.func69, Tryd.ntmps69
  go_wp2_with (go_at_call 49; refine (hs _ ((h1.new _).new _) ((h2.new _).new _)).mono ?_; rintro e w1 ⟨rfl, hb1⟩; obtain ⟨⟨c1, c2, c3, c4⟩, d1, d2, d3, d4⟩ := hcc.out w1 hb1; replace hb1 := Lib.hid hb1)
  go_ret
  exact ⟨rfl, k_cells hb1.out⟩
set_option maxHeartbeats 4000000 in
set_option maxRecDepth 100000 in
theorem sr_lit4b (x y : Lit) (a a' : Option Addr) (cap cap' : Nat) (w : World) (h1 : Terms w a x.a) (h2 : Terms w a' y.a) (hne : x.k = y.k ∧ x.p = y.p ∧ x.a = y.a ∧ x.l = y.l ∧ x.r.1 = y.r.1 ∧ x.r.2 ≠ y.r.2) :
    Calls Tryd.prog 69 #[.agg (litQ x a cap), .agg (litQ y a' cap')] w fun e w' => e = .returned (.bool false) ∧ Below w.heap.size w w' := by
  have hs := fun w h1 h2 => sr_atom x.p y.p a a' x.a y.a cap cap' w h1 h2
  have hcc := fun (w1 : World) => @k_fourteen w w1 x y a a' cap cap' 44
  obtain ⟨k, p, l, ⟨lv, lt⟩, ⟨rv, rt⟩⟩ := x
  obtain ⟨k', p', l', ⟨lv', lt'⟩, ⟨rv', rt'⟩⟩ := y
  unfold litQ at hcc ⊢
  dsimp only at h1 h2 hs hcc hne ⊢
  obtain ⟨rfl, rfl, rfl, hl, rfl, hq⟩ := hne
  injection hl with hl1 hl2
  subst hl1 hl2
  rw [decide_eq_true ⟨rfl, rfl⟩] at hs
  have hq2 := neq_texts hq
  clear hq
  replace hcc := Lib.hid hcc
  go_enter Tryd.func69, Tryd.ntmps69
  go_wp2_with (go_at_call 49; refine (hs _ ((h1.new _).new _) ((h2.new _).new _)).mono ?_; rintro e w1 ⟨rfl, hb1⟩; obtain ⟨⟨c1, c2, c3, c4⟩, d1, d2, d3, d4⟩ := hcc.out w1 hb1; replace hb1 := Lib.hid hb1)
  go_ret
  exact ⟨rfl, k_cells hb1.out⟩
set_option maxHeartbeats 4000000 in
set_option maxRecDepth 100000 in
theorem sr_lit5 (x y : Lit) (a a' : Option Addr) (cap cap' : Nat) (w : World) (h1 : Terms w a x.a) (h2 : Terms w a' y.a) (hne : x = y) :
    Calls Tryd.prog 69 #[.agg (litQ x a cap), .agg (litQ y a' cap')] w fun e w' => e = .returned (.bool true) ∧ Below w.heap.size w w' := by
  have hs := fun w h1 h2 => sr_atom x.p y.p a a' x.a y.a cap cap' w h1 h2
  have hcc := fun (w1 : World) => @k_fourteen w w1 x y a a' cap cap' 44
  obtain ⟨k, p, l, ⟨lv, lt⟩, ⟨rv, rt⟩⟩ := x
  obtain ⟨k', p', l', ⟨lv', lt'⟩, ⟨rv', rt'⟩⟩ := y
  unfold litQ at hcc ⊢
  dsimp only at h1 h2 hs hcc hne ⊢
  injection hne with e1 e2 e3 e4 e5
  injection e4 with e6 e7
  injection e5 with e8 e9
  subst e1 e2 e3 e6 e7 e8 e9
  rw [decide_eq_true ⟨rfl, rfl⟩] at hs
  replace hcc := Lib.hid hcc
  go_enter Tryd.func69, Tryd.ntmps69
  go_wp2_with (go_at_call 49; refine (hs _ ((h1.new _).new _) ((h2.new _).new _)).mono ?_; rintro e w1 ⟨rfl, hb1⟩; obtain ⟨⟨c1, c2, c3, c4⟩, d1, d2, d3, d4⟩ := hcc.out w1 hb1; replace hb1 := Lib.hid hb1)
  go_ret
  exact ⟨rfl, k_cells hb1.out⟩
theorem sr_lit (x y : Lit) (a a' : Option Addr) (cap cap' : Nat) (w : World) (h1 : Terms w a x.a) (h2 : Terms w a' y.a) :
    Calls Tryd.prog 69 #[.agg (litQ x a cap), .agg (litQ y a' cap')] w fun e w' => e = .returned (.bool (decide (x = y))) ∧ Below w.heap.size w w' := by
  by_cases h : x = y
  · rw [decide_eq_true h]; exact sr_lit5 x y a a' cap cap' w h1 h2 h
  · rw [decide_eq_false h]
    have pair : ∀ {u v : Bool × ByteArray}, u ≠ v → u.1 ≠ v.1 ∨ (u.1 = v.1 ∧ u.2 ≠ v.2) := fun {u v} h => by
      obtain ⟨u1, u2⟩ := u; obtain ⟨v1, v2⟩ := v
      by_cases e : u1 = v1
      · exact .inr ⟨e, fun e2 => h (by dsimp only at e2; rw [e, e2])⟩
      · exact .inl e
    rcases plit_ne h with q | q | ⟨q1, q2, q3, q⟩ | ⟨q1, q2, q3, q4, q⟩
    · exact sr_lit1 x y a a' cap cap' w h1 h2 q
    · exact sr_lit2 x y a a' cap cap' w h1 h2 q
    · rcases pair q with q | q
      · exact sr_lit3a x y a a' cap cap' w h1 h2 ⟨q1, q2, q3, q⟩
      · exact sr_lit3b x y a a' cap cap' w h1 h2 ⟨q1, q2, q3, q⟩
    · rcases pair q with q | q
      · exact sr_lit4a x y a a' cap cap' w h1 h2 ⟨q1, q2, q3, q4, q⟩
      · exact sr_lit4b x y a a' cap cap' w h1 h2 ⟨q1, q2, q3, q4, q⟩
set_option maxHeartbeats 4000000 in
set_option maxRecDepth 100000 in
theorem sr_body (a a' : Option Addr) (l l' : List Lit) (cap cap' : Nat) (w : World) (h1 : Lits w a l) (h2 : Lits w a' l') :
    Calls Tryd.prog 50 #[.slice a l.length cap, .slice a' l'.length cap'] w fun e w' => e = .returned (.bool (decide (l = l'))) ∧ Below w.heap.size w w' := by
  have hlen := h1.len
  have hlen2 := h2.len
  obtain ⟨R, hR⟩ : ∃ R, decide (l = l') = R := ⟨_, rfl⟩
  rw [hR]
  by_cases hne : l.length = l'.length
  · obtain ⟨N, hN⟩ : ∃ N, l.length = N := ⟨_, rfl⟩
    have hN2 : l'.length = N := by omega
    rw [hN] at hlen ⊢
    rw [hN2] at hlen2 ⊢
    clear hne
    replace hR := Lib.hid hR
    have hNN := Lib.hid (And.intro hN hN2)
    clear hN2 hN
    go_enter Tryd.func50, Tryd.ntmps50
    go_wp2_with fail
    go_loopw [5, 6] (fun i _ wr => ∃ (k : Nat), k ≤ N ∧ i = .int .i64 k ∧ Hid (Below w.heap.size w wr) ∧ Hid (∀ j, j < k → l[j]? = l'[j]?)) (fun i _ _ => N - (intOf i).toNat)
    case atStart => exact ⟨0, Nat.zero_le _, rfl, Lib.hid (Below.refl _ _), Lib.hid (fun j hj => absurd hj (Nat.not_lt_zero _))⟩
    case round =>
      obtain ⟨k, hk, rfl, hbw, hsame⟩ := hrel
      by_cases hlt : k < N
      · obtain ⟨x, e1⟩ : ∃ x, l[k]? = some x := ⟨_, List.getElem?_eq_getElem (by rw [hNN.out.1]; exact hlt)⟩
        obtain ⟨y, e2⟩ : ∃ y, l'[k]? = some y := ⟨_, List.getElem?_eq_getElem (by rw [hNN.out.2]; exact hlt)⟩
        obtain ⟨q, ad, adc, rfl, hd1, hd2, hd3, hd4, hd5, hd6, hd7, hat⟩ := h1.cells k _ e1
        obtain ⟨q2, ad2, ad2c, rfl, he1, he2, he3, he4, he5, he6, he7, hat2⟩ := h2.cells k _ e2
        have hsl := sr_lit x y ad ad2 adc ad2c
        obtain ⟨xk, xp, xa, ⟨xlv, xlt⟩, ⟨xrv, xrt⟩⟩ := x
        obtain ⟨yk, yp, ya, ⟨ylv, ylt⟩, ⟨yrv, yrt⟩⟩ := y
        unfold litQ at hsl
        dsimp only at hd1 hd2 hd3 hd4 hd5 hd6 hd7 hat he1 he2 he3 he4 he5 he6 he7 hat2 hsl
        have hkeep : ∀ w', Below w.heap.size w w' → w'.cell? (q.add (k * 7)) = some (.int .i64 xk) ∧ w'.cell? ⟨(q.add (k * 7)).block, (q.add (k * 7)).off + 1, none⟩ = some (.string xp) ∧ w'.cell? ⟨(q.add (k * 7)).block, (q.add (k * 7)).off + 2, none⟩ = some (.slice ad xa.length adc) ∧ w'.cell? ⟨(q.add (k * 7)).block, (q.add (k * 7)).off + 3, none⟩ = some (.bool xlv) ∧ w'.cell? ⟨(q.add (k * 7)).block, (q.add (k * 7)).off + 4, none⟩ = some (.string xlt) ∧ w'.cell? ⟨(q.add (k * 7)).block, (q.add (k * 7)).off + 5, none⟩ = some (.bool xrv) ∧ w'.cell? ⟨(q.add (k * 7)).block, (q.add (k * 7)).off + 6, none⟩ = some (.string xrt) ∧ w'.cell? (q2.add (k * 7)) = some (.int .i64 yk) ∧ w'.cell? ⟨(q2.add (k * 7)).block, (q2.add (k * 7)).off + 1, none⟩ = some (.string yp) ∧ w'.cell? ⟨(q2.add (k * 7)).block, (q2.add (k * 7)).off + 2, none⟩ = some (.slice ad2 ya.length ad2c) ∧ w'.cell? ⟨(q2.add (k * 7)).block, (q2.add (k * 7)).off + 3, none⟩ = some (.bool ylv) ∧ w'.cell? ⟨(q2.add (k * 7)).block, (q2.add (k * 7)).off + 4, none⟩ = some (.string ylt) ∧ w'.cell? ⟨(q2.add (k * 7)).block, (q2.add (k * 7)).off + 5, none⟩ = some (.bool yrv) ∧ w'.cell? ⟨(q2.add (k * 7)).block, (q2.add (k * 7)).off + 6, none⟩ = some (.string yrt) := fun w' hb =>
          ⟨cell_below hb rfl hd1, cell_below hb rfl hd2, cell_below hb rfl hd3, cell_below hb rfl hd4, cell_below hb rfl hd5, cell_below hb rfl hd6, cell_below hb rfl hd7, cell_below hb rfl he1, cell_below hb rfl he2, cell_below hb rfl he3, cell_below hb rfl he4, cell_below hb rfl he5, cell_below hb rfl he6, cell_below hb rfl he7⟩
        have hk14 := hkeep wr hbw.out
        replace hkeep := Lib.hid hkeep
        clear hd1 hd2 hd3 hd4 hd5 hd6 hd7 he1 he2 he3 he4 he5 he6 he7
        obtain ⟨c1, c2, c3, c4, c5, c6, c7, c8, c9, c10, c11, c12, c13, c14⟩ := hk14
        replace hat := Lib.hid hat
        replace hat2 := Lib.hid hat2
        replace e1 := Lib.hid e1
        replace e2 := Lib.hid e2
        have hq0 : (0 : Int) ≤ (k : Int) := Int.natCast_nonneg _
        have hq1 : (k : Int) < (N : Int) := by omega
        by_cases hxy : (⟨xk, xp, xa, (xlv, xlt), (xrv, xrt)⟩ : Lit) = ⟨yk, yp, ya, (ylv, ylt), (yrv, yrt)⟩
        · rw [decide_eq_true hxy] at hsl
          rw [← hxy] at e2
          clear hxy
          go_wp2_with fail
          go_region_held3 (fun w' => w'.cell? (q.add (k * 7)) = some (.int .i64 xk) ∧ w'.cell? ⟨(q.add (k * 7)).block, (q.add (k * 7)).off + 1, none⟩ = some (.string xp) ∧ w'.cell? ⟨(q.add (k * 7)).block, (q.add (k * 7)).off + 2, none⟩ = some (.slice ad xa.length adc) ∧ w'.cell? ⟨(q.add (k * 7)).block, (q.add (k * 7)).off + 3, none⟩ = some (.bool xlv) ∧ w'.cell? ⟨(q.add (k * 7)).block, (q.add (k * 7)).off + 4, none⟩ = some (.string xlt) ∧ w'.cell? ⟨(q.add (k * 7)).block, (q.add (k * 7)).off + 5, none⟩ = some (.bool xrv) ∧ w'.cell? ⟨(q.add (k * 7)).block, (q.add (k * 7)).off + 6, none⟩ = some (.string xrt) ∧ w'.cell? (q2.add (k * 7)) = some (.int .i64 yk) ∧ w'.cell? ⟨(q2.add (k * 7)).block, (q2.add (k * 7)).off + 1, none⟩ = some (.string yp) ∧ w'.cell? ⟨(q2.add (k * 7)).block, (q2.add (k * 7)).off + 2, none⟩ = some (.slice ad2 ya.length ad2c) ∧ w'.cell? ⟨(q2.add (k * 7)).block, (q2.add (k * 7)).off + 3, none⟩ = some (.bool ylv) ∧ w'.cell? ⟨(q2.add (k * 7)).block, (q2.add (k * 7)).off + 4, none⟩ = some (.string ylt) ∧ w'.cell? ⟨(q2.add (k * 7)).block, (q2.add (k * 7)).off + 5, none⟩ = some (.bool yrv) ∧ w'.cell? ⟨(q2.add (k * 7)).block, (q2.add (k * 7)).off + 6, none⟩ = some (.string yrt))
            (first
              | exact hkeep.out _ hbw.out.drew
              | exact hkeep.out _ hb2.out)
            (first
              | (go_at_call 69; refine (hsl _ (hat.out.below hbw.out.drew) (hat2.out.below hbw.out.drew)).mono ?_; rintro e w2 ⟨rfl, hb20⟩
                 have hb2 := Lib.hid (hbw.out.drew.trans (hb20.mono (Below.size hbw.out.drew)))
                 clear hb20))
          go_wp2_with fail
          go_roundw
          case rel => exact ⟨k + 1, by omega, by go_num, hb2, Lib.hid (same_step hsame.out e1.out e2.out)⟩
          case measure => simp [intOf]; omega
        · rw [decide_eq_false hxy] at hsl
          have hF : Hid (false = R) := Lib.hid (by rw [← hR.out]; exact (decide_eq_false (ne_at e1.out e2.out hxy)).symm)
          clear hxy
          go_wp2_with fail
          go_region_held3 (fun w' => w'.cell? (q.add (k * 7)) = some (.int .i64 xk) ∧ w'.cell? ⟨(q.add (k * 7)).block, (q.add (k * 7)).off + 1, none⟩ = some (.string xp) ∧ w'.cell? ⟨(q.add (k * 7)).block, (q.add (k * 7)).off + 2, none⟩ = some (.slice ad xa.length adc) ∧ w'.cell? ⟨(q.add (k * 7)).block, (q.add (k * 7)).off + 3, none⟩ = some (.bool xlv) ∧ w'.cell? ⟨(q.add (k * 7)).block, (q.add (k * 7)).off + 4, none⟩ = some (.string xlt) ∧ w'.cell? ⟨(q.add (k * 7)).block, (q.add (k * 7)).off + 5, none⟩ = some (.bool xrv) ∧ w'.cell? ⟨(q.add (k * 7)).block, (q.add (k * 7)).off + 6, none⟩ = some (.string xrt) ∧ w'.cell? (q2.add (k * 7)) = some (.int .i64 yk) ∧ w'.cell? ⟨(q2.add (k * 7)).block, (q2.add (k * 7)).off + 1, none⟩ = some (.string yp) ∧ w'.cell? ⟨(q2.add (k * 7)).block, (q2.add (k * 7)).off + 2, none⟩ = some (.slice ad2 ya.length ad2c) ∧ w'.cell? ⟨(q2.add (k * 7)).block, (q2.add (k * 7)).off + 3, none⟩ = some (.bool ylv) ∧ w'.cell? ⟨(q2.add (k * 7)).block, (q2.add (k * 7)).off + 4, none⟩ = some (.string ylt) ∧ w'.cell? ⟨(q2.add (k * 7)).block, (q2.add (k * 7)).off + 5, none⟩ = some (.bool yrv) ∧ w'.cell? ⟨(q2.add (k * 7)).block, (q2.add (k * 7)).off + 6, none⟩ = some (.string yrt))
            (first
              | exact hkeep.out _ hbw.out.drew
              | exact hkeep.out _ hb2.out)
            (first
              | (go_at_call 69; refine (hsl _ (hat.out.below hbw.out.drew) (hat2.out.below hbw.out.drew)).mono ?_; rintro e w2 ⟨rfl, hb20⟩
                 have hb2 := Lib.hid (hbw.out.drew.trans (hb20.mono (Below.size hbw.out.drew)))
                 clear hb20))
          go_wp2_with fail
          go_ret
          exact ⟨by rw [← hF.out]; rfl, hb2.out⟩
      · have hke : k = N := by omega
        have hT : Hid (true = R) := Lib.hid (by rw [← hR.out]; exact (decide_eq_true (eq_lists hNN.out.1 hNN.out.2 hke hsame.out)).symm)
        subst hke
        go_wp2_with fail
        go_ret
        exact ⟨by rw [← hT.out]; rfl, hbw.out⟩
  · have hF : Hid (false = R) := Lib.hid (by rw [← hR]; exact (decide_eq_false (fun e => hne (by rw [e]))).symm)
    have hn2 : ((l.length : Int) != (l'.length : Int)) = true := by simp; omega
    go_enter Tryd.func50, Tryd.ntmps50
    go_wp2_with fail
    go_ret
    exact ⟨by rw [← hF.out]; rfl, Below.refl _ _⟩
theorem k_rows {w w1 : World} {a b c x y z : Value} {t u : TypeId} (hb : Below ((w.alloc (.cells #[a, b, c] t)).alloc (.cells #[x, y, z] u)).heap.size ((w.alloc (.cells #[a, b, c] t)).alloc (.cells #[x, y, z] u)) w1) :
    (w1.cell? ⟨w.heap.size, 0, none⟩ = some a ∧ w1.cell? ⟨w.heap.size, 1, none⟩ = some b ∧ w1.cell? ⟨w.heap.size, 2, none⟩ = some c) ∧ w1.cell? ⟨w.heap.size + 1, 0, none⟩ = some x ∧ w1.cell? ⟨w.heap.size + 1, 1, none⟩ = some y ∧ w1.cell? ⟨w.heap.size + 1, 2, none⟩ = some z := by
  obtain ⟨_, h1, h2⟩ := k_two hb
  exact ⟨⟨by simp [World.cell?, h1], by simp [World.cell?, h1], by simp [World.cell?, h1]⟩, by simp [World.cell?, h2], by simp [World.cell?, h2], by simp [World.cell?, h2]⟩
set_option maxHeartbeats 4000000 in
set_option maxRecDepth 100000 in
theorem sr_rule (x y : Rul) (a a' ba ba' : Option Addr) (cap cap' bc bc2 : Nat) (w : World) (h1 : Terms w a x.a) (h2 : Terms w a' y.a) (h3 : Lits w ba x.b) (h4 : Lits w ba' y.b) :
    Calls Tryd.prog 20 #[.agg #[.string x.h, .slice a x.a.length cap, .slice ba x.b.length bc], .agg #[.string y.h, .slice a' y.a.length cap', .slice ba' y.b.length bc2]] w fun e w' => e = .returned (.bool (decide (x = y))) ∧ Below w.heap.size w w' := by
  have hs := fun w h1 h2 => sr_atom x.h y.h a a' x.a y.a cap cap' w h1 h2
  have ht := fun w h1 h2 => sr_body ba ba' x.b y.b bc bc2 w h1 h2
  obtain ⟨p, l, b⟩ := x
  obtain ⟨p', l', b'⟩ := y
  dsimp only at h1 h2 h3 h4 hs ht ⊢
  by_cases hA : p = p' ∧ l = l'
  · rw [decide_eq_true hA] at hs
    by_cases hb : b = b'
    · rw [decide_eq_true hb] at ht
      rw [decide_eq_true (show (⟨p, l, b⟩ : Rul) = ⟨p', l', b'⟩ by rw [hA.1, hA.2, hb])]
      clear hA hb
      go_enter Tryd.func20, Tryd.ntmps20
      go_wp2_with (first | (go_at_call 50; refine (ht _ (h3.below hB.out) (h4.below hB.out)).mono ?_; rintro e w2 ⟨rfl, hb2⟩; have hB2 := Lib.hid (hB.out.trans (hb2.mono hB.out.size)); clear hb2) | (go_at_call 49; refine (hs _ ((h1.new _).new _) ((h2.new _).new _)).mono ?_; rintro e w1 ⟨rfl, hb1⟩; obtain ⟨⟨z0, z1, z2⟩, y0, y1, y2⟩ := k_rows hb1; have hB := Lib.hid (k_cells hb1); clear hb1))
      go_ret
      exact ⟨rfl, hB2.out⟩
    · rw [decide_eq_false hb] at ht
      rw [decide_eq_false (show ¬ (⟨p, l, b⟩ : Rul) = ⟨p', l', b'⟩ from fun e => hb (by injection e))]
      clear hA hb
      go_enter Tryd.func20, Tryd.ntmps20
      go_wp2_with (first | (go_at_call 50; refine (ht _ (h3.below hB.out) (h4.below hB.out)).mono ?_; rintro e w2 ⟨rfl, hb2⟩; have hB2 := Lib.hid (hB.out.trans (hb2.mono hB.out.size)); clear hb2) | (go_at_call 49; refine (hs _ ((h1.new _).new _) ((h2.new _).new _)).mono ?_; rintro e w1 ⟨rfl, hb1⟩; obtain ⟨⟨z0, z1, z2⟩, y0, y1, y2⟩ := k_rows hb1; have hB := Lib.hid (k_cells hb1); clear hb1))
      go_ret
      exact ⟨rfl, hB2.out⟩
  · rw [decide_eq_false hA] at hs
    rw [decide_eq_false (show ¬ (⟨p, l, b⟩ : Rul) = ⟨p', l', b'⟩ from fun e => hA (by injection e with e1 e2 e3; exact ⟨e1, e2⟩))]
    clear hA ht
    go_enter Tryd.func20, Tryd.ntmps20
    go_wp2_with ((go_at_call 49; refine (hs _ ((h1.new _).new _) ((h2.new _).new _)).mono ?_; rintro e w1 ⟨rfl, hb1⟩; obtain ⟨⟨z0, z1, z2⟩, y0, y1, y2⟩ := k_rows hb1; have hB := Lib.hid (k_cells hb1); clear hb1))
    go_ret
    exact ⟨rfl, hB.out⟩
end Go.Proofs.YtoklbofobcloaaaDoor
