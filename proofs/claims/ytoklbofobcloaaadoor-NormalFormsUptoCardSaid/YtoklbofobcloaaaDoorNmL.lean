/- Normal: put walked. -/
import Derived.Test.YtoklbofobcloaaaDoorNmK
import Derived.Test.YtoklbofobcloaaaDoorRegT
import Derived.Deep.Cut
import Derived.Deep.CutRange
import Derived.Deep.DrawnRows
namespace Go.Proofs.YtoklbofobcloaaaDoor
open Go.RowKit Go.Sort
theorem three_new {w w1 : World} {o1 o2 o3 : Obj} (hb : Below (((w.alloc o1).alloc o2).alloc o3).heap.size (((w.alloc o1).alloc o2).alloc o3) w1) : w1.heap[w.heap.size]? = some o1 ∧ w1.heap[w.heap.size + 1]? = some o2 ∧ w1.heap[w.heap.size + 2]? = some o3 ∧ Below w.heap.size w w1 ∧ w.heap.size + 3 ≤ w1.heap.size := by
  have hs : (((w.alloc o1).alloc o2).alloc o3).heap.size = w.heap.size + 3 := by rw [World.size_alloc, World.size_alloc, World.size_alloc]
  have h1 : w.heap.size < (w.alloc o1).heap.size := by rw [World.size_alloc]; omega
  have h2 : w.heap.size < ((w.alloc o1).alloc o2).heap.size := by rw [World.size_alloc]; omega
  have h3 : w.heap.size + 1 < ((w.alloc o1).alloc o2).heap.size := by rw [World.size_alloc, World.size_alloc]; omega
  refine ⟨(hb.block _ (by omega)).trans ?_, (hb.block _ (by omega)).trans ?_, (hb.block _ (by omega)).trans ?_, ((((Below.refl _ _).al _).al _).al _).trans (hb.mono (by omega)), by have := hb.size; omega⟩
  · rw [heap_alloc_old _ _ h2, heap_alloc_old _ _ h1]; exact heap_alloc_new _ _
  · rw [heap_alloc_old _ _ h3]; exact heap_second _ _ _
  · have := heap_alloc_new ((w.alloc o1).alloc o2) o3
    rwa [World.size_alloc, World.size_alloc] at this
attribute [local go_sem ↓] Go.wp_at_zero Go.wp_at_succ
theorem PutS.start {w0 w : World} {G : Nat} {h : ByteArray} {va : Value} {a : List Tm} (hG : w.heap[G]? = some (.cells #[.string h, va, .slice none 0 0] 27)) (ht : TRow w w0.heap.size va a) (hge : w0.heap.size ≤ G) (hb : Below w0.heap.size w0 w) : PutS w0 G h va a w (.slice none 0 0) [] :=
  ⟨hG, ht, LRow.nil _ _, hge, (Array.getElem?_eq_some_iff.1 hG).1, hb⟩
set_option maxHeartbeats 8000000 in
set_option maxRecDepth 100000 in
theorem nm_put {g : Nat} {cb : Array Value} {F : Tm → Tm} (eg : Enters Tryd.prog g) (r : Rul) (a b : Option Addr) (c d : Nat) (w : World) (ha : Terms w a r.a) (hb : Lits w b r.b) (hF : TurnsT g cb F (everyR r) w) (hz : ∀ x ∈ everyR r, (F x).2.size ≤ 1048576) :
    Calls Tryd.prog 39 #[.agg #[.string r.h, .slice a r.a.length c, .slice b r.b.length d], .func (.func g) #[] cb] w fun e w' => ∃ va vb, e = .returned (.agg #[.string r.h, va, vb]) ∧ RRow w' w.heap.size va vb (mapR F r) ∧ Below w.heap.size w w' := by
  obtain ⟨h, al, bl⟩ := r
  dsimp only at ha hb ⊢
  obtain ⟨ib, hib, hz0, hz1, hz2⟩ := info_parts pr_infoLit
  have hlen := hb.len
  have hargs := fun (a : Option Addr) (l : List Tm) (c : Nat) (w' : World) (ht : Terms w' a l) (hw : Below w.heap.size w w') (hl : ∀ x ∈ l, x ∈ everyR ⟨h, al, bl⟩) (bf : Nat) (hbf : w'.cell? ⟨bf, 0, none⟩ = some (.func (.func g) #[] cb)) =>
    nm_args eg bf a l c w' ht ((hF.below hw).sub hl) (fun x hx => hz x (hl x hx)) hbf
  obtain ⟨W0, hW0⟩ : ∃ W0, W0 = ((w.alloc (.cells #[.string h, .slice a al.length c, .slice b bl.length d] 27)).alloc (.cells #[.func (.func g) #[] cb] 65)).alloc (.cells #[.string ⟨#[]⟩, .slice none 0 0, .slice none 0 0] 27) := ⟨_, rfl⟩
  have hkp : Hid (∀ w', Below W0.heap.size W0 w' → (w'.cell? ⟨w.heap.size, 0, none⟩ = some (.string h) ∧ w'.cell? ⟨w.heap.size, 1, none⟩ = some (.slice a al.length c) ∧ w'.cell? ⟨w.heap.size, 2, none⟩ = some (.slice b bl.length d) ∧ w'.cell? ⟨w.heap.size + 1, 0, none⟩ = some (.func (.func g) #[] cb)) ∧ w'.heap[w.heap.size + 2]? = some (.cells #[.string ⟨#[]⟩, .slice none 0 0, .slice none 0 0] 27) ∧ Below w.heap.size w w' ∧ w.heap.size + 3 ≤ w'.heap.size) := Lib.hid (by
    subst hW0; intro w' hb; obtain ⟨h1, h2, h3, h4, h5⟩ := three_new hb; exact ⟨⟨by simp [World.cell?, h1], by simp [World.cell?, h1], by simp [World.cell?, h1], by simp [World.cell?, h2]⟩, h3, h4, h5⟩)
  have hkf : Hid (∀ w', Below W0.heap.size W0 w' → w'.heap[w.heap.size + 1]? = some (.cells #[.func (.func g) #[] cb] 65)) := Lib.hid (by subst hW0; intro w' hb; exact (three_new hb).2.1)
  obtain ⟨⟨q0, q1, q2, q3⟩, -⟩ := hkp.out W0 (Below.refl _ _)
  have haW : Hid (Terms W0 a al) := Lib.hid (ha.below (hkp.out W0 (Below.refl _ _)).2.2.1)
  have hbW : Hid (Lits W0 b bl) := Lib.hid (hb.below (hkp.out W0 (Below.refl _ _)).2.2.1)
  have hin : Hid (∀ x ∈ al, x ∈ everyR ⟨h, al, bl⟩) := Lib.hid fun x hx => List.mem_append_left _ hx
  have hlit : Hid (∀ x ∈ bl, ∀ y ∈ everyL x, y ∈ everyR ⟨h, al, bl⟩) := Lib.hid fun x hx y hy => everyL_mem (r := ⟨h, al, bl⟩) hx hy
  replace hargs := Lib.hid hargs
  replace hF := Lib.hid hF
  replace hz := Lib.hid hz
  clear ha hb
  replace eg : ∀ args w, (callFunc g args).run Tryd.prog w = .ok (.enter g args) w := eg
  go_enter Tryd.func39, Tryd.ntmps39
  go_upto_region 2 with fail
  rw [← hW0]
  clear hW0
  go_cut [6] from 10 to 19 (fun v6 wx => ∃ G ra rc, v6 = .pointer (some ⟨G, 0, none⟩) ∧ Hid (PutS W0 G h (.slice ra al.length rc) (al.map F) wx (.slice none 0 0) []))
  case first =>
    go_wp2_with fail
    go_region_held3 (fun w' => w'.cell? ⟨w.heap.size, 0, none⟩ = some (.string h) ∧ w'.cell? ⟨w.heap.size, 1, none⟩ = some (.slice a al.length c) ∧ w'.cell? ⟨w.heap.size, 2, none⟩ = some (.slice b bl.length d) ∧ w'.cell? ⟨w.heap.size + 1, 0, none⟩ = some (.func (.func g) #[] cb))
      (first
        | exact (hkp.out _ (Below.refl _ _).drew).1
        | exact (hkp.out _ ((Below.refl _ _).al _).drew).1
        | exact (hkp.out _ hb2.out).1
        | exact (hkp.out _ (hb2.out.al _)).1
        | exact (hkp.out _ (((hb2.out.setCell (p := ⟨W0.heap.size, 0, none⟩) (Nat.le_refl _) _).setCell (p := ⟨W0.heap.size, 1, none⟩) (Nat.le_refl _) _).setCell (p := ⟨W0.heap.size, 2, none⟩) (Nat.le_refl _) _)).1
        | exact (hkp.out _ ((((hb2.out.al _).setCell (p := ⟨w2.heap.size, 0, none⟩) hb2.out.size _).setCell (p := ⟨w2.heap.size, 1, none⟩) hb2.out.size _).setCell (p := ⟨w2.heap.size, 2, none⟩) hb2.out.size _)).1)
      (first
        | (go_at_call 63
           have hal := hkp.out _ ((Below.refl W0.heap.size W0).al (.cells #[.string ⟨#[]⟩, .slice none 0 0, .slice none 0 0] 27)).drew
           refine (hargs.out a al c _ (haW.out.below ((Below.refl W0.heap.size W0).al _).drew) hal.2.2.1 hin.out (w.heap.size + 1) hal.1.2.2.2).mono ?_
           rintro e w2 ⟨va, rfl, hr0, hbb⟩
           obtain ⟨ra, rc, rfl, -⟩ := own_slice hr0.own
           rw [List.length_map] at hr0 ⊢
           have hb2 := Lib.hid (((Below.refl W0.heap.size W0).al (.cells #[.string ⟨#[]⟩, .slice none 0 0, .slice none 0 0] 27)).drew.trans (hbb.mono (((Below.refl W0.heap.size W0).al _).drew).size))
           have hr := Lib.hid (hr0.mono (base' := W0.heap.size) ((Below.refl W0.heap.size W0).al _).size)
           have hbox := Lib.hid ((hbb.block W0.heap.size (by show _ < (W0.alloc _).heap.size; rw [World.size_alloc]; omega)).trans (heap_alloc_new W0 _))
           have g0 : w2.cell? ⟨W0.heap.size, 0, none⟩ = some (.string ⟨#[]⟩) := by simp [World.cell?, hbox.out]
           have g1 : w2.cell? ⟨W0.heap.size, 1, none⟩ = some (.slice none 0 0) := by simp [World.cell?, hbox.out]
           have g2 : w2.cell? ⟨W0.heap.size, 2, none⟩ = some (.slice none 0 0) := by simp [World.cell?, hbox.out]
           have f0 : w2.frozen? ⟨W0.heap.size, 0, none⟩ = false := by simp [World.frozen?, hbox.out]
           have f1 : w2.frozen? ⟨W0.heap.size, 1, none⟩ = false := by simp [World.frozen?, hbox.out]
           have f2 : w2.frozen? ⟨W0.heap.size, 2, none⟩ = false := by simp [World.frozen?, hbox.out]
           clear hr0 hbb hal)
        | (go_at_call 63
           have hal := hkp.out _ (Below.refl W0.heap.size W0).drew
           refine (hargs.out a al c _ (haW.out.below (Below.refl W0.heap.size W0).drew) hal.2.2.1 hin.out (w.heap.size + 1) hal.1.2.2.2).mono ?_
           rintro e w2 ⟨va, rfl, hr0, hbb⟩
           obtain ⟨ra, rc, rfl, -⟩ := own_slice hr0.own
           rw [List.length_map] at hr0 ⊢
           have hb2 := Lib.hid ((Below.refl W0.heap.size W0).drew.trans (hbb.mono ((Below.refl W0.heap.size W0).drew).size))
           have hr := Lib.hid (hr0.mono (base' := W0.heap.size) (Nat.le_refl _))
           clear hr0 hbb hal))
    all_goals (go_wp2_with fail; go_meet)
    · refine ⟨_, _, _, rfl, Lib.hid (PutS.start (heap_alloc_new _ _) (hr.out.below ((Below.refl _ _).al _)) hb2.out.size (hb2.out.al _))⟩
    · have hs0 := grown_set w2 W0.heap.size 0 (.string h)
      have hs1 := grown_set (w2.setCell ⟨W0.heap.size, 0, none⟩ (.string h)) W0.heap.size 1 (.slice ra al.length rc)
      have hs2 := grown_set ((w2.setCell ⟨W0.heap.size, 0, none⟩ (.string h)).setCell ⟨W0.heap.size, 1, none⟩ (.slice ra al.length rc)) W0.heap.size 2 (.slice none 0 0)
      have hbx := Go.heap_setCell_same _ _ 2 _ _ (.slice none 0 0) (Go.heap_setCell_same _ _ 1 _ _ (.slice ra al.length rc) (Go.heap_setCell_same _ _ 0 _ _ (.string h) hbox.out))
      refine ⟨_, _, _, rfl, Lib.hid (PutS.start hbx (hr.out.keep hbox.out (fun cs fz e => by injection e with _ e; exact absurd e (by decide)) ((hs0.trans hs1).trans hs2)) (Nat.le_refl _) (((hb2.out.setCell (p := ⟨W0.heap.size, 0, none⟩) (Nat.le_refl _) _).setCell (p := ⟨W0.heap.size, 1, none⟩) (Nat.le_refl _) _).setCell (p := ⟨W0.heap.size, 2, none⟩) (Nat.le_refl _) _))⟩
  case rest =>
  obtain ⟨G, ra, rc, rfl, hS⟩ := hcut
  clear q0 q1 q2 q3
  have hcl := Lib.hid hS.out.box
  obtain ⟨⟨q0, q1, q2, q3⟩, -⟩ := hkp.out wc hS.out.bel
  go_wp2_with fail
  go_loopw [23, 8] (fun i _ wr => ∃ (k : Nat) (L : List LV) (v : Value), k ≤ bl.length ∧ i = .int .i64 k ∧ Hid (L.map (·.1) = (bl.map (mapL F)).take k) ∧ Hid (PutS W0 G h (.slice ra al.length rc) (al.map F) wr v L)) (fun i _ _ => bl.length - (intOf i).toNat)
  case atStart => exact ⟨0, [], _, Nat.zero_le _, rfl, Lib.hid rfl, hS⟩
  case round =>
    clear hS hcl q0 q1 q2 q3
    obtain ⟨k, L, v, hk, rfl, hLk, hSr⟩ := hrel
    have hbr := Lib.hid hSr.out.bel
    by_cases hlt : k < bl.length
    · obtain ⟨x, e1⟩ : ∃ x, bl[k]? = some x := ⟨_, List.getElem?_eq_getElem hlt⟩
      obtain ⟨q, ad, adc, rfl, hd1, hd2, hd3, hd4, hd5, hd6, hd7, hat⟩ := (hbW.out.below hbr.out).cells k _ e1
      have hmx := List.mem_of_getElem? e1
      have hLk2 : Hid ((L ++ [(mapL F x, Value.slice none 0 0)]).map (·.1) = (bl.map (mapL F)).take (k + 1)) := Lib.hid (by rw [map_take_snoc e1, List.map_append, hLk.out]; rfl)
      have hLlen : L.length = k := by
        have := congrArg List.length hLk.out
        rw [List.length_map, List.length_take, List.length_map] at this
        omega
      have hxs := hlit.out x hmx
      have hlsz := (hbW.out.size x hmx)
      obtain ⟨xk, xp, xa, ⟨xlv, xlt⟩, ⟨xrv, xrt⟩⟩ := x
      dsimp only at hd1 hd2 hd3 hd4 hd5 hd6 hd7 hat hxs hlsz
      have hxl : (xlv, xlt) ∈ everyR ⟨h, al, bl⟩ := hxs _ (by simp [everyL])
      have hxr : (xrv, xrt) ∈ everyR ⟨h, al, bl⟩ := hxs _ (by simp [everyL])
      have hxa := Lib.hid fun y (hy : y ∈ xa) => hxs y (by simp [everyL, hy])
      have hFl := fun W hW => hF.out W (xlv, xlt) hxl hW
      have hFr := fun W hW => hF.out W (xrv, xrt) hxr hW
      have hzl := hz.out _ hxl
      have hzr := hz.out _ hxr
      rw [show mapL F ⟨xk, xp, xa, (xlv, xlt), (xrv, xrt)⟩ = ⟨xk, xp, xa.map F, F (xlv, xlt), F (xrv, xrt)⟩ from rfl] at hLk2
      dsimp only at hFl hFr
      obtain ⟨⟨ylv, ylt⟩, hyl⟩ : ∃ y, F (xlv, xlt) = y := ⟨_, rfl⟩
      obtain ⟨⟨yrv, yrt⟩, hyr⟩ : ∃ y, F (xrv, xrt) = y := ⟨_, rfl⟩
      rw [hyl] at hFl hzl hLk2
      rw [hyr] at hFr hzr hLk2
      dsimp only at hFl hFr hzl hzr
      clear hyl hyr hxl hxr hxs e1 hmx
      replace hFl := Lib.hid hFl
      replace hFr := Lib.hid hFr
      replace hat := Lib.hid hat
      have hszs : Hid (xp.size ≤ 1048576 ∧ ylt.size ≤ 1048576 ∧ yrt.size ≤ 1048576) := Lib.hid ⟨hlsz.1, hzl, hzr⟩
      clear hlsz hzl hzr
      obtain ⟨va, vc, rfl, -⟩ := own_slice hSr.out.row.own
      have hq0 : (0 : Int) ≤ (k : Int) := Int.natCast_nonneg _
      have hq1 : (k : Int) < (bl.length : Int) := by omega
      have hlL : Hid (L.length + 1 ≤ 1048576) := Lib.hid (by omega)
      have h63 : Hid (L.length + 1 ≤ maxLen) := Lib.hid (by unfold maxLen; omega)
      have h64 : Hid ((L.length + 1) * 96 ≤ 140737488355328) := Lib.hid (by omega)
      replace hLlen := Lib.hid hLlen
      have hbr0 := (hkp.out wr hbr.out).2.2.1
      have hG1 := hSr.out.lt
      have hG0 := hSr.out.box
      have q3 := (hkp.out wr hbr.out).1.2.2.2
      have hq3lt : w.heap.size + 1 < wr.heap.size := by have := (hkp.out wr hbr.out).2.2.2; omega
      have hvlt : Hid (∀ kk, (Value.slice va L.length vc).ownBlock = some kk → kk < wr.heap.size) := Lib.hid fun kk hk => (hSr.out.row.own.lt kk hk).2
      have hvG : Hid ((Value.slice va L.length vc).ownBlock ≠ some (w.heap.size + 1)) := Lib.hid fun e => by
        rcases hSr.out.row.own.2 with ⟨e2, _⟩ | ⟨g2, cap, cur, e2, _, hg, _⟩
        · rw [e2] at e; cases e
        · rw [e2] at e
          simp only [Value.ownBlock, Option.some.injEq] at e
          subst e
          have hb0 := q3
          simp only [World.cell?, hg] at hb0
          have hfu : wr.heap[w.heap.size + 1]? = some (.cells #[.func (.func g) #[] cb] 65) := hkf.out wr hbr.out
          rw [hg] at hfu
          injection hfu with hfu
          injection hfu with _ hfu
          exact absurd hfu (by decide)
      have hkS : Hid (∀ w', Below (wr.alloc (.cells #[.int .i64 xk, .string xp, .slice ad xa.length adc, .bool xlv, .string xlt, .bool xrv, .string xrt] 44)).heap.size (wr.alloc (.cells #[.int .i64 xk, .string xp, .slice ad xa.length adc, .bool xlv, .string xlt, .bool xrv, .string xrt] 44)) w' → w'.cell? ⟨G, 2, none⟩ = some (.slice va L.length vc) ∧ w'.cell? ⟨wr.heap.size, 0, none⟩ = some (.int .i64 xk) ∧ w'.cell? ⟨wr.heap.size, 1, none⟩ = some (.string xp) ∧ w'.cell? ⟨wr.heap.size, 2, none⟩ = some (.slice ad xa.length adc) ∧ w'.cell? ⟨wr.heap.size, 3, none⟩ = some (.bool xlv) ∧ w'.cell? ⟨wr.heap.size, 4, none⟩ = some (.string xlt) ∧ w'.cell? ⟨wr.heap.size, 5, none⟩ = some (.bool xrv) ∧ w'.cell? ⟨wr.heap.size, 6, none⟩ = some (.string xrt) ∧ w'.cell? ⟨w.heap.size + 1, 0, none⟩ = some (.func (.func g) #[] cb)) := Lib.hid fun w' hb => by
        have h1 : w'.heap[wr.heap.size]? = some (.cells #[.int .i64 xk, .string xp, .slice ad xa.length adc, .bool xlv, .string xlt, .bool xrv, .string xrt] 44) := (hb.block _ (by rw [World.size_alloc]; omega)).trans (heap_alloc_new _ _)
        have h2 : Below wr.heap.size wr w' := ((Below.refl _ _).al _).trans (hb.mono (by rw [World.size_alloc]; omega))
        refine ⟨(World.cell?_of_block (h2.block G hG1)).trans (box_cells hG0).2.2, by simp [World.cell?, h1], by simp [World.cell?, h1], by simp [World.cell?, h1], by simp [World.cell?, h1], by simp [World.cell?, h1], by simp [World.cell?, h1], by simp [World.cell?, h1], (World.cell?_of_block (h2.block _ hq3lt)).trans q3⟩
      have hkS2 : Hid (∀ (wC wD : World) (ob : Obj), (wC.alloc ob).grownBy wD (Value.slice va L.length vc).ownBlock → Below (wr.alloc (.cells #[.int .i64 xk, .string xp, .slice ad xa.length adc, .bool xlv, .string xlt, .bool xrv, .string xrt] 44)).heap.size (wr.alloc (.cells #[.int .i64 xk, .string xp, .slice ad xa.length adc, .bool xlv, .string xlt, .bool xrv, .string xrt] 44)) wC → wD.cell? ⟨wr.heap.size, 0, none⟩ = some (.int .i64 xk) ∧ wD.cell? ⟨wr.heap.size, 1, none⟩ = some (.string xp) ∧ wD.cell? ⟨wr.heap.size, 2, none⟩ = some (.slice ad xa.length adc) ∧ wD.cell? ⟨wr.heap.size, 3, none⟩ = some (.bool xlv) ∧ wD.cell? ⟨wr.heap.size, 4, none⟩ = some (.string xlt) ∧ wD.cell? ⟨wr.heap.size, 5, none⟩ = some (.bool xrv) ∧ wD.cell? ⟨wr.heap.size, 6, none⟩ = some (.string xrt) ∧ wD.cell? ⟨w.heap.size + 1, 0, none⟩ = some (.func (.func g) #[] cb)) := Lib.hid fun wC wD ob hg hb => by
        have hs := hkS.out _ hb
        have hsz := hb.size
        rw [World.size_alloc] at hsz
        have hold : ∀ j, j < wC.heap.size → (Value.slice va L.length vc).ownBlock ≠ some j → wD.heap[j]? = wC.heap[j]? := fun j hj hne => (hg.block j (by rw [World.size_alloc]; omega) (fun e => hne e.symm)).trans (heap_alloc_old _ _ hj)
        have h8 := hold wr.heap.size (by omega) (fun e => by have := hvlt.out _ e; omega)
        have h3 := hold (w.heap.size + 1) (by omega) hvG.out
        obtain ⟨-, s1, s2, s3, s4, s5, s6, s7, s8⟩ := hs
        exact ⟨(World.cell?_of_block h8).trans s1, (World.cell?_of_block h8).trans s2, (World.cell?_of_block h8).trans s3, (World.cell?_of_block h8).trans s4, (World.cell?_of_block h8).trans s5, (World.cell?_of_block h8).trans s6, (World.cell?_of_block h8).trans s7, (World.cell?_of_block h3).trans s8⟩
      have hbx3 := Lib.hid ((Below.refl wr.heap.size wr).al (.cells #[.int .i64 xk, .string xp, .slice ad xa.length adc, .bool xlv, .string xlt, .bool xrv, .string xrt] 44))
      have hbx := Lib.hid (hbx3.out)
      have hbl := Lib.hid ((Below.refl (wr.alloc (.cells #[.int .i64 xk, .string xp, .slice ad xa.length adc, .bool xlv, .string xlt, .bool xrv, .string xrt] 44)).heap.size (wr.alloc (.cells #[.int .i64 xk, .string xp, .slice ad xa.length adc, .bool xlv, .string xlt, .bool xrv, .string xrt] 44))).drew)
      have hbx2 := Lib.hid (hbr0.trans (hbx3.out.mono hbr0.size))
      have hS11 := hkS.out _ hbl.out
      replace hG0 := Lib.hid hG0
      replace hbr0 := Lib.hid hbr0
      clear q3
      go_wp2_with fail
      refine wp_region_T (fun w' => w'.cell? ⟨G, 2, none⟩ = some (.slice va L.length vc) ∧ w'.cell? ⟨wr.heap.size, 0, none⟩ = some (.int .i64 xk) ∧ w'.cell? ⟨wr.heap.size, 1, none⟩ = some (.string xp) ∧ w'.cell? ⟨wr.heap.size, 2, none⟩ = some (.slice ad xa.length adc) ∧ w'.cell? ⟨wr.heap.size, 3, none⟩ = some (.bool xlv) ∧ w'.cell? ⟨wr.heap.size, 4, none⟩ = some (.string xlt) ∧ w'.cell? ⟨wr.heap.size, 5, none⟩ = some (.bool xrv) ∧ w'.cell? ⟨wr.heap.size, 6, none⟩ = some (.string xrt) ∧ w'.cell? ⟨w.heap.size + 1, 0, none⟩ = some (.func (.func g) #[] cb)) [0, 1, 2, 3, 4, 5, 6, 7, 8, 9, 10, 12, 13, 14, 15, 17, 18, 19] (by kernel_rfl) hS11 (fun hHeld => ?_)
      refine wpAnyT_take (i := 0) (oi := _) (v := ?_) rfl rfl (by kernel_rfl) (by kernel_rfl) (by kernel_rfl) (fun _ _ _ h => h) (Or.inl ⟨by rfl, ?_⟩) (by assumption) ?_
      rotate_left
      · intro w hSw
        try dsimp only at hSw
        go_simp
        try with_reducible rfl
      refine wpAnyT_take (i := 1) (oi := _) (v := ?_) rfl rfl (by kernel_rfl) (by kernel_rfl) (by kernel_rfl) (fun _ _ _ h => h) (Or.inl ⟨by rfl, ?_⟩) (by assumption) ?_
      rotate_left
      · intro w hSw
        try dsimp only at hSw
        go_simp
        try with_reducible rfl
      refine wpAnyT_take (i := 2) (oi := _) (v := ?_) rfl rfl (by kernel_rfl) (by kernel_rfl) (by kernel_rfl) (fun _ _ _ h => h) (Or.inl ⟨by rfl, ?_⟩) (by assumption) ?_
      rotate_left
      · intro w hSw
        try dsimp only at hSw
        go_simp
        try with_reducible rfl
      refine wpAnyT_take (i := 3) (oi := _) (v := ?_) rfl rfl (by kernel_rfl) (by kernel_rfl) (by kernel_rfl) (fun _ _ _ h => h) (Or.inl ⟨by rfl, ?_⟩) (by assumption) ?_
      rotate_left
      · intro w hSw
        try dsimp only at hSw
        go_simp
        try with_reducible rfl
      refine wpAnyT_take (i := 4) (oi := _) (v := ?_) rfl rfl (by kernel_rfl) (by kernel_rfl) (by kernel_rfl) (fun _ _ _ h => h) (Or.inl ⟨by rfl, ?_⟩) (by assumption) ?_
      rotate_left
      · intro w hSw
        try dsimp only at hSw
        go_simp
        try with_reducible rfl
      refine wpAnyT_take (i := 5) (oi := _) (v := ?_) rfl rfl (by kernel_rfl) (by kernel_rfl) (by kernel_rfl) (fun _ _ _ h => h) (Or.inl ⟨by rfl, ?_⟩) (by assumption) ?_
      rotate_left
      · intro w hSw
        try dsimp only at hSw
        go_simp
        try with_reducible rfl
      refine wpAnyT_take (i := 6) (oi := _) (v := ?_) rfl rfl (by kernel_rfl) (by kernel_rfl) (by kernel_rfl) (fun _ _ _ h => h) (Or.inl ⟨by rfl, ?_⟩) (by assumption) ?_
      rotate_left
      · intro w hSw
        try dsimp only at hSw
        go_simp
        try with_reducible rfl
      refine wpAnyT_take (i := 7) (oi := _) (v := ?_) rfl rfl (by kernel_rfl) (by kernel_rfl) (by kernel_rfl) (fun _ _ _ h => h) (Or.inl ⟨by rfl, ?_⟩) (by assumption) ?_
      rotate_left
      · intro w hSw
        try dsimp only at hSw
        go_simp
        try with_reducible rfl
      refine wpAnyT_take (i := 8) (oi := _) (v := ?_) rfl rfl (by kernel_rfl) (by kernel_rfl) (by kernel_rfl) (fun _ _ _ h => h) (Or.inl ⟨by rfl, ?_⟩) (by assumption) ?_
      rotate_left
      · intro w hSw
        try dsimp only at hSw
        go_simp
        try with_reducible rfl
      refine wpAnyT_take (i := 9) (oi := _) (v := ?_) rfl rfl (by kernel_rfl) (by kernel_rfl) (by kernel_rfl) (fun _ _ _ h => h) (Or.inl ⟨by rfl, ?_⟩) (by assumption) ?_
      rotate_left
      · intro w hSw
        try dsimp only at hSw
        go_simp
        try with_reducible rfl
      refine wpAnyT_take (i := 10) (oi := _) (v := ?_) rfl rfl (by kernel_rfl) (by kernel_rfl) (by kernel_rfl) (fun _ _ _ h => h) (Or.inl ⟨by rfl, ?_⟩) (by assumption) ?_
      rotate_left
      · intro w hSw
        try dsimp only at hSw
        go_simp
        try with_reducible rfl
      refine wpAnyT_take (i := 13) (oi := _) (v := ?_) rfl rfl (by kernel_rfl) (by kernel_rfl) (by kernel_rfl) (fun _ _ _ h => h) (Or.inl ⟨by rfl, ?_⟩) (by assumption) ?_
      rotate_left
      · intro w hSw
        try dsimp only at hSw
        go_simp
        try with_reducible rfl
      refine wpAnyT_take (i := 14) (oi := _) (v := ?_) rfl rfl (by kernel_rfl) (by kernel_rfl) (by kernel_rfl) (fun _ _ _ h => h) (Or.inl ⟨by rfl, ?_⟩) (by assumption) ?_
      rotate_left
      · intro w hSw
        try dsimp only at hSw
        go_simp
        try with_reducible rfl
      refine wpAnyT_take (i := 15) (oi := _) (v := ?_) rfl rfl (by kernel_rfl) (by kernel_rfl) (by kernel_rfl) (fun _ _ _ h => h) (Or.inl ⟨by rfl, ?_⟩) (by assumption) ?_
      rotate_left
      · intro w hSw
        try dsimp only at hSw
        go_simp
        try with_reducible rfl
      refine wpAnyT_take (i := 17) (oi := _) (v := ?_) rfl rfl (by kernel_rfl) (by kernel_rfl) (by kernel_rfl) (fun _ _ _ h => h) (Or.inl ⟨by rfl, ?_⟩) (by assumption) ?_
      rotate_left
      · intro w hSw
        try dsimp only at hSw
        go_simp
        try with_reducible rfl
      refine wpAnyT_take (i := 18) (oi := _) (v := ?_) rfl rfl (by kernel_rfl) (by kernel_rfl) (by kernel_rfl) (fun _ _ _ h => h) (Or.inl ⟨by rfl, ?_⟩) (by assumption) ?_
      rotate_left
      · intro w hSw
        try dsimp only at hSw
        go_simp
        try with_reducible rfl
      refine wpAnyT_take (i := 19) (oi := _) (v := ?_) rfl rfl (by kernel_rfl) (by kernel_rfl) (by kernel_rfl) (fun _ _ _ h => h) (Or.inl ⟨by rfl, ?_⟩) (by assumption) ?_
      rotate_left
      · intro w hSw
        try dsimp only at hSw
        go_simp
        try with_reducible rfl
      refine wpAnyT_one (i := 11) (o := _) (by kernel_rfl) rfl (fun K hK => ?_)
      go_simp
      go_wp2_with (go_at_call 63
                   go_loud (refine (hargs.out ad xa adc _ (hat.out.below hbx.out.drew) hbx2.out.drew hxa.out (w.heap.size + 1) hS11.2.2.2.2.2.2.2.2).mono ?_)
                   rintro e wA ⟨vn, rfl, hr0, hbb⟩
                   obtain ⟨na, nc, rfl, -⟩ := own_slice hr0.own
                   rw [List.length_map] at hr0 ⊢
                   have hA := Lib.hid (hbl.out.trans (hbb.mono hbl.out.size))
                   have hrA := Lib.hid (hr0.mono (base' := W0.heap.size) (Nat.le_trans hbr.out.size hbx.out.drew.size))
                   have hSA := hkS.out _ hA.out
                   clear hr0 hbb)
      refine hK.out _ _ hSA ?_
      clear hK K
      refine wpAnyT_take (i := 12) (oi := _) (v := ?_) rfl rfl (by kernel_rfl) (by kernel_rfl) (by kernel_rfl) (fun _ _ _ h => h) (Or.inl ⟨by rfl, ?_⟩) (by assumption) ?_
      rotate_left
      · intro w hSw
        try dsimp only at hSw
        go_simp
        try with_reducible rfl
      refine wpAnyT_one (i := 16) (o := _) (by kernel_rfl) rfl (fun K hK => ?_)
      go_simp
      go_wp2_with (go_at_fn g
                   go_loud (refine (hFl.out wA (hbx2.out.trans (hA.out.mono (by rw [World.size_alloc]; have := hbr.out.size; omega)))).mono ?_)
                   rintro e wB ⟨rfl, hbb⟩
                   have hAB := Lib.hid hbb
                   have hB := Lib.hid (hA.out.trans (hbb.mono hA.out.size))
                   have hSB := hkS.out _ hB.out
                   clear hbb)
      refine hK.out _ _ hSB ?_
      clear hK K
      refine wpAnyT_one (i := 20) (o := _) (by kernel_rfl) rfl (fun K hK => ?_)
      go_simp
      go_wp2_with (go_at_fn g
                   go_loud (refine (hFr.out wB (hbx2.out.trans (hB.out.mono (by rw [World.size_alloc]; have := hbr.out.size; omega)))).mono ?_)
                   rintro e wC ⟨rfl, hbb⟩
                   have hC := Lib.hid (hB.out.trans (hbb.mono hB.out.size))
                   have hSC := hkS.out _ hC.out
                   have hrC := Lib.hid ((hrA.out.below hAB.out).below hbb)
                   have hrow := Lib.hid (own_below hSr.out.row.own (hbx3.out.trans (hC.out.mono hbx3.out.size)))
                   clear hbb)
      refine hK.out _ _ hSC ?_
      clear hK K
      refine wpAnyT_one (i := 21) (o := _) (by kernel_rfl) rfl (fun K hK => ?_)
      go_simp
      refine hK.out _ _ hSC ?_
      clear hK K
      refine wpAnyT_one (i := 22) (o := _) (by kernel_rfl) rfl (fun K hK => ?_)
      go_simp
      refine hK.out _ _ (hkS.out _ (hC.out.al _)) ?_
      clear hK K
      refine wpAnyT_one (i := 23) (o := _) (by kernel_rfl) rfl (fun K hK => ?_)
      refine step_append_lies (wC.alloc (.cells #[.int .i64 xk, .string xp, .slice na xa.length nc, .bool ylv, .string ylt, .bool yrv, .string yrt] 44)) ?guardI (.tmp 28) (.tmp 49) 25 ?opI W0.heap.size 44 ib (.agg #[.int .i64 0, .string ⟨#[]⟩, .slice none 0 0, .bool false, .string ⟨#[]⟩, .bool false, .string ⟨#[]⟩]) 7 96 Tryd.underlying25 hib hz0 hz1 hz2 (by rfl) (by omega) (.slice va L.length vc) L.length (flatV L) ?evI1 (hrow.out.alloc _) ⟨wC.heap.size, 0, none⟩ 1 1 (cellV (⟨xk, xp, xa.map F, (ylv, ylt), (yrv, yrt)⟩, .slice na xa.length nc)) ?evI2 (by rfl) (own_cells_row rfl rfl) (cellV_one _ rfl) (by omega) h63.out h64.out (by have := hC.out.size; have := hbr.out.size; rw [World.size_alloc] at *; omega) (wC.heap.size + 1) (by rw [World.size_alloc]) ?_
      case guardI => rfl
      case opI => rfl
      case evI1 => rfl
      case evI2 => rfl
      intro gi ci wD hownD hgrowD hatD hltD
      have hst := hSr.out.step (y := (⟨xk, xp, xa.map F, (ylv, ylt), (yrv, yrt)⟩, .slice na xa.length nc)) (hbx3.out.trans (hC.out.mono hbx3.out.size)) hrC.out hszs.out hlL.out hgrowD hownD
      have hD0 : wD.cell? ⟨G, 2, none⟩ = some (.slice va L.length vc) := (box_cells hst.1).2.2
      have hD1 : wD.frozen? ⟨G, 2, none⟩ = false := by simp [World.frozen?, hst.1]
      have hSD : (wD.cell? ⟨G, 2, none⟩ = some (.slice va L.length vc) ∧ wD.cell? ⟨wr.heap.size, 0, none⟩ = some (.int .i64 xk) ∧ wD.cell? ⟨wr.heap.size, 1, none⟩ = some (.string xp) ∧ wD.cell? ⟨wr.heap.size, 2, none⟩ = some (.slice ad xa.length adc) ∧ wD.cell? ⟨wr.heap.size, 3, none⟩ = some (.bool xlv) ∧ wD.cell? ⟨wr.heap.size, 4, none⟩ = some (.string xlt) ∧ wD.cell? ⟨wr.heap.size, 5, none⟩ = some (.bool xrv) ∧ wD.cell? ⟨wr.heap.size, 6, none⟩ = some (.string xrt) ∧ wD.cell? ⟨w.heap.size + 1, 0, none⟩ = some (.func (.func g) #[] cb)) := by
        have hb := hkS2.out _ _ _ hgrowD hC.out
        exact ⟨hD0, hb⟩
      have hSn := Lib.hid hst.2
      clear hownD hgrowD hatD hltD hst
      refine hK.out _ _ hSD ?_
      clear hK K
      refine wpAnyT_free (i := 24) (o := _) (by kernel_rfl) rfl (by kernel_rfl) (fun K hK => ?_)
      go_simp
      refine hK.out _ _ ?_
      clear hK K
      refine wpAnyT_free (i := 25) (o := _) (by kernel_rfl) rfl (by kernel_rfl) (fun K hK => ?_)
      go_simp
      refine hK.out _ _ ?_
      clear hK K
      refine wpAnyT_done (by kernel_rfl) ?_ _
      go_wp2_with fail
      go_roundw
      case rel => exact ⟨k + 1, L ++ [(⟨xk, xp, xa.map F, (ylv, ylt), (yrv, yrt)⟩, .slice na xa.length nc)], _, by omega, by go_num, Lib.hid (by rw [← hLk2.out, List.map_append, List.map_append]; rfl), hSn⟩
      case measure => simp [intOf]; omega
    · have hke : k = bl.length := by omega
      subst hke
      rw [List.take_of_length_le (by rw [List.length_map]; omega)] at hLk
      obtain ⟨va, vc, rfl, -⟩ := own_slice hSr.out.row.own
      have hq := box_cells hSr.out.box
      obtain ⟨x0, x1, x2⟩ := hq
      have hW := hkp.out wr hbr.out
      have y0 : wr.cell? ⟨w.heap.size + 2, 0, none⟩ = some (.string ⟨#[]⟩) := by simp [World.cell?, hW.2.1]
      have y1 : wr.cell? ⟨w.heap.size + 2, 1, none⟩ = some (.slice none 0 0) := by simp [World.cell?, hW.2.1]
      have y2 : wr.cell? ⟨w.heap.size + 2, 2, none⟩ = some (.slice none 0 0) := by simp [World.cell?, hW.2.1]
      have f0 : wr.frozen? ⟨w.heap.size + 2, 0, none⟩ = false := by simp [World.frozen?, hW.2.1]
      have f1 : wr.frozen? ⟨w.heap.size + 2, 1, none⟩ = false := by simp [World.frozen?, hW.2.1]
      have f2 : wr.frozen? ⟨w.heap.size + 2, 2, none⟩ = false := by simp [World.frozen?, hW.2.1]
      replace hW := Lib.hid hW
      obtain ⟨V, hV⟩ : ∃ V, V = ((wr.setCell ⟨w.heap.size + 1 + 1, 0, none⟩ (.string h)).setCell ⟨w.heap.size + 1 + 1, 1, none⟩ (.slice ra al.length rc)).setCell ⟨w.heap.size + 1 + 1, 2, none⟩ (.slice va L.length vc) := ⟨_, rfl⟩
      have hR : Hid (V.heap[w.heap.size + 1 + 1]? = some (.cells #[.string h, .slice ra al.length rc, .slice va L.length vc] 27)) := Lib.hid (by rw [hV]; exact Go.heap_setCell_same _ _ _ _ _ _ (Go.heap_setCell_same _ _ _ _ _ _ (Go.heap_setCell_same _ _ _ _ _ _ hW.out.2.1)))
      have hgr : wr.grownBy V (some (w.heap.size + 1 + 1)) := by rw [hV]; exact ((grown_set _ _ _ _).trans (grown_set _ _ _ _)).trans (grown_set _ _ _ _)
      have hfin : Hid (RRow V w.heap.size (.slice ra al.length rc) (.slice va L.length vc) (mapR F ⟨h, al, bl⟩) ∧ Below w.heap.size w V) := Lib.hid (by
        have hle : w.heap.size ≤ W0.heap.size := (hkp.out W0 (Below.refl _ _)).2.2.1.size
        refine ⟨⟨(hSr.out.args.keep hW.out.2.1 (fun cs fz e => by injection e with _ e; exact absurd e (by decide)) hgr).mono hle, L, (hSr.out.row.keep hW.out.2.1 (fun cs fz e => by injection e with _ e; exact absurd e (by decide)) (fun cs fz e => by injection e with _ e; exact absurd e (by decide)) hgr).mono hle, hLk.out⟩, ?_⟩
        rw [hV]
        exact ((hW.out.2.2.1.setCell (p := ⟨w.heap.size + 1 + 1, 0, none⟩) (by show w.heap.size ≤ w.heap.size + 1 + 1; omega) _).setCell (p := ⟨w.heap.size + 1 + 1, 1, none⟩) (by show w.heap.size ≤ w.heap.size + 1 + 1; omega) _).setCell (p := ⟨w.heap.size + 1 + 1, 2, none⟩) (by show w.heap.size ≤ w.heap.size + 1 + 1; omega) _)
      clear hgr
      replace hV := Lib.hid hV
      go_wp2_with fail
      rw [← hV.out]
      refine bodyPost_ret (v := .agg #[.string h, .slice ra al.length rc, .slice va L.length vc]) (results_cell_row rfl _ _ (w.heap.size + 1 + 1) 27 _ (0, 0) _ rfl hR.out Tryd.underlying27 rfl pr_sizeRule) rfl ?_
      exact ⟨_, _, rfl, hfin.out.1, hfin.out.2⟩
end Go.Proofs.YtoklbofobcloaaaDoor
