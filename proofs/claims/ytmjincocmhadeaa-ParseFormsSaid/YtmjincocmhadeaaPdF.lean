/- Parse: ParseForms. (gen_pdf.py) -/
import Derived.Test.YtmjincocmhadeaaPdE
import Derived.Deep.RegionHeld3
namespace Go.Proofs.Ytmjincocmhadeaa
open Go.RowKit Lx
set_option maxHeartbeats 2000000 in
set_option maxRecDepth 100000 in
theorem law8_forms_long (s : ByteArray) (w : World) (hl : 20000 < s.size) :
    Calls Try.prog 7 #[.string s] w fun e w' => e = .returned (.bool true) ∧ Below w.heap.size w w' := by
  have hwk := Lib.hid w8_works
  have hlg := fun w => w8_long s w
  rw [show decide ((20000 : Int) < (s.size : Int)) = true from by rw [decide_eq_true_eq]; omega] at hlg
  clear hl
  go_enter Try.func7, Try.ntmps7
  go_wp2_with (first
    | (go_at_call 8
       refine (hlg _).mono ?_
       rintro e wl ⟨rfl, rfl⟩)
    | (go_at_call 9
       refine (hwk.out _).mono ?_
       rintro e w1 ⟨rfl, hb1⟩))
  go_ret
  exact ⟨rfl, hb1⟩
set_option maxHeartbeats 2000000 in
set_option maxRecDepth 100000 in
theorem law8_forms_err (s : ByteArray) (w : World) (hl : s.size ≤ 20000) (x : Int) (hx : psText s = .error x) :
    Calls Try.prog 7 #[.string s] w fun e w' => e = .returned (.bool true) ∧ Below w.heap.size w w' := by
  have hwk := Lib.hid w8_works
  have hnum := Lib.hid w8_num
  have hlg := fun w => w8_long s w
  rw [show decide ((20000 : Int) < (s.size : Int)) = false from by rw [decide_eq_false_iff_not]; omega] at hlg
  have hpr := fun w => pa_Program s w (by omega)
  rw [hx] at hpr
  unfold PgPost at hpr
  dsimp only at hpr
  replace hpr := Lib.hid hpr
  clear hx
  have hN : ∀ w1 : World, ∀ o2, ((w1.alloc (.cells #[.slice none 0 0, .slice none 0 0, .slice none 0 0] 42)).alloc o2).heap[w1.heap.size]? = some (.cells #[.slice none 0 0, .slice none 0 0, .slice none 0 0] 42) := fun w1 o2 => by
    rw [heap_alloc_old _ _ (by rw [World.size_alloc]; omega)]; exact heap_alloc_new _ _
  have k0 : ∀ (w1 : World) o2, ((w1.alloc (.cells #[.slice none 0 0, .slice none 0 0, .slice none 0 0] 42)).alloc o2).cell? ⟨w1.heap.size, 0, none⟩ = some (.slice none 0 0) := fun w1 o2 => (cell_of_row _ _ _ _ _ _ (hN w1 o2)).trans rfl
  have k1 : ∀ (w1 : World) o2, ((w1.alloc (.cells #[.slice none 0 0, .slice none 0 0, .slice none 0 0] 42)).alloc o2).cell? ⟨w1.heap.size, 1, none⟩ = some (.slice none 0 0) := fun w1 o2 => (cell_of_row _ _ _ _ _ _ (hN w1 o2)).trans rfl
  have k2 : ∀ (w1 : World) o2, ((w1.alloc (.cells #[.slice none 0 0, .slice none 0 0, .slice none 0 0] 42)).alloc o2).cell? ⟨w1.heap.size, 2, none⟩ = some (.slice none 0 0) := fun w1 o2 => (cell_of_row _ _ _ _ _ _ (hN w1 o2)).trans rfl
  replace hN := Lib.hid hN
  go_enter Try.func7, Try.ntmps7
  go_wp2_with (first
    | (go_at_call 8
       refine (hlg _).mono ?_
       rintro e wl ⟨rfl, rfl⟩)
    | (go_at_call 15
       refine (hpr.out _).mono ?_
       rintro e w1 ⟨rfl, hbl⟩
       have hb1 := Lib.hid hbl
       clear hbl)
    | (go_at_call 13
       refine (hnum.out _ _).mono ?_
       rintro e wn ⟨rfl, rfl⟩)
    | (go_at_call 9
       refine (hwk.out _).mono ?_
       rintro e w2 ⟨rfl, hbl⟩
       have hb2 := Lib.hid (((hb1.out.al _).al _).trans (hbl.mono ((hb1.out.al _).al _).size))
       clear hbl))
  go_ret
  exact ⟨rfl, hb2.out⟩
set_option maxHeartbeats 2000000 in
set_option maxRecDepth 100000 in
theorem law8_forms_ok (s : ByteArray) (w : World) (hl : s.size ≤ 20000) (l : List Stmt) (hx : psText s = .ok l) :
    Calls Try.prog 7 #[.string s] w fun e w' => e = .returned (.bool true) ∧ Below w.heap.size w w' := by
  have hwk := Lib.hid w8_works
  have hnum := Lib.hid w8_num
  have hlg := fun w => w8_long s w
  rw [show decide ((20000 : Int) < (s.size : Int)) = false from by rw [decide_eq_false_iff_not]; omega] at hlg
  have hform := text_form hx
  obtain ⟨hi1, hi2⟩ := forms_in (bl s) l hform
  obtain ⟨ho1, ho2⟩ := forms_out (bl s) l hform
  obtain ⟨hr1, hr2⟩ := forms_rule (bl s) l hform
  have htl := text_len hx
  have hle := inps_le l
  have hbnd0 : (inpsOf l).length ≤ 4194304 := by omega
  have hbnd1 : (outsOf l).length ≤ 4194304 := by omega
  have hbnd2 : (rulesOf l).length ≤ 4194304 := by omega
  clear htl hle
  replace hi2 := Lib.hid hi2
  replace ho2 := Lib.hid ho2
  replace hr2 := Lib.hid hr2
  replace hi1 := Lib.hid hi1
  replace ho1 := Lib.hid ho1
  replace hr1 := Lib.hid hr1
  clear hform
  have hpr := fun w => pa_Program s w (by omega)
  rw [hx] at hpr
  unfold PgPost at hpr
  dsimp only at hpr
  replace hpr := Lib.hid hpr
  clear hx
  go_enter Try.func7, Try.ntmps7
  go_wp2_with (first
    | (go_at_call 8
       refine (hlg _).mono ?_
       rintro e wl ⟨rfl, rfl⟩)
    | (go_at_call 15
       refine (hpr.out _).mono ?_
       rintro e w1 ⟨R0, R1, R2, R3, R4, R5, rfl, hbl, hpg⟩
       obtain ⟨v0, c0, rfl⟩ := Prg.form0 hpg
       obtain ⟨v1, c1, rfl⟩ := Prg.form1 hpg
       obtain ⟨v2, c2, rfl⟩ := Prg.form2 hpg
       obtain ⟨v3, c3, e3⟩ := Prg.form3 hpg
       obtain ⟨v4, c4, e4⟩ := Prg.form4 hpg
       obtain ⟨v5, c5, e5⟩ := Prg.form5 hpg
       rw [hi1.out] at e3
       rw [ho1.out] at e4
       rw [hr1.out] at e5
       subst e3 e4 e5
       have hb2 : Hid (Below w.heap.size w ((w1.alloc (.cells #[.slice v0 (inpsOf l).length c0, .slice v1 (outsOf l).length c1, .slice v2 (rulesOf l).length c2] 42)).alloc (.cells #[.slice v3 (inpsOf l).length c3, .slice v4 (outsOf l).length c4, .slice v5 (rulesOf l).length c5] 45))) := Lib.hid ((hbl.al _).al _)
       have hpg2 := Lib.hid ((Prg.beneath hpg ((Below.refl w1.heap.size w1).al (.cells #[.slice v0 (inpsOf l).length c0, .slice v1 (outsOf l).length c1, .slice v2 (rulesOf l).length c2] 42))).beneath ((Below.refl _ _).al (.cells #[.slice v3 (inpsOf l).length c3, .slice v4 (outsOf l).length c4, .slice v5 (rulesOf l).length c5] 45)))
       have hn0 : ((w1.alloc (.cells #[.slice v0 (inpsOf l).length c0, .slice v1 (outsOf l).length c1, .slice v2 (rulesOf l).length c2] 42)).alloc (.cells #[.slice v3 (inpsOf l).length c3, .slice v4 (outsOf l).length c4, .slice v5 (rulesOf l).length c5] 45)).heap[w1.heap.size]? = some (.cells #[.slice v0 (inpsOf l).length c0, .slice v1 (outsOf l).length c1, .slice v2 (rulesOf l).length c2] 42) := by
         rw [heap_alloc_old _ _ (by rw [World.size_alloc]; omega)]; exact heap_alloc_new _ _
       have hn1 : ((w1.alloc (.cells #[.slice v0 (inpsOf l).length c0, .slice v1 (outsOf l).length c1, .slice v2 (rulesOf l).length c2] 42)).alloc (.cells #[.slice v3 (inpsOf l).length c3, .slice v4 (outsOf l).length c4, .slice v5 (rulesOf l).length c5] 45)).heap[w1.heap.size + 1]? = some (.cells #[.slice v3 (inpsOf l).length c3, .slice v4 (outsOf l).length c4, .slice v5 (rulesOf l).length c5] 45) := by
         have := heap_alloc_new (w1.alloc (.cells #[.slice v0 (inpsOf l).length c0, .slice v1 (outsOf l).length c1, .slice v2 (rulesOf l).length c2] 42)) (.cells #[.slice v3 (inpsOf l).length c3, .slice v4 (outsOf l).length c4, .slice v5 (rulesOf l).length c5] 45)
         rw [World.size_alloc] at this; exact this
       have hkeep : Hid (∀ w', Below ((w1.alloc (.cells #[.slice v0 (inpsOf l).length c0, .slice v1 (outsOf l).length c1, .slice v2 (rulesOf l).length c2] 42)).alloc (.cells #[.slice v3 (inpsOf l).length c3, .slice v4 (outsOf l).length c4, .slice v5 (rulesOf l).length c5] 45)).heap.size ((w1.alloc (.cells #[.slice v0 (inpsOf l).length c0, .slice v1 (outsOf l).length c1, .slice v2 (rulesOf l).length c2] 42)).alloc (.cells #[.slice v3 (inpsOf l).length c3, .slice v4 (outsOf l).length c4, .slice v5 (rulesOf l).length c5] 45)) w' → w'.cell? ⟨w1.heap.size, 0, none⟩ = some (.slice v0 (inpsOf l).length c0) ∧ w'.cell? ⟨w1.heap.size, 1, none⟩ = some (.slice v1 (outsOf l).length c1) ∧ w'.cell? ⟨w1.heap.size, 2, none⟩ = some (.slice v2 (rulesOf l).length c2) ∧ w'.cell? ⟨w1.heap.size + 1, 0, none⟩ = some (.slice v3 (inpsOf l).length c3) ∧ w'.cell? ⟨w1.heap.size + 1, 1, none⟩ = some (.slice v4 (outsOf l).length c4) ∧ w'.cell? ⟨w1.heap.size + 1, 2, none⟩ = some (.slice v5 (rulesOf l).length c5)) := Lib.hid fun w' hb =>
         ⟨cell_below hb rfl ((cell_of_row _ _ _ _ _ _ hn0).trans rfl), cell_below hb rfl ((cell_of_row _ _ _ _ _ _ hn0).trans rfl), cell_below hb rfl ((cell_of_row _ _ _ _ _ _ hn0).trans rfl), cell_below hb rfl ((cell_of_row _ _ _ _ _ _ hn1).trans rfl), cell_below hb rfl ((cell_of_row _ _ _ _ _ _ hn1).trans rfl), cell_below hb rfl ((cell_of_row _ _ _ _ _ _ hn1).trans rfl)⟩
       obtain ⟨k0, k1, k2, k3, k4, k5⟩ := hkeep.out _ (Below.refl _ _)
       clear hbl hpg hn0 hn1)
    | (go_at_call 13
       refine (hnum.out _ _).mono ?_
       rintro e wn ⟨rfl, rfl⟩))
  clear k0 k1 k2 k3 k4 k5
  generalize ((w1.alloc (.cells #[.slice v0 (inpsOf l).length c0, .slice v1 (outsOf l).length c1, .slice v2 (rulesOf l).length c2] 42)).alloc (.cells #[.slice v3 (inpsOf l).length c3, .slice v4 (outsOf l).length c4, .slice v5 (rulesOf l).length c5] 45)) = W2 at hb2 hpg2 hkeep ⊢
  have hb0 : Hid (Below W2.heap.size W2 W2) := Lib.hid (Below.refl _ _)
  go_loopw [7] (fun i wr => ∃ j : Nat, j ≤ (inpsOf l).length ∧ i = .int .i64 j ∧ Hid (Below W2.heap.size W2 wr)) (fun i _ => (inpsOf l).length - (intOf i).toNat)
  case atStart => exact ⟨0, Nat.zero_le _, rfl, hb0⟩
  case round =>
    clear hb0
    obtain ⟨j, hj, rfl, hbr⟩ := hrel
    obtain ⟨k0, k1, k2, k3, k4, k5⟩ := hkeep.out _ hbr.out
    by_cases hlt : j < (inpsOf l).length
    · have hji : (j : Int) < (((inpsOf l).length : Nat) : Int) := by omega
      obtain ⟨a, ha, hok⟩ := hi2.out j hlt
      have hpw := Prg.beneath hpg2.out hbr.out
      obtain ⟨g, rfl, hc⟩ := row_at inC 3 (fun _ => rfl) hpw.r0 j hlt
      have hr3 := hpw.r3
      rw [hi1.out] at hr3
      obtain ⟨ga, rfl, hca⟩ := ats_at (by rw [hi1.out]; exact hr3) j a ha
      have q0 : wr.cell? ⟨g, j * 3, none⟩ = some (.string (inpsOf l)[j].1) := hc 0 _ (by decide) rfl
      have q1 := hc 1 _ (by decide) rfl
      have q2 := hc 2 _ (by decide) rfl
      clear hc hpw ha hr3
      generalize (inpsOf l)[j] = x at hok q0 q1 q2
      obtain ⟨p, n, f⟩ := x
      obtain ⟨m1, m2, m3, m4, m5⟩ := hok
      dsimp only at m1 m2 m3 m4 m5 q0 q1 q2
      have hnm := fun w => r8_Name p w m1
      have hbg := fun w => w8_begins s ⟨#[105, 110, 112, 117, 116]⟩ a w m5 (by omega)
      have n1 : ¬ n < 0 := by omega
      have n2 : ¬ 16 < n := by omega
      have n3 : ¬ 1024 < f.size := by omega
      have z3 : ∀ ob, (wr.alloc ob).cell? ⟨w1.heap.size + 1, 0, none⟩ = some (.slice (some ⟨ga, 0, none⟩) (inpsOf l).length c3) := fun ob => cell_below ((Below.refl _ _).al ob) rfl k3
      have za : ∀ ob, (wr.alloc ob).cell? ⟨ga, j, none⟩ = some (.int .i64 (a : Int)) := fun ob => cell_below ((Below.refl _ _).al ob) rfl hca
      clear m1 m2 m3 m4 m5
      go_wp2_with (first
        | (go_at_call 21; refine (hnm _).mono ?_; rintro e w' ⟨rfl, rfl⟩)
        | (go_at_call 22; refine (hbg _).mono ?_; rintro e w' ⟨rfl, rfl⟩))
      all_goals first
        | (exfalso; omega)
        | exact ⟨⟨j + 1, by omega, by go_num, Lib.hid (hbr.out.al _)⟩, by simp [intOf]; omega⟩
        | (go_roundw
           case rel => exact ⟨j + 1, by omega, by go_num, Lib.hid (hbr.out.al _)⟩
           case measure => simp [intOf]; omega)
    · have hji : (((inpsOf l).length : Nat) : Int) ≤ (j : Int) := by omega
      have hb0 := hbr
      clear hlt hj hbr
      go_wp2_with fail
      clear hji
      generalize decide (j < (inpsOf l).length) = ub
      go_loopw [9] (fun i wr => ∃ j : Nat, j ≤ (outsOf l).length ∧ i = .int .i64 j ∧ Hid (Below W2.heap.size W2 wr)) (fun i _ => (outsOf l).length - (intOf i).toNat)
      case atStart => exact ⟨0, Nat.zero_le _, rfl, hb0⟩
      case round =>
        clear hb0
        obtain ⟨j, hj, rfl, hbr⟩ := hrel
        obtain ⟨k0, k1, k2, k3, k4, k5⟩ := hkeep.out _ hbr.out
        by_cases hlt : j < (outsOf l).length
        · have hji : (j : Int) < (((outsOf l).length : Nat) : Int) := by omega
          obtain ⟨a, ha, hok⟩ := ho2.out j hlt
          have hpw := Prg.beneath hpg2.out hbr.out
          obtain ⟨g, rfl, hc⟩ := row_at outC 2 (fun _ => rfl) hpw.r1 j hlt
          have hr3 := hpw.r4
          rw [ho1.out] at hr3
          obtain ⟨ga, rfl, hca⟩ := ats_at (by rw [ho1.out]; exact hr3) j a ha
          have q0 : wr.cell? ⟨g, j * 2, none⟩ = some (.string (outsOf l)[j].1) := hc 0 _ (by decide) rfl
          have q1 := hc 1 _ (by decide) rfl
          clear hc hpw ha hr3
          generalize (outsOf l)[j] = x at hok q0 q1
          obtain ⟨p, n⟩ := x
          obtain ⟨m1, m2, m3, m5⟩ := hok
          dsimp only at m1 m2 m3 m5 q0 q1
          have hnm := fun w => r8_Name p w m1
          have hbg := fun w => w8_begins s ⟨#[111, 117, 116, 112, 117, 116]⟩ a w m5 (by omega)
          have n1 : ¬ n < 0 := by omega
          have n2 : ¬ 16 < n := by omega
          have z3 : ∀ ob, (wr.alloc ob).cell? ⟨w1.heap.size + 1, 1, none⟩ = some (.slice (some ⟨ga, 0, none⟩) (outsOf l).length c4) := fun ob => cell_below ((Below.refl _ _).al ob) rfl k4
          have za : ∀ ob, (wr.alloc ob).cell? ⟨ga, j, none⟩ = some (.int .i64 (a : Int)) := fun ob => cell_below ((Below.refl _ _).al ob) rfl hca
          clear m1 m2 m3 m5
          go_wp2_with (first
            | (go_at_call 21; refine (hnm _).mono ?_; rintro e w' ⟨rfl, rfl⟩)
            | (go_at_call 22; refine (hbg _).mono ?_; rintro e w' ⟨rfl, rfl⟩))
          all_goals first
            | (exfalso; omega)
            | exact ⟨⟨j + 1, by omega, by go_num, Lib.hid (hbr.out.al _)⟩, by simp [intOf]; omega⟩
            | (go_roundw
               case rel => exact ⟨j + 1, by omega, by go_num, Lib.hid (hbr.out.al _)⟩
               case measure => simp [intOf]; omega)
        · have hji : (((outsOf l).length : Nat) : Int) ≤ (j : Int) := by omega
          have hb0 := hbr
          clear hlt hj hbr
          go_wp2_with fail
          clear hji
          generalize decide (j < (outsOf l).length) = ub
          have hb0 := hb0
          go_loopw [11] (fun i wr => ∃ j : Nat, j ≤ (rulesOf l).length ∧ i = .int .i64 j ∧ Hid (Below W2.heap.size W2 wr)) (fun i _ => (rulesOf l).length - (intOf i).toNat)
          case atStart => exact ⟨0, Nat.zero_le _, rfl, hb0⟩
          case round =>
            clear hb0
            obtain ⟨j, hj, rfl, hbr⟩ := hrel
            obtain ⟨k0, k1, k2, k3, k4, k5⟩ := hkeep.out _ hbr.out
            by_cases hlt : j < (rulesOf l).length
            · have hji : (j : Int) < (((rulesOf l).length : Nat) : Int) := by omega
              obtain ⟨a, ha, hok⟩ := hr2.out j hlt
              have hpw := Prg.beneath hpg2.out hbr.out
              have hr3 := hpw.r5
              rw [hr1.out] at hr3
              obtain ⟨ga, rfl, hca⟩ := ats_at (by rw [hr1.out]; exact hr3) j a ha
              obtain ⟨L, hL, h2, h3⟩ := hpw.r2
              have hLl : (rulesOf l).length = L.length := by rw [← hL, List.length_map]
              have hjL : j < L.length := by omega
              have h2' := h2
              rw [hLl] at h2'
              obtain ⟨g, e2, hc⟩ := row_at ruC 3 (fun _ => rfl) h2' j hjL
              subst e2
              have hrj : (rulesOf l)[j] = L[j].1 := by
                have h8 : (L.map fun y => y.1)[j]? = some L[j].1 := by rw [List.getElem?_map, List.getElem?_eq_getElem hjL]; rfl
                rw [hL, List.getElem?_eq_getElem hlt] at h8
                injection h8
              have h3j := h3 L[j] (List.getElem_mem hjL)
              rw [hrj] at hok
              have q0 : wr.cell? ⟨g, j * 3, none⟩ = some (.string L[j].1.p) := hc 0 _ (by decide) rfl
              have q1 : wr.cell? ⟨g, j * 3 + 1, none⟩ = some L[j].2.1 := hc 1 _ (by decide) rfl
              have q2 : wr.cell? ⟨g, j * 3 + 2, none⟩ = some L[j].2.2 := hc 2 _ (by decide) rfl
              clear hc h2' hrj
              generalize L[j] = x at hok q0 q1 q2 h3j
              clear h2 h3 hL hLl hjL hpw ha hr3
              obtain ⟨⟨rp, ra, rb⟩, av, bv⟩ := x
              obtain ⟨⟨hat, hbl, hli⟩, hgo⟩ := hok
              obtain ⟨hra, L2, hb1, hbo⟩ := h3j
              dsimp only at hat hbl hli hgo hra hb1 hbo q0 q1 q2
              subst hb1
              obtain ⟨xa, xc, e1, -⟩ := own_slice hra
              obtain ⟨ya, yc, e2, -⟩ := own_slice hbo.own
              subst e1 e2
              rw [List.length_map] at hbl
              have n1 : ¬ 256 < L2.length := by omega
              have n2 : ¬ (256 : Int) < ((L2.length : Nat) : Int) := by omega
              have n3 : decide ((256 : Int) < ((L2.length : Nat) : Int)) = false := decide_eq_false n2
              have n4 : decide (256 < L2.length) = false := decide_eq_false n1
              replace hra := Lib.hid hra
              replace hbo := Lib.hid hbo
              replace hli := Lib.hid hli
              replace hat := Lib.hid hat
              have hbg := fun w => w8_begins s rp a w hgo (by omega)
              replace hbg := Lib.hid hbg
              clear hgo
              go_wp2_with fail
              have hn : (wr.alloc (.cells #[.string rp, .slice xa ra.length xc, .slice ya L2.length yc] 29)).heap[wr.heap.size]? = some (.cells #[.string rp, .slice xa ra.length xc, .slice ya L2.length yc] 29) := heap_alloc_new _ _
              have hbq := Lib.hid (hbr.out.al (.cells #[.string rp, .slice xa ra.length xc, .slice ya L2.length yc] 29))
              have hsl : W2.heap.size ≤ wr.heap.size := hbr.out.size
              replace hra := Lib.hid (own_below hra.out ((Below.refl _ _).al (.cells #[.string rp, .slice xa ra.length xc, .slice ya L2.length yc] 29)))
              replace hbo := Lib.hid (show Bod (wr.alloc (.cells #[.string rp, .slice xa ra.length xc, .slice ya L2.length yc] 29)) _ _ _ from ⟨own_below hbo.out.own ((Below.refl _ _).al _), fun y hy => own_below (hbo.out.inner y hy) ((Below.refl _ _).al _)⟩)
              have c0 := (cell_of_row _ _ 0 _ _ _ hn).trans rfl
              have c1 := (cell_of_row _ _ 1 _ _ _ hn).trans rfl
              have c2 := (cell_of_row _ _ 2 _ _ _ hn).trans rfl
              have z3 := cell_below ((Below.refl _ _).al (.cells #[.string rp, .slice xa ra.length xc, .slice ya L2.length yc] 29)) rfl k5
              have za := cell_below ((Below.refl _ _).al (.cells #[.string rp, .slice xa ra.length xc, .slice ya L2.length yc] 29)) rfl hca
              clear q0 q1 q2 k0 k1 k2 k3 k4 k5 hca hn
              generalize wr.alloc (.cells #[.string rp, .slice xa ra.length xc, .slice ya L2.length yc] 29) = wq at hbq hra hbo c0 c1 c2 z3 za ⊢
              have hk3 : Hid (∀ w', Below wq.heap.size wq w' → (fun w' => w'.cell? ⟨wr.heap.size, 0, none⟩ = some (.string rp) ∧ w'.cell? ⟨wr.heap.size, 1, none⟩ = some (.slice xa ra.length xc) ∧ w'.cell? ⟨wr.heap.size, 2, none⟩ = some (.slice ya L2.length yc) ∧ w'.cell? ⟨w1.heap.size + 1, 2, none⟩ = some (.slice (some ⟨ga, 0, none⟩) (rulesOf l).length c5) ∧ w'.cell? ⟨ga, j, none⟩ = some (.int .i64 (a : Int))) w') := Lib.hid fun w' hb => ⟨cell_below hb rfl c0, cell_below hb rfl c1, cell_below hb rfl c2, cell_below hb rfl z3, cell_below hb rfl za⟩
              go_region_held3 (fun w' => w'.cell? ⟨wr.heap.size, 0, none⟩ = some (.string rp) ∧ w'.cell? ⟨wr.heap.size, 1, none⟩ = some (.slice xa ra.length xc) ∧ w'.cell? ⟨wr.heap.size, 2, none⟩ = some (.slice ya L2.length yc) ∧ w'.cell? ⟨w1.heap.size + 1, 2, none⟩ = some (.slice (some ⟨ga, 0, none⟩) (rulesOf l).length c5) ∧ w'.cell? ⟨ga, j, none⟩ = some (.int .i64 (a : Int))) (first | exact hk3.out _ hb4.out | exact hk3.out _ (hb4.out.drew) | exact hk3.out _ (Below.refl _ _) | exact hk3.out _ (Below.refl _ _).drew) (first
                | (go_at_call 23
                   first
                    | (refine (w8_atom rp ra xa xc w.heap.size _ hra.out hat.out).mono ?_
                       rintro e w4 ⟨rfl, hb4⟩
                       replace hb4 := Lib.hid hb4)
                    | (refine (w8_atom rp ra xa xc w.heap.size _ (own_below hra.out (Below.refl _ _).drew) hat.out).mono ?_
                       rintro e w4 ⟨rfl, hb4⟩
                       replace hb4 := Lib.hid ((Below.refl _ _).drew.trans hb4)))
                | (go_at_call 22
                   refine (hbg.out _).mono ?_
                   rintro e w' ⟨rfl, rfl⟩))
              clear c0 c1 c2 z3 za hbg hra hat
              generalize hub : decide ((j : Int) < (((rulesOf l).length : Nat) : Int)) = ub at *
              clear hub
              have hk4 := hk3.out _ hb4.out
              obtain ⟨d0, d1, d2, d3, da⟩ := hk4
              clear d0 d1 d3 da
              go_wp2_with fail
              clear d2
              go_loopw [13] (fun i wi => ∃ k : Nat, k ≤ L2.length ∧ i = .int .i64 k ∧ Hid (Below wq.heap.size wq wi)) (fun i _ => L2.length - (intOf i).toNat)
              case atStart => exact ⟨0, Nat.zero_le _, rfl, hb4⟩
              case round =>
                clear hb4
                obtain ⟨k, hk, rfl, hbi⟩ := hrel
                obtain ⟨d0, d1, d2, d3, da⟩ := hk3.out _ hbi.out
                clear d0 d1 d3 da
                by_cases hlk : k < L2.length
                · have hki : (k : Int) < ((L2.length : Nat) : Int) := by omega
                  have hbo2 : Bod _ _ _ _ := ⟨own_below hbo.out.own hbi.out, fun y hy => own_below (hbo.out.inner y hy) hbi.out⟩
                  obtain ⟨gb, e5, hcb⟩ := row_at litC 7 (fun _ => rfl) hbo2.own k hlk
                  subst e5
                  have hin := hbo2.inner L2[k] (List.getElem_mem hlk)
                  have hlit := hli.out L2[k].1 (List.mem_map.2 ⟨_, List.getElem_mem hlk, rfl⟩)
                  have q0 : wr.cell? ⟨gb, k * 7, none⟩ = some (.int .i64 L2[k].1.k) := hcb 0 _ (by decide) rfl
                  have q1 := hcb 1 _ (by decide) rfl
                  have q2 := hcb 2 _ (by decide) rfl
                  have q3 := hcb 3 _ (by decide) rfl
                  have q4 := hcb 4 _ (by decide) rfl
                  have q5 := hcb 5 _ (by decide) rfl
                  have q6 := hcb 6 _ (by decide) rfl
                  clear hcb
                  generalize L2[k] = x at hin hlit q0 q1 q2 q3 q4 q5 q6
                  obtain ⟨⟨lk, lp, la, ⟨lb, ls⟩, ⟨rb, rs⟩⟩, lv⟩ := x
                  dsimp only at hin hlit q0 q1 q2 q3 q4 q5 q6
                  obtain ⟨xl, xd, e6, -⟩ := own_slice hin
                  subst e6
                  have hlt8 := Lib.hid (w8_literal lk lp la lb ls rb rs xl xd _ _ hin hlit)
                  clear hin hlit hbo2
                  go_wp2_with (go_at_call 24; refine hlt8.out.mono ?_; rintro e w6 ⟨rfl, hb6⟩; replace hb6 := Lib.hid (hbi.out.trans (hb6.mono hbi.out.size)))
                  all_goals first
                    | exact ⟨⟨k + 1, by omega, by go_num, hb6⟩, by simp [intOf]; omega⟩
                    | (go_roundw
                       case rel => exact ⟨k + 1, by omega, by go_num, hb6⟩
                       case measure => simp [intOf]; omega)
                · have hki : ((L2.length : Nat) : Int) ≤ (k : Int) := by omega
                  have hb7 := Lib.hid (hbq.out.trans (hbi.out.mono hbq.out.size))
                  clear hlk hk hbi
                  go_wp2_with fail
                  all_goals first
                    | exact ⟨⟨j + 1, by omega, by go_num, hb7⟩, by simp [intOf]; omega⟩
                    | (go_roundw
                       case rel => exact ⟨j + 1, by omega, by go_num, hb7⟩
                       case measure => simp [intOf]; omega)
            · have hji : (((rulesOf l).length : Nat) : Int) ≤ (j : Int) := by omega
              clear hlt hj
              go_wp2_with (go_at_call 9; refine (hwk.out _).mono ?_; rintro e w9 ⟨rfl, hb9⟩; replace hb9 := Lib.hid ((hb2.out.trans (hbr.out.mono hb2.out.size)).trans (hb9.mono (Nat.le_trans hb2.out.size hbr.out.size))))
              go_ret
              exact ⟨rfl, hb9.out⟩
end Go.Proofs.Ytmjincocmhadeaa
