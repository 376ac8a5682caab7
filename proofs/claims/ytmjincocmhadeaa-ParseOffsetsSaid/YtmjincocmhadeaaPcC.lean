/- Parse: ParseOffsets. (gen_pcc.py) -/
import Derived.Test.YtmjincocmhadeaaPmI
namespace Go.Proofs.Ytmjincocmhadeaa
open Go.RowKit Lx
theorem bl_app (a b : ByteArray) : bl (a ++ b) = bl a ++ bl b := by
  simp [bl]
theorem far_take {s : ByteArray} {k : Nat} (hk : k ≤ s.size) : begB (s.extract 0 k) = decide ((k : Int) ≤ psFar s) := by
  have he : s.extract 0 k = mk ((bl s).take k) := by rw [extract_mk']; rfl
  have hb : bl (s.extract 0 k) = (bl s).take k := by rw [he, bl_mk]
  have hl : ((bl s).take k).length = k := by rw [List.length_take, bl_length]; omega
  have hsz : (s.extract 0 k).size = k := by rw [← bl_length, hb, hl]
  unfold begB
  rw [psFar_r, hsz, hb, psFar_r]
  have hm := far_more ((bl s).take k) ((bl s).drop k)
  rw [List.take_append_drop, hl] at hm
  rw [Bool.eq_iff_iff, beq_iff_eq, decide_eq_true_eq]
  rcases hm with ⟨h1, h2⟩ | ⟨h1, h2⟩
  · have h3 : rFar (bl s) = rFar ((bl s).take k) := congrArg pos h2
    constructor
    · intro h; omega
    · intro h; omega
  · exact ⟨fun _ => h2, fun _ => h1⟩
theorem far_stuck {s t : ByteArray} (h : psFar s < s.size) : psText (s ++ t) = .error (psFar s) := by
  have hm := far_more (bl s) (bl t)
  rw [← psFar_r, bl_length, ← bl_app] at hm
  rcases hm with ⟨_, h2⟩ | ⟨h1, _⟩
  · have h3 : psFar (s ++ t) = psFar s := by
      rw [psFar_r, psFar_r]; exact congrArg pos h2
    cases hx : psText (s ++ t) with
    | error y =>
      have : psFar (s ++ t) = y := by unfold psFar; rw [hx]
      rw [← this, h3]
    | ok l =>
      exfalso
      have h4 : psFar (s ++ t) = ((s ++ t).size : Int) := by unfold psFar; rw [hx]
      have h5 : (s ++ t).size = s.size + t.size := by rw [← bl_length, bl_app, List.length_append, bl_length, bl_length]
      omega
  · omega
theorem far_on {s t : ByteArray} (h : psFar s = s.size) {y : Int} (hx : psText (s ++ t) = .error y) : (s.size : Int) ≤ y := by
  have hm := far_more (bl s) (bl t)
  rw [← psFar_r, bl_length, ← bl_app, ← psFar_r] at hm
  have h1 : psFar (s ++ t) = y := by unfold psFar; rw [hx]
  rcases hm with ⟨h2, _⟩ | ⟨_, h2⟩
  · omega
  · omega
theorem size_app (s t : ByteArray) : (s ++ t).size = s.size + t.size := by rw [← bl_length, bl_app, List.length_append, bl_length, bl_length]
set_option maxHeartbeats 1000000 in
set_option maxRecDepth 100000 in
theorem law8_offs_long (s t : ByteArray) (w : World) (hl : 20000 < s.size ∨ 20000 < t.size) :
    Calls Try.prog 4 #[.string s, .string t] w fun e w' => e = .returned (.bool true) ∧ Below w.heap.size w w' := by
  have hwk := Lib.hid w8_works
  by_cases h0 : 20000 < s.size
  · have d0 : decide ((20000 : Int) < (s.size : Int)) = true := by rw [decide_eq_true_eq]; omega
    clear hl
    go_enter Try.func4, Try.ntmps4
    go_wp2_with (first
      | (go_at_call 8
         refine (w8_long _ _).mono ?_
         rw [d0]
         rintro e wl ⟨rfl, rfl⟩)
      | (go_at_call 9
         refine (hwk.out _).mono ?_
         rintro e w1 ⟨rfl, hb1⟩))
    go_ret
    exact ⟨rfl, hb1⟩
  · have d0 : decide ((20000 : Int) < (s.size : Int)) = false := by rw [decide_eq_false_iff_not]; omega
    have d1 : decide ((20000 : Int) < (t.size : Int)) = true := by rw [decide_eq_true_eq]; omega
    clear hl
    go_enter Try.func4, Try.ntmps4
    go_wp2_with (first
      | (go_at_call 8
         have hg := d0
         refine (w8_long _ _).mono ?_
         rw [d0]
         rintro e wl ⟨rfl, rfl⟩
         clear hg d0)
      | (go_at_call 8
         refine (w8_long _ _).mono ?_
         rw [d1]
         rintro e wl ⟨rfl, rfl⟩)
      | (go_at_call 9
         refine (hwk.out _).mono ?_
         rintro e w1 ⟨rfl, hb1⟩))
    go_ret
    exact ⟨rfl, hb1⟩
set_option maxHeartbeats 1000000 in
set_option maxRecDepth 100000 in
theorem law8_offs_stuck (s t : ByteArray) (w : World) (h0 : s.size ≤ 20000) (h1 : t.size ≤ 20000) (k : Nat) (hk : k < s.size) (hx : psText s = .error (k : Int)) :
    Calls Try.prog 4 #[.string s, .string t] w fun e w' => e = .returned (.bool true) ∧ Below w.heap.size w w' := by
  have hF : Hid (psFar s = ((k : Nat) : Int)) := Lib.hid (by unfold psFar; rw [hx])
  have d0 : decide ((20000 : Int) < (s.size : Int)) = false := by rw [decide_eq_false_iff_not]; omega
  have d1 : decide ((20000 : Int) < (t.size : Int)) = false := by rw [decide_eq_false_iff_not]; omega
  have e0 : ¬ ((k : Nat) : Int) < 0 := by omega
  have e0' : (0 : Int) ≤ ((k : Nat) : Int) := by omega
  have e1 : ¬ s.size < k := by omega
  have e2 : ((k : Int) == (s.size : Int)) = false := by rw [beq_eq_false_iff_ne]; omega
  have hwk := Lib.hid w8_works
  have hnum := Lib.hid w8_num
  have hpr := fun w => pa_Program s w (by omega)
  rw [hx] at hpr
  unfold PgPost at hpr
  dsimp only at hpr
  replace hpr := Lib.hid hpr
  have hbg : Hid (∀ w m, m ≤ s.size → Calls Try.prog 16 #[.string (s.extract 0 m)] w fun e w' => e = .returned (.bool (decide (m ≤ (k : Nat)))) ∧ Below w.heap.size w w') := Lib.hid fun w m hm => by
    have hsz : (s.extract 0 m).size ≤ 4194304 := by rw [ByteArray.size_extract]; omega
    have := pa_Begins (s.extract 0 m) w hsz
    rw [far_take hm, hF.out] at this
    refine this.mono fun e w' h => ⟨?_, h.2⟩
    rw [h.1]
    congr 2
    exact decide_eq_decide.2 (by omega)
  have hbs : Hid (∀ w, Calls Try.prog 16 #[.string s] w fun e w' => e = .returned (.bool false) ∧ Below w.heap.size w w') := Lib.hid fun w => by
    have := pa_Begins s w (by omega)
    rw [show begB s = false from by unfold begB; rw [hF.out]; simp; omega] at this
    exact this
  have hsa : (s ++ t).size ≤ 4194304 := by rw [size_app]; omega
  have hp2 := fun w => pa_Program (s ++ t) w hsa
  rw [far_stuck (t := t) (by rw [hF.out]; omega), hF.out] at hp2
  unfold PgPost at hp2
  dsimp only at hp2
  replace hp2 := Lib.hid hp2
  have hB0 : Hid (∀ w, Calls Try.prog 16 #[.string (s.extract 0 k)] w fun e w' => e = .returned (.bool true) ∧ Below w.heap.size w w') := Lib.hid fun w => by
    have := hbg.out w k (by omega)
    rw [decide_eq_true (by omega)] at this
    exact this
  have hB1 : Hid (∀ w, Calls Try.prog 16 #[.string (s.extract 0 (k + 1))] w fun e w' => e = .returned (.bool false) ∧ Below w.heap.size w w') := Lib.hid fun w => by
    have := hbg.out w (k + 1) (by omega)
    rw [decide_eq_false (by omega)] at this
    exact this
  clear hx
  go_enter Try.func4, Try.ntmps4
  go_wp2_with (first
    | (go_at_call 8
       have hg := d0
       refine (w8_long _ _).mono ?_
       rw [d0]
       rintro e wl ⟨rfl, rfl⟩
       clear hg d0)
    | (go_at_call 8
       have hg := d1
       refine (w8_long _ _).mono ?_
       rw [d1]
       rintro e wl ⟨rfl, rfl⟩
       clear hg d1)
    | (go_at_call 15
       have hg := hpr
       refine (hpr.out _).mono ?_
       rintro e w2 ⟨rfl, hbl⟩
       have hb2 := Lib.hid ((Below.refl w.heap.size w).trans (hbl.mono (Below.refl w.heap.size w).size))
       clear hg hpr hbl)
    | (go_at_call 13
       refine (hnum.out _ _).mono ?_
       rintro e wn ⟨rfl, rfl⟩)
    | (go_at_call 16
       have hg := hB0
       refine (hB0.out _).mono ?_
       rintro e w3 ⟨rfl, hbl⟩
       have hb3 := Lib.hid (((hb2.out.al _).al _).trans (hbl.mono ((hb2.out.al _).al _).size))
       clear hg hB0 hbl)
    | (go_at_call 16
       have hg := hB1
       refine (hB1.out _).mono ?_
       rintro e w4 ⟨rfl, hbl⟩
       have hb4 := Lib.hid (hb3.out.trans (hbl.mono hb3.out.size))
       clear hg hB1 hbl)
    | (go_at_call 16
       have hg := hbs
       refine (hbs.out _).mono ?_
       rintro e w5 ⟨rfl, hbl⟩
       have hb5 := Lib.hid (hb4.out.trans (hbl.mono hb4.out.size))
       clear hg hbs hbl))
  generalize hqq : (s.size : Int) / 300 = qq
  have hq0 : 0 ≤ qq := by omega
  have hq1 : qq ≤ 66 := by omega
  clear hqq
  go_loopw [10] (fun kv wr => ∃ m : Nat, m ≤ s.size + 100 ∧ kv = .int .i64 m ∧ Hid (Below w.heap.size w wr)) (fun kv _ => s.size + 101 - (intOf kv).toNat)
  case atStart => exact ⟨0, by omega, rfl, hb5⟩
  case round =>
    obtain ⟨m, hm, rfl, hbr⟩ := hrel
    by_cases hms : m ≤ s.size
    · have hc := hbg.out
      have hmi : (m : Int) ≤ (s.size : Int) := by omega
      by_cases hmk : m ≤ k
      · have hB := Lib.hid (fun w => hbg.out w m hms)
        rw [decide_eq_true hmk] at hB
        have hmk' : (m : Int) ≤ ((k : Nat) : Int) := by omega
        clear hc
        go_wp2_with (go_at_call 16; refine (hB.out _).mono ?_; rintro e w6 ⟨rfl, hbl⟩; have hb6 := Lib.hid (hbr.out.trans (hbl.mono hbr.out.size)); clear hbl)
        exact ⟨⟨m + 1 + qq.toNat, by omega, by go_num, hb6⟩, by simp [intOf]; omega⟩
      · have hB := Lib.hid (fun w => hbg.out w m hms)
        rw [decide_eq_false hmk] at hB
        have hmk' : ((k : Nat) : Int) < (m : Int) := by omega
        clear hc
        go_wp2_with (go_at_call 16; refine (hB.out _).mono ?_; rintro e w6 ⟨rfl, hbl⟩; have hb6 := Lib.hid (hbr.out.trans (hbl.mono hbr.out.size)); clear hbl)
        exact ⟨⟨m + 1 + qq.toNat, by omega, by go_num, hb6⟩, by simp [intOf]; omega⟩
    · have hmi : (s.size : Int) < (m : Int) := by omega
      go_wp2_with (first
        | (go_at_call 15
           have hg := hp2
           refine (hp2.out _).mono ?_
           rintro e w7 ⟨rfl, hbl⟩
           have hb7 := Lib.hid (hbr.out.trans (hbl.mono hbr.out.size))
           clear hg hp2 hbl)
        | (go_at_call 13
           refine (hnum.out _ _).mono ?_
           rintro e wn ⟨rfl, rfl⟩)
        | (go_at_call 9
           refine (hwk.out _).mono ?_
           rintro e w9 ⟨rfl, hbl⟩
           have hb9 := Lib.hid (((hb7.out.al _).al _).trans (hbl.mono ((hb7.out.al _).al _).size))
           clear hbl))
      go_ret
      exact ⟨rfl, hb9.out⟩
set_option maxHeartbeats 1000000 in
set_option maxRecDepth 100000 in
theorem law8_offs_open (s t : ByteArray) (w : World) (h0 : s.size ≤ 20000) (h1 : t.size ≤ 20000) (hx : psText s = .error (s.size : Int)) :
    Calls Try.prog 4 #[.string s, .string t] w fun e w' => e = .returned (.bool true) ∧ Below w.heap.size w w' := by
  have hF : Hid (psFar s = (s.size : Int)) := Lib.hid (by unfold psFar; rw [hx])
  have d0 : decide ((20000 : Int) < (s.size : Int)) = false := by rw [decide_eq_false_iff_not]; omega
  have d1 : decide ((20000 : Int) < (t.size : Int)) = false := by rw [decide_eq_false_iff_not]; omega
  have e0 : ¬ ((s.size : Nat) : Int) < 0 := by omega
  have e0' : (0 : Int) ≤ ((s.size : Nat) : Int) := by omega
  have e1 : ¬ s.size < s.size := by omega
  have hwk := Lib.hid w8_works
  have hnum := Lib.hid w8_num
  have hpr := fun w => pa_Program s w (by omega)
  rw [hx] at hpr
  unfold PgPost at hpr
  dsimp only at hpr
  replace hpr := Lib.hid hpr
  have hbg : Hid (∀ w m, m ≤ s.size → Calls Try.prog 16 #[.string (s.extract 0 m)] w fun e w' => e = .returned (.bool (decide (m ≤ s.size))) ∧ Below w.heap.size w w') := Lib.hid fun w m hm => by
    have hsz : (s.extract 0 m).size ≤ 4194304 := by rw [ByteArray.size_extract]; omega
    have := pa_Begins (s.extract 0 m) w hsz
    rw [far_take hm, hF.out] at this
    refine this.mono fun e w' h => ⟨?_, h.2⟩
    rw [h.1]
    congr 2
    exact decide_eq_decide.2 (by omega)
  have hbs : Hid (∀ w, Calls Try.prog 16 #[.string s] w fun e w' => e = .returned (.bool true) ∧ Below w.heap.size w w') := Lib.hid fun w => by
    have := pa_Begins s w (by omega)
    rw [show begB s = true from by unfold begB; rw [hF.out]; simp] at this
    exact this
  have hsa : (s ++ t).size ≤ 4194304 := by rw [size_app]; omega
  have hp2 := fun w => pa_Program (s ++ t) w hsa
  have hB0 := hbs
  clear hx
  go_enter Try.func4, Try.ntmps4
  go_wp2_with (first
    | (go_at_call 8
       have hg := d0
       refine (w8_long _ _).mono ?_
       rw [d0]
       rintro e wl ⟨rfl, rfl⟩
       clear hg d0)
    | (go_at_call 8
       have hg := d1
       refine (w8_long _ _).mono ?_
       rw [d1]
       rintro e wl ⟨rfl, rfl⟩
       clear hg d1)
    | (go_at_call 15
       have hg := hpr
       refine (hpr.out _).mono ?_
       rintro e w2 ⟨rfl, hbl⟩
       have hb2 := Lib.hid ((Below.refl w.heap.size w).trans (hbl.mono (Below.refl w.heap.size w).size))
       clear hg hpr hbl)
    | (go_at_call 13
       refine (hnum.out _ _).mono ?_
       rintro e wn ⟨rfl, rfl⟩)
    | (go_at_call 16
       have hg := hB0
       refine (hB0.out _).mono ?_
       rintro e w3 ⟨rfl, hbl⟩
       have hb3 := Lib.hid (((hb2.out.al _).al _).trans (hbl.mono ((hb2.out.al _).al _).size))
       clear hg hB0 hbl)
    | (go_at_call 16
       have hg := hbs
       refine (hbs.out _).mono ?_
       rintro e w5 ⟨rfl, hbl⟩
       have hb5 := Lib.hid (hb3.out.trans (hbl.mono hb3.out.size))
       clear hg hbs hbl))
  generalize hqq : (s.size : Int) / 300 = qq
  have hq0 : 0 ≤ qq := by omega
  have hq1 : qq ≤ 66 := by omega
  clear hqq
  go_loopw [10] (fun kv wr => ∃ m : Nat, m ≤ s.size + 100 ∧ kv = .int .i64 m ∧ Hid (Below w.heap.size w wr)) (fun kv _ => s.size + 101 - (intOf kv).toNat)
  case atStart => exact ⟨0, by omega, rfl, hb5⟩
  case round =>
    obtain ⟨m, hm, rfl, hbr⟩ := hrel
    by_cases hms : m ≤ s.size
    · have hc := hbg.out
      have hmi : (m : Int) ≤ (s.size : Int) := by omega
      by_cases hmk : m ≤ s.size
      · have hB := Lib.hid (fun w => hbg.out w m hms)
        rw [decide_eq_true hmk] at hB
        have hmk' : (m : Int) ≤ ((s.size : Nat) : Int) := by omega
        clear hc
        go_wp2_with (go_at_call 16; refine (hB.out _).mono ?_; rintro e w6 ⟨rfl, hbl⟩; have hb6 := Lib.hid (hbr.out.trans (hbl.mono hbr.out.size)); clear hbl)
        exact ⟨⟨m + 1 + qq.toNat, by omega, by go_num, hb6⟩, by simp [intOf]; omega⟩
      · exact absurd hms hmk
    · have hmi : (s.size : Int) < (m : Int) := by omega
      cases hx2 : psText (s ++ t) with
      | error y =>
        have hy := far_on (t := t) hF.out hx2
        rw [hx2] at hp2
        unfold PgPost at hp2
        dsimp only at hp2
        replace hp2 := Lib.hid hp2
        clear hx2
        go_wp2_with (first
          | (go_at_call 15
             have hg := hp2
             refine (hp2.out _).mono ?_
             rintro e w7 ⟨rfl, hbl⟩
             have hb7 := Lib.hid (hbr.out.trans (hbl.mono hbr.out.size))
             clear hg hp2 hbl)
          | (go_at_call 13
             refine (hnum.out _ _).mono ?_
             rintro e wn ⟨rfl, rfl⟩)
          | (go_at_call 9
             refine (hwk.out _).mono ?_
             rintro e w9 ⟨rfl, hbl⟩
             have hb9 := Lib.hid (((hb7.out.al _).al _).trans (hbl.mono ((hb7.out.al _).al _).size))
             clear hbl))
        go_ret
        exact ⟨rfl, hb9.out⟩
      | ok l2 =>
        rw [hx2] at hp2
        unfold PgPost at hp2
        dsimp only at hp2
        replace hp2 := Lib.hid hp2
        clear hx2
        go_wp2_with (first
          | (go_at_call 15
             have hg := hp2
             refine (hp2.out _).mono ?_
             rintro e w7 ⟨R0, R1, R2, R3, R4, R5, rfl, hbl, hpg⟩
             have hb7 := Lib.hid (hbr.out.trans (hbl.mono hbr.out.size))
             obtain ⟨v0, c0, rfl⟩ := Prg.form0 hpg; obtain ⟨v1, c1, rfl⟩ := Prg.form1 hpg; obtain ⟨v2, c2, rfl⟩ := Prg.form2 hpg; obtain ⟨v3, c3, rfl⟩ := Prg.form3 hpg; obtain ⟨v4, c4, rfl⟩ := Prg.form4 hpg; obtain ⟨v5, c5, rfl⟩ := Prg.form5 hpg
             clear hg hp2 hbl hpg)
          | (go_at_call 13
             refine (hnum.out _ _).mono ?_
             rintro e wn ⟨rfl, rfl⟩)
          | (go_at_call 9
             refine (hwk.out _).mono ?_
             rintro e w9 ⟨rfl, hbl⟩
             have hb9 := Lib.hid (((hb7.out.al _).al _).trans (hbl.mono ((hb7.out.al _).al _).size))
             clear hbl))
        go_ret
        exact ⟨rfl, hb9.out⟩
set_option maxHeartbeats 1000000 in
set_option maxRecDepth 100000 in
theorem law8_offs_ok (s t : ByteArray) (w : World) (h0 : s.size ≤ 20000) (h1 : t.size ≤ 20000) (l : List Stmt) (hx : psText s = .ok l) :
    Calls Try.prog 4 #[.string s, .string t] w fun e w' => e = .returned (.bool true) ∧ Below w.heap.size w w' := by
  have hF : Hid (psFar s = (s.size : Int)) := Lib.hid (by unfold psFar; rw [hx])
  have d0 : decide ((20000 : Int) < (s.size : Int)) = false := by rw [decide_eq_false_iff_not]; omega
  have d1 : decide ((20000 : Int) < (t.size : Int)) = false := by rw [decide_eq_false_iff_not]; omega
  have e0 : ¬ ((s.size : Nat) : Int) < 0 := by omega
  have e0' : (0 : Int) ≤ ((s.size : Nat) : Int) := by omega
  have e1 : ¬ s.size < s.size := by omega
  have hwk := Lib.hid w8_works
  have hnum := Lib.hid w8_num
  have hpr := fun w => pa_Program s w (by omega)
  rw [hx] at hpr
  unfold PgPost at hpr
  dsimp only at hpr
  replace hpr := Lib.hid hpr
  have hbg : Hid (∀ w m, m ≤ s.size → Calls Try.prog 16 #[.string (s.extract 0 m)] w fun e w' => e = .returned (.bool (decide (m ≤ s.size))) ∧ Below w.heap.size w w') := Lib.hid fun w m hm => by
    have hsz : (s.extract 0 m).size ≤ 4194304 := by rw [ByteArray.size_extract]; omega
    have := pa_Begins (s.extract 0 m) w hsz
    rw [far_take hm, hF.out] at this
    refine this.mono fun e w' h => ⟨?_, h.2⟩
    rw [h.1]
    congr 2
    exact decide_eq_decide.2 (by omega)
  have hbs : Hid (∀ w, Calls Try.prog 16 #[.string s] w fun e w' => e = .returned (.bool true) ∧ Below w.heap.size w w') := Lib.hid fun w => by
    have := pa_Begins s w (by omega)
    rw [show begB s = true from by unfold begB; rw [hF.out]; simp] at this
    exact this
  have hsa : (s ++ t).size ≤ 4194304 := by rw [size_app]; omega
  have hp2 := fun w => pa_Program (s ++ t) w hsa
  have hB0 := hbs
  clear hx
  go_enter Try.func4, Try.ntmps4
  go_wp2_with (first
    | (go_at_call 8
       have hg := d0
       refine (w8_long _ _).mono ?_
       rw [d0]
       rintro e wl ⟨rfl, rfl⟩
       clear hg d0)
    | (go_at_call 8
       have hg := d1
       refine (w8_long _ _).mono ?_
       rw [d1]
       rintro e wl ⟨rfl, rfl⟩
       clear hg d1)
    | (go_at_call 15
       have hg := hpr
       refine (hpr.out _).mono ?_
       rintro e w2 ⟨R0, R1, R2, R3, R4, R5, rfl, hbl, hpg⟩
       have hb2 := Lib.hid ((Below.refl w.heap.size w).trans (hbl.mono (Below.refl w.heap.size w).size))
       obtain ⟨v0, c0, rfl⟩ := Prg.form0 hpg; obtain ⟨v1, c1, rfl⟩ := Prg.form1 hpg; obtain ⟨v2, c2, rfl⟩ := Prg.form2 hpg; obtain ⟨v3, c3, rfl⟩ := Prg.form3 hpg; obtain ⟨v4, c4, rfl⟩ := Prg.form4 hpg; obtain ⟨v5, c5, rfl⟩ := Prg.form5 hpg
       clear hg hpr hbl hpg)
    | (go_at_call 13
       refine (hnum.out _ _).mono ?_
       rintro e wn ⟨rfl, rfl⟩)
    | (go_at_call 16
       have hg := hB0
       refine (hB0.out _).mono ?_
       rintro e w3 ⟨rfl, hbl⟩
       have hb3 := Lib.hid (((hb2.out.al _).al _).trans (hbl.mono ((hb2.out.al _).al _).size))
       clear hg hB0 hbl)
    | (go_at_call 16
       have hg := hbs
       refine (hbs.out _).mono ?_
       rintro e w5 ⟨rfl, hbl⟩
       have hb5 := Lib.hid (hb3.out.trans (hbl.mono hb3.out.size))
       clear hg hbs hbl))
  generalize hqq : (s.size : Int) / 300 = qq
  have hq0 : 0 ≤ qq := by omega
  have hq1 : qq ≤ 66 := by omega
  clear hqq
  go_loopw [10] (fun kv wr => ∃ m : Nat, m ≤ s.size + 100 ∧ kv = .int .i64 m ∧ Hid (Below w.heap.size w wr)) (fun kv _ => s.size + 101 - (intOf kv).toNat)
  case atStart => exact ⟨0, by omega, rfl, hb5⟩
  case round =>
    obtain ⟨m, hm, rfl, hbr⟩ := hrel
    by_cases hms : m ≤ s.size
    · have hc := hbg.out
      have hmi : (m : Int) ≤ (s.size : Int) := by omega
      by_cases hmk : m ≤ s.size
      · have hB := Lib.hid (fun w => hbg.out w m hms)
        rw [decide_eq_true hmk] at hB
        have hmk' : (m : Int) ≤ ((s.size : Nat) : Int) := by omega
        clear hc
        go_wp2_with (go_at_call 16; refine (hB.out _).mono ?_; rintro e w6 ⟨rfl, hbl⟩; have hb6 := Lib.hid (hbr.out.trans (hbl.mono hbr.out.size)); clear hbl)
        exact ⟨⟨m + 1 + qq.toNat, by omega, by go_num, hb6⟩, by simp [intOf]; omega⟩
      · exact absurd hms hmk
    · have hmi : (s.size : Int) < (m : Int) := by omega
      cases hx2 : psText (s ++ t) with
      | error y =>
        have hy := far_on (t := t) hF.out hx2
        rw [hx2] at hp2
        unfold PgPost at hp2
        dsimp only at hp2
        replace hp2 := Lib.hid hp2
        clear hx2
        go_wp2_with (first
          | (go_at_call 15
             have hg := hp2
             refine (hp2.out _).mono ?_
             rintro e w7 ⟨rfl, hbl⟩
             have hb7 := Lib.hid (hbr.out.trans (hbl.mono hbr.out.size))
             clear hg hp2 hbl)
          | (go_at_call 13
             refine (hnum.out _ _).mono ?_
             rintro e wn ⟨rfl, rfl⟩)
          | (go_at_call 9
             refine (hwk.out _).mono ?_
             rintro e w9 ⟨rfl, hbl⟩
             have hb9 := Lib.hid (((hb7.out.al _).al _).trans (hbl.mono ((hb7.out.al _).al _).size))
             clear hbl))
        go_ret
        exact ⟨rfl, hb9.out⟩
      | ok l2 =>
        rw [hx2] at hp2
        unfold PgPost at hp2
        dsimp only at hp2
        replace hp2 := Lib.hid hp2
        clear hx2
        go_wp2_with (first
          | (go_at_call 15
             have hg := hp2
             refine (hp2.out _).mono ?_
             rintro e w7 ⟨R0, R1, R2, R3, R4, R5, rfl, hbl, hpg⟩
             have hb7 := Lib.hid (hbr.out.trans (hbl.mono hbr.out.size))
             obtain ⟨v0, c0, rfl⟩ := Prg.form0 hpg; obtain ⟨v1, c1, rfl⟩ := Prg.form1 hpg; obtain ⟨v2, c2, rfl⟩ := Prg.form2 hpg; obtain ⟨v3, c3, rfl⟩ := Prg.form3 hpg; obtain ⟨v4, c4, rfl⟩ := Prg.form4 hpg; obtain ⟨v5, c5, rfl⟩ := Prg.form5 hpg
             clear hg hp2 hbl hpg)
          | (go_at_call 13
             refine (hnum.out _ _).mono ?_
             rintro e wn ⟨rfl, rfl⟩)
          | (go_at_call 9
             refine (hwk.out _).mono ?_
             rintro e w9 ⟨rfl, hbl⟩
             have hb9 := Lib.hid (((hb7.out.al _).al _).trans (hbl.mono ((hb7.out.al _).al _).size))
             clear hbl))
        go_ret
        exact ⟨rfl, hb9.out⟩
theorem law_ParseOffsets (s t : ByteArray) (w : World) (_ : s.size ≤ 140737488351232) (_ : t.size ≤ 140737488351232) :
    Calls Try.prog 4 #[.string s, .string t] w fun e w' => e = .returned (.bool true) ∧ Below w.heap.size w w' := by
  by_cases hl : 20000 < s.size ∨ 20000 < t.size
  · exact law8_offs_long s t w hl
  have h0 : s.size ≤ 20000 := by omega
  have h1 : t.size ≤ 20000 := by omega
  cases hx : psText s with
  | ok l => exact law8_offs_ok s t w h0 h1 l hx
  | error x =>
    have hr := psFar_range s
    have hF : psFar s = x := by unfold psFar; rw [hx]
    rw [hF] at hr
    obtain ⟨k, rfl⟩ : ∃ k : Nat, x = (k : Int) := ⟨x.toNat, by omega⟩
    by_cases hk : k < s.size
    · exact law8_offs_stuck s t w h0 h1 k hk hx
    · have hk2 : k = s.size := by omega
      subst hk2
      exact law8_offs_open s t w h0 h1 hx
end Go.Proofs.Ytmjincocmhadeaa
