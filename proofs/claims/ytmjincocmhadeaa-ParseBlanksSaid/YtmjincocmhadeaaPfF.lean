/- Parse: ParseBlanks. -/
import Derived.Test.YtmjincocmhadeaaPfE
namespace Go.Proofs.Ytmjincocmhadeaa
open Go.RowKit Lx
theorem sts_same {R : Nat → Nat → Prop} {m z : List Stmt} (h : StsR R m z) : inpsOf z = inpsOf m ∧ outsOf z = outsOf m ∧ rulesOf z = rulesOf m ∧ (inAts z).length = (inAts m).length ∧ (outAts z).length = (outAts m).length ∧ (ruAts z).length = (ruAts m).length := by
  induction h with
  | nil => exact ⟨rfl, rfl, rfl, rfl, rfl, rfl⟩
  | cons x y l m hx _ ih =>
    obtain ⟨i0, i1, i2, i3, i4, i5⟩ := ih
    cases hx with
    | inp p n f a b hr => simp [inpsOf, outsOf, rulesOf, inAts, outAts, ruAts] at *; exact ⟨i0, i1, i2, i3, i4, i5⟩
    | outp p n a b hr => simp [inpsOf, outsOf, rulesOf, inAts, outAts, ruAts] at *; exact ⟨i0, i1, i2, i3, i4, i5⟩
    | rule r a b hr => simp [inpsOf, outsOf, rulesOf, inAts, outAts, ruAts] at *; exact ⟨i0, i1, i2, i3, i4, i5⟩
/-- lines with blanks behind them: the same program, or none with either -/
theorem text_blank {P M : ByteArray} (h : Wid (bl P) (bl M)) (hl : (bl P).length ≤ (bl M).length) : (∃ l m, psText P = .ok l ∧ psText M = .ok m ∧ ∃ R, StsR R l m) ∨ (∃ x y : Int, psText P = .error x ∧ psText M = .error y) := by
  have h1 := eq_prog P
  have h2 := eq_prog M
  have h3 := wid_prog h hl
  cases hp : psText P with
  | error x =>
    rw [hp] at h1
    cases hr : rProg (bl P) with
    | ok y => rw [hr] at h1; exact h1.elim
    | error e =>
      rw [hr] at h3
      cases hq : rProg (bl M) with
      | ok y => rw [hq] at h3; exact h3.elim
      | error f =>
        rw [hq] at h2
        cases hm : psText M with
        | ok y => rw [hm] at h2; exact h2.elim
        | error y => exact .inr ⟨x, y, rfl, rfl⟩
  | ok l =>
    rw [hp] at h1
    cases hr : rProg (bl P) with
    | error e => rw [hr] at h1; exact h1.elim
    | ok y =>
      rw [hr] at h3 h1
      cases hq : rProg (bl M) with
      | error f => rw [hq] at h3; exact h3.elim
      | ok u =>
        rw [hq] at h2 h3
        cases hm : psText M with
        | error y => rw [hm] at h2; exact h2.elim
        | ok m =>
          rw [hm] at h2
          have e1 : l = y.1 := h1
          have e2 : m = u.1 := h2
          exact .inl ⟨l, m, rfl, rfl, _, by rw [e1, e2]; exact h3.1⟩
theorem cnt_none (T G : List ByteArray) (k : Nat) (h : G.length = 0) : cntN T G (k + 1) = cntN T G k + (T.getD k ⟨#[]⟩).size := by
  show (if G.length = 0 then _ else _) = _
  rw [if_pos h]
theorem cnt_some (T G : List ByteArray) (k : Nat) (h : ¬ G.length = 0) : cntN T G (k + 1) = cntN T G k + (T.getD k ⟨#[]⟩).size + (G.getD (k % G.length) ⟨#[]⟩).size := by
  show (if G.length = 0 then _ else _) = _
  rw [if_neg h]
theorem cnt_big (T G : List ByteArray) : ∀ k, k ≤ T.length → T.length ≤ cntN T G k
  | 0, _ => Nat.le_refl _
  | k + 1, h => by
    have := cnt_big T G k (by omega)
    unfold cntN
    split <;> omega
theorem cnt_step (T G : List ByteArray) (k : Nat) : cntN T G k ≤ cntN T G (k + 1) := by
  conv => rhs; unfold cntN
  split <;> omega
theorem cnt_mono (T G : List ByteArray) {j k : Nat} (h : j ≤ k) : cntN T G j ≤ cntN T G k := by
  induction k with
  | zero => have : j = 0 := by omega
            subst this; exact Nat.le_refl _
  | succ k ih =>
    rcases Nat.lt_or_ge j (k + 1) with h1 | h1
    · exact Nat.le_trans (ih (by omega)) (cnt_step T G k)
    · have : j = k + 1 := by omega
      subst this; exact Nat.le_refl _
set_option maxHeartbeats 4000000 in
set_option maxRecDepth 100000 in
/-- behind the lines: both programs -/
theorem law_ParseBlanks (ta ga : Option Addr) (tc gc : Nat) (T G : List ByteArray) (w : World) (hT : TxA w ta T) (hG : TxA w ga G) :
    Calls Try.prog 6 #[.slice ta T.length tc, .slice ga G.length gc] w fun e w' => e = .returned (.bool true) ∧ Below w.heap.size w w' := by
  have hlT := hT.len
  have hlG := hG.len
  have hwk := Lib.hid w8_works
  go_enter Try.func6, Try.ntmps6
  go_wp2_with fail
  go_loopw [5, 6] (fun n i wr => ∃ k : Nat, k ≤ T.length ∧ i = .int .i64 k ∧ n = .int .i64 (cntN T G k : Nat) ∧ (cntN T G k ≤ 20000 + 281474976710656) ∧ Hid (Drawn w wr)) (fun _ i _ => T.length - (intOf i).toNat)
  case atStart => exact ⟨0, Nat.zero_le _, rfl, rfl, by unfold cntN; omega, Lib.hid ⟨0, rfl⟩⟩
  case round =>
    obtain ⟨k, hk, rfl, rfl, hn, hd⟩ := hrel
    by_cases hlt : k < T.length
    · by_cases hle : cntN T G k ≤ 20000
      · have hli : ((cntN T G k : Nat) : Int) ≤ 20000 := by omega
        have hki : (k : Int) < (T.length : Int) := by omega
        have hk0 : (0 : Int) ≤ (k : Int) := Int.natCast_nonneg _
        obtain ⟨b, off, rfl, hc⟩ := (hT.below (hd.out.below _)).cells k hlt
        have hsz := hT.size k
        by_cases hg : G.length = 0
        · have hcn : Hid (cntN T G (k + 1) = cntN T G k + (T.getD k ⟨#[]⟩).size) := Lib.hid (cnt_none T G k hg)
          generalize cntN T G k = c at hn hle hli hcn
          generalize T.getD k ⟨#[]⟩ = t at hc hsz hcn
          have hg0 : ((G.length : Nat) : Int) = 0 := by omega
          have hg1 : ¬ 0 < G.length := by omega
          go_wp2_with fail
          go_roundw
          case rel => exact ⟨k + 1, by omega, by go_num, by rw [hcn.out]; rfl, by rw [hcn.out]; omega, hd⟩
          case measure => simp [intOf]; omega
        · have hgp : 0 < G.length := by omega
          have hm : k % G.length < G.length := Nat.mod_lt _ hgp
          obtain ⟨b2, off2, rfl, hc2⟩ := (hG.below (hd.out.below _)).cells (k % G.length) hm
          have hsz2 := hG.size (k % G.length)
          have hcn : Hid (cntN T G (k + 1) = cntN T G k + (T.getD k ⟨#[]⟩).size + (G.getD (k % G.length) ⟨#[]⟩).size) := Lib.hid (cnt_some T G k hg)
          generalize cntN T G k = c at hn hle hli hcn
          generalize T.getD k ⟨#[]⟩ = t at hc hsz hcn
          generalize G.getD (k % G.length) ⟨#[]⟩ = g at hc2 hsz2 hcn
          have hgi : (0 : Int) < ((G.length : Nat) : Int) := by omega
          have hgn : ¬ ((G.length : Nat) : Int) = 0 := by omega
          have hti : Int.tmod (k : Int) (G.length : Int) = ((k % G.length : Nat) : Int) := by rw [Int.tmod_eq_emod_of_nonneg hk0]; omega
          have hm1 : ((k % G.length : Nat) : Int) < ((G.length : Nat) : Int) := by omega
          have hm0 : (0 : Int) ≤ ((k % G.length : Nat) : Int) := by omega
          clear hg
          go_wp2_with fail
          go_roundw
          case rel => exact ⟨k + 1, by omega, by go_num, by rw [hcn.out]; rfl, by rw [hcn.out]; omega, hd⟩
          case measure => simp [intOf]; omega
      · have hli : ¬ ((cntN T G k : Nat) : Int) ≤ 20000 := by omega
        have hki : (k : Int) < (T.length : Int) := by omega
        have hlj : (20000 : Int) < ((cntN T G k : Nat) : Int) := by omega
        generalize cntN T G k = c at hn hle hli hlj
        go_wp2_with (go_at_call 9; refine (hwk.out _).mono ?_; rintro e w1 ⟨rfl, hbl⟩; have hb1 := Lib.hid ((hd.out.below w.heap.size).trans (hbl.mono (hd.out.below w.heap.size).size)); clear hbl)
        go_ret
        exact ⟨rfl, hb1.out⟩
    · have hke : k = T.length := by omega
      subst hke
      generalize hcT : cntN T G T.length = c at hn
      by_cases hle : c ≤ 20000
      · have hli : ¬ (20000 : Int) < ((c : Nat) : Int) := by omega
        have hTn := cnt_big T G T.length (Nat.le_refl _)
        rw [hcT] at hTn
        have hcs : Hid (∀ j, j ≤ T.length → (plN T j).size ≤ 20000 + 20000 ∧ (wdN T G j).size ≤ 20000 + 140000) := Lib.hid fun j hj => by
          have h1 := pl_size T G j
          have h2 := cnt_mono T G hj
          rw [hcT] at h2
          omega
        have hms : Hid (∀ j, j < T.length → (T.getD j ⟨#[]⟩).size ≤ 20000 ∧ (0 < G.length → (G.getD (j % G.length) ⟨#[]⟩).size ≤ 20000)) := Lib.hid fun j hj => by
          have h2 := cnt_mono T G (show j + 1 ≤ T.length from hj)
          rw [hcT] at h2
          by_cases hg : G.length = 0
          · rw [cnt_none T G j hg] at h2
            exact ⟨by omega, fun h => by omega⟩
          · rw [cnt_some T G j hg] at h2
            exact ⟨by omega, fun _ => by omega⟩
        clear hcT
        go_wp2_with fail
        go_loopw [7, 8, 9] (fun p q i wr => ∃ k : Nat, k ≤ T.length ∧ i = .int .i64 k ∧ p = .string (plN T k) ∧ q = .string (wdN T G k) ∧ Hid (Drawn w wr)) (fun _ _ i _ => T.length - (intOf i).toNat)
        case atStart => exact ⟨0, Nat.zero_le _, rfl, rfl, rfl, hd⟩
        case round =>
          clear hd
          obtain ⟨k, hk, rfl, rfl, rfl, hd⟩ := hrel
          obtain ⟨hs1, hs2⟩ := hcs.out k hk
          by_cases hlt : k < T.length
          · have hki : (k : Int) < (T.length : Int) := by omega
            have hk0 : (0 : Int) ≤ (k : Int) := Int.natCast_nonneg _
            obtain ⟨b, off, rfl, hc⟩ := (hT.below (hd.out.below _)).cells k hlt
            obtain ⟨hsz, hszg⟩ := hms.out k hlt
            have hp1 : Hid (plN T (k + 1) = plN T k ++ T.getD k ⟨#[]⟩ ++ ⟨#[10]⟩) := Lib.hid rfl
            by_cases hg : G.length = 0
            · have hp2 : Hid (wdN T G (k + 1) = wdN T G k ++ T.getD k ⟨#[]⟩ ++ ⟨#[10]⟩) := Lib.hid (by
                show (if G.length = 0 then _ else _) = _
                rw [if_pos hg])
              generalize T.getD k ⟨#[]⟩ = t at hc hsz hp1 hp2
              generalize plN T k = p at hs1 hp1
              generalize wdN T G k = q at hs2 hp2
              have hg0 : ((G.length : Nat) : Int) = 0 := by omega
              have hg1 : ¬ 0 < G.length := by omega
              have q1 : ¬ 9223372036854775807 < p.size + t.size := by omega
              have q2 : ¬ 9223372036854775807 < p.size + t.size + 1 := by omega
              have q3 : ¬ 9223372036854775807 < q.size + t.size := by omega
              have q4 : ¬ 9223372036854775807 < q.size + t.size + 1 := by omega
              go_wp2_with fail
              go_roundw
              case rel => exact ⟨k + 1, by omega, by go_num, by rw [hp1.out], by rw [hp2.out], hd⟩
              case measure => simp [intOf]; omega
            · have hgp : 0 < G.length := by omega
              have hsg := hszg hgp
              have hm : k % G.length < G.length := Nat.mod_lt _ hgp
              obtain ⟨b2, off2, rfl, hc2⟩ := (hG.below (hd.out.below _)).cells (k % G.length) hm
              have hp2 : Hid (wdN T G (k + 1) = wdN T G k ++ T.getD k ⟨#[]⟩ ++ ⟨#[10]⟩ ++ gapS (G.getD (k % G.length) ⟨#[]⟩)) := Lib.hid (by
                show (if G.length = 0 then _ else _) = _
                rw [if_neg hg])
              have hgs := gapS_size (G.getD (k % G.length) ⟨#[]⟩)
              have hgap := fun w => w8_gap (G.getD (k % G.length) ⟨#[]⟩) w (by omega)
              generalize T.getD k ⟨#[]⟩ = t at hc hsz hp1 hp2
              generalize plN T k = p at hs1 hp1
              generalize wdN T G k = q at hs2 hp2
              generalize hgg : G.getD (k % G.length) ⟨#[]⟩ = g at hc2 hsg hp2 hgs hgap
              generalize gapS g = gg at hp2 hgs hgap
              have hgi : (0 : Int) < ((G.length : Nat) : Int) := by omega
              have hgn : ¬ ((G.length : Nat) : Int) = 0 := by omega
              have hti : Int.tmod (k : Int) (G.length : Int) = ((k % G.length : Nat) : Int) := by rw [Int.tmod_eq_emod_of_nonneg hk0]; omega
              have hm1 : ((k % G.length : Nat) : Int) < ((G.length : Nat) : Int) := by omega
              have hm0 : (0 : Int) ≤ ((k % G.length : Nat) : Int) := by omega
              have q1 : ¬ 9223372036854775807 < p.size + t.size := by omega
              have q2 : ¬ 9223372036854775807 < p.size + t.size + 1 := by omega
              have q3 : ¬ 9223372036854775807 < q.size + t.size := by omega
              have q4 : ¬ 9223372036854775807 < q.size + t.size + 1 := by omega
              have q5 : ¬ 9223372036854775807 < q.size + t.size + 1 + gg.size := by omega
              clear hg hszg hgg
              go_wp2_with (go_at_call 20; refine (hgap _).mono ?_; rintro e w1 ⟨rfl, hd2⟩; have hd1 := Lib.hid (hd.out.trans hd2); clear hd2)
              go_roundw
              case rel => exact ⟨k + 1, by omega, by go_num, by rw [hp1.out], by rw [hp2.out], hd1⟩
              case measure => simp [intOf]; omega
          · have hke : k = T.length := by omega
            subst hke
            have hwid := wid_N T G T.length
            have hwl := pl_le T G T.length
            have htb := text_blank hwid hwl
            generalize plN T T.length = P at hs1 htb
            generalize wdN T G T.length = M at hs2 htb
            clear hwid hwl hcs hms
            have hb0 := Lib.hid (hd.out.below w.heap.size)
            rcases htb with ⟨l, m, hx, hy, R, hst⟩ | ⟨x, y, hx, hy⟩
            · have hxh := Lib.hid hx
              have hyh := Lib.hid hy
              obtain ⟨s0, s1, s2, s3, s4, s5⟩ := sts_same hst
              replace s0 := Lib.hid s0
              replace s1 := Lib.hid s1
              replace s2 := Lib.hid s2
              replace s3 := Lib.hid s3
              replace s4 := Lib.hid s4
              replace s5 := Lib.hid s5
              have hp1 := fun w => pa_Program P w (by omega)
              rw [hx] at hp1
              unfold PgPost at hp1
              dsimp only at hp1
              replace hp1 := Lib.hid hp1
              have hp2 := fun w => pa_Program M w (by omega)
              rw [hy] at hp2
              unfold PgPost at hp2
              dsimp only at hp2
              replace hp2 := Lib.hid hp2
              clear hx hy hst
              have hs1' : Hid (P.size ≤ 4194304) := Lib.hid (by omega)
              have hs2' : Hid (M.size ≤ 4194304) := Lib.hid (by omega)
              go_wp2_with (first
                | (go_at_call 15
                   have hg := hp1
                   refine (hp1.out _).mono ?_
                   rintro e w1 ⟨R0, R1, R2, R3, R4, R5, rfl, hbl, hpg⟩
                   have hb1 := Lib.hid (hb0.out.trans (hbl.mono hb0.out.size))
                   obtain ⟨v0, c0, rfl⟩ := Prg.form0 hpg
                   obtain ⟨v1, c1, rfl⟩ := Prg.form1 hpg
                   obtain ⟨v2, c2, rfl⟩ := Prg.form2 hpg
                   obtain ⟨v3, c3, rfl⟩ := Prg.form3 hpg
                   obtain ⟨v4, c4, rfl⟩ := Prg.form4 hpg
                   obtain ⟨v5, c5, rfl⟩ := Prg.form5 hpg
                   have hr1 := Lib.hid (prg_rows hs1'.out hxh.out hpg)
                   clear hg hp1 hbl hpg)
                | (go_at_call 15
                   have hg := hp2
                   refine (hp2.out _).mono ?_
                   rintro e w2 ⟨R0, R1, R2, R3, R4, R5, rfl, hbl, hpg⟩
                   have hb2 := Lib.hid (((hb1.out.al _).al _).trans (hbl.mono ((hb1.out.al _).al _).size))
                   obtain ⟨u0, d0, hh0⟩ := Prg.form0 hpg
                   rw [show (inpsOf m).length = (inpsOf l).length from by rw [s0.out]] at hh0
                   subst hh0
                   obtain ⟨u1, d1, hh1⟩ := Prg.form1 hpg
                   rw [show (outsOf m).length = (outsOf l).length from by rw [s1.out]] at hh1
                   subst hh1
                   obtain ⟨u2, d2, hh2⟩ := Prg.form2 hpg
                   rw [show (rulesOf m).length = (rulesOf l).length from by rw [s2.out]] at hh2
                   subst hh2
                   obtain ⟨u3, d3, hh3⟩ := Prg.form3 hpg
                   rw [show (inAts m).length = (inAts l).length from s3.out] at hh3
                   subst hh3
                   obtain ⟨u4, d4, hh4⟩ := Prg.form4 hpg
                   rw [show (outAts m).length = (outAts l).length from s4.out] at hh4
                   subst hh4
                   obtain ⟨u5, d5, hh5⟩ := Prg.form5 hpg
                   rw [show (ruAts m).length = (ruAts l).length from s5.out] at hh5
                   subst hh5
                   have hr2 := Lib.hid (prg_rows hs2'.out hyh.out hpg)
                   replace hr1 := Lib.hid (hr1.out.below (kt_cells hbl))
                   have hk1 := kt_two (hbl.trans ((((Below.refl _ _).al (.cells #[.slice u0 (inpsOf l).length d0, .slice u1 (outsOf l).length d1, .slice u2 (rulesOf l).length d2] 42)).al (.cells #[.slice u3 (inAts l).length d3, .slice u4 (outAts l).length d4, .slice u5 (ruAts l).length d5] 45)).mono hbl.size))
                   have hk2 := kt_two (Below.refl _ ((w2.alloc (.cells #[.slice u0 (inpsOf l).length d0, .slice u1 (outsOf l).length d1, .slice u2 (rulesOf l).length d2] 42)).alloc (.cells #[.slice u3 (inAts l).length d3, .slice u4 (outAts l).length d4, .slice u5 (ruAts l).length d5] 45)))
                   have hcl : Hid (∀ w', Below ((w2.alloc (.cells #[.slice u0 (inpsOf l).length d0, .slice u1 (outsOf l).length d1, .slice u2 (rulesOf l).length d2] 42)).alloc (.cells #[.slice u3 (inAts l).length d3, .slice u4 (outAts l).length d4, .slice u5 (ruAts l).length d5] 45)).heap.size ((w2.alloc (.cells #[.slice u0 (inpsOf l).length d0, .slice u1 (outsOf l).length d1, .slice u2 (rulesOf l).length d2] 42)).alloc (.cells #[.slice u3 (inAts l).length d3, .slice u4 (outAts l).length d4, .slice u5 (ruAts l).length d5] 45)) w' → w'.cell? ⟨w1.heap.size, 0, none⟩ = some (.slice v0 (inpsOf l).length c0) ∧ w'.cell? ⟨w1.heap.size, 1, none⟩ = some (.slice v1 (outsOf l).length c1) ∧ w'.cell? ⟨w1.heap.size, 2, none⟩ = some (.slice v2 (rulesOf l).length c2) ∧ w'.cell? ⟨w2.heap.size, 0, none⟩ = some (.slice u0 (inpsOf l).length d0) ∧ w'.cell? ⟨w2.heap.size, 1, none⟩ = some (.slice u1 (outsOf l).length d1) ∧ w'.cell? ⟨w2.heap.size, 2, none⟩ = some (.slice u2 (rulesOf l).length d2) ∧ w'.cell? ⟨w1.heap.size + 1, 0, none⟩ = some (.slice v3 (inAts l).length c3) ∧ w'.cell? ⟨w1.heap.size + 1, 1, none⟩ = some (.slice v4 (outAts l).length c4) ∧ w'.cell? ⟨w1.heap.size + 1, 2, none⟩ = some (.slice v5 (ruAts l).length c5) ∧ w'.cell? ⟨w2.heap.size + 1, 0, none⟩ = some (.slice u3 (inAts l).length d3) ∧ w'.cell? ⟨w2.heap.size + 1, 1, none⟩ = some (.slice u4 (outAts l).length d4) ∧ w'.cell? ⟨w2.heap.size + 1, 2, none⟩ = some (.slice u5 (ruAts l).length d5)) := Lib.hid fun w' hb => ⟨cell_below hb rfl ((cell_of_row _ _ 0 _ _ _ hk1.2.1).trans rfl), cell_below hb rfl ((cell_of_row _ _ 1 _ _ _ hk1.2.1).trans rfl), cell_below hb rfl ((cell_of_row _ _ 2 _ _ _ hk1.2.1).trans rfl), cell_below hb rfl ((cell_of_row _ _ 0 _ _ _ hk2.2.1).trans rfl), cell_below hb rfl ((cell_of_row _ _ 1 _ _ _ hk2.2.1).trans rfl), cell_below hb rfl ((cell_of_row _ _ 2 _ _ _ hk2.2.1).trans rfl), cell_below hb rfl ((cell_of_row _ _ 0 _ _ _ hk1.2.2).trans rfl), cell_below hb rfl ((cell_of_row _ _ 1 _ _ _ hk1.2.2).trans rfl), cell_below hb rfl ((cell_of_row _ _ 2 _ _ _ hk1.2.2).trans rfl), cell_below hb rfl ((cell_of_row _ _ 0 _ _ _ hk2.2.2).trans rfl), cell_below hb rfl ((cell_of_row _ _ 1 _ _ _ hk2.2.2).trans rfl), cell_below hb rfl ((cell_of_row _ _ 2 _ _ _ hk2.2.2).trans rfl)⟩
                   obtain ⟨k0, k1, k2, k3, k4, k5, k6, k7, k8, k9, k10, k11⟩ := hcl.out _ (Below.refl _ _)
                   clear hk1 hk2
                   have hi := hr2.out.i
                   rw [s0.out] at hi
                   have ho := hr2.out.o
                   rw [s1.out] at ho
                   have hu := hr2.out.r
                   rw [s2.out] at hu
                   have hkp := Lib.hid (kt_program (inpsOf l) (outsOf l) (rulesOf l) v0 v1 v2 u0 u1 u2 c0 c1 c2 d0 d1 d2 ((w2.alloc (.cells #[.slice u0 (inpsOf l).length d0, .slice u1 (outsOf l).length d1, .slice u2 (rulesOf l).length d2] 42)).alloc (.cells #[.slice u3 (inAts l).length d3, .slice u4 (outAts l).length d4, .slice u5 (ruAts l).length d5] 45)) (hr1.out.i.below (((Below.refl _ _).al _).al _)) (hi.below (((Below.refl _ _).al _).al _)) (hr1.out.o.below (((Below.refl _ _).al _).al _)) (ho.below (((Below.refl _ _).al _).al _)) (hr1.out.r.below (((Below.refl _ _).al _).al _)) (hu.below (((Below.refl _ _).al _).al _)))
                   clear hg hp2 hbl hpg hr1 hr2 hi ho hu)
                | (go_at_call 18
                   refine hkp.out.mono ?_
                   rintro e w3 ⟨rfl, hbl⟩
                   obtain ⟨l0, l1, l2, l3, l4, l5, l6, l7, l8, l9, l10, l11⟩ := hcl.out _ hbl
                   have hb3 := Lib.hid (((hb2.out.al _).al _).trans (hbl.mono ((hb2.out.al _).al _).size))
                   clear hbl k0 k1 k2 k3 k4 k5 k6 k7 k8 k9 k10 k11)
                | (go_at_call 9
                   refine (hwk.out _).mono ?_
                   rintro e w4 ⟨rfl, hbl⟩
                   have hb4 := Lib.hid (hb3.out.trans (hbl.mono hb3.out.size))
                   clear hbl))
              go_ret
              exact ⟨rfl, hb4.out⟩
            · have hp1 := fun w => pa_Program P w (by omega)
              rw [hx] at hp1
              unfold PgPost at hp1
              dsimp only at hp1
              replace hp1 := Lib.hid hp1
              have hp2 := fun w => pa_Program M w (by omega)
              rw [hy] at hp2
              unfold PgPost at hp2
              dsimp only at hp2
              replace hp2 := Lib.hid hp2
              clear hx hy
              go_wp2_with (first
                | (go_at_call 15
                   have hg := hp1
                   refine (hp1.out _).mono ?_
                   rintro e w1 ⟨rfl, hbl⟩
                   have hb1 := Lib.hid (hb0.out.trans (hbl.mono hb0.out.size))
                   clear hg hp1 hbl)
                | (go_at_call 15
                   have hg := hp2
                   refine (hp2.out _).mono ?_
                   rintro e w2 ⟨rfl, hbl⟩
                   have hb2 := Lib.hid (((hb1.out.al _).al _).trans (hbl.mono ((hb1.out.al _).al _).size))
                   have hk1 := kt_two (hbl.trans ((((Below.refl _ _).al (.cells #[.slice none 0 0, .slice none 0 0, .slice none 0 0] 42)).al (.cells #[.slice none 0 0, .slice none 0 0, .slice none 0 0] 45)).mono hbl.size))
                   have hk2 := kt_two (Below.refl _ ((w2.alloc (.cells #[.slice none 0 0, .slice none 0 0, .slice none 0 0] 42)).alloc (.cells #[.slice none 0 0, .slice none 0 0, .slice none 0 0] 45)))
                   have hcl : Hid (∀ w', Below ((w2.alloc (.cells #[.slice none 0 0, .slice none 0 0, .slice none 0 0] 42)).alloc (.cells #[.slice none 0 0, .slice none 0 0, .slice none 0 0] 45)).heap.size ((w2.alloc (.cells #[.slice none 0 0, .slice none 0 0, .slice none 0 0] 42)).alloc (.cells #[.slice none 0 0, .slice none 0 0, .slice none 0 0] 45)) w' → w'.cell? ⟨w1.heap.size, 0, none⟩ = some (.slice none 0 0) ∧ w'.cell? ⟨w1.heap.size, 1, none⟩ = some (.slice none 0 0) ∧ w'.cell? ⟨w1.heap.size, 2, none⟩ = some (.slice none 0 0) ∧ w'.cell? ⟨w2.heap.size, 0, none⟩ = some (.slice none 0 0) ∧ w'.cell? ⟨w2.heap.size, 1, none⟩ = some (.slice none 0 0) ∧ w'.cell? ⟨w2.heap.size, 2, none⟩ = some (.slice none 0 0) ∧ w'.cell? ⟨w1.heap.size + 1, 0, none⟩ = some (.slice none 0 0) ∧ w'.cell? ⟨w1.heap.size + 1, 1, none⟩ = some (.slice none 0 0) ∧ w'.cell? ⟨w1.heap.size + 1, 2, none⟩ = some (.slice none 0 0) ∧ w'.cell? ⟨w2.heap.size + 1, 0, none⟩ = some (.slice none 0 0) ∧ w'.cell? ⟨w2.heap.size + 1, 1, none⟩ = some (.slice none 0 0) ∧ w'.cell? ⟨w2.heap.size + 1, 2, none⟩ = some (.slice none 0 0)) := Lib.hid fun w' hb => ⟨cell_below hb rfl ((cell_of_row _ _ 0 _ _ _ hk1.2.1).trans rfl), cell_below hb rfl ((cell_of_row _ _ 1 _ _ _ hk1.2.1).trans rfl), cell_below hb rfl ((cell_of_row _ _ 2 _ _ _ hk1.2.1).trans rfl), cell_below hb rfl ((cell_of_row _ _ 0 _ _ _ hk2.2.1).trans rfl), cell_below hb rfl ((cell_of_row _ _ 1 _ _ _ hk2.2.1).trans rfl), cell_below hb rfl ((cell_of_row _ _ 2 _ _ _ hk2.2.1).trans rfl), cell_below hb rfl ((cell_of_row _ _ 0 _ _ _ hk1.2.2).trans rfl), cell_below hb rfl ((cell_of_row _ _ 1 _ _ _ hk1.2.2).trans rfl), cell_below hb rfl ((cell_of_row _ _ 2 _ _ _ hk1.2.2).trans rfl), cell_below hb rfl ((cell_of_row _ _ 0 _ _ _ hk2.2.2).trans rfl), cell_below hb rfl ((cell_of_row _ _ 1 _ _ _ hk2.2.2).trans rfl), cell_below hb rfl ((cell_of_row _ _ 2 _ _ _ hk2.2.2).trans rfl)⟩
                   obtain ⟨k0, k1, k2, k3, k4, k5, k6, k7, k8, k9, k10, k11⟩ := hcl.out _ (Below.refl _ _)
                   clear hk1 hk2
                   have hkp := Lib.hid (kt_program [] [] [] none none none none none none 0 0 0 0 0 0 ((w2.alloc (.cells #[.slice none 0 0, .slice none 0 0, .slice none 0 0] 42)).alloc (.cells #[.slice none 0 0, .slice none 0 0, .slice none 0 0] 45)) (RI.nil _ _) (RI.nil _ _) (RO.nil _ _) (RO.nil _ _) (RR.nil _ _) (RR.nil _ _))
                   clear hg hp2 hbl)
                | (go_at_call 18
                   refine hkp.out.mono ?_
                   rintro e w3 ⟨rfl, hbl⟩
                   obtain ⟨l0, l1, l2, l3, l4, l5, l6, l7, l8, l9, l10, l11⟩ := hcl.out _ hbl
                   have hb3 := Lib.hid (((hb2.out.al _).al _).trans (hbl.mono ((hb2.out.al _).al _).size))
                   clear hbl k0 k1 k2 k3 k4 k5 k6 k7 k8 k9 k10 k11)
                | (go_at_call 9
                   refine (hwk.out _).mono ?_
                   rintro e w4 ⟨rfl, hbl⟩
                   have hb4 := Lib.hid (hb3.out.trans (hbl.mono hb3.out.size))
                   clear hbl))
              go_ret
              exact ⟨rfl, hb4.out⟩
      · have hli : (20000 : Int) < ((c : Nat) : Int) := by omega
        clear hcT
        go_wp2_with (go_at_call 9; refine (hwk.out _).mono ?_; rintro e w1 ⟨rfl, hbl⟩; have hb1 := Lib.hid ((hd.out.below w.heap.size).trans (hbl.mono (hd.out.below w.heap.size).size)); clear hbl)
        go_ret
        exact ⟨rfl, hb1.out⟩
end Go.Proofs.Ytmjincocmhadeaa
