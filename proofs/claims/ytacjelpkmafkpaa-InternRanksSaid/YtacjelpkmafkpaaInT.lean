/- Intern: the law InternRanks, walked. -/
import Derived.Test.YtacjelpkmafkpaaInS
namespace Go.Proofs.Ytacjelpkmafkpaa
open Go.RowKit It Go.Sort
set_option maxHeartbeats 8000000
set_option maxRecDepth 100000
/-- two tables apart -/
structure Two (w : World) (b : Nat) (v : Value) (mb : Nat) (L : List ByteArray) (B2 u : Nat) (v2 : Value) (mu : Nat) (U : List ByteArray) (W : World) : Prop where
  tab : Tab W w.heap.size b v mb L
  tu : Tab W B2 u v2 mu U
  bel : Below w.heap.size w W
  ap : ∀ k, TabB u v2 mu k → ¬ TabB b v mb k
  b2 : w.heap.size ≤ B2
theorem Two.below {w W W' : World} {b mb B2 u mu : Nat} {v v2 : Value} {L U : List ByteArray} (h : Two w b v mb L B2 u v2 mu U W) (hb : Below W.heap.size W W') : Two w b v mb L B2 u v2 mu U W' :=
  ⟨h.tab.below hb, h.tu.below hb, h.bel.trans (hb.mono h.bel.size), h.ap, h.b2⟩
/-- the first table takes texts -/
theorem Two.put1 {w W W' : World} {b mb B2 u mu : Nat} {v v2 v' : Value} {L U L' : List ByteArray} (h : Two w b v mb L B2 u v2 mu U W) (hT : Tab W' w.heap.size b v' mb L') (hk : KeptR (TabB b v mb) W W') (hv : ∀ k, v'.ownBlock = some k → v.ownBlock = some k ∨ W.heap.size ≤ k) :
    Two w b v' mb L' B2 u v2 mu U W' := by
  refine ⟨hT, h.tu.kept hk h.ap, h.bel.trans (below_kept hk h.bel.size (fun k hs => (h.tab.lt k hs).1)), fun k hk2 hs => ?_, h.b2⟩
  have hlt := (h.tu.lt k hk2).2
  rcases hs with hs | hs | hs
  · exact h.ap k hk2 (.inl hs)
  · exact h.ap k hk2 (.inr (.inl hs))
  · rcases hv k hs with h1 | h1
    · exact h.ap k hk2 (.inr (.inr h1))
    · omega
/-- the second table takes texts -/
theorem Two.put2 {w W W' : World} {b mb B2 u mu : Nat} {v v2 v' : Value} {L U U' : List ByteArray} (h : Two w b v mb L B2 u v2 mu U W) (hT : Tab W' B2 u v' mu U') (hk : KeptR (TabB u v2 mu) W W') (hv : ∀ k, v'.ownBlock = some k → v2.ownBlock = some k ∨ W.heap.size ≤ k) :
    Two w b v mb L B2 u v' mu U' W' := by
  refine ⟨h.tab.kept hk (fun k h1 h2 => h.ap k h2 h1), hT, h.bel.trans (below_kept hk h.bel.size (fun k hs => Nat.le_trans h.b2 (h.tu.lt k hs).1)), fun k hk2 hs => ?_, h.b2⟩
  have hlt := (h.tab.lt k hs).2
  rcases hk2 with hk2 | hk2 | hk2
  · exact h.ap k (.inl hk2) hs
  · exact h.ap k (.inr (.inl hk2)) hs
  · rcases hv k hk2 with h1 | h1
    · exact h.ap k (.inr (.inr h1)) hs
    · omega
/-- the text ahead of place k -/
def lastS (M : List ByteArray) (a : List Int) (k : Nat) : ByteArray := if k = 0 then ⟨#[]⟩ else txtOf M (a.getD (k - 1) 0)
theorem in_Rising_any {w : World} {B b mb : Nat} {v : Value} {L : List ByteArray} (hT : Tab w B b v mb L) :
    Calls Try.prog 17 #[.pointer (some ⟨b, 0, none⟩)] w (RisP w L) := by
  obtain ⟨va, vc, rfl, -⟩ := own_slice hT.row
  exact in_Rising hT
theorem law_Ranks (a0 : Option Addr) (c0 : Nat) (l : List ByteArray) (w : World) (h0 : TxA w a0 l) (u0 : l.length ≤ 8796093021952) :
    Calls Try.prog 4 #[.slice a0 l.length c0] w fun e w' => e = .returned (.bool true) ∧ Below w.heap.size w w' := by
  have hfd : Hid (∀ {W : World}, Below w.heap.size w W → TxA W a0 l) := Lib.hid (fun hb => h0.below hb)
  have hsz := Lib.hid h0.size
  clear h0
  go_enter Try.func4, Try.ntmps4
  go_wp2_with (first
    | (go_at_call 6
       refine (in_New _).mono ?_
       rintro e w2 ⟨u, mu, rfl, hU2, hb2⟩
       have hW2 : Hid (Two w b (.slice none 0 0) mb [] w1.heap.size u (.slice none 0 0) mu [] w2) := Lib.hid ⟨hT1.out.below hb2, hU2, hb1.out.trans (hb2.mono hb1.out.size), fun k hk hs => by
         have h3 := (hU2.lt k hk).1
         have h4 := (hT1.out.lt k hs).2
         omega, hb1.out.size⟩
       clear hU2 hb2 hT1 hb1)
    | (go_at_call 6
       refine (in_New _).mono ?_
       rintro e w1 ⟨b, mb, rfl, hT10, hb10⟩
       have hT1 := Lib.hid hT10
       have hb1 := Lib.hid hb10
       clear hT10 hb10)
    | (go_at_call 16
       refine (w1_known _).mono ?_
       rintro e w3 ⟨rfl, hb3⟩
       have hW3 := Lib.hid (hW2.out.below hb3)
       have hle := Lib.hid (w1_lent (c := c0) (hfd.out hW3.out.bel) (by omega))
       clear hb3 hW2)
    | (go_at_call 8
       refine hle.out.mono ?_
       unfold LentP
       rintro e w4 ⟨g, cp, rfl, htx, hg1, hg2, hb4⟩
       have hW4 := Lib.hid (hW3.out.below hb4)
       have hpa := Lib.hid (in_PutAll hW4.out.tab (c := cp) htx (fun ad e _ hk => by
         injection e with e
         subst e
         have := (hW3.out.tab.lt _ hk).2
         exact absurd this (Nat.not_lt.2 hg1)) (by simp; omega))
       clear htx hg1 hg2 hb4 hle hW3)
    | (go_at_call 7
       refine hpa.out.mono ?_
       unfold AllP
       rintro e w5 ⟨g5, cp5, v5, rfl, -, -, -, hT5, hk5, hv5⟩
       have hW5 := Lib.hid (hW4.out.put1 hT5 hk5 hv5)
       clear hT5 hk5 hv5 hpa hW4))
  have hwr : IntKind.i64.wrap ((l.length : Int) - 1) = (l.length : Int) - 1 := IntWalk.i64_in _ (by omega)
  go_loopw [5] (fun i wr => ∃ (k : Nat) (U : List ByteArray) (v2 : Value), k ≤ l.length ∧ i = .int .i64 ((k : Int) - 1) ∧ Hid (Half l U k) ∧ Hid (Two w b v5 mb (putAll [] l) w1.heap.size u v2 mu U wr)) (fun i _ => (intOf i + 1).toNat)
  case atStart => exact ⟨l.length, _, _, Nat.le_refl _, by first | rfl | simp [hwr], Lib.hid (Half.start l), hW5⟩
  case round =>
    clear hW5
    obtain ⟨k, U, v2, hk, rfl, hH, hW⟩ := hrel
    by_cases hkz : 0 < k
    · obtain ⟨i, rfl⟩ : ∃ i, k = i + 1 := ⟨k - 1, by omega⟩
      have e1 : ((i + 1 : Nat) : Int) - 1 = (i : Int) := by omega
      rw [e1]
      clear e1
      have hX := hfd.out hW.out.bel
      obtain ⟨ga, off, rfl, q1⟩ := hX.cells i (by omega)
      obtain ⟨ga2, off2, e2, q2⟩ := hX.cells (l.length - 1 - i) (by omega)
      obtain ⟨rfl, rfl⟩ : ga = ga2 ∧ off = off2 := by injection e2 with e2; injection e2 with e3 e4; exact ⟨e3, e4⟩
      have hst := Lib.hid (hH.out.step (by omega))
      have z1 := hsz.out i
      have z2 := hsz.out (l.length - 1 - i)
      obtain ⟨s, hs⟩ : ∃ s, l.getD i ⟨#[]⟩ = s := ⟨_, rfl⟩
      obtain ⟨t, ht⟩ : ∃ t, l.getD (l.length - 1 - i) ⟨#[]⟩ = t := ⟨_, rfl⟩
      rw [hs] at q1 z1 hst
      rw [ht] at q2 z2 hst
      clear hs ht e2 hX
      have ki0 : (0 : Int) ≤ (i : Int) := Int.natCast_nonneg _
      have ki1 : (i : Int) < (l.length : Int) := by omega
      obtain ⟨m, hm⟩ : ∃ m, l.length - 1 - i = m := ⟨_, rfl⟩
      rw [hm] at q2
      have hw1 : IntKind.i64.wrap ((l.length : Int) - 1) = (l.length : Int) - 1 := IntWalk.i64_in _ (by omega)
      have hw2 : IntKind.i64.wrap ((l.length : Int) - 1 - (i : Int)) = (m : Int) := by rw [IntWalk.i64_in _ (by omega)]; omega
      have km0 : (0 : Int) ≤ (m : Int) := Int.natCast_nonneg _
      have km1 : (m : Int) < (l.length : Int) := by omega
      have hw3 : IntKind.i64.wrap ((i : Int) - 1) = (i : Int) - 1 := IntWalk.i64_in _ (by omega)
      have hUl := nodup_len hW.out.tu.nodup hH.out.sub
      have hpz : Hid (∀ W, Below wr.heap.size wr W → TxA W (some ⟨wr.heap.size, 0, none⟩) [s, t] → Calls Try.prog 7 #[.pointer (some ⟨u, 0, none⟩), .slice (some ⟨wr.heap.size, 0, none⟩) 2 2] W (AllP W w1.heap.size u v2 mu U [s, t])) := Lib.hid (fun W hb htx => in_PutAll (hW.out.tu.below hb) (c := 2) htx (fun ad e _ hk => by
        injection e with e
        subst e
        have := (hW.out.tu.lt _ hk).2
        exact absurd this (Nat.lt_irrefl _)) (by simp; omega))
      go_wp2_with fail
      go_region_with (first
        | (go_at_call 7
           refine (hpz.out _ ((Below.refl wr.heap.size wr).drew.al _) (two_tx wr.drew s t z1 z2)).mono ?_
           unfold AllP
           rintro e w9 ⟨g9, cp9, v9, rfl, -, -, -, hT9, hk9, hv9⟩
           have hW9 := Lib.hid ((hW.out.below ((Below.refl wr.heap.size wr).drew.al _)).put2 hT9 hk9 hv9)
           clear hT9 hk9 hv9 hpz))
      all_goals go_wp2_with fail
      all_goals go_roundw
      all_goals first
        | exact ⟨i, _, _, by omega, rfl, hst, hW9⟩
        | (simp [intOf]; done)
        | (simp [intOf]; omega)
    · obtain rfl : k = 0 := by omega
      rw [show (((0 : Nat) : Int) - 1) = -1 from rfl]
      have hXw := Lib.hid (hfd.out hW.out.bel)
      have hLn := (putAll_len l []).2
      clear hkz hwr hk
      go_wp2_with (first
        | (go_at_call 17
           refine (in_Rising_any hWA.out.tu).mono ?_
           unfold RisP
           rintro e wB ⟨oB, b', rfl, hrb, rowB, hbB⟩
           have hsm := same_at hra.out hrb hWA.out.tab.nodup hWA.out.tu.nodup (fun x => hH.out.all x)
           have hLU : U.length = (putAll [] l).length := by rw [← hrb.len, ← hra.out.len, hsm.1]
           rw [hLU] at rowB
           obtain ⟨ob, cb, rfl, -⟩ := own_slice rowB
           have rowB' := Lib.hid rowB
           have hbl := Lib.hid (hsm.1.symm.trans hra.out.len)
           have hsm' := Lib.hid hsm.2
           have rowA' := Lib.hid (own_below rowA.out hbB)
           have hWB := Lib.hid (hWA.out.below hbB)
           clear hrb rowB hbB hsm hLU rowA hWA)
        | (go_at_call 17
           refine (in_Rising_any hW.out.tab).mono ?_
           unfold RisP
           rintro e wA ⟨oA, a, rfl, hra0, rowA0, hbA⟩
           obtain ⟨oa, ca, rfl, -⟩ := own_slice rowA0
           have hra := Lib.hid hra0
           have rowA := Lib.hid rowA0
           have hWA := Lib.hid (hW.out.below hbA)
           clear hra0 rowA0 hbA hW)
        | (go_at_call 18
           refine (in_Ranks hWB.out.tab).mono ?_
           unfold RankP
           rintro e wC ⟨oC, a3, R, rfl, hra3, hR, rowC, hbC⟩
           obtain ⟨oc, cc, rfl, -⟩ := own_slice rowC
           rw [hra3.one hra.out hWB.out.tab.nodup] at hR
           have hR' := Lib.hid hR
           have rowA2 := Lib.hid (own_below rowA'.out hbC)
           have rowB2 := Lib.hid (own_below rowB'.out hbC)
           have rowC2 := Lib.hid rowC
           have hWC := Lib.hid (hWB.out.below hbC)
           have hXC := Lib.hid (hfd.out hWC.out.bel)
           have hnn : (((putAll [] l).length : Int) != ((putAll [] l).length : Int)) = false := by simp
           clear hra3 hR rowC hbC rowA' rowB' hWB)
        | (go_at_call 19
           refine (in_Len hWC.out.tab).mono ?_
           rintro e w3 ⟨rfl, rfl⟩))
      obtain ⟨M, hM⟩ : ∃ M, M = putAll [] l := ⟨_, rfl⟩
      have hin : Hid (∀ x ∈ l, x ∈ M) := Lib.hid (fun x hx => by rw [hM]; exact (mem_putAll _ _ _).2 (.inr hx))
      rw [← hM] at hWC rowA2 rowB2 rowC2 hbl hsm' hra ⊢
      have hal := Lib.hid hra.out.len
      have hMl := hWC.out.tab.len
      have hrk := Lib.hid (rk_at hra.out a.length)
      have hrl := Lib.hid (rk_len a a.length)
      clear hM hH hfd
      go_loopw [9, 10, 11, 12, 13, 14] (fun last i _ _ _ _ wr => ∃ k : Nat, k ≤ M.length ∧ i = .int .i64 k ∧ last = .string (lastS M a k) ∧ wC = wr) (fun _ i _ _ _ _ _ => M.length - (intOf i).toNat)
      case atStart => exact ⟨0, Nat.zero_le _, rfl, rfl, by trivial⟩
      case round =>
        obtain ⟨k, hk, rfl, rfl, rfl⟩ := hrel
        by_cases hlk : k < M.length
        · obtain ⟨ga, rfl, q1⟩ := int_cell rowA2.out k (by have := hal.out; omega)
          obtain ⟨gb, rfl, q2⟩ := int_cell rowB2.out k (by have := hbl.out; omega)
          obtain ⟨o1, o2, o3, o4⟩ := hsm'.out k (by have := hal.out; omega)
          have hr1 := hrk.out k (by have := hal.out; omega) (Nat.le_refl _)
          have hn1 : 0 ≤ a.getD k 0 ∧ a.getD k 0 < M.length := o1
          obtain ⟨gc, rfl, q3⟩ := int_cell rowC2.out (a.getD k 0).toNat (by rw [hR'.out, hrl.out, hal.out]; omega)
          rw [hR'.out, hr1] at q3
          obtain ⟨na, hna⟩ : ∃ na : Nat, a.getD k 0 = (na : Int) := ⟨(a.getD k 0).toNat, by omega⟩
          rw [hna] at q1 q3 hn1 o1
          simp only [Int.toNat_natCast] at q3
          have hla : lastS M a (k + 1) = txtOf M (na : Int) := by show txtOf M (a.getD k 0) = _; rw [hna]
          have ht1 := Lib.hid (in_Text hWC.out.tab (na : Int))
          have ht2 := Lib.hid (in_Text hWC.out.tu (b'.getD k 0))
          rw [decide_eq_true o1] at ht1
          rw [decide_eq_true o2, ← o3, hna] at ht2
          have hst : Hid (0 < k → (lastS M a k).data.toList < (txtOf M (na : Int)).data.toList) := Lib.hid (fun h0 => by
            have h9 := o4 (k - 1) (by omega)
            rw [hna] at h9
            have : lastS M a k = txtOf M (a.getD (k - 1) 0) := by unfold lastS; rw [if_neg (by omega)]
            rw [this]; exact h9)
          clear o1 o2 o3 o4 hr1 hna
          generalize b'.getD k 0 = nb at q2 ht2
          generalize txtOf M (na : Int) = sx at ht1 ht2 hst hla
          generalize hlz : lastS M a k = lx at hst
          have hss : (sx.toList != sx.toList) = false := by simp
          have hki : (k : Int) < (M.length : Int) := by omega
          have hkz0 : (0 : Int) ≤ (k : Int) := Int.natCast_nonneg _
          have hn0 := hn1.1
          have hn2 := hn1.2
          have hkk : ((k : Int) != (k : Int)) = false := by simp
          by_cases h0 : 0 < k
          · have hle : (Op.bytesLess sx.toList lx.toList || sx.toList == lx.toList) = false := by
              have h9 := hst.out h0
              rw [Go.Proofs.bytesLess_eq, ByteArray.toList_eq, ByteArray.toList_eq]
              simp only [Bool.or_eq_false_iff, decide_eq_false_iff_not, beq_eq_false_iff_ne]
              refine ⟨fun h => List.lt_irrefl _ (List.lt_trans h h9), fun h => ?_⟩
              change sx.data.toList = lx.data.toList at h
              rw [h] at h9; exact List.lt_irrefl _ h9
            have hk1 : (0 : Int) < (k : Int) := by omega
            replace hla := Lib.hid hla
            replace hlk := Lib.hid hlk
            clear hst hlz h0 hn1
            go_wp2_with (first
              | (go_at_call_of 20 (Value.pointer (some ⟨b, 0, none⟩)); refine ht1.out.mono ?_; rintro e w3 ⟨rfl, rfl⟩)
              | (go_at_call_of 20 (Value.pointer (some ⟨u, 0, none⟩)); refine ht2.out.mono ?_; rintro e w3 ⟨rfl, rfl⟩))
            go_roundw
            case rel => exact ⟨k + 1, hlk.out, by go_num, by rw [hla.out], by trivial⟩
            case measure => have := hlk.out; simp [intOf]; omega
          · have hk1 : ¬ ((0 : Int) < (k : Int)) := by omega
            replace hla := Lib.hid hla
            replace hlk := Lib.hid hlk
            clear hst hlz h0 hn1
            go_wp2_with (first
              | (go_at_call_of 20 (Value.pointer (some ⟨b, 0, none⟩)); refine ht1.out.mono ?_; rintro e w3 ⟨rfl, rfl⟩)
              | (go_at_call_of 20 (Value.pointer (some ⟨u, 0, none⟩)); refine ht2.out.mono ?_; rintro e w3 ⟨rfl, rfl⟩))
            go_roundw
            case rel => exact ⟨k + 1, hlk.out, by go_num, by rw [hla.out], by trivial⟩
            case measure => have := hlk.out; simp [intOf]; omega
        · have hki : ¬ ((k : Int) < (M.length : Int)) := by omega
          clear hlk hsm' hrk hrl hal hbl rowA2 rowB2 rowC2
          go_wp2_with fail
          go_loopw [15, 16, 17] (fun i _ _ wr => ∃ k : Nat, k ≤ l.length ∧ i = .int .i64 k ∧ wC = wr) (fun i _ _ _ => l.length - (intOf i).toNat)
          case atStart => exact ⟨0, Nat.zero_le _, rfl, by trivial⟩
          case round =>
            obtain ⟨k4, hk4, rfl, rfl⟩ := hrel
            by_cases hl4 : k4 < l.length
            · obtain ⟨g0, f0, rfl, q4⟩ := hXC.out.cells k4 hl4
              have hm4 := hin.out _ (getD_mem hl4)
              have hz4 := hsz.out k4
              generalize l.getD k4 ⟨#[]⟩ = s4 at q4 hm4 hz4
              have hf4 := Lib.hid (in_Find hWC.out.tab s4 (by unfold maxLen; omega))
              rw [decide_eq_true hm4] at hf4
              have hki4 : (k4 : Int) < (l.length : Int) := by omega
              have hkz4 : (0 : Int) ≤ (k4 : Int) := Int.natCast_nonneg _
              go_wp2_with (go_at_call 21; refine hf4.out.mono ?_; rintro e w3 ⟨⟨c4, rfl, -⟩, rfl⟩)
              go_roundw
              case rel => exact ⟨k4 + 1, by omega, by go_num, by trivial⟩
              case measure => simp [intOf]; omega
            · have hki4 : ¬ ((k4 : Int) < (l.length : Int)) := by omega
              go_wp2_with fail
              go_ret
              exact ⟨rfl, hWC.out.bel⟩
end Go.Proofs.Ytacjelpkmafkpaa
