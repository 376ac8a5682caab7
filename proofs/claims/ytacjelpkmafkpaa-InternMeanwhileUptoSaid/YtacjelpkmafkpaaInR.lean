/- Intern: the law InternLists. -/
import Derived.Test.YtacjelpkmafkpaaInQ
namespace Go.Proofs.Ytacjelpkmafkpaa
open Go.RowKit It
set_option maxHeartbeats 8000000
set_option maxRecDepth 100000
def tL (L : List ByteArray) (ns : List Int) : List ByteArray := if getsB L ns = true then ns.map (txtOf L) else []
def cL (L : List ByteArray) (ns : List Int) : Int := if getsB L ns = true then 0 else 2
theorem tL_len (L : List ByteArray) (ns : List Int) : (tL L ns).length ≤ ns.length := by unfold tL; split <;> simp
theorem tL_size {L : List ByteArray} {M : Nat} (h : ∀ s ∈ L, s.size ≤ M) (ns : List Int) : ∀ s ∈ tL L ns, s.size ≤ M := by
  intro s hs
  unfold tL at hs
  split at hs
  · obtain ⟨n, -, rfl⟩ := List.mem_map.1 hs
    unfold txtOf
    split
    · rename_i h2
      rw [List.getD_eq_getElem?_getD, List.getElem?_eq_getElem (by have := h2.1; have := h2.2; omega)]
      exact h _ (List.getElem_mem _)
    · exact Nat.zero_le _
  · cases hs
section
variable {w w' : World} {L : List ByteArray} {ns : List Int} {e : Ending}
theorem texts_q (h : TextsP w L ns e w') : Below w.heap.size w w' ∧ ∃ oa ca, e = .returned (.tuple #[.slice oa (tL L ns).length ca, .int .i64 (cL L ns)]) ∧ w'.ownsRow w.heap.size 9 1 (.slice oa (tL L ns).length ca) (tL L ns).length (strs (tL L ns)) := by
  obtain ⟨hb, ⟨hg, g, cp, he, hr⟩ | ⟨hg, he⟩⟩ := h
  · refine ⟨hb, some ⟨g, 0, none⟩, cp, ?_, ?_⟩
    · rw [he]; simp [tL, cL, hg]
    · simpa [tL, hg] using hr
  · refine ⟨hb, none, 0, ?_, ?_⟩
    · rw [he]; simp [tL, cL, hg]
    · simp only [tL, hg]; exact World.ownsRow_nil _ _ _ _
theorem rtexts_q (h : RTextsP w L ns e w') : Below w.heap.size w w' ∧ ∃ oa ca, e = .returned (.tuple #[.slice oa (tL L ns).length ca, .int .i64 (cL L ns)]) ∧ w'.ownsRow w.heap.size 9 1 (.slice oa (tL L ns).length ca) (tL L ns).length (strs (tL L ns)) := by
  obtain ⟨hb, ⟨hg, va, vc, he, hr⟩ | ⟨hg, he⟩⟩ := h
  · refine ⟨hb, va, vc, ?_, ?_⟩
    · rw [he]; simp [tL, cL, hg]
    · simpa [tL, hg] using hr
  · refine ⟨hb, none, 0, ?_, ?_⟩
    · rw [he]; simp [tL, cL, hg]
    · simp only [tL, hg]; exact World.ownsRow_nil _ _ _ _
theorem below_kept {A C : World} {B : Nat} {S : Nat → Prop} (h : KeptR S A C) (hB : B ≤ A.heap.size) (hS : ∀ k, S k → B ≤ k) : Below B A C :=
  ⟨h.os, h.tape, h.output, h.size, fun k hk => h.block k (Nat.lt_of_lt_of_le hk hB) (fun hs => by have := hS k hs; omega)⟩
end
/-- both tables, gone through from an empty start -/
structure Both (w : World) (b : Nat) (v : Value) (mb Br rb : Nat) (rv : Value) (L : List ByteArray) (W : World) : Prop where
  tab : Tab W w.heap.size b v mb L
  rt : RTab W Br rb rv L
  bel : Below w.heap.size w W
  br : w.heap.size ≤ Br
theorem Both.below {w W W' : World} {b mb Br rb : Nat} {v rv : Value} {L : List ByteArray} (h : Both w b v mb Br rb rv L W) (hb : Below W.heap.size W W') : Both w b v mb Br rb rv L W' :=
  ⟨h.tab.below hb, h.rt.below hb, h.bel.trans (hb.mono h.bel.size), h.br⟩
/-- new tables: the boxes laid, nothing in them -/
theorem both_start {w w1 : World} {b mb : Nat} (hT1 : Tab w1 w.heap.size b (.slice none 0 0) mb []) (hb1 : Below w.heap.size w w1) :
    Both w b (.slice none 0 0) mb w1.heap.size w1.heap.size (.slice none 0 0) [] (w1.alloc (.cells #[.slice none 0 0] 27)) :=
  ⟨hT1.below ((Below.refl _ _).al _), ⟨heap_alloc_new _ _, World.ownsRow_nil _ _ _ _, Nat.zero_le _, Nat.le_refl _⟩, hb1.al _, hb1.size⟩
theorem both_put {w W W2 : World} {b mb Br rb : Nat} {L : List ByteArray} {v4 : Value} (h : Both w b (.slice none 0 0) mb Br rb (.slice none 0 0) [] W) (hrb : ∀ k, TabB b (.slice none 0 0) mb k → k ≠ rb) (hk : KeptR (TabB b (.slice none 0 0) mb) W W2) (hT : Tab W2 w.heap.size b v4 mb L) :
    Tab W2 w.heap.size b v4 mb L ∧ RTab W2 Br rb (.slice none 0 0) [] ∧ Below w.heap.size w W2 := by
  refine ⟨hT, h.rt.kept hk (fun k hk2 hs => ?_), h.bel.trans (below_kept hk h.bel.size (fun k hs => (h.tab.lt k hs).1))⟩
  rcases hk2 with rfl | e
  · exact hrb _ hs rfl
  · cases e
theorem w1_goes_any {w : World} {B b mb Br rb : Nat} {v rv : Value} {L : List ByteArray} (hT : Tab w B b v mb L) (hR : RTab w Br rb rv L) :
    Calls Try.prog 15 #[.pointer (some ⟨b, 0, none⟩), .pointer (some ⟨rb, 0, none⟩), .int .i64 0] w fun e w' => e = .returned (.bool true) ∧ Below w.heap.size w w' := by
  obtain ⟨va, vc, rfl, -⟩ := own_slice hT.row
  exact w1_goes hT hR
theorem law_Lists (a0 a1 : Option Addr) (c0 c1 : Nat) (l : List ByteArray) (ns : List Int) (w : World) (h0 : TxA w a0 l) (h1 : Ints .i64 w a1 ns) (u0 : l.length ≤ 1048576) (u1 : ns.length ≤ 1048576) :
    Calls Try.prog 5 #[.slice a0 l.length c0, .slice a1 ns.length c1] w fun e w' => e = .returned (.bool true) ∧ Below w.heap.size w w' := by
  replace h0 := Lib.hid h0
  replace h1 := Lib.hid h1
  go_enter Try.func5, Try.ntmps5
  go_wp2_with (first
    | (go_at_call 6
       refine (in_New _).mono ?_
       rintro e w1 ⟨b, mb, rfl, hT1, hb1⟩
       have hrb : Hid (∀ k, TabB b (.slice none 0 0) mb k → k ≠ w1.heap.size) := Lib.hid (fun k hk e => by have := (hT1.lt k hk).2; omega)
       have hB2 := Lib.hid (both_start hT1 hb1)
       have hle := Lib.hid (w1_lent (c := c0) (h0.out.below hB2.out.bel) (by omega))
       clear hT1 hb1)
    | (go_at_call 8
       refine hle.out.mono ?_
       unfold LentP
       rintro e w3 ⟨g, cp, rfl, htx, hg1, hg2, hb3⟩
       have hB3 := Lib.hid (hB2.out.below hb3)
       have hpa := Lib.hid (in_PutAll hB3.out.tab (c := cp) htx (fun ad e _ hk => by
         injection e with e
         subst e
         have := (hB2.out.tab.lt _ hk).2
         exact absurd this (Nat.not_lt.2 hg1)) (by simp; omega))
       have hs3 := Lib.hid (Nat.lt_of_lt_of_le (by rw [World.size_alloc]; exact Nat.lt_succ_self _ : w1.heap.size < (w1.alloc (.cells #[.slice none 0 0] 27)).heap.size) hb3.size)
       clear htx hg1 hg2 hb3 hle hB2)
    | (go_at_call 7
       refine hpa.out.mono ?_
       unfold AllP
       rintro e w4 ⟨g4, cp4, v4, rfl, -, -, -, hT4, hk4, hv4⟩
       have hq4 := Lib.hid (both_put hB3.out hrb.out hk4 hT4)
       have hv4' := Lib.hid hv4
       have hs4 := Lib.hid hk4.size
       have hrp := Lib.hid (rf_PutAll hq4.out.2.1 (c := c0) (h0.out.below hq4.out.2.2) (fun ad e hl hk => by
         have h5 := h0.out.lt ad e hl
         rcases hk with hk | hk
         · have := hB3.out.br
           have := hB3.out.rt.ge
           omega
         · cases hk) (by simp; omega))
       clear hT4 hk4 hv4 hpa)
    | (go_at_call 9
       refine hrp.out.mono ?_
       unfold RAllP
       rintro e w5 ⟨o5, v5, rfl, -, hR5, hk5, -⟩
       have hB5 : Both w b v4 mb w1.heap.size w1.heap.size v5 (putAll [] l) w5 := by
         refine ⟨hq4.out.1.kept hk5 (fun k hk hs => ?_), hR5, hq4.out.2.2.trans (below_kept hk5 hq4.out.2.2.size (fun k hs => ?_)), hB3.out.br⟩
         · have hkr : k = w1.heap.size := hs.resolve_right (fun e => by cases e)
           rcases hk with hk | hk | hk
           · exact hrb.out k (.inl hk) hkr
           · exact hrb.out k (.inr (.inl hk)) hkr
           · rcases hv4'.out k hk with h6 | h6
             · cases h6
             · have := hs3.out; omega
         · have hkr : k = w1.heap.size := hs.resolve_right (fun e => by cases e)
           rw [hkr]; exact hB3.out.br
       replace hB5 := Lib.hid hB5
       have hnx := Lib.hid (h1.out.below hB5.out.bel)
       clear hR5 hk5 hrp hq4 hB3 hv4' hs4 hs3 hrb)
    | (go_at_call 22
       refine (in_Texts hB6.out.tab hnx6.out (by omega)).mono ?_
       intro e w7 hq7
       obtain ⟨hb7, ob, cb, rfl, rB⟩ := texts_q hq7
       have hB7 := Lib.hid (hB6.out.below hb7)
       have rA7 := Lib.hid (own_below rA6.out hb7)
       have rB7 := Lib.hid rB
       have hs7 := Lib.hid hb7.size
       have hnx7 := Lib.hid (hnx6.out.below hb7)
       clear hq7 hb7 rB hB6 rA6 hnx6)
    | (go_at_call 22
       refine (in_Texts hB5.out.tab hnx.out (by omega)).mono ?_
       intro e w6 hq6
       obtain ⟨hb6, oa, ca, rfl, rA⟩ := texts_q hq6
       have hB6 := Lib.hid (hB5.out.below hb6)
       have rA6 := Lib.hid rA
       have hs6 := Lib.hid hb6.size
       have hnx6 := Lib.hid (hnx.out.below hb6)
       have hSA := Lib.hid (fun k hk => own_lt rA k hk)
       clear hq6 hb6 rA hnx)
    | (go_at_call 23
       refine (rf_Texts hB7.out.rt hnx7.out (by omega)).mono ?_
       intro e w8 hq8
       obtain ⟨hb8, ow, cw, rfl, rW⟩ := rtexts_q hq8
       have hB8 := Lib.hid (hB7.out.below hb8)
       have rA8 := Lib.hid (own_below rA7.out hb8)
       have rB8 := Lib.hid (own_below rB7.out hb8)
       have rW8 := Lib.hid rW
       have hsb8 := Lib.hid hb8.size
       clear hq8 hb8 rW hB7 rA7 rB7 hnx7
       have hTs := Lib.hid (tL_size (L := putAll [] l) (fun s hs => h0.out.mem s (((mem_putAll l [] s).1 hs).resolve_left (fun h => by cases h))) ns)
       have hTl := Nat.le_trans (tL_len (putAll [] l) ns) u1
       have hcc : (cL (putAll [] l) ns != cL (putAll [] l) ns) = false := by simp
       obtain ⟨T, hT⟩ : ∃ T, tL (putAll [] l) ns = T := ⟨_, rfl⟩
       rw [hT] at rA8 rB8 rW8 hTs hTl hSA ⊢
       clear hT
       have tA := Lib.hid (own_TxA (z := []) (by rw [List.append_nil]; exact rA8.out) (by omega) hTs.out)
       have tB := Lib.hid (own_TxA (z := []) (by rw [List.append_nil]; exact rB8.out) (by omega) hTs.out)
       have tW := Lib.hid (own_TxA (z := []) (by rw [List.append_nil]; exact rW8.out) (by omega) hTs.out)
       have hsB := Lib.hid (fun k hk => own_lt rB8.out k hk)
       have hsW := Lib.hid (fun k hk => own_lt rW8.out k hk)
       clear rB8 rW8 hTs
       generalize cL (putAll [] l) ns = cc at hcc ⊢)
    | (go_at_call 24
       refine (rf_SameTexts tB9.out tW9.out).mono ?_
       rintro e w10 ⟨rfl, hb10⟩
       have hB10 := Lib.hid (hB9.out.below hb10)
       have hs10 := Lib.hid (Nat.le_trans hb9s.out hb10.size)
       have tB10 := Lib.hid (tB9.out.below hb10)
       have tW10 := Lib.hid (tW9.out.below hb10)
       have rA10 := Lib.hid (own_below rA9.out hb10)
       clear hb10 tB9 tW9 rA9 hB9)
    | (go_at_call 24
       refine (rf_SameTexts tA.out tW.out).mono ?_
       rintro e w9 ⟨rfl, hb9⟩
       have hB9 := Lib.hid (hB8.out.below hb9)
       have hb9s := Lib.hid hb9.size
       have tB9 := Lib.hid (tB.out.below hb9)
       have tW9 := Lib.hid (tW.out.below hb9)
       have rA9 := Lib.hid (own_below rA8.out hb9)
       clear hb9 tA tB tW rA8 hB8)
    | (go_at_call 14; refine (w1_num _ _).mono ?_; rintro e w3 ⟨rfl, rfl⟩))
  obtain ⟨S, hS⟩ : ∃ S : Nat → Prop, (fun k => (Value.slice oa T.length ca).ownBlock = some k) = S := ⟨_, rfl⟩
  have hSo : Hid (∀ k, S k → w5.heap.size ≤ k ∧ k < w6.heap.size) := Lib.hid (fun k hk => hSA.out k (by rw [← hS] at hk; exact hk))
  have hSv : Hid (∀ k, (Value.slice oa T.length ca).ownBlock = some k → S k) := Lib.hid (fun k hk => by rw [← hS]; exact hk)
  obtain ⟨is, his, hz0, hz1, hz2⟩ := info_parts infoStr
  have hs5 := Lib.hid hB5.out.bel.size
  have hd10 : Hid (∀ wr, KeptR S w10 wr → Both w b v4 mb w1.heap.size w1.heap.size v5 (putAll [] l) wr ∧ TxA wr ob T ∧ TxA wr ow T) := Lib.hid (fun wr hk => by
    have h5t := hB5.out.tab.lt
    have h5r := hB5.out.rt.lt
    have h6 := hs6.out
    have h7 := hs7.out
    refine ⟨⟨hB10.out.tab.kept hk (fun k hk2 hs => ?_), hB10.out.rt.kept hk (fun k hk2 hs => ?_), hB10.out.bel.trans (below_kept hk hB10.out.bel.size (fun k hs => ?_)), hB10.out.br⟩, tB10.out.kept hk (fun ad e hl hs => ?_), tW10.out.kept hk (fun ad e hl hs => ?_)⟩
    · have := hSo.out k hs; have := h5t k hk2; omega
    · have := hSo.out k hs; have := h5r k hk2; omega
    · have := hSo.out k hs; have := hs5.out; omega
    · have h8 := hSo.out _ hs
      have := hsB.out ad.block (by rw [e]; rfl)
      omega
    · have h8 := hSo.out _ hs
      have := hsW.out ad.block (by rw [e]; rfl)
      omega)
  have hk0 := Lib.hid (KeptR.refl S w10)
  have h105 := Lib.hid (Nat.le_trans (Nat.le_refl w5.heap.size) (Nat.le_trans hs6.out (Nat.le_trans hs7.out (Nat.le_trans hsb8.out hs10.out))))
  clear hS hSA hsB hsW hs6 hs7 hB10 tB10 tW10 hB5 h0 h1 hs5
  go_loopw [13] (fun i wr => ∃ (k : Nat) (xs : List Value), k ≤ T.length ∧ i = .int .i64 k ∧ Hid (wr.ownsRow w5.heap.size 9 1 (.slice oa T.length ca) T.length xs) ∧ Hid (KeptR S w10 wr)) (fun i _ => T.length - (intOf i).toNat)
  case atStart => exact ⟨0, _, Nat.zero_le _, rfl, rA10, hk0⟩
  case round =>
    clear rA10 hk0
    obtain ⟨k, xs, hk, rfl, hR, hK⟩ := hrel
    by_cases hlk : k < T.length
    · obtain ⟨g7, c7, e7, -⟩ := own_shape hR.out (by omega)
      have hSg := hSv.out g7 (by rw [e7]; rfl)
      rw [e7] at hR ⊢
      replace e7 := Lib.hid e7
      obtain ⟨u0, q0⟩ : ∃ u, wr.cell? ⟨g7, k, none⟩ = some u := by
        rw [hR.out.cellAt k (by omega)]
        exact ⟨_, List.getElem?_eq_getElem (by rw [hR.out.1]; omega)⟩
      have f0 := own_frozenI hR.out k
      have hR2 := Lib.hid (own_putI (j := k) (u := .string ⟨#[120]⟩) hR.out)
      have hK2 := Lib.hid (hK.out.set (i := k) (u := .string ⟨#[120]⟩) (.inl hSg))
      have hki : (k : Int) < (T.length : Int) := by omega
      have hkz : (0 : Int) ≤ (k : Int) := Int.natCast_nonneg _
      go_wp2_with fail
      go_roundw
      case rel => exact ⟨k + 1, _, by omega, by go_num, hR2, hK2⟩
      case measure => simp [intOf]; omega
    · have hki : ¬ ((k : Int) < (T.length : Int)) := by omega
      clear hlk
      go_wp2_with fail
      go_loopw [7, 14] (fun a i wr => ∃ (k n : Nat) (va : Option Addr) (vc : Nat) (xs : List Value), k ≤ 70 ∧ Hid (n = T.length + k) ∧ a = .slice va n vc ∧ i = .int .i64 k ∧ Hid (wr.ownsRow w5.heap.size 9 1 (.slice va n vc) n xs) ∧ Hid (KeptR S w10 wr) ∧ Hid (∀ j, (Value.slice va n vc).ownBlock = some j → S j ∨ w10.heap.size ≤ j)) (fun _ i _ => 70 - (intOf i).toNat)
      case atStart => exact ⟨0, _, _, _, _, by omega, Lib.hid rfl, rfl, rfl, hR, hK, Lib.hid (fun j hj => .inl (hSv.out j hj))⟩
      case round =>
        clear hR hK
        obtain ⟨k2, n, va, vc, xs2, hk2, hn, rfl, rfl, hR, hK, hv⟩ := hrel
        by_cases hl2 : k2 < 70
        · have hki2 : (k2 : Int) < 70 := by omega
          have h63 : Hid (n + 1 ≤ maxLen) := Lib.hid (by have := hn.out; unfold maxLen; omega)
          have h64 : Hid ((n + 1) * 16 ≤ 140737488355328) := Lib.hid (by have := hn.out; omega)
          have hbs := Lib.hid (Nat.le_trans h105.out hK.out.size)
          go_wp2_with (at_builtin; refine wpList_append_own_at _ rfl (.tmp 80) (.tmp 81) 22 rfl w5.heap.size 9 is (.string ⟨#[]⟩) 1 16 Try.underlying22 his hz0 hz1 hz2 rfl (by decide) _ n xs2 rfl (hR.out.alloc _) ⟨wr.heap.size, 0, none⟩ 1 1 [.string ⟨#[120]⟩] rfl rfl (cell_one_new _ _ _) (by intro u hu; simp at hu; subst hu; rfl) h63.out h64.out (by rw [World.size_alloc]; have := hbs.out; omega) ?_)
          intro v3 w3 hown3 hg3 _ hat3
          obtain ⟨va3, vc3, rfl, -⟩ := own_slice hown3
          have hK3 := Lib.hid ((hK.out.al (.cells #[.string ⟨#[120]⟩] 9)).grown hg3 hv.out)
          have hR3 := Lib.hid hown3
          have hv3 : Hid (∀ j, (Value.slice va3 (n + 1) vc3).ownBlock = some j → S j ∨ w10.heap.size ≤ j) := Lib.hid (fun j hj => by
            rcases hat3 with e | e
            · exact hv.out j (e.symm.trans hj)
            · have h9 := e.symm.trans hj
              injection h9 with h9
              have := hK.out.size
              right; omega)
          clear hown3 hg3 hat3
          go_wp2_with fail
          go_roundw
          case rel => exact ⟨k2 + 1, n + 1, va3, vc3, _, by omega, Lib.hid (by have := hn.out; omega), rfl, by go_num, hR3, hK3, hv3⟩
          case measure => simp [intOf]; omega
        · have hki2 : ¬ ((k2 : Int) < 70) := by omega
          obtain rfl : k2 = 70 := by omega
          have h70 : ¬ ((n : Int) < 70) := by have := hn.out; omega
          have h70' : (70 : Int) ≤ (n : Int) := by have := hn.out; omega
          obtain ⟨hB, tB, tW⟩ := hd10.out _ hK.out
          replace hB := Lib.hid hB
          replace tB := Lib.hid tB
          replace tW := Lib.hid tW
          clear hd10 hR hK hv
          go_wp2_with (first
            | (go_at_call 24
               refine (rf_SameTexts tB.out tW.out).mono ?_
               rintro e w12 ⟨rfl, hb12⟩
               have hB12 := Lib.hid (hB.out.below hb12)
               clear hb12)
            | (go_at_call 15
               refine (w1_goes_any hB12.out.tab hB12.out.rt).mono ?_
               rintro e w13 ⟨rfl, hb13⟩
               have hB13 := Lib.hid (hB12.out.below hb13)
               clear hb13)
            | (go_at_call 16
               refine (w1_known _).mono ?_
               rintro e w14 ⟨rfl, hb14⟩
               have hB14 := Lib.hid (hB13.out.below hb14)
               clear hb14))
          go_ret
          exact ⟨rfl, hB14.out.bel⟩
end Go.Proofs.Ytacjelpkmafkpaa
