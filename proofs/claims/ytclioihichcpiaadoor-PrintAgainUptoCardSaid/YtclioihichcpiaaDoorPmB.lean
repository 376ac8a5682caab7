/- Parse: terms in brackets. (gen_pae.py) -/
import Derived.Test.YtclioihichcpiaaDoorPmA
import Derived.Test.YtclioihichcpiaaDoorJoE
import Derived.ScopeJumps
import Derived.WalkMore
namespace Go.Proofs.YtclioihichcpiaaDoor
open Go.RowKit Lx
namespace Lx
def psArgsN (P : Ps) : Nat → Nat → List (Bool × ByteArray) → Except Int (List (Bool × ByteArray) × Nat)
  | 0, _, _ => .error 0
  | n + 1, i, l =>
    match psTerm P i with
    | .error e => .error e
    | .ok (t, j) =>
      if P.kind j = 10 ∧ n ≠ 0 then psArgsN P n (j + 1) (l ++ [t])
      else match P.take j (if n = 0 then [9] else [9, 10]) with
        | .ok (_, k) => .ok (l ++ [t], k)
        | .error e => .error e
def psArgs (P : Ps) (i : Nat) : Except Int (List (Bool × ByteArray) × Nat) := if P.kind i = 8 then psArgsN P 16 (i + 1) [] else .ok ([], i)
end Lx
theorem least {p : Nat → Prop} (h : ∃ n, p n) : ∃ n, p n ∧ ∀ m, p m → n ≤ m := by
  obtain ⟨n, hn⟩ := h
  induction n using Nat.strongRecOn with
  | _ n ih =>
    by_cases hx : ∃ m, m < n ∧ p m
    · obtain ⟨m, hm, hp⟩ := hx
      exact ih m hm hp
    · exact ⟨n, hn, fun m hp => by
        rcases Nat.lt_or_ge m n with h | h
        · exact absurd ⟨m, h, hp⟩ hx
        · exact h⟩
/-- a scope in which the run jumps back to one label, by a number that falls -/
theorem wp_scope_label {P : Program} {a : Act} {w : World} {Q : Exit → Act → World → Prop} {c rest : Code} (l : Nat) (J : Nat → Act → World → Prop) (hf : findLabel c l = some rest)
    (first : c.wp P (Exit.jump l (fun a w => ∃ n, J n a w) Q) a w)
    (pass : ∀ n a w, J n a w → rest.wp P (Exit.jump l (fun a' w' => ∃ m, m < n ∧ J m a' w') Q) a w) : (Code.scope c).wp P Q a w := by
  classical
  refine wp_scope_jumps l (fun a w => ∃ n, J n a w) (fun a w => if h : ∃ n, J n a w then Classical.choose (least h) else 0) hf first ?_
  intro a w h
  refine Code.wp_mono (fun e a' w' he => ?_) (pass _ a w (Classical.choose_spec (least h)).1)
  cases e with
  | goto l' =>
    obtain ⟨h1, m, hm, hJ⟩ := he
    have h2 : ∃ n, J n a' w' := ⟨m, hJ⟩
    refine ⟨h1, h2, ?_⟩
    rw [dif_pos h2, dif_pos h]
    exact Nat.lt_of_le_of_lt ((Classical.choose_spec (least h2)).2 _ hJ) hm
  | normal => exact he
  | exit id => exact he
  | ret => exact he
  | panic ch => exact he
  | outgrown => exact he
def flatTT (l : List (Bool × ByteArray)) : List Value := l.flatMap fun x => [.bool x.1, .string x.2]
theorem wp_scope_again {P : Program} {a : Act} {w : World} {Q : Exit → Act → World → Prop} {c rest : Code} (l : Nat) (J : Nat → Act → World → Prop) (hf : findLabel c l = some (Code.skip.seq rest))
    (first : (∀ n a w, J n a w → rest.wp P (Exit.jump l (fun a w => ∃ n, J n a w) Q) a w) → c.wp P (Exit.jump l (fun a w => ∃ n, J n a w) Q) a w)
    (pass : ∀ n a w, J n a w → rest.wp P (Exit.jump l (fun a' w' => ∃ m, m < n ∧ J m a' w') Q) a w) : (Code.scope c).wp P Q a w := by
  refine wp_scope_label l J hf (first fun n a w h => Code.wp_mono (fun e a' w' he => ?_) (pass n a w h)) (fun n a w h => wp_seq (wp_skip (pass n a w h)))
  cases e with
  | goto l' => exact ⟨he.1, he.2.elim fun m hm => ⟨m, hm.2⟩⟩
  | normal => exact he
  | exit id => exact he
  | ret => exact he
  | panic ch => exact he
  | outgrown => exact he
/-- what stands at the label: n terms may still come -/
def ArgJ (P : Ps) (b : Nat) (tx : ByteArray) (ta : Option Addr) (tc : Nat) (R0 R1 R2 R3 R4 R5 : Value) (w0 : World) (R : Except Int (List (Bool × ByteArray) × Nat)) (n : Nat) (a : Act) (w : World) : Prop :=
  ∃ (s1 s4 s5 s6 s7 s8 s9 s10 s11 s12 s13 s14 s15 s16 s17 s18 s19 s20 s21 s22 s23 s24 s25 s26 s27 s28 s29 s30 s31 s32 s33 s34 s35 s36 s37 s38 s39 s40 s41 s42 s43 s44 lv : Value) (i : Nat) (l : List (Bool × ByteArray)), a = { tmps := #[.pointer (some ⟨b, 0, none⟩), s1, .slice none 0 0, lv, s4, s5, s6, s7, s8, s9, s10, s11, s12, s13, s14, s15, s16, s17, s18, s19, s20, s21, s22, s23, s24, s25, s26, s27, s28, s29, s30, s31, s32, s33, s34, s35, s36, s37, s38, s39, s40, s41, s42, s43, s44], defers := [] } ∧ 0 < n ∧ l.length + n = 16 ∧ psArgsN P n i l = R ∧ PSt w b P tx ta tc i R0 R1 R2 R3 R4 R5 ∧ Mvd b w0 w ∧ w.ownsRow w0.heap.size 76 2 lv l.length (flatTT l)
theorem own_stays {w w' : World} {base : Nat} {e : TypeId} {size : Nat} {v : Value} {n : Nat} {xs : List Value} {r : Option Nat} (h : w.ownsRow base e size v n xs) (hg : w.grownBy w' r) (hk : ∀ b, v.ownBlock = some b → r ≠ some b) : w'.ownsRow base e size v n xs := by
  refine ⟨h.1, ?_⟩
  rcases h.2 with hn | ⟨k, cap, cur, rfl, hg1, hh, r⟩
  · exact .inl hn
  · exact .inr ⟨k, cap, cur, rfl, hg1, by rw [hg.block k (Array.getElem?_eq_some_iff.1 hh).1 (fun he => hk k rfl he.symm)]; exact hh, r⟩
theorem own_mvd {w w' : World} {base b : Nat} {e : TypeId} {size : Nat} {v : Value} {n : Nat} {xs : List Value} (h : w.ownsRow base e size v n xs) (hm : Mvd b w w') (hb : b < base) : w'.ownsRow base e size v n xs :=
  own_stays h hm fun k hk e => by have := (h.lt k hk).1; injection e with e; omega
theorem PSt.low {w w' : World} {B b : Nat} {P : Ps} {tx : ByteArray} {ta : Option Addr} {tc i : Nat} {R0 R1 R2 R3 R4 R5 : Value} (h : PSt w b P tx ta tc i R0 R1 R2 R3 R4 R5) (hB : ∀ k, k < B → w'.heap[k]? = w.heap[k]?) (hb : b < B) (ht : ∀ x, ta = some x → x.block < B) : PSt w' b P tx ta tc i R0 R1 R2 R3 R4 R5 :=
  ⟨(hB _ hb).trans h.blk, fun j t hj => by
    obtain ⟨tb, h1, h2, h3, h4, h5⟩ := h.toks j t hj
    have hc : ∀ n v, w.cell? ⟨tb, n, none⟩ = some v → w'.cell? ⟨tb, n, none⟩ = some v := fun n v hv => by
      rw [World.cell?_of_block (hB tb (ht _ h1))]; exact hv
    exact ⟨tb, h1, hc _ _ h2, hc _ _ h3, hc _ _ h4, hc _ _ h5⟩, h.len, h.pos⟩
theorem grown_low {w0 w w' : World} {ob : Obj} {v : Value} {e : TypeId} {n : Nat} {xs : List Value} (ho : w.ownsRow w0.heap.size e 2 v n xs) (hs : w0.heap.size ≤ w.heap.size) (hg : (w.alloc ob).grownBy w' v.ownBlock) : ∀ k, k < w0.heap.size → w'.heap[k]? = w.heap[k]? := fun k hk =>
  (hg.block k (by rw [World.size_alloc]; omega) (fun e => by have := own_ge ho k e.symm; omega)).trans (heap_alloc_old _ _ (by omega))
theorem Mvd.low {b : Nat} {w0 w w' : World} {ob : Obj} {r : Option Nat} (h : Mvd b w0 w) (hg : (w.alloc ob).grownBy w' r) (hl : ∀ k, k < w0.heap.size → w'.heap[k]? = w.heap[k]?) : Mvd b w0 w' :=
  ⟨hg.os.trans h.os, hg.tape.trans h.tape, hg.output.trans h.output, Nat.le_trans h.size (Nat.le_trans (by rw [World.size_alloc]; omega) hg.size), fun k hk hne => (hl k hk).trans (h.block k hk hne)⟩
def ArgsPost (b : Nat) (P : Ps) (tx : ByteArray) (ta : Option Addr) (tc : Nat) (R0 R1 R2 R3 R4 R5 : Value) (w0 : World) (R : Except Int (List (Bool × ByteArray) × Nat)) (e : Ending) (w' : World) : Prop :=
  match R with
  | .ok (l, k) => ∃ lv, e = .returned lv ∧ PSt w' b P tx ta tc k R0 R1 R2 R3 R4 R5 ∧ Mvd b w0 w' ∧ w'.ownsRow w0.heap.size 76 2 lv l.length (flatTT l)
  | .error x => e = thrown x ∧ Mvd b w0 w'
theorem infoTerm : (Tryd.prog.info? 76).map (fun i => (i.zero, i.size, i.bytes)) = some (some (.agg #[.bool false, .string ⟨#[]⟩]), 2, 24) := by kernel_rfl
set_option maxHeartbeats 4000000 in
set_option maxRecDepth 100000 in
theorem pa_args (w : World) (b : Nat) (P : Ps) (tx : ByteArray) (ta : Option Addr) (tc i : Nat) (R0 R1 R2 R3 R4 R5 : Value) (h : PSt w b P tx ta tc i R0 R1 R2 R3 R4 R5) (h8 : P.kind i = 8) (hlt : i < P.ts.length) :
    Calls Tryd.prog 73 #[.pointer (some ⟨b, 0, none⟩)] w (ArgsPost b P tx ta tc R0 R1 R2 R3 R4 R5 w (psArgsN P 16 (i + 1) [])) := by
  obtain ⟨it, hit, ht0, ht1, ht2⟩ := info_parts infoTerm
  obtain ⟨R, hR⟩ : ∃ R, R = psArgsN P 16 (i + 1) [] := ⟨_, rfl⟩
  rw [← hR]
  have hk := pa_kind w b P tx ta tc i R0 R1 R2 R3 R4 R5 h
  rw [h8] at hk
  have hlen := h.len
  have hbl := h.lt
  go_enter Tryd.func73, Tryd.ntmps73
  go_wp2_with fail
  have hta : Hid (∀ x, ta = some x → x.block < w.heap.size) := Lib.hid fun x hx => by
    subst hx
    obtain ⟨tb, e1, g1, _⟩ := pst_tok h i hlt
    cases e1
    have hg := cell_lt g1
    exact hg
  refine wp_scope_again 0 (ArgJ P b tx ta tc R0 R1 R2 R3 R4 R5 w R) rfl ?first ?pass
  case first =>
    intro hpass
    replace hpass := Lib.hid hpass
    go_wp2_with (go_at_call 72; refine hk.mono ?_; rintro e w1 ⟨rfl, hd⟩; have hs1 := h.drawn hd; obtain ⟨c1, c2, c4, c6, c7, cf⟩ := hs1.cells; have hm1 := Mvd.of (b := b) (hd.below w.heap.size); replace hm1 := Lib.hid hm1; replace hs1 := Lib.hid hs1)
    have hw2 := hs1.out.step hlt
    rw [show ((i + 1 : Nat) : Int) = (i : Int) + 1 from by omega] at hw2
    generalize w1.setCell ⟨b, 7, none⟩ (.int .i64 ((i : Int) + 1)) = w2 at hw2 ⊢
    go_step3
    refine ‹∀ (a : Act) (w : World), Code.wp _ _ _ a w → _› _ _ (hpass.out 16 _ _ ?_)
    refine ⟨_, _, _, _, _, _, _, _, _, _, _, _, _, _, _, _, _, _, _, _, _, _, _, _, _, _, _, _, _, _, _, _, _, _, _, _, _, _, _, _, _, _, _, i + 1, [], rfl, by decide, rfl, hR.symm, hw2.1, hm1.out.trans hw2.2, World.ownsRow_nil _ _ _ _⟩
  case pass =>
    clear hk h8 hlt h hR hlen
    rintro n a' w2 ⟨s1, s4, s5, s6, s7, s8, s9, s10, s11, s12, s13, s14, s15, s16, s17, s18, s19, s20, s21, s22, s23, s24, s25, s26, s27, s28, s29, s30, s31, s32, s33, s34, s35, s36, s37, s38, s39, s40, s41, s42, s43, s44, lv, i2, l, rfl, hn, hln, hR, hst, hm, hown⟩
    obtain ⟨n, rfl⟩ : ∃ m, n = m + 1 := ⟨n - 1, by omega⟩
    have hlen := hst.len
    have hbl2 := hst.lt
    have hws := hm.size
    unfold psArgsN at hR
    cases hx : psTerm P i2 with
    | error x =>
      rw [hx] at hR
      dsimp only at hR
      have hte := pa_term_err w2 b P tx ta tc i2 R0 R1 R2 R3 R4 R5 hst x hx
      unfold thrown at hte
      have hP : Hid (ArgsPost b P tx ta tc R0 R1 R2 R3 R4 R5 w R = fun e w' => e = thrown x ∧ Mvd b w w') := Lib.hid (by rw [← hR]; try rfl)
      rw [hP.out]
      replace hm := Lib.hid hm
      clear hR hst hown hx
      go_wp2_with (go_at_call 89; refine hte.mono ?_; rintro e w3 ⟨rfl, hb3⟩; have hm3 := Lib.hid (hm.out.trans (Mvd.of hb3)); clear hb3)
      exact ⟨rfl, rfl, hm3.out⟩
    | ok r =>
      obtain ⟨⟨v, s⟩, j⟩ := r
      rw [hx] at hR
      dsimp only at hR
      have hte := pa_term_ok w2 b P tx ta tc i2 R0 R1 R2 R3 R4 R5 hst v s j hx
      obtain ⟨va, vc, rfl, hva⟩ := own_slice hown
      clear hva
      replace hm := Lib.hid hm
      replace hown := Lib.hid hown
      replace hst := Lib.hid hst
      have h63 : Hid (l.length + 1 ≤ maxLen) := Lib.hid (by unfold maxLen; omega)
      go_wp2_with (first
        | (at_builtin
           have hg := hown3.out
           clear hg
           go_loud (refine wpList_append_own _ rfl (.tmp 14) (.tmp 17) 49 rfl w.heap.size 76 it (.agg #[.bool false, .string ⟨#[]⟩]) 2 24 Tryd.underlying49 hit ht0 ht1 ht2 rfl (by decide) _ l.length (flatTT l) rfl (hown3.out.alloc _) ⟨w3.heap.size, 0, none⟩ 1 1 [.bool v, .string s] rfl rfl (own_cells_row rfl rfl) (by intro u hu; simp at hu; rcases hu with rfl | rfl <;> rfl) h63.out (by omega) (by have := hm3.out.size; rw [World.size_alloc]; omega) ?_))
        | (go_at_call 89
           refine hte.mono ?_
           rintro e w3 ⟨rfl, hs30, hm30⟩
           have hs3 := Lib.hid hs30
           have hm3 := Lib.hid (hm.out.trans hm30)
           have hown3 := Lib.hid (own_mvd hown.out hm30 hbl)
           clear hs30 hm30))
      intro v4 w4 hown4 hgr4 hv4
      have hlow := grown_low hown3.out (hm3.out.size) hgr4
      have hs4 := Lib.hid (hs3.out.low hlow hbl hta.out)
      have hm4 := Lib.hid (hm3.out.low hgr4 hlow)
      have hown5 : Hid (w4.ownsRow w.heap.size 76 2 v4 (l ++ [(v, s)]).length (flatTT (l ++ [(v, s)]))) := Lib.hid (by
        rw [List.length_append, flatTT, List.flatMap_append]; exact hown4)
      have hll : (l ++ [(v, s)]).length = l.length + 1 := List.length_append
      clear hgr4 hv4 hlow hown4
      obtain ⟨vb, vd, rfl, hvb⟩ := own_slice hown5.out
      clear hvb
      rw [hll]
      have hpk := pa_kind w4 b P tx ta tc j R0 R1 R2 R3 R4 R5 hs4.out
      have hjl := hs4.out.pos
      by_cases h10 : P.kind j = 10
      · by_cases hn0 : n = 0
        · have hl15 : l.length = 15 := by omega
          rw [if_neg (fun h => h.2 hn0), if_pos hn0] at hR
          rcases take_cases P j [9] (by decide) with ⟨t, ht, _, hc, hjlt⟩ | ⟨x, ht, hxs, hc⟩
          · rw [ht] at hR
            dsimp only at hR
            have htk := fun w h wa hw => pa_take_ok w b P tx ta tc j R0 R1 R2 R3 R4 R5 h wa [9] 1 hw (by decide) hc hjlt
            have hP : Hid (ArgsPost b P tx ta tc R0 R1 R2 R3 R4 R5 w R = fun e w' => ∃ lv, e = .returned lv ∧ PSt w' b P tx ta tc (j + 1) R0 R1 R2 R3 R4 R5 ∧ Mvd b w w' ∧ w'.ownsRow w.heap.size 76 2 lv (l ++ [(v, s)]).length (flatTT (l ++ [(v, s)]))) := Lib.hid (by rw [← hR]; try rfl)
            clear hR ht hc
            generalize P.kind j = kj at htk hpk
            generalize mk (P.tok j).text = tt at htk
            generalize ((P.tok j).at_ : Int) = ta1 at htk
            generalize ((P.tok j).end_ : Int) = te1 at htk
            go_wp2_with (first
              | (go_at_call 55
                 refine (htk _ (hs5.out.below ((Below.refl _ _).al _)) _ (kinds_lit _ _ [9] _ rfl (by decide) rfl)).mono ?_
                 rintro e w6 ⟨rfl, hs60, hm60⟩
                 have hs6 := Lib.hid hs60
                 have hm6 := Lib.hid ((hm5.out.trans (Mvd.of ((Below.refl _ _).al _))).trans hm60)
                 have hown7 := Lib.hid (own_mvd (hown6.out.alloc _) hm60 hbl)
                 clear hs60 hm60)
              | (go_at_call 72
                 refine hpk.mono ?_
                 rintro e w5 ⟨rfl, hd⟩
                 have hs5 := Lib.hid (hs4.out.drawn hd)
                 have hm5 := Lib.hid (hm4.out.trans (Mvd.of (hd.below w4.heap.size)))
                 have hown6 := Lib.hid (own_below hown5.out (hd.below w4.heap.size))
                 clear hd))
            all_goals (simp only [Exit.jump]; go_ret; rw [hP.out]; refine ⟨_, rfl, hs6.out, hm6.out, ?_⟩; have h7 := hown7.out; rw [hll] at h7 ⊢; first | exact h7 | (rw [hl15] at h7 ⊢; exact h7))
          · rw [ht] at hR
            dsimp only at hR
            have htk := fun w h wa hw => pa_take_err w b P tx ta tc j R0 R1 R2 R3 R4 R5 h wa [9] 1 hw (by decide) hc
            rw [← hxs] at htk
            unfold thrown at htk
            have hP : Hid (ArgsPost b P tx ta tc R0 R1 R2 R3 R4 R5 w R = fun e w' => e = thrown x ∧ Mvd b w w') := Lib.hid (by rw [← hR]; try rfl)
            clear hR ht hc hxs
            generalize P.kind j = kj at hpk
            go_wp2_with (first
              | (go_at_call 55
                 refine (htk _ (hs5.out.below ((Below.refl _ _).al _)) _ (kinds_lit _ _ [9] _ rfl (by decide) rfl)).mono ?_
                 rintro e w6 ⟨rfl, hb6⟩
                 have hm6 := Lib.hid ((hm5.out.trans (Mvd.of ((Below.refl _ _).al _))).trans (Mvd.of hb6))
                 clear hb6)
              | (go_at_call 72
                 refine hpk.mono ?_
                 rintro e w5 ⟨rfl, hd⟩
                 have hs5 := Lib.hid (hs4.out.drawn hd)
                 have hm5 := Lib.hid (hm4.out.trans (Mvd.of (hd.below w4.heap.size)))
                 clear hd))
            all_goals exact ⟨rfl, by rw [hP.out]; exact ⟨rfl, hm6.out⟩⟩
        · rw [h10] at hpk
          rw [if_pos ⟨h10, hn0⟩] at hR
          have hl15 : l.length < 15 := by omega
          have hjlt : j < P.ts.length := by
            rcases Nat.lt_or_ge j P.ts.length with h | h
            · exact h
            · rw [Ps.kind_end h] at h10; cases h10
          replace hR := Lib.hid hR
          go_wp2_with (go_at_call 72; refine hpk.mono ?_; rintro e w5 ⟨rfl, hd⟩; have hs5 := hs4.out.drawn hd; obtain ⟨c1, c2, c4, c6, c7, cf⟩ := hs5.cells; have hm5 := Lib.hid (hm4.out.trans (Mvd.of (hd.below w4.heap.size))); have hown6 := Lib.hid (own_below hown5.out (hd.below w4.heap.size)); replace hs5 := Lib.hid hs5)
          have hw6 := hs5.out.step hjlt
          rw [show ((j + 1 : Nat) : Int) = (j : Int) + 1 from by omega] at hw6
          generalize w5.setCell ⟨b, 7, none⟩ (.int .i64 ((j : Int) + 1)) = w6 at hw6 ⊢
          go_step3
          refine ⟨rfl, n, by omega, _, _, _, _, _, _, _, _, _, _, _, _, _, _, _, _, _, _, _, _, _, _, _, _, _, _, _, _, _, _, _, _, _, _, _, _, _, _, _, _, _, _, _, j + 1, l ++ [(v, s)], rfl, by omega, by rw [hll]; omega, hR.out, hw6.1, hm5.out.trans hw6.2, ?_⟩
          have h7 := own_mvd hown6.out hw6.2 hbl
          rw [hll] at h7 ⊢
          exact h7
      · have hk10 : (P.kind j == 10) = false := by rw [beq_eq_false_iff_ne]; exact h10
        rw [if_neg (fun h => h10 h.1)] at hR
        by_cases hn0 : n = 0
        · have hl15 : l.length = 15 := by omega
          rw [if_pos hn0] at hR
          rcases take_cases P j [9] (by decide) with ⟨t, ht, _, hc, hjlt⟩ | ⟨x, ht, hxs, hc⟩
          · rw [ht] at hR
            dsimp only at hR
            have htk := fun w h wa hw => pa_take_ok w b P tx ta tc j R0 R1 R2 R3 R4 R5 h wa [9] 1 hw (by decide) hc hjlt
            have hP : Hid (ArgsPost b P tx ta tc R0 R1 R2 R3 R4 R5 w R = fun e w' => ∃ lv, e = .returned lv ∧ PSt w' b P tx ta tc (j + 1) R0 R1 R2 R3 R4 R5 ∧ Mvd b w w' ∧ w'.ownsRow w.heap.size 76 2 lv (l ++ [(v, s)]).length (flatTT (l ++ [(v, s)]))) := Lib.hid (by rw [← hR]; try rfl)
            clear hR ht hc
            generalize P.kind j = kj at htk hk10 hpk
            generalize mk (P.tok j).text = tt at htk
            generalize ((P.tok j).at_ : Int) = ta1 at htk
            generalize ((P.tok j).end_ : Int) = te1 at htk
            go_wp2_with (first
              | (go_at_call 55
                 refine (htk _ (hs5.out.below ((Below.refl _ _).al _)) _ (kinds_lit _ _ [9] _ rfl (by decide) rfl)).mono ?_
                 rintro e w6 ⟨rfl, hs60, hm60⟩
                 have hs6 := Lib.hid hs60
                 have hm6 := Lib.hid ((hm5.out.trans (Mvd.of ((Below.refl _ _).al _))).trans hm60)
                 have hown7 := Lib.hid (own_mvd (hown6.out.alloc _) hm60 hbl)
                 clear hs60 hm60)
              | (go_at_call 72
                 refine hpk.mono ?_
                 rintro e w5 ⟨rfl, hd⟩
                 have hs5 := Lib.hid (hs4.out.drawn hd)
                 have hm5 := Lib.hid (hm4.out.trans (Mvd.of (hd.below w4.heap.size)))
                 have hown6 := Lib.hid (own_below hown5.out (hd.below w4.heap.size))
                 clear hd))
            all_goals (simp only [Exit.jump]; go_ret; rw [hP.out]; refine ⟨_, rfl, hs6.out, hm6.out, ?_⟩; have h7 := hown7.out; rw [hll] at h7 ⊢; first | exact h7 | (rw [hl15] at h7 ⊢; exact h7))
          · rw [ht] at hR
            dsimp only at hR
            have htk := fun w h wa hw => pa_take_err w b P tx ta tc j R0 R1 R2 R3 R4 R5 h wa [9] 1 hw (by decide) hc
            rw [← hxs] at htk
            unfold thrown at htk
            have hP : Hid (ArgsPost b P tx ta tc R0 R1 R2 R3 R4 R5 w R = fun e w' => e = thrown x ∧ Mvd b w w') := Lib.hid (by rw [← hR]; try rfl)
            clear hR ht hc hxs
            generalize P.kind j = kj at hpk hk10
            go_wp2_with (first
              | (go_at_call 55
                 refine (htk _ (hs5.out.below ((Below.refl _ _).al _)) _ (kinds_lit _ _ [9] _ rfl (by decide) rfl)).mono ?_
                 rintro e w6 ⟨rfl, hb6⟩
                 have hm6 := Lib.hid ((hm5.out.trans (Mvd.of ((Below.refl _ _).al _))).trans (Mvd.of hb6))
                 clear hb6)
              | (go_at_call 72
                 refine hpk.mono ?_
                 rintro e w5 ⟨rfl, hd⟩
                 have hs5 := Lib.hid (hs4.out.drawn hd)
                 have hm5 := Lib.hid (hm4.out.trans (Mvd.of (hd.below w4.heap.size)))
                 clear hd))
            all_goals exact ⟨rfl, by rw [hP.out]; exact ⟨rfl, hm6.out⟩⟩
        · have hl15 : l.length < 15 := by omega
          have hl16 : ((l.length : Int) + 1 == 16) = false := by rw [beq_eq_false_iff_ne]; omega
          rw [if_neg hn0] at hR
          rcases take_cases P j [9, 10] (by decide) with ⟨t, ht, _, hc, hjlt⟩ | ⟨x, ht, hxs, hc⟩
          · rw [ht] at hR
            dsimp only at hR
            have htk := fun w h wa hw => pa_take_ok w b P tx ta tc j R0 R1 R2 R3 R4 R5 h wa [9, 10] 2 hw (by decide) hc hjlt
            have hP : Hid (ArgsPost b P tx ta tc R0 R1 R2 R3 R4 R5 w R = fun e w' => ∃ lv, e = .returned lv ∧ PSt w' b P tx ta tc (j + 1) R0 R1 R2 R3 R4 R5 ∧ Mvd b w w' ∧ w'.ownsRow w.heap.size 76 2 lv (l ++ [(v, s)]).length (flatTT (l ++ [(v, s)]))) := Lib.hid (by rw [← hR]; try rfl)
            clear hR ht hc
            generalize P.kind j = kj at htk hk10 hpk
            generalize mk (P.tok j).text = tt at htk
            generalize ((P.tok j).at_ : Int) = ta1 at htk
            generalize ((P.tok j).end_ : Int) = te1 at htk
            go_wp2_with (first
              | (go_at_call 55
                 refine (htk _ (hs5.out.below ((Below.refl _ _).al _)) _ (kinds_lit _ _ [9, 10] _ rfl (by decide) rfl)).mono ?_
                 rintro e w6 ⟨rfl, hs60, hm60⟩
                 have hs6 := Lib.hid hs60
                 have hm6 := Lib.hid ((hm5.out.trans (Mvd.of ((Below.refl _ _).al _))).trans hm60)
                 have hown7 := Lib.hid (own_mvd (hown6.out.alloc _) hm60 hbl)
                 clear hs60 hm60)
              | (go_at_call 72
                 refine hpk.mono ?_
                 rintro e w5 ⟨rfl, hd⟩
                 have hs5 := Lib.hid (hs4.out.drawn hd)
                 have hm5 := Lib.hid (hm4.out.trans (Mvd.of (hd.below w4.heap.size)))
                 have hown6 := Lib.hid (own_below hown5.out (hd.below w4.heap.size))
                 clear hd))
            all_goals (simp only [Exit.jump]; go_ret; rw [hP.out]; refine ⟨_, rfl, hs6.out, hm6.out, ?_⟩; have h7 := hown7.out; rw [hll] at h7 ⊢; first | exact h7 | (rw [hl15] at h7 ⊢; exact h7))
          · rw [ht] at hR
            dsimp only at hR
            have htk := fun w h wa hw => pa_take_err w b P tx ta tc j R0 R1 R2 R3 R4 R5 h wa [9, 10] 2 hw (by decide) hc
            rw [← hxs] at htk
            unfold thrown at htk
            have hP : Hid (ArgsPost b P tx ta tc R0 R1 R2 R3 R4 R5 w R = fun e w' => e = thrown x ∧ Mvd b w w') := Lib.hid (by rw [← hR]; try rfl)
            clear hR ht hc hxs
            generalize P.kind j = kj at hpk hk10
            go_wp2_with (first
              | (go_at_call 55
                 refine (htk _ (hs5.out.below ((Below.refl _ _).al _)) _ (kinds_lit _ _ [9, 10] _ rfl (by decide) rfl)).mono ?_
                 rintro e w6 ⟨rfl, hb6⟩
                 have hm6 := Lib.hid ((hm5.out.trans (Mvd.of ((Below.refl _ _).al _))).trans (Mvd.of hb6))
                 clear hb6)
              | (go_at_call 72
                 refine hpk.mono ?_
                 rintro e w5 ⟨rfl, hd⟩
                 have hs5 := Lib.hid (hs4.out.drawn hd)
                 have hm5 := Lib.hid (hm4.out.trans (Mvd.of (hd.below w4.heap.size)))
                 clear hd))
            all_goals exact ⟨rfl, by rw [hP.out]; exact ⟨rfl, hm6.out⟩⟩
end Go.Proofs.YtclioihichcpiaaDoor


/- Parse: a literal. -/
namespace Go.Proofs.YtclioihichcpiaaDoor
open Go.RowKit Lx
set_option maxHeartbeats 4000000 in
set_option maxRecDepth 100000 in
theorem pa_args_none (w : World) (b : Nat) (P : Ps) (tx : ByteArray) (ta : Option Addr) (tc i : Nat) (R0 R1 R2 R3 R4 R5 : Value) (h : PSt w b P tx ta tc i R0 R1 R2 R3 R4 R5) (h8 : ¬ P.kind i = 8) :
    Calls Tryd.prog 73 #[.pointer (some ⟨b, 0, none⟩)] w (ArgsPost b P tx ta tc R0 R1 R2 R3 R4 R5 w (.ok ([], i))) := by
  have hk := pa_kind w b P tx ta tc i R0 R1 R2 R3 R4 R5 h
  have h8' : (P.kind i == 8) = false := by rw [beq_eq_false_iff_ne]; exact h8
  clear h8
  generalize P.kind i = ki at hk h8'
  go_enter Tryd.func73, Tryd.ntmps73
  go_wp2_with fail
  go_step3
  go_wp2_with (go_at_call 72; refine hk.mono ?_; rintro e w1 ⟨rfl, hd⟩; have hs1 := Lib.hid (h.drawn hd); have hm1 := Lib.hid (Mvd.of (b := b) (hd.below w.heap.size)); clear hd)
  try rw [Exit.noGoto_ret]
  go_ret
  exact ⟨_, rfl, hs1.out, hm1.out, World.ownsRow_nil _ _ _ _⟩
theorem pa_args_all (w : World) (b : Nat) (P : Ps) (tx : ByteArray) (ta : Option Addr) (tc i : Nat) (R0 R1 R2 R3 R4 R5 : Value) (h : PSt w b P tx ta tc i R0 R1 R2 R3 R4 R5) :
    Calls Tryd.prog 73 #[.pointer (some ⟨b, 0, none⟩)] w (ArgsPost b P tx ta tc R0 R1 R2 R3 R4 R5 w (psArgs P i)) := by
  unfold psArgs
  by_cases h8 : P.kind i = 8
  · rw [if_pos h8]
    refine pa_args w b P tx ta tc i R0 R1 R2 R3 R4 R5 h h8 ?_
    rcases Nat.lt_or_ge i P.ts.length with h' | h'
    · exact h'
    · rw [Ps.kind_end h'] at h8; cases h8
  · rw [if_neg h8]
    exact pa_args_none w b P tx ta tc i R0 R1 R2 R3 R4 R5 h h8
/-- a literal -/
structure PLit where
  k : Int
  p : ByteArray
  a : List (Bool × ByteArray)
  l : Bool × ByteArray
  r : Bool × ByteArray
namespace Lx
def psAtom (P : Ps) (i : Nat) : Except Int ((ByteArray × List (Bool × ByteArray)) × Nat) :=
  match P.take i [1] with
  | .error e => .error e
  | .ok (t, j) => match psArgs P j with
    | .error e => .error e
    | .ok (l, k) => .ok ((mk t.text, l), k)
def psUnlike (P : Ps) (i : Nat) : Except Int (PLit × Nat) :=
  match psTerm P i with
  | .error e => .error e
  | .ok (t, j) => match P.take j [14] with
    | .error e => .error e
    | .ok (_, k) => match psTerm P k with
      | .error e => .error e
      | .ok (u, m) => .ok (⟨3, ⟨#[]⟩, [], t, u⟩, m)
def unlikeNext (P : Ps) (i : Nat) : Bool := (decide (i + 1 < P.ts.length) && P.kind (i + 1) == 14) || (decide (i + 1 = P.ts.length) && P.op.kind == 14)
def psLit (P : Ps) (i : Nat) : Except Int (PLit × Nat) :=
  if P.kind i = 7 then match psAtom P (i + 1) with
    | .error e => .error e
    | .ok ((p, l), k) => .ok (⟨2, p, l, (false, ⟨#[]⟩), (false, ⟨#[]⟩)⟩, k)
  else if P.kind i = 1 then
    if unlikeNext P i then psUnlike P i
    else match psAtom P i with
      | .error e => .error e
      | .ok ((p, l), k) => .ok (⟨1, p, l, (false, ⟨#[]⟩), (false, ⟨#[]⟩)⟩, k)
  else if P.kind i = 2 ∨ P.kind i = 3 ∨ P.kind i = 4 then psUnlike P i
  else .error (P.stop i [7, 1, 2, 3, 4])
end Lx
def LitPost (b : Nat) (P : Ps) (tx : ByteArray) (ta : Option Addr) (tc : Nat) (R0 R1 R2 R3 R4 R5 : Value) (w0 : World) (R : Except Int (PLit × Nat)) (e : Ending) (w' : World) : Prop :=
  match R with
  | .ok (x, k) => ∃ lv, e = .returned (.agg #[.int .i64 x.k, .string x.p, lv, .bool x.l.1, .string x.l.2, .bool x.r.1, .string x.r.2]) ∧ PSt w' b P tx ta tc k R0 R1 R2 R3 R4 R5 ∧ Mvd b w0 w' ∧ w'.ownsRow w0.heap.size 76 2 lv x.a.length (flatTT x.a)
  | .error x => e = thrown x ∧ Mvd b w0 w'
theorem kinds_litB (w : World) (g : Nat) (hg : w.heap.size = g) (e : TypeId) (zs : List Int) (cells : Array Value) (hc : cells = (zs.map (Value.int .i64)).toArray) (hl : zs.length ≤ 100) (hw : zs.all (fun z => decide (0 ≤ z ∧ z ≤ 100)) = true) : Ints .i64 (w.alloc (.cells cells e)) (some ⟨g, 0, none⟩) zs := by
  subst hg; exact kinds_lit w e zs cells hc hl hw
theorem run_tok_text (a c d : Value) (s : ByteArray) (w : World) : (Instr.field 92 (.agg #[a, .string s, c, d]) 1).run Tryd.prog w = .ok (.string s) w := by
  simp [Instr.field, go_sem, asAgg]
theorem own_baseP {w : World} {base base' : Nat} {e : TypeId} {size : Nat} {v : Value} {n : Nat} {xs : List Value} (h : w.ownsRow base e size v n xs) (hb : base' ≤ base) : w.ownsRow base' e size v n xs := by
  refine ⟨h.1, ?_⟩
  rcases h.2 with hn | ⟨k, cap, cur, rfl, hg, r⟩
  · exact .inl hn
  · exact .inr ⟨k, cap, cur, rfl, Nat.le_trans hb hg, r⟩
theorem lit_res {b : Nat} {w wn : World} {a0 a1 a2 a3 a4 a5 a6 : Value} {t : TypeId} (hb : b < w.heap.size) (h : Mvd b (w.alloc (.cells #[a0, a1, a2, a3, a4, a5, a6] t)) wn) : wn.heap[w.heap.size]? = some (.cells #[a0, a1, a2, a3, a4, a5, a6] t) ∧ Mvd b w wn :=
  ⟨(h.block w.heap.size (by rw [World.size_alloc]; omega) (fun e => by injection e with e; omega)).trans (heap_alloc_new _ _), (Mvd.of ((Below.refl _ _).al _)).trans h⟩
theorem sizeLit : (Tryd.prog.info? 79).map (fun i => i.size) = some 7 := by kernel_rfl
set_option maxHeartbeats 4000000 in
set_option maxRecDepth 100000 in
theorem pa_lit_not (w : World) (b : Nat) (P : Ps) (tx : ByteArray) (ta : Option Addr) (tc i : Nat) (R0 R1 R2 R3 R4 R5 : Value) (h : PSt w b P tx ta tc i R0 R1 R2 R3 R4 R5) (h7 : P.kind i = 7) (hlt : i < P.ts.length) :
    Calls Tryd.prog 74 #[.pointer (some ⟨b, 0, none⟩)] w (LitPost b P tx ta tc R0 R1 R2 R3 R4 R5 w (psLit P i)) := by
  have hk := fun w h => pa_kind w b P tx ta tc i R0 R1 R2 R3 R4 R5 h
  rw [h7] at hk
  have hlen := h.len
  have hbl := h.lt
  have hta : Hid (∀ x, ta = some x → x.block < w.heap.size) := Lib.hid fun x hx => by
    subst hx
    obtain ⟨tb, e1, g1, _⟩ := pst_tok h i hlt
    cases e1
    have hg := cell_lt g1
    exact hg
  have hW0 : Hid (PSt (w.alloc (.cells #[.int .i64 0, .string ⟨#[]⟩, .slice none 0 0, .bool false, .string ⟨#[]⟩, .bool false, .string ⟨#[]⟩] 79)) b P tx ta tc i R0 R1 R2 R3 R4 R5) := Lib.hid (h.below ((Below.refl _ _).al _))
  have hL : Hid (psLit P i = match psAtom P (i + 1) with | .error e => .error e | .ok ((p, l), k) => .ok (⟨2, p, l, (false, ⟨#[]⟩), (false, ⟨#[]⟩)⟩, k)) := Lib.hid (by unfold psLit; rw [if_pos h7])
  rcases take_cases P (i + 1) [1] (by decide) with ⟨t, ht, htt, hc, hlt2⟩ | ⟨x, ht, hxs, hc⟩
  · have htk := fun w h wa hw => pa_take_ok w b P tx ta tc (i + 1) R0 R1 R2 R3 R4 R5 h wa [1] 1 hw (by decide) hc hlt2
    have har := fun w h => pa_args_all w b P tx ta tc (i + 1 + 1) R0 R1 R2 R3 R4 R5 h
    have hP : Hid (psLit P i = match psArgs P (i + 1 + 1) with | .error e => .error e | .ok (l, k) => .ok (⟨2, mk (P.tok (i + 1)).text, l, (false, ⟨#[]⟩), (false, ⟨#[]⟩)⟩, k)) := Lib.hid (by
      rw [hL.out]; unfold psAtom; rw [ht]; dsimp only
      cases psArgs P (i + 1 + 1) with
      | error e => rfl
      | ok r => rw [htt])
    clear ht hc h7
    generalize mk (P.tok (i + 1)).text = tt at htk hP
    generalize ((P.tok (i + 1)).at_ : Int) = ta1 at htk
    generalize ((P.tok (i + 1)).end_ : Int) = te1 at htk
    generalize P.kind (i + 1) = kj at htk
    obtain ⟨AR, hAR⟩ : ∃ AR, AR = psArgs P (i + 1 + 1) := ⟨_, rfl⟩
    rw [← hAR] at hP har
    clear hAR htt
    go_enter Tryd.func74, Tryd.ntmps74
    go_wp2_with (go_at_call 72; refine (hk _ hW0.out).mono ?_; rintro e w1 ⟨rfl, hd⟩; have hs1 := hW0.out.drawn hd; obtain ⟨c1, c2, c4, c6, c7, cf⟩ := hs1.cells; have hm1 := Lib.hid (Mvd.of (b := b) (hd.below (w.alloc (.cells #[.int .i64 0, .string ⟨#[]⟩, .slice none 0 0, .bool false, .string ⟨#[]⟩, .bool false, .string ⟨#[]⟩] 79)).heap.size)); replace hs1 := Lib.hid hs1; clear hd)
    have hw2 := hs1.out.step hlt
    have hz2 : (w1.setCell ⟨b, 7, none⟩ (.int .i64 ((i : Int) + 1))).heap.size = w1.heap.size := by simp
    rw [show ((i + 1 : Nat) : Int) = (i : Int) + 1 from by omega] at hw2
    generalize w1.setCell ⟨b, 7, none⟩ (.int .i64 ((i : Int) + 1)) = w2 at hw2 hz2 ⊢
    generalize w1.heap.size = g at hz2 ⊢
    refine (htk _ (hw2.1.below ((Below.refl _ _).al _)) _ (kinds_litB _ _ hz2 _ [1] _ rfl (by decide) rfl)).mono ?_
    rintro e w3 ⟨rfl, hs30, hm30⟩
    have hm3 := Lib.hid ((hm1.out.trans hw2.2).trans ((Mvd.of ((Below.refl _ _).al _)).trans hm30))
    have hs3 := Lib.hid hs30
    have hw03 : Hid (w.heap.size ≤ w3.heap.size) := Lib.hid (lit_res hbl hm3.out).2.size
    have hw0g : Hid (w.heap.size < w3.heap.size) := Lib.hid (Array.getElem?_eq_some_iff.1 (lit_res hbl hm3.out).1).1
    clear hs30 hm30
    cases AR with
    | error x =>
      have hfld := run_tok_text (.int .i64 kj) (.int .i64 ta1) (.int .i64 te1) tt
      have har' : Hid (∀ w, PSt w b P tx ta tc (i + 1 + 1) R0 R1 R2 R3 R4 R5 → Calls Tryd.prog 73 #[.pointer (some ⟨b, 0, none⟩)] w fun e w' => e = .panicked [{ v := .iface 114 (.agg #[.int .i64 x]), recovered := false }] ∧ Mvd b w w') := Lib.hid har
      clear har
      go_wp2_with (go_at_call 73; refine (har'.out _ hs3.out).mono ?_; rintro e w4 ⟨rfl, hm4⟩; have hm5 := Lib.hid (hm3.out.trans hm4); clear hm4)
      exact ⟨rfl, by rw [hP.out]; exact ⟨rfl, (lit_res hbl hm5.out).2⟩⟩
    | ok r =>
      obtain ⟨l, k⟩ := r
      have hfld := run_tok_text (.int .i64 kj) (.int .i64 ta1) (.int .i64 te1) tt
      have har' : Hid (∀ w, PSt w b P tx ta tc (i + 1 + 1) R0 R1 R2 R3 R4 R5 → Calls Tryd.prog 73 #[.pointer (some ⟨b, 0, none⟩)] w fun e w' => ∃ lv, e = .returned lv ∧ PSt w' b P tx ta tc k R0 R1 R2 R3 R4 R5 ∧ Mvd b w w' ∧ w'.ownsRow w.heap.size 76 2 lv l.length (flatTT l)) := Lib.hid har
      clear har
      go_wp2_with (first
        | (have hg := hs4.out
           clear hg
           refine wpList_store_rowA rfl 79 (.tmp 2) (.tmp 26) rfl w.heap.size #[.int .i64 2, .string tt, .slice va l.length vc, .bool false, .string ⟨#[]⟩, .bool false, .string ⟨#[]⟩] rfl rfl 79 #[.int .i64 0, .string ⟨#[]⟩, .slice none 0 0, .bool false, .string ⟨#[]⟩, .bool false, .string ⟨#[]⟩] hr4 sizeLit rfl (by simp [Value.oneCell']) ?_)
        | (go_at_call 73
           refine (har'.out _ hs3.out).mono ?_
           rintro e w4 ⟨lv, rfl, hs40, hm40, hown40⟩
           have hm5 := Lib.hid (hm3.out.trans hm40)
           have hs4 := Lib.hid hs40
           have hr4 := Lib.hid (lit_res hbl hm5.out).1
           obtain ⟨va, vc, rfl, -⟩ := own_slice hown40
           have hown4 := Lib.hid hown40
           clear hs40 hm40 hown40))
      intro w5 hg5 hgr5 hsz5
      have hs5 := Lib.hid (hs4.out.mvd hgr5 (by omega) (fun x hx => by have := hta.out x hx; omega))
      have hm6 := Lib.hid ((lit_res hbl hm5.out).2.new hgr5)
      have hown5 : Hid (w5.ownsRow w.heap.size 76 2 (.slice va l.length vc) l.length (flatTT l)) := Lib.hid (by
        have h1 := own_stays hown4.out hgr5 (fun k hk e => by have := (hown4.out.lt k hk).1; have := hw03.out; injection e with e; have := hw0g.out; omega)
        exact own_baseP h1 hw03.out)
      clear hgr5 hsz5
      go_wp2_with fail
      refine bodyPost_ret (v := .agg #[.int .i64 2, .string tt, .slice va l.length vc, .bool false, .string ⟨#[]⟩, .bool false, .string ⟨#[]⟩]) (results_cell_row rfl _ _ w.heap.size 79 _ (0, 0) _ rfl hg5.out Tryd.underlying79 rfl sizeLit) rfl ?_
      rw [hP.out]
      exact ⟨_, rfl, hs5.out, hm6.out, hown5.out⟩
  · have hP : Hid (psLit P i = .error x) := Lib.hid (by rw [hL.out]; unfold psAtom; rw [ht])
    have htk := fun w h wa hw => pa_take_err w b P tx ta tc (i + 1) R0 R1 R2 R3 R4 R5 h wa [1] 1 hw (by decide) hc
    rw [← hxs] at htk
    unfold thrown at htk
    clear ht hxs hc h7
    go_enter Tryd.func74, Tryd.ntmps74
    go_wp2_with (go_at_call 72; refine (hk _ hW0.out).mono ?_; rintro e w1 ⟨rfl, hd⟩; have hs1 := hW0.out.drawn hd; obtain ⟨c1, c2, c4, c6, c7, cf⟩ := hs1.cells; have hm1 := Lib.hid (Mvd.of (b := b) (hd.below (w.alloc (.cells #[.int .i64 0, .string ⟨#[]⟩, .slice none 0 0, .bool false, .string ⟨#[]⟩, .bool false, .string ⟨#[]⟩] 79)).heap.size)); replace hs1 := Lib.hid hs1; clear hd)
    have hw2 := hs1.out.step hlt
    have hz2 : (w1.setCell ⟨b, 7, none⟩ (.int .i64 ((i : Int) + 1))).heap.size = w1.heap.size := by simp
    rw [show ((i + 1 : Nat) : Int) = (i : Int) + 1 from by omega] at hw2
    generalize w1.setCell ⟨b, 7, none⟩ (.int .i64 ((i : Int) + 1)) = w2 at hw2 hz2 ⊢
    generalize w1.heap.size = g at hz2 ⊢
    refine (htk _ (hw2.1.below ((Below.refl _ _).al _)) _ (kinds_litB _ _ hz2 _ [1] _ rfl (by decide) rfl)).mono ?_
    rintro e w3 ⟨rfl, hb3⟩
    have hmN := Lib.hid ((hm1.out.trans hw2.2).trans ((Mvd.of ((Below.refl _ _).al _)).trans (Mvd.of hb3)))
    exact ⟨rfl, by rw [hP.out]; exact ⟨rfl, (lit_res hbl hmN.out).2⟩⟩
end Go.Proofs.YtclioihichcpiaaDoor


/- Parse: a literal of two terms. -/
namespace Go.Proofs.YtclioihichcpiaaDoor
open Go.RowKit Lx
theorem Mvd.newr {b r : Nat} {w w1 w2 : World} (h : Mvd b w w1) (h2 : Mvd r w1 w2) (hr : w.heap.size ≤ r) : Mvd b w w2 :=
  ⟨h2.os.trans h.os, h2.tape.trans h.tape, h2.output.trans h.output, Nat.le_trans h.size h2.size, fun k hk hne => (h2.block k (Nat.lt_of_lt_of_le hk h.size) (fun e => by injection e with e; omega)).trans (h.block k hk hne)⟩
abbrev litZ : Array Value := #[.int .i64 0, .string ⟨#[]⟩, .slice none 0 0, .bool false, .string ⟨#[]⟩, .bool false, .string ⟨#[]⟩]
set_option maxHeartbeats 4000000 in
set_option maxRecDepth 100000 in
theorem pa_lit_unl (w : World) (b : Nat) (P : Ps) (tx : ByteArray) (ta : Option Addr) (tc i : Nat) (R0 R1 R2 R3 R4 R5 : Value) (h : PSt w b P tx ta tc i R0 R1 R2 R3 R4 R5) (kk : Int) (hkk : P.kind i = kk) (h7 : kk = 2 ∨ kk = 3 ∨ kk = 4 ∨ (kk = 1 ∧ i + 1 = P.ts.length ∧ P.op.kind = 14)) (hlt : i < P.ts.length) :
    Calls Tryd.prog 74 #[.pointer (some ⟨b, 0, none⟩)] w (LitPost b P tx ta tc R0 R1 R2 R3 R4 R5 w (psUnlike P i)) := by
  have hk := fun w h => pa_kind w b P tx ta tc i R0 R1 R2 R3 R4 R5 h
  rw [hkk] at hk
  have hlen := h.len
  have hbl := h.lt
  have hta : Hid (∀ x, ta = some x → x.block < w.heap.size) := Lib.hid fun x hx => by
    subst hx
    obtain ⟨tb, e1, g1, _⟩ := pst_tok h i hlt
    cases e1
    have hg := cell_lt g1
    exact hg
  have hW0 : Hid (PSt (w.alloc (.cells #[.int .i64 0, .string ⟨#[]⟩, .slice none 0 0, .bool false, .string ⟨#[]⟩, .bool false, .string ⟨#[]⟩] 79)) b P tx ta tc i R0 R1 R2 R3 R4 R5) := Lib.hid (h.below ((Below.refl _ _).al _))
  cases hx1 : psTerm P i with
  | error x =>
    have hP : Hid (psUnlike P i = .error x) := Lib.hid (by unfold psUnlike; rw [hx1])
    have hte := fun w h => pa_term_err w b P tx ta tc i R0 R1 R2 R3 R4 R5 h x hx1
    unfold thrown at hte
    clear hkk hx1
    rcases h7 with rfl | rfl | rfl | ⟨rfl, hn1, hn2⟩
    all_goals go_enter Tryd.func74, Tryd.ntmps74
    all_goals go_wp2_with (first
      | (go_at_call 89
         refine (hte _ (hs1.out)).mono ?_
         rintro e w2 ⟨rfl, hb2⟩
         have hm2 := Lib.hid (hm1.out.trans (Mvd.of hb2))
         clear hb2)
      | (go_at_call 72
         refine (hk _ hW0.out).mono ?_
         rintro e w1 ⟨rfl, hd⟩
         have hs1 := hW0.out.drawn hd
         obtain ⟨c1, c2, c4, c6, c7, cf⟩ := hs1.cells
         replace hs1 := Lib.hid hs1
         have hm1 := Lib.hid (Mvd.of (b := b) (hd.below (w.alloc (.cells #[.int .i64 0, .string ⟨#[]⟩, .slice none 0 0, .bool false, .string ⟨#[]⟩, .bool false, .string ⟨#[]⟩] 79)).heap.size))
         clear hd))
    all_goals exact ⟨rfl, by rw [hP.out]; exact ⟨rfl, (lit_res hbl hm2.out).2⟩⟩
  | ok r =>
    obtain ⟨⟨lv, lt⟩, j⟩ := r
    have hte := fun w h => pa_term_ok w b P tx ta tc i R0 R1 R2 R3 R4 R5 h lv lt j hx1
    have hU : Hid (psUnlike P i = match P.take j [14] with | .error e => .error e | .ok (_, k) => match psTerm P k with | .error e => .error e | .ok (u, m) => .ok (⟨3, ⟨#[]⟩, [], (lv, lt), u⟩, m)) := Lib.hid (by unfold psUnlike; rw [hx1]; try rfl)
    clear hkk hx1
    rcases take_cases P j [14] (by decide) with ⟨t, ht, htt, hc, hlt2⟩ | ⟨x, ht, hxs, hc⟩
    · have htk := fun w h wa hw => pa_take_ok w b P tx ta tc j R0 R1 R2 R3 R4 R5 h wa [14] 1 hw (by decide) hc hlt2
      have hV : Hid (psUnlike P i = match psTerm P (j + 1) with | .error e => .error e | .ok (u, m) => .ok (⟨3, ⟨#[]⟩, [], (lv, lt), u⟩, m)) := Lib.hid (by rw [hU.out, ht])
      clear ht hc htt hU
      generalize mk (P.tok j).text = tt at htk
      generalize ((P.tok j).at_ : Int) = ta1 at htk
      generalize ((P.tok j).end_ : Int) = te1 at htk
      generalize P.kind j = kj at htk
      cases hx2 : psTerm P (j + 1) with
      | error x =>
        have hP : Hid (psUnlike P i = .error x) := Lib.hid (by rw [hV.out, hx2])
        have hte2 := fun w h => pa_term_err w b P tx ta tc (j + 1) R0 R1 R2 R3 R4 R5 h x hx2
        unfold thrown at hte2
        clear hx2 hV
        rcases h7 with rfl | rfl | rfl | ⟨rfl, hn1, hn2⟩
        all_goals go_enter Tryd.func74, Tryd.ntmps74
        all_goals go_wp2_with (first
          | (go_at_call 89
             have hg := hs3.out
             clear hg
             refine (hte2 _ (hs3.out)).mono ?_
             rintro e w4 ⟨rfl, hb4⟩
             have hm4 := Lib.hid (hm3.out.trans (Mvd.of hb4))
             clear hb4)
          | (go_at_call 55
             refine (htk _ (hs2.out.below (((Below.refl _ _).al _).al _)) _ (kinds_lit2 _ _ _ [14] _ rfl (by decide) rfl)).mono ?_
             rintro e w3 ⟨rfl, hs30, hm30⟩
             have hbw2 := Nat.lt_of_lt_of_le hbl hr2.out.2.size
             have hr3 := Lib.hid (term_res hm30 hbw2)
             have hm3 := Lib.hid (hm2.out.trans hr3.out.2)
             have hs3 := Lib.hid hs30
             clear hs30 hm30)
          | (go_at_call 89
             refine (hte _ (hs1.out)).mono ?_
             rintro e w2 ⟨rfl, hs20, hm20⟩
             have hm2 := Lib.hid (hm1.out.trans hm20)
             have hs2 := Lib.hid hs20
             have hr2 := Lib.hid (lit_res hbl hm2.out)
             clear hs20 hm20)
          | (go_at_call 72
             refine (hk _ hW0.out).mono ?_
             rintro e w1 ⟨rfl, hd⟩
             have hs1 := hW0.out.drawn hd
             obtain ⟨c1, c2, c4, c6, c7, cf⟩ := hs1.cells
             replace hs1 := Lib.hid hs1
             have hm1 := Lib.hid (Mvd.of (b := b) (hd.below (w.alloc (.cells #[.int .i64 0, .string ⟨#[]⟩, .slice none 0 0, .bool false, .string ⟨#[]⟩, .bool false, .string ⟨#[]⟩] 79)).heap.size))
             clear hd))
        all_goals exact ⟨rfl, by rw [hP.out]; exact ⟨rfl, (lit_res hbl hm4.out).2⟩⟩
      | ok r2 =>
        obtain ⟨⟨rv, rt⟩, k⟩ := r2
        have hP : Hid (psUnlike P i = .ok (⟨3, ⟨#[]⟩, [], (lv, lt), (rv, rt)⟩, k)) := Lib.hid (by rw [hV.out, hx2])
        have hte2 := fun w h => pa_term_ok w b P tx ta tc (j + 1) R0 R1 R2 R3 R4 R5 h rv rt k hx2
        clear hx2 hV
        rcases h7 with rfl | rfl | rfl | ⟨rfl, hn1, hn2⟩
        all_goals go_enter Tryd.func74, Tryd.ntmps74
        all_goals go_wp2_with (first
          | (have hg := hs4.out
             clear hg
             refine wpList_store_rowA rfl 79 (.tmp 2) (.tmp 90) rfl w.heap.size #[.int .i64 3, .string ⟨#[]⟩, .slice none 0 0, .bool lv, .string lt, .bool rv, .string rt] rfl rfl 79 #[.int .i64 0, .string ⟨#[]⟩, .slice none 0 0, .bool false, .string ⟨#[]⟩, .bool false, .string ⟨#[]⟩] hr5.out sizeLit rfl (by simp [Value.oneCell']) ?_)
          | (go_at_call 89
             have hg := hs3.out
             clear hg
             refine (hte2 _ (hs3.out)).mono ?_
             rintro e w4 ⟨rfl, hs40, hm40⟩
             have hm4 := Lib.hid (hm3.out.trans hm40)
             have hr4 := Lib.hid (lit_res hbl hm4.out).1
             have hl4 := (hm40.block w2.heap.size (Array.getElem?_eq_some_iff.1 hr3.out.1).1 (fun e => by injection e with e; have := hr2.out.2.size; omega)).trans hr3.out.1
             have hs4 := Lib.hid hs40
             have q0 : w4.cell? ⟨w2.heap.size, 0, none⟩ = some (.int .i64 3) := by simp [World.cell?, hl4]
             have q1 : w4.cell? ⟨w2.heap.size, 1, none⟩ = some (.string ⟨#[]⟩) := by simp [World.cell?, hl4]
             have q2 : w4.cell? ⟨w2.heap.size, 2, none⟩ = some (.slice none 0 0) := by simp [World.cell?, hl4]
             have q3 : w4.cell? ⟨w2.heap.size, 3, none⟩ = some (.bool lv) := by simp [World.cell?, hl4]
             have q4 : w4.cell? ⟨w2.heap.size, 4, none⟩ = some (.string lt) := by simp [World.cell?, hl4]
             have q5 : w4.cell? ⟨w2.heap.size, 5, none⟩ = some (.bool false) := by simp [World.cell?, hl4]
             have q6 : w4.cell? ⟨w2.heap.size, 6, none⟩ = some (.string ⟨#[]⟩) := by simp [World.cell?, hl4]
             have f5 : w4.frozen? ⟨w2.heap.size, 5, none⟩ = false := by simp [World.frozen?, hl4]
             have f6 : w4.frozen? ⟨w2.heap.size, 6, none⟩ = false := by simp [World.frozen?, hl4]
             replace hl4 := Lib.hid hl4
             have hr5 : Hid (((w4.setCell ⟨w2.heap.size, 5, none⟩ (.bool rv)).setCell ⟨w2.heap.size, 6, none⟩ (.string rt)).heap[w.heap.size]? = some (.cells #[.int .i64 0, .string ⟨#[]⟩, .slice none 0 0, .bool false, .string ⟨#[]⟩, .bool false, .string ⟨#[]⟩] 79)) := Lib.hid (by
               have hne := (Array.getElem?_eq_some_iff.1 hr2.out.1).1
               exact (heap_setCell_other _ _ _ _ (by show w.heap.size ≠ w2.heap.size; omega)).trans ((heap_setCell_other _ _ _ _ (by show w.heap.size ≠ w2.heap.size; omega)).trans hr4.out))
             clear hs40 hm40)
          | (go_at_call 55
             refine (htk _ (hs2.out.below (((Below.refl _ _).al _).al _)) _ (kinds_lit2 _ _ _ [14] _ rfl (by decide) rfl)).mono ?_
             rintro e w3 ⟨rfl, hs30, hm30⟩
             have hbw2 := Nat.lt_of_lt_of_le hbl hr2.out.2.size
             have hr3 := Lib.hid (term_res hm30 hbw2)
             have hm3 := Lib.hid (hm2.out.trans hr3.out.2)
             have hs3 := Lib.hid hs30
             clear hs30 hm30)
          | (go_at_call 89
             refine (hte _ (hs1.out)).mono ?_
             rintro e w2 ⟨rfl, hs20, hm20⟩
             have hm2 := Lib.hid (hm1.out.trans hm20)
             have hs2 := Lib.hid hs20
             have hr2 := Lib.hid (lit_res hbl hm2.out)
             clear hs20 hm20)
          | (go_at_call 72
             refine (hk _ hW0.out).mono ?_
             rintro e w1 ⟨rfl, hd⟩
             have hs1 := hW0.out.drawn hd
             obtain ⟨c1, c2, c4, c6, c7, cf⟩ := hs1.cells
             replace hs1 := Lib.hid hs1
             have hm1 := Lib.hid (Mvd.of (b := b) (hd.below (w.alloc (.cells #[.int .i64 0, .string ⟨#[]⟩, .slice none 0 0, .bool false, .string ⟨#[]⟩, .bool false, .string ⟨#[]⟩] 79)).heap.size))
             clear hd))
        all_goals intro w6 hg6 hgr6 hsz6
        all_goals have hgl := (Array.getElem?_eq_some_iff.1 hr2.out.1).1
        all_goals have hmg : Mvd w2.heap.size w4 ((w4.setCell ⟨w2.heap.size, 5, none⟩ (.bool rv)).setCell ⟨w2.heap.size, 6, none⟩ (.string rt)) := ((Mvd.refl _ _).set _ _).set _ _
        all_goals have hs6 := Lib.hid ((hs4.out.mvd hmg (by omega) (fun x hx => by have := hta.out x hx; omega)).mvd hgr6 (by omega) (fun x hx => by have := hta.out x hx; omega))
        all_goals have hm6 := Lib.hid (((lit_res hbl hm4.out).2.newr hmg (by omega)).new hgr6)
        all_goals clear hgr6 hsz6 hmg q0 q1 q2 q3 q4 q5 q6 f5 f6
        all_goals go_wp2_with fail
        all_goals refine bodyPost_ret (v := .agg #[.int .i64 3, .string ⟨#[]⟩, .slice none 0 0, .bool lv, .string lt, .bool rv, .string rt]) (results_cell_row rfl _ _ w.heap.size 79 _ (0, 0) _ rfl hg6.out Tryd.underlying79 rfl sizeLit) rfl ?_
        all_goals (rw [hP.out]; exact ⟨_, rfl, hs6.out, hm6.out, World.ownsRow_nil _ _ _ _⟩)
    · have hP : Hid (psUnlike P i = .error x) := Lib.hid (by rw [hU.out, ht])
      have htk := fun w h wa hw => pa_take_err w b P tx ta tc j R0 R1 R2 R3 R4 R5 h wa [14] 1 hw (by decide) hc
      rw [← hxs] at htk
      unfold thrown at htk
      clear ht hxs hc hU
      rcases h7 with rfl | rfl | rfl | ⟨rfl, hn1, hn2⟩
      all_goals go_enter Tryd.func74, Tryd.ntmps74
      all_goals go_wp2_with (first
        | (go_at_call 55
           refine (htk _ (hs2.out.below (((Below.refl _ _).al _).al _)) _ (kinds_lit2 _ _ _ [14] _ rfl (by decide) rfl)).mono ?_
           rintro e w3 ⟨rfl, hb3⟩
           have hm3 := Lib.hid (hm2.out.trans ((Mvd.of (((Below.refl _ _).al _).al _)).trans (Mvd.of hb3)))
           clear hb3)
        | (go_at_call 89
           refine (hte _ (hs1.out)).mono ?_
           rintro e w2 ⟨rfl, hs20, hm20⟩
           have hm2 := Lib.hid (hm1.out.trans hm20)
           have hs2 := Lib.hid hs20
           clear hs20 hm20)
        | (go_at_call 72
           refine (hk _ hW0.out).mono ?_
           rintro e w1 ⟨rfl, hd⟩
           have hs1 := hW0.out.drawn hd
           obtain ⟨c1, c2, c4, c6, c7, cf⟩ := hs1.cells
           replace hs1 := Lib.hid hs1
           have hm1 := Lib.hid (Mvd.of (b := b) (hd.below (w.alloc (.cells #[.int .i64 0, .string ⟨#[]⟩, .slice none 0 0, .bool false, .string ⟨#[]⟩, .bool false, .string ⟨#[]⟩] 79)).heap.size))
           clear hd))
      all_goals exact ⟨rfl, by rw [hP.out]; exact ⟨rfl, (lit_res hbl hm3.out).2⟩⟩
set_option maxHeartbeats 4000000 in
set_option maxRecDepth 100000 in
theorem pa_lit_unlA (w : World) (b : Nat) (P : Ps) (tx : ByteArray) (ta : Option Addr) (tc i : Nat) (R0 R1 R2 R3 R4 R5 : Value) (h : PSt w b P tx ta tc i R0 R1 R2 R3 R4 R5) (kk : Int) (hkk : P.kind i = kk) (h7 : kk = 1 ∧ i + 1 < P.ts.length ∧ P.kind (i + 1) = 14) (hlt : i < P.ts.length) :
    Calls Tryd.prog 74 #[.pointer (some ⟨b, 0, none⟩)] w (LitPost b P tx ta tc R0 R1 R2 R3 R4 R5 w (psUnlike P i)) := by
  have hk := fun w h => pa_kind w b P tx ta tc i R0 R1 R2 R3 R4 R5 h
  rw [hkk] at hk
  have hlen := h.len
  have hbl := h.lt
  have hta : Hid (∀ x, ta = some x → x.block < w.heap.size) := Lib.hid fun x hx => by
    subst hx
    obtain ⟨tb, e1, g1, _⟩ := pst_tok h i hlt
    cases e1
    have hg := cell_lt g1
    exact hg
  have hk14 : Hid (i + 1 < P.ts.length ∧ P.kind (i + 1) = 14 → ∀ w1, PSt w1 b P tx ta tc i R0 R1 R2 R3 R4 R5 → ∃ tb, ta = some ⟨tb, 0, none⟩ ∧ w1.cell? ⟨tb, (i + 1) * 4, none⟩ = some (.int .i64 14)) := Lib.hid fun hh w1 hs => by
    obtain ⟨tb, e1, g1, _⟩ := pst_tok hs (i + 1) hh.1
    rw [hh.2] at g1
    exact ⟨tb, e1, g1⟩
  have hW0 : Hid (PSt (w.alloc (.cells #[.int .i64 0, .string ⟨#[]⟩, .slice none 0 0, .bool false, .string ⟨#[]⟩, .bool false, .string ⟨#[]⟩] 79)) b P tx ta tc i R0 R1 R2 R3 R4 R5) := Lib.hid (h.below ((Below.refl _ _).al _))
  cases hx1 : psTerm P i with
  | error x =>
    have hP : Hid (psUnlike P i = .error x) := Lib.hid (by unfold psUnlike; rw [hx1])
    have hte := fun w h => pa_term_err w b P tx ta tc i R0 R1 R2 R3 R4 R5 h x hx1
    unfold thrown at hte
    clear hkk hx1
    obtain ⟨rfl, hn1, hn2⟩ := h7
    all_goals go_enter Tryd.func74, Tryd.ntmps74
    all_goals go_wp2_with (first
      | (go_at_call 89
         refine (hte _ (hs1.out)).mono ?_
         rintro e w2 ⟨rfl, hb2⟩
         have hm2 := Lib.hid (hm1.out.trans (Mvd.of hb2))
         clear hb2)
      | (go_at_call 72
         refine (hk _ hW0.out).mono ?_
         rintro e w1 ⟨rfl, hd⟩
         have hs1 := hW0.out.drawn hd
         obtain ⟨c1, c2, c4, c6, c7, cf⟩ := hs1.cells
         obtain ⟨tb, rfl, d14⟩ := hk14.out ⟨hn1, hn2⟩ w1 hs1
         replace hs1 := Lib.hid hs1
         have hm1 := Lib.hid (Mvd.of (b := b) (hd.below (w.alloc (.cells #[.int .i64 0, .string ⟨#[]⟩, .slice none 0 0, .bool false, .string ⟨#[]⟩, .bool false, .string ⟨#[]⟩] 79)).heap.size))
         clear hd))
    all_goals exact ⟨rfl, by rw [hP.out]; exact ⟨rfl, (lit_res hbl hm2.out).2⟩⟩
  | ok r =>
    obtain ⟨⟨lv, lt⟩, j⟩ := r
    have hte := fun w h => pa_term_ok w b P tx ta tc i R0 R1 R2 R3 R4 R5 h lv lt j hx1
    have hU : Hid (psUnlike P i = match P.take j [14] with | .error e => .error e | .ok (_, k) => match psTerm P k with | .error e => .error e | .ok (u, m) => .ok (⟨3, ⟨#[]⟩, [], (lv, lt), u⟩, m)) := Lib.hid (by unfold psUnlike; rw [hx1]; try rfl)
    clear hkk hx1
    rcases take_cases P j [14] (by decide) with ⟨t, ht, htt, hc, hlt2⟩ | ⟨x, ht, hxs, hc⟩
    · have htk := fun w h wa hw => pa_take_ok w b P tx ta tc j R0 R1 R2 R3 R4 R5 h wa [14] 1 hw (by decide) hc hlt2
      have hV : Hid (psUnlike P i = match psTerm P (j + 1) with | .error e => .error e | .ok (u, m) => .ok (⟨3, ⟨#[]⟩, [], (lv, lt), u⟩, m)) := Lib.hid (by rw [hU.out, ht])
      clear ht hc htt hU
      generalize mk (P.tok j).text = tt at htk
      generalize ((P.tok j).at_ : Int) = ta1 at htk
      generalize ((P.tok j).end_ : Int) = te1 at htk
      generalize P.kind j = kj at htk
      cases hx2 : psTerm P (j + 1) with
      | error x =>
        have hP : Hid (psUnlike P i = .error x) := Lib.hid (by rw [hV.out, hx2])
        have hte2 := fun w h => pa_term_err w b P tx ta tc (j + 1) R0 R1 R2 R3 R4 R5 h x hx2
        unfold thrown at hte2
        clear hx2 hV
        obtain ⟨rfl, hn1, hn2⟩ := h7
        all_goals go_enter Tryd.func74, Tryd.ntmps74
        all_goals go_wp2_with (first
          | (go_at_call 89
             have hg := hs3.out
             clear hg
             refine (hte2 _ (hs3.out)).mono ?_
             rintro e w4 ⟨rfl, hb4⟩
             have hm4 := Lib.hid (hm3.out.trans (Mvd.of hb4))
             clear hb4)
          | (go_at_call 55
             refine (htk _ (hs2.out.below (((Below.refl _ _).al _).al _)) _ (kinds_lit2 _ _ _ [14] _ rfl (by decide) rfl)).mono ?_
             rintro e w3 ⟨rfl, hs30, hm30⟩
             have hbw2 := Nat.lt_of_lt_of_le hbl hr2.out.2.size
             have hr3 := Lib.hid (term_res hm30 hbw2)
             have hm3 := Lib.hid (hm2.out.trans hr3.out.2)
             have hs3 := Lib.hid hs30
             clear hs30 hm30)
          | (go_at_call 89
             refine (hte _ (hs1.out)).mono ?_
             rintro e w2 ⟨rfl, hs20, hm20⟩
             have hm2 := Lib.hid (hm1.out.trans hm20)
             have hs2 := Lib.hid hs20
             have hr2 := Lib.hid (lit_res hbl hm2.out)
             clear hs20 hm20)
          | (go_at_call 72
             refine (hk _ hW0.out).mono ?_
             rintro e w1 ⟨rfl, hd⟩
             have hs1 := hW0.out.drawn hd
             obtain ⟨c1, c2, c4, c6, c7, cf⟩ := hs1.cells
             obtain ⟨tb, rfl, d14⟩ := hk14.out ⟨hn1, hn2⟩ w1 hs1
             replace hs1 := Lib.hid hs1
             have hm1 := Lib.hid (Mvd.of (b := b) (hd.below (w.alloc (.cells #[.int .i64 0, .string ⟨#[]⟩, .slice none 0 0, .bool false, .string ⟨#[]⟩, .bool false, .string ⟨#[]⟩] 79)).heap.size))
             clear hd))
        all_goals exact ⟨rfl, by rw [hP.out]; exact ⟨rfl, (lit_res hbl hm4.out).2⟩⟩
      | ok r2 =>
        obtain ⟨⟨rv, rt⟩, k⟩ := r2
        have hP : Hid (psUnlike P i = .ok (⟨3, ⟨#[]⟩, [], (lv, lt), (rv, rt)⟩, k)) := Lib.hid (by rw [hV.out, hx2])
        have hte2 := fun w h => pa_term_ok w b P tx ta tc (j + 1) R0 R1 R2 R3 R4 R5 h rv rt k hx2
        clear hx2 hV
        obtain ⟨rfl, hn1, hn2⟩ := h7
        all_goals go_enter Tryd.func74, Tryd.ntmps74
        all_goals go_wp2_with (first
          | (have hg := hs4.out
             clear hg
             refine wpList_store_rowA rfl 79 (.tmp 2) (.tmp 90) rfl w.heap.size #[.int .i64 3, .string ⟨#[]⟩, .slice none 0 0, .bool lv, .string lt, .bool rv, .string rt] rfl rfl 79 #[.int .i64 0, .string ⟨#[]⟩, .slice none 0 0, .bool false, .string ⟨#[]⟩, .bool false, .string ⟨#[]⟩] hr5.out sizeLit rfl (by simp [Value.oneCell']) ?_)
          | (go_at_call 89
             have hg := hs3.out
             clear hg
             refine (hte2 _ (hs3.out)).mono ?_
             rintro e w4 ⟨rfl, hs40, hm40⟩
             have hm4 := Lib.hid (hm3.out.trans hm40)
             have hr4 := Lib.hid (lit_res hbl hm4.out).1
             have hl4 := (hm40.block w2.heap.size (Array.getElem?_eq_some_iff.1 hr3.out.1).1 (fun e => by injection e with e; have := hr2.out.2.size; omega)).trans hr3.out.1
             have hs4 := Lib.hid hs40
             have q0 : w4.cell? ⟨w2.heap.size, 0, none⟩ = some (.int .i64 3) := by simp [World.cell?, hl4]
             have q1 : w4.cell? ⟨w2.heap.size, 1, none⟩ = some (.string ⟨#[]⟩) := by simp [World.cell?, hl4]
             have q2 : w4.cell? ⟨w2.heap.size, 2, none⟩ = some (.slice none 0 0) := by simp [World.cell?, hl4]
             have q3 : w4.cell? ⟨w2.heap.size, 3, none⟩ = some (.bool lv) := by simp [World.cell?, hl4]
             have q4 : w4.cell? ⟨w2.heap.size, 4, none⟩ = some (.string lt) := by simp [World.cell?, hl4]
             have q5 : w4.cell? ⟨w2.heap.size, 5, none⟩ = some (.bool false) := by simp [World.cell?, hl4]
             have q6 : w4.cell? ⟨w2.heap.size, 6, none⟩ = some (.string ⟨#[]⟩) := by simp [World.cell?, hl4]
             have f5 : w4.frozen? ⟨w2.heap.size, 5, none⟩ = false := by simp [World.frozen?, hl4]
             have f6 : w4.frozen? ⟨w2.heap.size, 6, none⟩ = false := by simp [World.frozen?, hl4]
             replace hl4 := Lib.hid hl4
             have hr5 : Hid (((w4.setCell ⟨w2.heap.size, 5, none⟩ (.bool rv)).setCell ⟨w2.heap.size, 6, none⟩ (.string rt)).heap[w.heap.size]? = some (.cells #[.int .i64 0, .string ⟨#[]⟩, .slice none 0 0, .bool false, .string ⟨#[]⟩, .bool false, .string ⟨#[]⟩] 79)) := Lib.hid (by
               have hne := (Array.getElem?_eq_some_iff.1 hr2.out.1).1
               exact (heap_setCell_other _ _ _ _ (by show w.heap.size ≠ w2.heap.size; omega)).trans ((heap_setCell_other _ _ _ _ (by show w.heap.size ≠ w2.heap.size; omega)).trans hr4.out))
             clear hs40 hm40)
          | (go_at_call 55
             refine (htk _ (hs2.out.below (((Below.refl _ _).al _).al _)) _ (kinds_lit2 _ _ _ [14] _ rfl (by decide) rfl)).mono ?_
             rintro e w3 ⟨rfl, hs30, hm30⟩
             have hbw2 := Nat.lt_of_lt_of_le hbl hr2.out.2.size
             have hr3 := Lib.hid (term_res hm30 hbw2)
             have hm3 := Lib.hid (hm2.out.trans hr3.out.2)
             have hs3 := Lib.hid hs30
             clear hs30 hm30)
          | (go_at_call 89
             refine (hte _ (hs1.out)).mono ?_
             rintro e w2 ⟨rfl, hs20, hm20⟩
             have hm2 := Lib.hid (hm1.out.trans hm20)
             have hs2 := Lib.hid hs20
             have hr2 := Lib.hid (lit_res hbl hm2.out)
             clear hs20 hm20)
          | (go_at_call 72
             refine (hk _ hW0.out).mono ?_
             rintro e w1 ⟨rfl, hd⟩
             have hs1 := hW0.out.drawn hd
             obtain ⟨c1, c2, c4, c6, c7, cf⟩ := hs1.cells
             obtain ⟨tb, rfl, d14⟩ := hk14.out ⟨hn1, hn2⟩ w1 hs1
             replace hs1 := Lib.hid hs1
             have hm1 := Lib.hid (Mvd.of (b := b) (hd.below (w.alloc (.cells #[.int .i64 0, .string ⟨#[]⟩, .slice none 0 0, .bool false, .string ⟨#[]⟩, .bool false, .string ⟨#[]⟩] 79)).heap.size))
             clear hd))
        all_goals intro w6 hg6 hgr6 hsz6
        all_goals have hgl := (Array.getElem?_eq_some_iff.1 hr2.out.1).1
        all_goals have hmg : Mvd w2.heap.size w4 ((w4.setCell ⟨w2.heap.size, 5, none⟩ (.bool rv)).setCell ⟨w2.heap.size, 6, none⟩ (.string rt)) := ((Mvd.refl _ _).set _ _).set _ _
        all_goals have hs6 := Lib.hid ((hs4.out.mvd hmg (by omega) (fun x hx => by have := hta.out x hx; omega)).mvd hgr6 (by omega) (fun x hx => by have := hta.out x hx; omega))
        all_goals have hm6 := Lib.hid (((lit_res hbl hm4.out).2.newr hmg (by omega)).new hgr6)
        all_goals clear hgr6 hsz6 hmg q0 q1 q2 q3 q4 q5 q6 f5 f6
        all_goals go_wp2_with fail
        all_goals refine bodyPost_ret (v := .agg #[.int .i64 3, .string ⟨#[]⟩, .slice none 0 0, .bool lv, .string lt, .bool rv, .string rt]) (results_cell_row rfl _ _ w.heap.size 79 _ (0, 0) _ rfl hg6.out Tryd.underlying79 rfl sizeLit) rfl ?_
        all_goals (rw [hP.out]; exact ⟨_, rfl, hs6.out, hm6.out, World.ownsRow_nil _ _ _ _⟩)
    · have hP : Hid (psUnlike P i = .error x) := Lib.hid (by rw [hU.out, ht])
      have htk := fun w h wa hw => pa_take_err w b P tx ta tc j R0 R1 R2 R3 R4 R5 h wa [14] 1 hw (by decide) hc
      rw [← hxs] at htk
      unfold thrown at htk
      clear ht hxs hc hU
      obtain ⟨rfl, hn1, hn2⟩ := h7
      all_goals go_enter Tryd.func74, Tryd.ntmps74
      all_goals go_wp2_with (first
        | (go_at_call 55
           refine (htk _ (hs2.out.below (((Below.refl _ _).al _).al _)) _ (kinds_lit2 _ _ _ [14] _ rfl (by decide) rfl)).mono ?_
           rintro e w3 ⟨rfl, hb3⟩
           have hm3 := Lib.hid (hm2.out.trans ((Mvd.of (((Below.refl _ _).al _).al _)).trans (Mvd.of hb3)))
           clear hb3)
        | (go_at_call 89
           refine (hte _ (hs1.out)).mono ?_
           rintro e w2 ⟨rfl, hs20, hm20⟩
           have hm2 := Lib.hid (hm1.out.trans hm20)
           have hs2 := Lib.hid hs20
           clear hs20 hm20)
        | (go_at_call 72
           refine (hk _ hW0.out).mono ?_
           rintro e w1 ⟨rfl, hd⟩
           have hs1 := hW0.out.drawn hd
           obtain ⟨c1, c2, c4, c6, c7, cf⟩ := hs1.cells
           obtain ⟨tb, rfl, d14⟩ := hk14.out ⟨hn1, hn2⟩ w1 hs1
           replace hs1 := Lib.hid hs1
           have hm1 := Lib.hid (Mvd.of (b := b) (hd.below (w.alloc (.cells #[.int .i64 0, .string ⟨#[]⟩, .slice none 0 0, .bool false, .string ⟨#[]⟩, .bool false, .string ⟨#[]⟩] 79)).heap.size))
           clear hd))
      all_goals exact ⟨rfl, by rw [hP.out]; exact ⟨rfl, (lit_res hbl hm3.out).2⟩⟩
end Go.Proofs.YtclioihichcpiaaDoor
