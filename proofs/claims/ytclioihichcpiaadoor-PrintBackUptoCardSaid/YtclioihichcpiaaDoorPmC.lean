/- Parse: a literal, joined. -/
import Derived.Test.YtclioihichcpiaaDoorPmB
import Derived.Defers
import Derived.Recover
import Derived.Laws.Pointers
namespace Go.Proofs.YtclioihichcpiaaDoor
open Go.RowKit Lx
set_option maxHeartbeats 4000000 in
set_option maxRecDepth 100000 in
theorem pa_lit_bad (w : World) (b : Nat) (P : Ps) (tx : ByteArray) (ta : Option Addr) (tc i : Nat) (R0 R1 R2 R3 R4 R5 : Value) (h : PSt w b P tx ta tc i R0 R1 R2 R3 R4 R5) (h7 : ¬ P.kind i = 7) (h1 : ¬ P.kind i = 1) (h2 : ¬ (P.kind i = 2 ∨ P.kind i = 3 ∨ P.kind i = 4)) :
    Calls Tryd.prog 74 #[.pointer (some ⟨b, 0, none⟩)] w (LitPost b P tx ta tc R0 R1 R2 R3 R4 R5 w (psLit P i)) := by
  have hk := fun w h => pa_kind w b P tx ta tc i R0 R1 R2 R3 R4 R5 h
  have hbl := h.lt
  have hP : Hid (psLit P i = .error (P.stop i [7, 1, 2, 3, 4])) := Lib.hid (by unfold psLit; rw [if_neg h7, if_neg h1, if_neg h2])
  have hW0 : Hid (PSt (w.alloc (.cells #[.int .i64 0, .string ⟨#[]⟩, .slice none 0 0, .bool false, .string ⟨#[]⟩, .bool false, .string ⟨#[]⟩] 79)) b P tx ta tc i R0 R1 R2 R3 R4 R5) := Lib.hid (h.below ((Below.refl _ _).al _))
  have hps := fun w h wa hw => pa_stop w b P tx ta tc i R0 R1 R2 R3 R4 R5 h wa [7, 1, 2, 3, 4] 5 hw (by decide)
  unfold thrown at hps
  generalize P.stop i [7, 1, 2, 3, 4] = x at hP hps
  have k7 : (P.kind i == 7) = false := by rw [beq_eq_false_iff_ne]; exact h7
  have k1 : (P.kind i == 1) = false := by rw [beq_eq_false_iff_ne]; exact h1
  have k2 : (P.kind i == 2) = false := by rw [beq_eq_false_iff_ne]; omega
  have k3 : (P.kind i == 3) = false := by rw [beq_eq_false_iff_ne]; omega
  have k4 : (P.kind i == 4) = false := by rw [beq_eq_false_iff_ne]; omega
  clear h7 h1 h2
  generalize P.kind i = ki at hk k7 k1 k2 k3 k4
  go_enter Tryd.func74, Tryd.ntmps74
  go_wp2_with (first
    | (go_at_call 34
       refine (hps _ (hs1.out.below ((Below.refl _ _).al _)) _ (kinds_lit _ _ [7, 1, 2, 3, 4] _ rfl (by decide) rfl)).mono ?_
       rintro e w2 ⟨rfl, hb2⟩
       have hm2 := Lib.hid (hm1.out.trans ((Mvd.of ((Below.refl _ _).al _)).trans (Mvd.of hb2)))
       clear hb2)
    | (go_at_call 72
       refine (hk _ hW0.out).mono ?_
       rintro e w1 ⟨rfl, hd⟩
       have hs1 := Lib.hid (hW0.out.drawn hd)
       have hm1 := Lib.hid (Mvd.of (b := b) (hd.below (w.alloc (.cells #[.int .i64 0, .string ⟨#[]⟩, .slice none 0 0, .bool false, .string ⟨#[]⟩, .bool false, .string ⟨#[]⟩] 79)).heap.size))
       clear hd))
  exact ⟨rfl, by rw [hP.out]; exact ⟨rfl, (lit_res hbl hm2.out).2⟩⟩
/- MARK -/
set_option maxHeartbeats 4000000 in
set_option maxRecDepth 100000 in
theorem pa_lit_posA (w : World) (b : Nat) (P : Ps) (tx : ByteArray) (ta : Option Addr) (tc i : Nat) (R0 R1 R2 R3 R4 R5 : Value) (h : PSt w b P tx ta tc i R0 R1 R2 R3 R4 R5) (h1 : P.kind i = 1) (hlt : i < P.ts.length) (hn1 : i + 1 < P.ts.length) (hn2 : ¬ P.kind (i + 1) = 14) :
    Calls Tryd.prog 74 #[.pointer (some ⟨b, 0, none⟩)] w (LitPost b P tx ta tc R0 R1 R2 R3 R4 R5 w (psLit P i)) := by
  have hk := fun w h => pa_kind w b P tx ta tc i R0 R1 R2 R3 R4 R5 h
  rw [h1] at hk
  have hlen := h.len
  have hbl := h.lt
  have hta : Hid (∀ x, ta = some x → x.block < w.heap.size) := Lib.hid fun x hx => by
    subst hx
    obtain ⟨tb, e1, g1, _⟩ := pst_tok h i hlt
    cases e1
    have hg := cell_lt g1
    exact hg
  have hW0 : Hid (PSt (w.alloc (.cells #[.int .i64 0, .string ⟨#[]⟩, .slice none 0 0, .bool false, .string ⟨#[]⟩, .bool false, .string ⟨#[]⟩] 79)) b P tx ta tc i R0 R1 R2 R3 R4 R5) := Lib.hid (h.below ((Below.refl _ _).al _))
  obtain ⟨kn, hkn⟩ : ∃ kn, kn = P.kind (i + 1) := ⟨_, rfl⟩
  have hk14 : Hid (i + 1 < P.ts.length ∧ kn = kn → ∀ w1, PSt w1 b P tx ta tc i R0 R1 R2 R3 R4 R5 → ∃ tb, ta = some ⟨tb, 0, none⟩ ∧ w1.cell? ⟨tb, (i + 1) * 4, none⟩ = some (.int .i64 kn)) := Lib.hid fun hh w1 hs => by
    obtain ⟨tb, e1, g1, _⟩ := pst_tok hs (i + 1) hh.1
    rw [← hkn] at g1
    exact ⟨tb, e1, g1⟩
  have hne : (kn == 14) = false := by rw [beq_eq_false_iff_ne, hkn]; exact hn2
  have hU : unlikeNext P i = false := by
    unfold unlikeNext
    rw [show (P.kind (i + 1) == 14) = false from by rw [beq_eq_false_iff_ne]; exact hn2, decide_eq_false (show ¬ (i + 1 = P.ts.length) from by omega)]
    simp
  clear hkn hn2
  have hL : Hid (psLit P i = match psAtom P i with | .error e => .error e | .ok ((p, l), k) => .ok (⟨1, p, l, (false, ⟨#[]⟩), (false, ⟨#[]⟩)⟩, k)) := Lib.hid (by unfold psLit; rw [if_neg (by omega), if_pos h1, hU]; rfl)
  have hc : [1].contains (P.kind i) = true := by rw [h1]; decide
  have ht : P.take i [1] = .ok (P.tok i, i + 1) := by unfold Ps.take; rw [hc]; rfl
  have htk := fun w h wa hw => pa_take_ok w b P tx ta tc i R0 R1 R2 R3 R4 R5 h wa [1] 1 hw (by decide) hc hlt
  have har := fun w h => pa_args_all w b P tx ta tc (i + 1) R0 R1 R2 R3 R4 R5 h
  have hP : Hid (psLit P i = match psArgs P (i + 1) with | .error e => .error e | .ok (l, k) => .ok (⟨1, mk (P.tok i).text, l, (false, ⟨#[]⟩), (false, ⟨#[]⟩)⟩, k)) := Lib.hid (by
    rw [hL.out]; unfold psAtom; rw [ht]; dsimp only
    cases psArgs P (i + 1) with
    | error e => rfl
    | ok r => rfl)
  rw [h1] at htk
  clear ht hc hU hL
  generalize mk (P.tok i).text = tt at htk hP
  generalize ((P.tok i).at_ : Int) = ta1 at htk
  generalize ((P.tok i).end_ : Int) = te1 at htk
  obtain ⟨AR, hAR⟩ : ∃ AR, AR = psArgs P (i + 1) := ⟨_, rfl⟩
  rw [← hAR] at hP har
  clear hAR h1
  go_enter Tryd.func74, Tryd.ntmps74
  go_wp2_with (first
    | (go_at_call 72
       refine (hk _ hW0.out).mono ?_
       rintro e w1 ⟨rfl, hd⟩
       have hs1 := hW0.out.drawn hd
       obtain ⟨c1, c2, c4, c6, c7, cf⟩ := hs1.cells
       obtain ⟨tb, rfl, d14⟩ := hk14.out ⟨hn1, rfl⟩ w1 hs1
       replace hs1 := Lib.hid hs1
       have hm1 := Lib.hid (Mvd.of (b := b) (hd.below (w.alloc (.cells #[.int .i64 0, .string ⟨#[]⟩, .slice none 0 0, .bool false, .string ⟨#[]⟩, .bool false, .string ⟨#[]⟩] 79)).heap.size))
       clear hd))
  refine (htk _ (hs1.out.below ((Below.refl _ _).al _)) _ (kinds_lit _ _ [1] _ rfl (by decide) rfl)).mono ?_
  rintro e w3 ⟨rfl, hs30, hm30⟩
  have hm3 := Lib.hid (hm1.out.trans ((Mvd.of ((Below.refl _ _).al _)).trans hm30))
  have hs3 := Lib.hid hs30
  have hw03 : Hid (w.heap.size ≤ w3.heap.size) := Lib.hid (lit_res hbl hm3.out).2.size
  have hw0g : Hid (w.heap.size < w3.heap.size) := Lib.hid (Array.getElem?_eq_some_iff.1 (lit_res hbl hm3.out).1).1
  clear hs30 hm30
  have hfld := run_tok_text (.int .i64 1) (.int .i64 ta1) (.int .i64 te1) tt
  cases AR with
  | error x =>
    have har' : Hid (∀ w, PSt w b P tx (some ⟨tb, 0, none⟩) tc (i + 1) R0 R1 R2 R3 R4 R5 → Calls Tryd.prog 73 #[.pointer (some ⟨b, 0, none⟩)] w fun e w' => e = .panicked [{ v := .iface 114 (.agg #[.int .i64 x]), recovered := false }] ∧ Mvd b w w') := Lib.hid har
    clear har
    go_wp2_with (go_at_call 73; refine (har'.out _ hs3.out).mono ?_; rintro e w4 ⟨rfl, hm4⟩; have hm5 := Lib.hid (hm3.out.trans hm4); clear hm4)
    exact ⟨rfl, by rw [hP.out]; exact ⟨rfl, (lit_res hbl hm5.out).2⟩⟩
  | ok r =>
    obtain ⟨l, k⟩ := r
    have har' : Hid (∀ w, PSt w b P tx (some ⟨tb, 0, none⟩) tc (i + 1) R0 R1 R2 R3 R4 R5 → Calls Tryd.prog 73 #[.pointer (some ⟨b, 0, none⟩)] w fun e w' => ∃ lv, e = .returned lv ∧ PSt w' b P tx (some ⟨tb, 0, none⟩) tc k R0 R1 R2 R3 R4 R5 ∧ Mvd b w w' ∧ w'.ownsRow w.heap.size 76 2 lv l.length (flatTT l)) := Lib.hid har
    clear har
    go_wp2_with (first
      | (have hg := hs4.out
         clear hg
         refine wpList_store_rowA rfl 79 (.tmp 2) (.tmp 76) rfl w.heap.size #[.int .i64 1, .string tt, .slice va l.length vc, .bool false, .string ⟨#[]⟩, .bool false, .string ⟨#[]⟩] rfl rfl 79 #[.int .i64 0, .string ⟨#[]⟩, .slice none 0 0, .bool false, .string ⟨#[]⟩, .bool false, .string ⟨#[]⟩] hr4.out sizeLit rfl (by simp [Value.oneCell']) ?_)
      | (go_at_call 73
         refine (har'.out _ hs3.out).mono ?_
         rintro e w4 ⟨lv, rfl, hs40, hm40, hown40⟩
         have hm5 := Lib.hid (hm3.out.trans hm40)
         have hs4 := Lib.hid hs40
         have hr4 := Lib.hid (lit_res hbl hm5.out).1
         obtain ⟨va, vc, rfl, -⟩ := own_slice hown40
         have hown4 := Lib.hid hown40
         clear hs40 hm40 hown40))
    intro w5 hg5 hgr5 hsz5
    have hs5 := Lib.hid (hs4.out.mvd hgr5 (by omega) (fun x hx => by have := hta.out x hx; omega))
    have hm6 := Lib.hid ((lit_res hbl hm5.out).2.new hgr5)
    have hown5 : Hid (w5.ownsRow w.heap.size 76 2 (.slice va l.length vc) l.length (flatTT l)) := Lib.hid (by
      have h1 := own_stays hown4.out hgr5 (fun k hk e => by have := (hown4.out.lt k hk).1; have := hw03.out; injection e with e; have := hw0g.out; omega)
      exact own_baseP h1 hw03.out)
    clear hgr5 hsz5
    go_wp2_with fail
    refine bodyPost_ret (v := .agg #[.int .i64 1, .string tt, .slice va l.length vc, .bool false, .string ⟨#[]⟩, .bool false, .string ⟨#[]⟩]) (results_cell_row rfl _ _ w.heap.size 79 _ (0, 0) _ rfl hg5.out Tryd.underlying79 rfl sizeLit) rfl ?_
    rw [hP.out]
    exact ⟨_, rfl, hs5.out, hm6.out, hown5.out⟩
set_option maxHeartbeats 4000000 in
set_option maxRecDepth 100000 in
theorem pa_lit_posB (w : World) (b : Nat) (P : Ps) (tx : ByteArray) (ta : Option Addr) (tc i : Nat) (R0 R1 R2 R3 R4 R5 : Value) (h : PSt w b P tx ta tc i R0 R1 R2 R3 R4 R5) (h1 : P.kind i = 1) (hlt : i < P.ts.length) (hn1 : i + 1 = P.ts.length) (hn2 : ¬ P.op.kind = 14) :
    Calls Tryd.prog 74 #[.pointer (some ⟨b, 0, none⟩)] w (LitPost b P tx ta tc R0 R1 R2 R3 R4 R5 w (psLit P i)) := by
  have hk := fun w h => pa_kind w b P tx ta tc i R0 R1 R2 R3 R4 R5 h
  rw [h1] at hk
  have hlen := h.len
  have hbl := h.lt
  have hta : Hid (∀ x, ta = some x → x.block < w.heap.size) := Lib.hid fun x hx => by
    subst hx
    obtain ⟨tb, e1, g1, _⟩ := pst_tok h i hlt
    cases e1
    have hg := cell_lt g1
    exact hg
  have hW0 : Hid (PSt (w.alloc (.cells #[.int .i64 0, .string ⟨#[]⟩, .slice none 0 0, .bool false, .string ⟨#[]⟩, .bool false, .string ⟨#[]⟩] 79)) b P tx ta tc i R0 R1 R2 R3 R4 R5) := Lib.hid (h.below ((Below.refl _ _).al _))
  have hne : (P.op.kind == 14) = false := by rw [beq_eq_false_iff_ne]; exact hn2
  have hU : unlikeNext P i = false := by
    unfold unlikeNext
    rw [hne, decide_eq_false (show ¬ (i + 1 < P.ts.length) from by omega)]
    simp
  clear hn2
  have hL : Hid (psLit P i = match psAtom P i with | .error e => .error e | .ok ((p, l), k) => .ok (⟨1, p, l, (false, ⟨#[]⟩), (false, ⟨#[]⟩)⟩, k)) := Lib.hid (by unfold psLit; rw [if_neg (by omega), if_pos h1, hU]; rfl)
  have hc : [1].contains (P.kind i) = true := by rw [h1]; decide
  have ht : P.take i [1] = .ok (P.tok i, i + 1) := by unfold Ps.take; rw [hc]; rfl
  have htk := fun w h wa hw => pa_take_ok w b P tx ta tc i R0 R1 R2 R3 R4 R5 h wa [1] 1 hw (by decide) hc hlt
  have har := fun w h => pa_args_all w b P tx ta tc (i + 1) R0 R1 R2 R3 R4 R5 h
  have hP : Hid (psLit P i = match psArgs P (i + 1) with | .error e => .error e | .ok (l, k) => .ok (⟨1, mk (P.tok i).text, l, (false, ⟨#[]⟩), (false, ⟨#[]⟩)⟩, k)) := Lib.hid (by
    rw [hL.out]; unfold psAtom; rw [ht]; dsimp only
    cases psArgs P (i + 1) with
    | error e => rfl
    | ok r => rfl)
  rw [h1] at htk
  clear ht hc hU hL
  generalize mk (P.tok i).text = tt at htk hP
  generalize ((P.tok i).at_ : Int) = ta1 at htk
  generalize ((P.tok i).end_ : Int) = te1 at htk
  obtain ⟨AR, hAR⟩ : ∃ AR, AR = psArgs P (i + 1) := ⟨_, rfl⟩
  rw [← hAR] at hP har
  clear hAR h1
  go_enter Tryd.func74, Tryd.ntmps74
  go_wp2_with (first
    | (go_at_call 72
       refine (hk _ hW0.out).mono ?_
       rintro e w1 ⟨rfl, hd⟩
       have hs1 := hW0.out.drawn hd
       obtain ⟨c1, c2, c4, c6, c7, cf⟩ := hs1.cells
       replace hs1 := Lib.hid hs1
       have hm1 := Lib.hid (Mvd.of (b := b) (hd.below (w.alloc (.cells #[.int .i64 0, .string ⟨#[]⟩, .slice none 0 0, .bool false, .string ⟨#[]⟩, .bool false, .string ⟨#[]⟩] 79)).heap.size))
       clear hd))
  refine (htk _ (hs1.out.below ((Below.refl _ _).al _)) _ (kinds_lit _ _ [1] _ rfl (by decide) rfl)).mono ?_
  rintro e w3 ⟨rfl, hs30, hm30⟩
  have hm3 := Lib.hid (hm1.out.trans ((Mvd.of ((Below.refl _ _).al _)).trans hm30))
  have hs3 := Lib.hid hs30
  have hw03 : Hid (w.heap.size ≤ w3.heap.size) := Lib.hid (lit_res hbl hm3.out).2.size
  have hw0g : Hid (w.heap.size < w3.heap.size) := Lib.hid (Array.getElem?_eq_some_iff.1 (lit_res hbl hm3.out).1).1
  clear hs30 hm30
  have hfld := run_tok_text (.int .i64 1) (.int .i64 ta1) (.int .i64 te1) tt
  cases AR with
  | error x =>
    have har' : Hid (∀ w, PSt w b P tx ta tc (i + 1) R0 R1 R2 R3 R4 R5 → Calls Tryd.prog 73 #[.pointer (some ⟨b, 0, none⟩)] w fun e w' => e = .panicked [{ v := .iface 114 (.agg #[.int .i64 x]), recovered := false }] ∧ Mvd b w w') := Lib.hid har
    clear har
    go_wp2_with (go_at_call 73; refine (har'.out _ hs3.out).mono ?_; rintro e w4 ⟨rfl, hm4⟩; have hm5 := Lib.hid (hm3.out.trans hm4); clear hm4)
    exact ⟨rfl, by rw [hP.out]; exact ⟨rfl, (lit_res hbl hm5.out).2⟩⟩
  | ok r =>
    obtain ⟨l, k⟩ := r
    have har' : Hid (∀ w, PSt w b P tx ta tc (i + 1) R0 R1 R2 R3 R4 R5 → Calls Tryd.prog 73 #[.pointer (some ⟨b, 0, none⟩)] w fun e w' => ∃ lv, e = .returned lv ∧ PSt w' b P tx ta tc k R0 R1 R2 R3 R4 R5 ∧ Mvd b w w' ∧ w'.ownsRow w.heap.size 76 2 lv l.length (flatTT l)) := Lib.hid har
    clear har
    go_wp2_with (first
      | (have hg := hs4.out
         clear hg
         refine wpList_store_rowA rfl 79 (.tmp 2) (.tmp 76) rfl w.heap.size #[.int .i64 1, .string tt, .slice va l.length vc, .bool false, .string ⟨#[]⟩, .bool false, .string ⟨#[]⟩] rfl rfl 79 #[.int .i64 0, .string ⟨#[]⟩, .slice none 0 0, .bool false, .string ⟨#[]⟩, .bool false, .string ⟨#[]⟩] hr4.out sizeLit rfl (by simp [Value.oneCell']) ?_)
      | (go_at_call 73
         refine (har'.out _ hs3.out).mono ?_
         rintro e w4 ⟨lv, rfl, hs40, hm40, hown40⟩
         have hm5 := Lib.hid (hm3.out.trans hm40)
         have hs4 := Lib.hid hs40
         have hr4 := Lib.hid (lit_res hbl hm5.out).1
         obtain ⟨va, vc, rfl, -⟩ := own_slice hown40
         have hown4 := Lib.hid hown40
         clear hs40 hm40 hown40))
    intro w5 hg5 hgr5 hsz5
    have hs5 := Lib.hid (hs4.out.mvd hgr5 (by omega) (fun x hx => by have := hta.out x hx; omega))
    have hm6 := Lib.hid ((lit_res hbl hm5.out).2.new hgr5)
    have hown5 : Hid (w5.ownsRow w.heap.size 76 2 (.slice va l.length vc) l.length (flatTT l)) := Lib.hid (by
      have h1 := own_stays hown4.out hgr5 (fun k hk e => by have := (hown4.out.lt k hk).1; have := hw03.out; injection e with e; have := hw0g.out; omega)
      exact own_baseP h1 hw03.out)
    clear hgr5 hsz5
    go_wp2_with fail
    refine bodyPost_ret (v := .agg #[.int .i64 1, .string tt, .slice va l.length vc, .bool false, .string ⟨#[]⟩, .bool false, .string ⟨#[]⟩]) (results_cell_row rfl _ _ w.heap.size 79 _ (0, 0) _ rfl hg5.out Tryd.underlying79 rfl sizeLit) rfl ?_
    rw [hP.out]
    exact ⟨_, rfl, hs5.out, hm6.out, hown5.out⟩
theorem pa_lit (w : World) (b : Nat) (P : Ps) (tx : ByteArray) (ta : Option Addr) (tc i : Nat) (R0 R1 R2 R3 R4 R5 : Value) (h : PSt w b P tx ta tc i R0 R1 R2 R3 R4 R5) :
    Calls Tryd.prog 74 #[.pointer (some ⟨b, 0, none⟩)] w (LitPost b P tx ta tc R0 R1 R2 R3 R4 R5 w (psLit P i)) := by
  have hlt : ¬ P.kind i = 0 → i < P.ts.length := fun h0 => by
    rcases Nat.lt_or_ge i P.ts.length with h' | h'
    · exact h'
    · exact absurd (Ps.kind_end h') h0
  by_cases h7 : P.kind i = 7
  · exact pa_lit_not w b P tx ta tc i R0 R1 R2 R3 R4 R5 h h7 (hlt (by omega))
  · by_cases h1 : P.kind i = 1
    · have hl := hlt (by omega)
      have hu : unlikeNext P i = true → psLit P i = psUnlike P i := fun hu => by unfold psLit; rw [if_neg h7, if_pos h1, if_pos hu]
      rcases Nat.lt_or_ge (i + 1) P.ts.length with hn | hn
      · by_cases hk : P.kind (i + 1) = 14
        · rw [hu (by unfold unlikeNext; rw [hk, decide_eq_true hn]; rfl)]
          exact pa_lit_unlA w b P tx ta tc i R0 R1 R2 R3 R4 R5 h 1 h1 ⟨rfl, hn, hk⟩ hl
        · exact pa_lit_posA w b P tx ta tc i R0 R1 R2 R3 R4 R5 h h1 hl hn hk
      · have hn' : i + 1 = P.ts.length := by omega
        by_cases hk : P.op.kind = 14
        · rw [hu (by unfold unlikeNext; rw [hk, decide_eq_true hn']; simp)]
          exact pa_lit_unl w b P tx ta tc i R0 R1 R2 R3 R4 R5 h 1 h1 (.inr (.inr (.inr ⟨rfl, hn', hk⟩))) hl
        · exact pa_lit_posB w b P tx ta tc i R0 R1 R2 R3 R4 R5 h h1 hl hn' hk
    · by_cases h2 : P.kind i = 2 ∨ P.kind i = 3 ∨ P.kind i = 4
      · have hu : psLit P i = psUnlike P i := by unfold psLit; rw [if_neg h7, if_neg h1, if_pos h2]
        rw [hu]
        exact pa_lit_unl w b P tx ta tc i R0 R1 R2 R3 R4 R5 h _ rfl (by rcases h2 with h | h | h <;> simp [h]) (hlt (by omega))
      · exact pa_lit_bad w b P tx ta tc i R0 R1 R2 R3 R4 R5 h h7 h1 h2
end Go.Proofs.YtclioihichcpiaaDoor


/- Parse: begin. -/
namespace Go.Proofs.YtclioihichcpiaaDoor
open Go.RowKit Lx
def psOf (s : ByteArray) : Ps := ⟨(tokens (bl s)).toks, (tokens (bl s)).open_, (tokens (bl s)).far⟩
theorem flat_get {α : Type} (f : α → List Value) (k : Nat) (hk : ∀ x, (f x).length = k) : ∀ (L : List α) (i o : Nat), o < k → (L.flatMap f)[i * k + o]? = (L[i]?).bind fun x => (f x)[o]?
  | [], i, o, h => by simp
  | x :: r, 0, o, h => by
    rw [List.flatMap_cons, Nat.zero_mul, Nat.zero_add, List.getElem?_append_left (by rw [hk]; exact h)]
    rfl
  | x :: r, i + 1, o, h => by
    rw [List.flatMap_cons, List.getElem?_append_right (by rw [hk, Nat.succ_mul]; omega), hk, show (i + 1) * k + o - k = i * k + o from by rw [Nat.succ_mul]; omega, flat_get f k hk r i o h]
    rfl
theorem own_toks {w : World} {base : Nat} {e : TypeId} {v : Value} {ts : List Tok} (h : w.ownsRow base e 4 v ts.length (tcells ts)) : ∃ ta tc, v = .slice ta ts.length tc ∧ ∀ j t, ts[j]? = some t → ∃ tb, ta = some ⟨tb, 0, none⟩ ∧ w.cell? ⟨tb, j * 4, none⟩ = some (.int .i64 t.kind) ∧ w.cell? ⟨tb, j * 4 + 1, none⟩ = some (.string (mk t.text)) ∧ w.cell? ⟨tb, j * 4 + 2, none⟩ = some (.int .i64 t.at_) ∧ w.cell? ⟨tb, j * 4 + 3, none⟩ = some (.int .i64 t.end_) := by
  have h0 := h
  rcases h.2 with ⟨rfl, hn⟩ | ⟨g, cap, cur, rfl, _⟩
  · refine ⟨none, 0, by rw [hn], fun j t hj => ?_⟩
    have := (List.getElem?_eq_some_iff.1 hj).1
    omega
  · refine ⟨some ⟨g, 0, none⟩, cap, rfl, fun j t hj => ⟨g, rfl, ?_⟩⟩
    have hc : ∀ o u, o < 4 → (tokC t).toList[o]? = some u → w.cell? ⟨g, j * 4 + o, none⟩ = some u := fun o u ho hu => by
      have h1 := flat_get (fun t => (tokC t).toList) 4 (fun _ => rfl) ts j o ho
      rw [hj] at h1
      have := h0.cells (g := g) rfl (j * 4 + o) u (h1.trans hu)
      rw [addr_add, Nat.zero_add] at this
      exact this
    exact ⟨hc 0 _ (by decide) rfl, hc 1 _ (by decide) rfl, hc 2 _ (by decide) rfl, hc 3 _ (by decide) rfl⟩
set_option maxHeartbeats 4000000 in
set_option maxRecDepth 100000 in
theorem pa_begin (s : ByteArray) (w : World) (hs : s.size ≤ 4194304) :
    Calls Tryd.prog 30 #[.string s] w fun e w' => ∃ b ta tc, e = .returned (.pointer (some ⟨b, 0, none⟩)) ∧ PSt w' b (psOf s) s ta tc 0 (.slice none 0 0) (.slice none 0 0) (.slice none 0 0) (.slice none 0 0) (.slice none 0 0) (.slice none 0 0) ∧ w.heap.size ≤ b ∧ Below w.heap.size w w' := by
  have hlen : (psOf s).ts.length ≤ 4194304 := by
    have := (tk_far (bl s) 0 false).2.2.2
    rw [bl_length] at this
    show (tokens (bl s)).toks.length ≤ _
    rw [tokens_tk]
    omega
  obtain ⟨OKV, hOK⟩ : ∃ x : Int, x = if (tokens (bl s)).ok then 0 else 11 := ⟨_, rfl⟩
  have hlx : Calls Tryd.prog 53 #[.string s] w fun e w' => ∃ v, e = .returned (.tuple #[v, .agg #[.int .i64 (psOf s).op.kind, .string (mk (psOf s).op.text), .int .i64 (psOf s).op.at_, .int .i64 (psOf s).op.end_], .int .i64 (psOf s).far, .int .i64 OKV]) ∧ w'.ownsRow w.heap.size 92 4 v (psOf s).ts.length (tcells (psOf s).ts) ∧ Below w.heap.size w w' := (lx_Tokens s w hs).mono fun e w' h => by
    obtain ⟨v, h1, h2, h3⟩ := h
    exact ⟨v, by rw [h1, ← hOK]; rfl, h2, h3⟩
  clear hOK
  generalize psOf s = P at hlx hlen ⊢
  obtain ⟨ts, op, far⟩ := P
  obtain ⟨ok, ot, oa, oe⟩ := op
  dsimp only at hlx hlen
  go_enter Tryd.func30, Tryd.ntmps30
  go_wp2_with (go_at_call 53; refine hlx.mono ?_; rintro e w1 ⟨v, rfl, hown0, hb0⟩; obtain ⟨ta, tc, rfl, htk0⟩ := own_toks hown0; have hb1 := Lib.hid hb0; have htk := Lib.hid htk0; clear hown0 hb0 htk0)
  go_ret
  refine ⟨w1.heap.size + 1, ta, tc, rfl, ⟨heap_alloc2_new _ _ _, fun j t hj => ?_, hlen, Nat.zero_le _⟩, by have := hb1.out.size; omega, (hb1.out.al _).al _⟩
  obtain ⟨tb, e1, g1, g2, g3, g4⟩ := htk.out j t hj
  have hbb : Below w1.heap.size w1 ((w1.alloc (.cells #[.int .i64 ok, .string (mk ot), .int .i64 oa, .int .i64 oe] 92)).alloc (.cells #[.string s, .slice ta ts.length tc, .int .i64 ok, .string (mk ot), .int .i64 oa, .int .i64 oe, .int .i64 far, .int .i64 0, .slice none 0 0, .slice none 0 0, .slice none 0 0, .slice none 0 0, .slice none 0 0, .slice none 0 0] 94)) := ((Below.refl _ _).al _).al _
  exact ⟨tb, e1, cell_below hbb rfl g1, cell_below hbb rfl g2, cell_below hbb rfl g3, cell_below hbb rfl g4⟩
end Go.Proofs.YtclioihichcpiaaDoor


/- Parse: an arity. -/
namespace Go.Proofs.YtclioihichcpiaaDoor
open Go.RowKit Lx
namespace Lx
/-- the digits of an arity, from the place k on; n: what stands so far -/
def psDigits (at_ : Int) (s : ByteArray) : Nat → Nat → Int → Except Int Int
  | 0, _, n => .ok n
  | f + 1, k, n => if 16 < 10 * n + (bat s k - 48) % 256 ∨ (0 < k ∧ n = 0) then .error (at_ + k) else psDigits at_ s f (k + 1) (10 * n + (bat s k - 48) % 256)
def psArity (P : Ps) (i : Nat) : Except Int ((ByteArray × Int) × Nat) :=
  match P.take i [1] with
  | .error e => .error e
  | .ok (t, j) => match P.take j [12] with
    | .error e => .error e
    | .ok (_, k) => match P.take k [3] with
      | .error e => .error e
      | .ok (u, m) => match psDigits u.at_ (mk u.text) (mk u.text).size 0 0 with
        | .error e => .error e
        | .ok n => .ok ((mk t.text, n), m)
end Lx
def ArPost (b : Nat) (P : Ps) (tx : ByteArray) (ta : Option Addr) (tc : Nat) (R0 R1 R2 R3 R4 R5 : Value) (w0 : World) (R : Except Int ((ByteArray × Int) × Nat)) (e : Ending) (w' : World) : Prop :=
  match R with
  | .ok ((p, n), k) => e = .returned (.tuple #[.string p, .int .i64 n]) ∧ PSt w' b P tx ta tc k R0 R1 R2 R3 R4 R5 ∧ Mvd b w0 w'
  | .error x => e = thrown x ∧ Mvd b w0 w'
set_option maxHeartbeats 4000000 in
set_option maxRecDepth 100000 in
theorem pa_arity (w : World) (b : Nat) (P : Ps) (tx : ByteArray) (ta : Option Addr) (tc i : Nat) (R0 R1 R2 R3 R4 R5 : Value) (h : PSt w b P tx ta tc i R0 R1 R2 R3 R4 R5) (hsz : ∀ j, (P.tok j).text.length ≤ 4194304) (hat : ∀ j, (P.tok j).at_ ≤ 4194304) :
    Calls Tryd.prog 56 #[.pointer (some ⟨b, 0, none⟩)] w (ArPost b P tx ta tc R0 R1 R2 R3 R4 R5 w (psArity P i)) := by
  have hlen := h.len
  have hbl := h.lt
  rcases take_cases P i [1] (by decide) with ⟨t1, ht1, htt1, hc1, hlt1⟩ | ⟨x, ht1, hxs, hc1⟩
  · have hk1 := fun w h wa hw => pa_take_ok w b P tx ta tc i R0 R1 R2 R3 R4 R5 h wa [1] 1 hw (by decide) hc1 hlt1
    rcases take_cases P (i + 1) [12] (by decide) with ⟨t2, ht2, htt2, hc2, hlt2⟩ | ⟨x, ht2, hxs, hc2⟩
    · have hk2 := fun w h wa hw => pa_take_ok w b P tx ta tc (i + 1) R0 R1 R2 R3 R4 R5 h wa [12] 1 hw (by decide) hc2 hlt2
      rcases take_cases P (i + 1 + 1) [3] (by decide) with ⟨t3, ht3, htt3, hc3, hlt3⟩ | ⟨x, ht3, hxs, hc3⟩
      · have hk3 := fun w h wa hw => pa_take_ok w b P tx ta tc (i + 1 + 1) R0 R1 R2 R3 R4 R5 h wa [3] 1 hw (by decide) hc3 hlt3
        have hL : Hid (psArity P i = match psDigits (P.tok (i + 1 + 1)).at_ (mk (P.tok (i + 1 + 1)).text) (mk (P.tok (i + 1 + 1)).text).size 0 0 with | .error e => .error e | .ok n => .ok ((mk (P.tok i).text, n), i + 1 + 1 + 1)) := Lib.hid (by
          unfold psArity; rw [ht1]; dsimp only; rw [ht2]; dsimp only; rw [ht3]; dsimp only; rw [htt1, htt3])
        have hfld := run_tok_text
        have htz : (mk (P.tok (i + 1 + 1)).text).size ≤ 4194304 := by
          have := hsz (i + 1 + 1)
          show (P.tok (i + 1 + 1)).text.toArray.size ≤ _
          simpa using this
        clear ht1 htt1 hc1 ht2 htt2 hc2 ht3 htt3 hc3
        generalize mk (P.tok (i + 1 + 1)).text = S at hk3 hL htz
        have hA0 : (0 : Int) ≤ ((P.tok (i + 1 + 1)).at_ : Int) := Int.natCast_nonneg _
        have hA1 : ((P.tok (i + 1 + 1)).at_ : Int) ≤ 4194304 := by have := hat (i + 1 + 1); omega
        generalize ((P.tok (i + 1 + 1)).at_ : Int) = A3 at hk3 hL hA0 hA1
        generalize ((P.tok (i + 1 + 1)).end_ : Int) = E3 at hk3
        generalize mk (P.tok i).text = PR at hk1 hL
        go_enter Tryd.func56, Tryd.ntmps56
        go_wp2_with (first
          | (go_at_call 55
             have hg := hs2.out
             clear hg
             refine (hk3 _ (hs2.out.below ((Below.refl _ _).al _)) _ (kinds_lit _ _ [3] _ rfl (by decide) rfl)).mono ?_
             rintro e w3 ⟨rfl, hs30, hm30⟩
             have hm3 := Lib.hid (hm2.out.trans ((Mvd.of (b := b) ((Below.refl w2.heap.size w2).al _)).trans hm30))
             have hs3 := Lib.hid hs30
             clear hs30 hm30)
          | (go_at_call 55
             have hg := hs1.out
             clear hg
             refine (hk2 _ (hs1.out.below ((Below.refl _ _).al _)) _ (kinds_lit _ _ [12] _ rfl (by decide) rfl)).mono ?_
             rintro e w2 ⟨rfl, hs20, hm20⟩
             have hm2 := Lib.hid (hm1.out.trans ((Mvd.of (b := b) ((Below.refl w1.heap.size w1).al _)).trans hm20))
             have hs2 := Lib.hid hs20
             clear hs20 hm20)
          | (go_at_call 55
             refine (hk1 _ (h.below ((Below.refl _ _).al _)) _ (kinds_lit _ _ [1] _ rfl (by decide) rfl)).mono ?_
             rintro e w1 ⟨rfl, hs10, hm10⟩
             have hm1 := Lib.hid ((Mvd.of (b := b) ((Below.refl w.heap.size w).al _)).trans hm10)
             have hs1 := Lib.hid hs10
             clear hs10 hm10))
        have hw4 : ∃ w4, w4 = w3.alloc (.cells #[.int .i64 (P.kind (i + 1 + 1)), .string S, .int .i64 A3, .int .i64 E3] 92) := ⟨_, rfl⟩
        obtain ⟨w4, hw4⟩ := hw4
        have hr4 : w4.heap[w3.heap.size]? = some (.cells #[.int .i64 (P.kind (i + 1 + 1)), .string S, .int .i64 A3, .int .i64 E3] 92) := by rw [hw4]; exact heap_alloc_new _ _
        have hm4 : Hid (Mvd b w w4) := Lib.hid (by rw [hw4]; exact hm3.out.trans (Mvd.of ((Below.refl _ _).al _)))
        have hs4 : Hid (PSt w4 b P tx ta tc (i + 1 + 1 + 1) R0 R1 R2 R3 R4 R5) := Lib.hid (by rw [hw4]; exact hs3.out.below ((Below.refl _ _).al _))
        rw [← hw4]
        clear hw4
        generalize w3.heap.size = g at hr4 ⊢
        have e1 : w4.cell? ⟨g, 1, none⟩ = some (.string S) := by simp [World.cell?, hr4]
        have e2 : w4.cell? ⟨g, 2, none⟩ = some (.int .i64 A3) := by simp [World.cell?, hr4]
        clear hr4
        obtain ⟨D, hD⟩ : ∃ D, D = psDigits A3 S S.size 0 0 := ⟨_, rfl⟩
        rw [← hD] at hL
        go_loopw [6, 7, 8, 22] (fun n _ _ j wr => ∃ (k : Nat) (nk : Int), k ≤ S.size ∧ j = .int .i64 k ∧ n = .int .i64 nk ∧ 0 ≤ nk ∧ nk ≤ 16 ∧ psDigits A3 S (S.size - k) k nk = D ∧ Hid (Drawn w4 wr)) (fun _ _ _ j _ => S.size - (intOf j).toNat)
        case atStart => exact ⟨0, 0, Nat.zero_le _, rfl, rfl, by decide, by decide, hD.symm, Lib.hid ⟨0, rfl⟩⟩
        case round =>
          obtain ⟨k, nk, hk, rfl, rfl, hn0, hn16, hDk, hdr⟩ := hrel
          have f1 := cell_below (hdr.out.below w4.heap.size) rfl e1
          have f2 := cell_below (hdr.out.below w4.heap.size) rfl e2
          by_cases hkl : k < S.size
          · obtain ⟨fu, hfu⟩ : ∃ fu, S.size - k = fu + 1 := ⟨S.size - k - 1, by omega⟩
            have hfu2 : S.size - (k + 1) = fu := by omega
            rw [hfu] at hDk
            unfold psDigits at hDk
            obtain ⟨hb0, hb1⟩ := bat_range S k
            have hidx := fun w => run_index_str (P := Tryd.prog) Tryd.underlying9 S k hkl w
            have hw8 : IntKind.u8.wrap (bat S k - 48) = (bat S k - 48) % 256 := by rw [IntKind.wrap_u8]
            have hd0 : 0 ≤ (bat S k - 48) % 256 ∧ (bat S k - 48) % 256 < 256 := by omega
            generalize (bat S k - 48) % 256 = d at hDk hw8 hd0
            obtain ⟨hd0, hd1⟩ := hd0
            replace hdr := Lib.hid hdr.out
            by_cases hbad : 16 < 10 * nk + d ∨ (0 < k ∧ nk = 0)
            · rw [if_pos hbad] at hDk
              have hP : Hid (psArity P i = .error (A3 + k)) := Lib.hid (by rw [hL.out, ← hDk])
              clear hDk
              rcases hbad with hb | ⟨hb, rfl⟩
              · go_wp2_with fail
                all_goals exact ⟨rfl, by rw [hP.out]; exact ⟨rfl, hm4.out.trans (Mvd.of (hdr.out.below _))⟩⟩
              · go_wp2_with fail
                all_goals exact ⟨rfl, by rw [hP.out]; exact ⟨rfl, hm4.out.trans (Mvd.of (hdr.out.below _))⟩⟩
            · rw [if_neg hbad] at hDk
              have hm16 : 10 * nk + d ≤ 16 := by omega
              have hk0 : 0 < k → (nk == 0) = false := fun h => by rw [beq_eq_false_iff_ne]; exact fun e => hbad (.inr ⟨h, e⟩)
              replace hDk := Lib.hid hDk
              clear hbad
              rcases Nat.lt_or_ge 0 k with hkp | hkz
              · have hn00 := hk0 hkp
                clear hk0
                go_wp2_with fail
                all_goals exact ⟨⟨k + 1, 10 * nk + d, by omega, by go_num, rfl, by omega, hm16, by rw [hfu2]; exact hDk.out, hdr⟩, by simp [intOf]; omega⟩
              · clear hk0
                go_wp2_with fail
                all_goals exact ⟨⟨k + 1, 10 * nk + d, by omega, by go_num, rfl, by omega, hm16, by rw [hfu2]; exact hDk.out, hdr⟩, by simp [intOf]; omega⟩
          · have hke : k = S.size := by omega
            subst hke
            rw [Nat.sub_self] at hDk
            unfold psDigits at hDk
            have hP : Hid (psArity P i = .ok ((PR, nk), i + 1 + 1 + 1)) := Lib.hid (by rw [hL.out, ← hDk])
            go_wp2_with fail
            go_ret2
            rw [hP.out]
            exact ⟨rfl, hs4.out.drawn hdr.out, hm4.out.trans (Mvd.of (hdr.out.below _))⟩
      · have hP : Hid (psArity P i = .error x) := Lib.hid (by unfold psArity; rw [ht1]; dsimp only; rw [ht2]; dsimp only; rw [ht3])
        have hk3 := fun w h wa hw => pa_take_err w b P tx ta tc (i + 1 + 1) R0 R1 R2 R3 R4 R5 h wa [3] 1 hw (by decide) hc3
        rw [← hxs] at hk3
        unfold thrown at hk3
        clear ht1 htt1 hc1 ht2 htt2 hc2 ht3 hxs hc3
        have hfld := run_tok_text
        go_enter Tryd.func56, Tryd.ntmps56
        go_wp2_with (first
          | (go_at_call 55
             have hg := hs2.out
             clear hg
             refine (hk3 _ (hs2.out.below ((Below.refl _ _).al _)) _ (kinds_lit _ _ [3] _ rfl (by decide) rfl)).mono ?_
             rintro e w3 ⟨rfl, hb3⟩
             have hm3 := Lib.hid (hm2.out.trans ((Mvd.of (b := b) ((Below.refl w2.heap.size w2).al _)).trans (Mvd.of hb3)))
             clear hb3)
          | (go_at_call 55
             have hg := hs1.out
             clear hg
             refine (hk2 _ (hs1.out.below ((Below.refl _ _).al _)) _ (kinds_lit _ _ [12] _ rfl (by decide) rfl)).mono ?_
             rintro e w2 ⟨rfl, hs20, hm20⟩
             have hm2 := Lib.hid (hm1.out.trans ((Mvd.of (b := b) ((Below.refl w1.heap.size w1).al _)).trans hm20))
             have hs2 := Lib.hid hs20
             clear hs20 hm20)
          | (go_at_call 55
             refine (hk1 _ (h.below ((Below.refl _ _).al _)) _ (kinds_lit _ _ [1] _ rfl (by decide) rfl)).mono ?_
             rintro e w1 ⟨rfl, hs10, hm10⟩
             have hm1 := Lib.hid ((Mvd.of (b := b) ((Below.refl w.heap.size w).al _)).trans hm10)
             have hs1 := Lib.hid hs10
             clear hs10 hm10))
        exact ⟨rfl, by rw [hP.out]; exact ⟨rfl, hm3.out⟩⟩
    · have hP : Hid (psArity P i = .error x) := Lib.hid (by unfold psArity; rw [ht1]; dsimp only; rw [ht2])
      have hk2 := fun w h wa hw => pa_take_err w b P tx ta tc (i + 1) R0 R1 R2 R3 R4 R5 h wa [12] 1 hw (by decide) hc2
      rw [← hxs] at hk2
      unfold thrown at hk2
      clear ht1 htt1 hc1 ht2 hxs hc2
      have hfld := run_tok_text
      go_enter Tryd.func56, Tryd.ntmps56
      go_wp2_with (first
        | (go_at_call 55
           have hg := hs1.out
           clear hg
           refine (hk2 _ (hs1.out.below ((Below.refl _ _).al _)) _ (kinds_lit _ _ [12] _ rfl (by decide) rfl)).mono ?_
           rintro e w2 ⟨rfl, hb2⟩
           have hm2 := Lib.hid (hm1.out.trans ((Mvd.of (b := b) ((Below.refl w1.heap.size w1).al _)).trans (Mvd.of hb2)))
           clear hb2)
        | (go_at_call 55
           refine (hk1 _ (h.below ((Below.refl _ _).al _)) _ (kinds_lit _ _ [1] _ rfl (by decide) rfl)).mono ?_
           rintro e w1 ⟨rfl, hs10, hm10⟩
           have hm1 := Lib.hid ((Mvd.of (b := b) ((Below.refl w.heap.size w).al _)).trans hm10)
           have hs1 := Lib.hid hs10
           clear hs10 hm10))
      exact ⟨rfl, by rw [hP.out]; exact ⟨rfl, hm2.out⟩⟩
  · have hP : Hid (psArity P i = .error x) := Lib.hid (by unfold psArity; rw [ht1])
    have hk1 := fun w h wa hw => pa_take_err w b P tx ta tc i R0 R1 R2 R3 R4 R5 h wa [1] 1 hw (by decide) hc1
    rw [← hxs] at hk1
    unfold thrown at hk1
    clear ht1 hxs hc1
    go_enter Tryd.func56, Tryd.ntmps56
    go_wp2_with (go_at_call 55; refine (hk1 _ (h.below ((Below.refl _ _).al _)) _ (kinds_lit _ _ [1] _ rfl (by decide) rfl)).mono ?_; rintro e w1 ⟨rfl, hb1⟩; have hm1 := Lib.hid ((Mvd.of (b := b) ((Below.refl w.heap.size w).al _)).trans (Mvd.of hb1)); clear hb1)
    exact ⟨rfl, by rw [hP.out]; exact ⟨rfl, hm1.out⟩⟩
end Go.Proofs.YtclioihichcpiaaDoor


/- Parse: caught: a fault is caught, and its offset told. -/
namespace Go.Proofs.YtclioihichcpiaaDoor
open Go.RowKit Lx
theorem pa_catch_idle (p q : Addr) (w : World) :
    CallsD Tryd.prog 54 #[.pointer (some p), .pointer (some q)] .returning w fun e u' w' => e = .returned (.tuple #[]) ∧ u' = .returning ∧ w' = w := by
  refine callsD_of_wpS Tryd.func54 rfl fun c₀ cs hu => ?_
  apply wpS_seq
  apply wpS_region
  simp [wpOpsS, go_sem, recoverD, hu, Tryd.ntmps54, Exit.thenS]
  apply wpS_seq
  apply wpS_region
  simp [wpOpsS, go_sem, recoverD, hu, Exit.thenS]
  refine wpS_cond (t := false) (by simp [Act.eval, Array.replicate]) ?_
  simp only [Bool.false_eq_true, if_false]
  refine wpS_of_wp (wp_skip ?_)
  cases c₀
  simp_all [bodyPostS, results, Tryd.results54]
theorem run_fault (n : Int) (w : World) : (Instr.typeAssert (.iface 114 (.agg #[.int .i64 n])) 20 114 true).run Tryd.prog w = .ok (.tuple #[.agg #[.int .i64 n], .bool true]) w := by
  simp [Instr.typeAssert, run_underlying Tryd.underlying114]
set_option maxHeartbeats 1000000 in
set_option maxRecDepth 100000 in
theorem pa_catch_fault (p q : Addr) (x y : Value) (n : Int) (older : List PanicEntry) (w : World) (hp : w.cell? p = some x) (hq : w.cell? q = some y) (hpz : w.frozen? p = false) (hqz : w.frozen? q = false) (hne : p.block ≠ q.block) (hpl : p.block < w.heap.size) (hql : q.block < w.heap.size) :
    CallsD Tryd.prog 54 #[.pointer (some p), .pointer (some q)] (.panicking ({ v := .iface 114 (.agg #[.int .i64 n]), recovered := false } :: older)) w fun e u' w' =>
      e = .returned (.tuple #[]) ∧ u' = .panicking ({ v := .iface 114 (.agg #[.int .i64 n]), recovered := true } :: older) ∧ w' = ((w.alloc (.cells #[.int .i64 n] 114)).setCell p (.int .i64 n)).setCell q (.int .i64 11) := by
  refine callsD_of_wpS Tryd.func54 rfl fun c₀ cs hu => ?_
  apply wpS_seq
  apply wpS_region
  simp [wpOpsS, go_sem, recoverD, hu, Tryd.ntmps54, Exit.thenS]
  apply wpS_seq
  apply wpS_region
  simp [wpOpsS, go_sem, recoverD, Exit.thenS]
  refine wpS_cond (t := true) (by simp [Act.eval, Array.replicate]) ?_
  simp only [if_true]
  refine wpS_of_wp ?_
  have hta := run_fault n
  have hp1 : ∀ ob, (w.alloc ob).cell? p = some x := fun ob => by rw [World.cell?_of_block (heap_alloc_old _ _ hpl)]; exact hp
  have hpz1 : ∀ ob, (w.alloc ob).frozen? p = false := fun ob => by
    rw [← hpz]; simp only [World.frozen?]; rw [heap_alloc_old _ _ hpl]
  have hq1 : ∀ ob, ((w.alloc ob).setCell p (.int .i64 n)).cell? q = some y := fun ob => by
    rw [World.cell?_of_block (Go.heap_setCell_other _ _ _ _ (Ne.symm hne)), World.cell?_of_block (heap_alloc_old _ _ hql)]; exact hq
  have hqz1 : ∀ ob, ((w.alloc ob).setCell p (.int .i64 n)).frozen? q = false := fun ob => by
    rw [← hqz]; simp only [World.frozen?]; rw [Go.heap_setCell_other _ _ _ _ (Ne.symm hne), heap_alloc_old _ _ hql]
  clear hp hq hpz hqz hpl hql hne
  change Code.wp _ _ _ { tmps := #[.pointer (some p), .pointer (some q), .iface 114 (.agg #[.int .i64 n]), undef, undef, .iface 114 (.agg #[.int .i64 n]), .iface 114 (.agg #[.int .i64 n]), .bool true, undef, undef, undef, undef, undef, undef, undef, undef, undef, undef], defers := [] } w
  go_wp2_with fail
  simp [bodyPostS, results, Tryd.results54]
end Go.Proofs.YtclioihichcpiaaDoor


/- Parse: caught. (gen_pal.py) -/
namespace Go.Proofs.YtclioihichcpiaaDoor
open Go.RowKit Lx
theorem World.cell?_of_same {w : World} {b : Nat} {cs : Array Value} {t : TypeId} {v : Value} (h : w.heap[b]? = some (.cells (cs.setIfInBounds 0 v) t)) (h0 : 0 < cs.size) : w.cell? ⟨b, 0, none⟩ = some v := by
  simp [World.cell?, h, h0]
set_option maxHeartbeats 1000000 in
set_option maxRecDepth 100000 in
theorem pa_caught_prog_ok (cap : Array Value) (w : World) (Q : World → Prop) (hf : ∀ w2, w2 = (w.alloc (.cells #[.int .i64 0] 3)).alloc (.cells #[.int .i64 0] 30) → Calls Tryd.prog 32 cap w2 fun e w' => e = .returned (.tuple #[]) ∧ Q w' ∧ w'.heap[w.heap.size]? = some (.cells #[.int .i64 0] 3) ∧ w'.heap[w.heap.size + 1]? = some (.cells #[.int .i64 0] 30)) :
    Calls Tryd.prog 31 #[.func (.func 32) #[] cap] w fun e w' => e = .returned (.tuple #[.int .i64 0, .int .i64 0]) ∧ ∃ w1, Q w1 ∧ w' = (w1.setCell ⟨w.heap.size, 0, none⟩ (.int .i64 0)).setCell ⟨w.heap.size + 1, 0, none⟩ (.int .i64 0) := by
  have hmf : ∀ (fn : Fn) (first cap : Array Value) (w : World), (Instr.makeFunc fn first cap).run Tryd.prog w = .ok (.func fn first cap) w := fun _ _ _ _ => rfl
  go_enter_defers Tryd.func31, Tryd.ntmps31
  go_wp2_with fail
  refine (hf _ rfl).mono ?_
  rintro e w1 ⟨rfl, hq, h0, h1⟩
  have c0 : w1.cell? ⟨w.heap.size, 0, none⟩ = some (.int .i64 0) := by simp [World.cell?, h0]
  have c1 : w1.cell? ⟨w.heap.size + 1, 0, none⟩ = some (.int .i64 0) := by simp [World.cell?, h1]
  have f0 : w1.frozen? ⟨w.heap.size, 0, none⟩ = false := by simp [World.frozen?, h0]
  have f1 : ∀ v, (w1.setCell ⟨w.heap.size, 0, none⟩ v).frozen? ⟨w.heap.size + 1, 0, none⟩ = false := fun v => by simp [World.frozen?, Go.heap_setCell_other, h1]
  have c1' : ∀ v, (w1.setCell ⟨w.heap.size, 0, none⟩ v).cell? ⟨w.heap.size + 1, 0, none⟩ = some (.int .i64 0) := fun v => by simp [World.cell?, Go.heap_setCell_other, h1]
  clear c1
  replace h0 := Lib.hid h0
  replace h1 := Lib.hid h1
  go_wp2_with fail
  refine leaves_cons (f := 54) (args := #[.pointer (some ⟨w.heap.size, 0, none⟩), .pointer (some ⟨w.heap.size + 1, 0, none⟩)]) (by simp) (by simp [go_sem]) ?_
  refine (pa_catch_idle ⟨w.heap.size, 0, none⟩ ⟨w.heap.size + 1, 0, none⟩ _).mono ?_
  rintro e u' w'' ⟨rfl, rfl, hN⟩
  replace h0 := h0.out
  replace h1 := h1.out
  have k0 : w''.cell? ⟨w.heap.size, 0, none⟩ = some (.int .i64 0) := by rw [hN, World.cell?_of_block (Go.heap_setCell_other _ _ _ _ (by simp))]; exact World.cell?_of_same (Go.heap_setCell_same _ _ _ _ _ _ h0) (by decide)
  have k1 : w''.cell? ⟨w.heap.size + 1, 0, none⟩ = some (.int .i64 0) := by rw [hN]; exact World.cell?_of_same (Go.heap_setCell_same _ _ _ _ _ _ ((Go.heap_setCell_other _ _ _ _ (by simp)).trans h1)) (by decide)
  simp [Leaves, settle, results, Tryd.results31, go_sem, k0, k1]
  exact ⟨w1, hq, hN⟩
set_option maxHeartbeats 1000000 in
set_option maxRecDepth 100000 in
theorem pa_caught_prog_err (cap : Array Value) (x : Int) (w : World) (Q : World → Prop) (hf : ∀ w2, w2 = (w.alloc (.cells #[.int .i64 0] 3)).alloc (.cells #[.int .i64 0] 30) → Calls Tryd.prog 32 cap w2 fun e w' => e = thrown x ∧ Q w' ∧ w'.heap[w.heap.size]? = some (.cells #[.int .i64 0] 3) ∧ w'.heap[w.heap.size + 1]? = some (.cells #[.int .i64 0] 30)) :
    Calls Tryd.prog 31 #[.func (.func 32) #[] cap] w fun e w' => e = .returned (.tuple #[.int .i64 x, .int .i64 11]) ∧ ∃ w1, Q w1 ∧ w' = ((w1.alloc (.cells #[.int .i64 x] 114)).setCell ⟨w.heap.size, 0, none⟩ (.int .i64 x)).setCell ⟨w.heap.size + 1, 0, none⟩ (.int .i64 11) := by
  have hmf : ∀ (fn : Fn) (first cap : Array Value) (w : World), (Instr.makeFunc fn first cap).run Tryd.prog w = .ok (.func fn first cap) w := fun _ _ _ _ => rfl
  unfold thrown at hf
  go_enter_defers Tryd.func31, Tryd.ntmps31
  go_wp2_with fail
  refine (hf _ rfl).mono ?_
  rintro e w1 ⟨rfl, hq, h0, h1⟩
  have c0 : w1.cell? ⟨w.heap.size, 0, none⟩ = some (.int .i64 0) := by simp [World.cell?, h0]
  have c1 : w1.cell? ⟨w.heap.size + 1, 0, none⟩ = some (.int .i64 0) := by simp [World.cell?, h1]
  refine leaves_cons (f := 54) (args := #[.pointer (some ⟨w.heap.size, 0, none⟩), .pointer (some ⟨w.heap.size + 1, 0, none⟩)]) (by simp) (by simp [go_sem]) ?_
  refine (pa_catch_fault ⟨w.heap.size, 0, none⟩ ⟨w.heap.size + 1, 0, none⟩ _ _ x [] w1 c0 c1 (by simp [World.frozen?, h0]) (by simp [World.frozen?, h1]) (by simp) (Array.getElem?_eq_some_iff.1 h0).1 (Array.getElem?_eq_some_iff.1 h1).1).mono ?_
  rintro e u' w'' ⟨rfl, rfl, hN⟩
  have k0 : w''.cell? ⟨w.heap.size, 0, none⟩ = some (.int .i64 x) := by rw [hN, World.cell?_of_block (Go.heap_setCell_other _ _ _ _ (by simp))]; exact World.cell?_of_same (Go.heap_setCell_same _ _ _ _ _ _ ((heap_alloc_old _ _ (Array.getElem?_eq_some_iff.1 h0).1).trans h0)) (by decide)
  have k1 : w''.cell? ⟨w.heap.size + 1, 0, none⟩ = some (.int .i64 11) := by rw [hN]; exact World.cell?_of_same (Go.heap_setCell_same _ _ _ _ _ _ ((Go.heap_setCell_other _ _ _ _ (by simp)).trans ((heap_alloc_old _ _ (Array.getElem?_eq_some_iff.1 h1).1).trans h1))) (by decide)
  simp [Leaves, settle, results, Tryd.results31, go_sem, k0, k1]
  exact ⟨w1, hq, hN⟩
end Go.Proofs.YtclioihichcpiaaDoor
