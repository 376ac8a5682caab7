/- Parse: the parser as a function over tokens; its kind. -/
import Derived.Test.YtclioihichcpiaaDoorJoD
import Derived.Deep.QuietTactic
import Derived.BigQuiet
import Derived.Deep.RegionHeld3
import Derived.Maps.AppendAt
namespace Go.Proofs.YtclioihichcpiaaDoor
open Go.RowKit Lx
namespace Lx
/-- the tokens of a text -/
structure Ps where
  ts : List Tok
  op : Tok
  far : Nat
def Ps.tok (P : Ps) (i : Nat) : Tok := P.ts.getD i zeroTok
def Ps.kind (P : Ps) (i : Nat) : Int := (P.tok i).kind
/-- where a text goes on no more -/
def Ps.stop (P : Ps) (i : Nat) (ks : List Int) : Int :=
  if i = P.ts.length then (if P.op.kind = 0 then P.far else if ks.contains P.op.kind then P.far else P.op.at_)
  else if (P.kind i = 5 ∨ P.kind i = 6 ∨ P.kind i = 7) ∧ ks.contains 1 = true then (P.tok i).end_ else (P.tok i).at_
def Ps.take (P : Ps) (i : Nat) (ks : List Int) : Except Int (Tok × Nat) :=
  if ks.contains (P.kind i) then .ok (P.tok i, i + 1) else .error (P.stop i ks)
end Lx
/-- the parser in memory -/
structure PSt (w : World) (b : Nat) (P : Ps) (tx : ByteArray) (ta : Option Addr) (tc : Nat) (i : Nat) (R0 R1 R2 R3 R4 R5 : Value) : Prop where
  blk : w.heap[b]? = some (.cells #[.string tx, .slice ta P.ts.length tc, .int .i64 P.op.kind, .string (mk P.op.text), .int .i64 P.op.at_, .int .i64 P.op.end_, .int .i64 P.far, .int .i64 i, R0, R1, R2, R3, R4, R5] 94)
  toks : ∀ j t, P.ts[j]? = some t → ∃ tb, ta = some ⟨tb, 0, none⟩ ∧ w.cell? ⟨tb, j * 4, none⟩ = some (.int .i64 t.kind) ∧ w.cell? ⟨tb, j * 4 + 1, none⟩ = some (.string (mk t.text)) ∧ w.cell? ⟨tb, j * 4 + 2, none⟩ = some (.int .i64 t.at_) ∧ w.cell? ⟨tb, j * 4 + 3, none⟩ = some (.int .i64 t.end_)
  len : P.ts.length ≤ 4194304
  pos : i ≤ P.ts.length
theorem PSt.drawn {w w' : World} {b : Nat} {P : Ps} {tx : ByteArray} {ta : Option Addr} {tc i : Nat} {R0 R1 R2 R3 R4 R5 : Value} (h : PSt w b P tx ta tc i R0 R1 R2 R3 R4 R5) (hd : Drawn w w') : PSt w' b P tx ta tc i R0 R1 R2 R3 R4 R5 := by
  obtain ⟨n, rfl⟩ := hd
  exact ⟨by rw [show (w.drewN n).heap = w.heap from rfl]; exact h.blk, fun j t hj => h.toks j t hj, h.len, h.pos⟩
theorem PSt.cells {w : World} {b : Nat} {P : Ps} {tx : ByteArray} {ta : Option Addr} {tc i : Nat} {R0 R1 R2 R3 R4 R5 : Value} (h : PSt w b P tx ta tc i R0 R1 R2 R3 R4 R5) :
    w.cell? ⟨b, 1, none⟩ = some (.slice ta P.ts.length tc) ∧ w.cell? ⟨b, 2, none⟩ = some (.int .i64 P.op.kind) ∧ w.cell? ⟨b, 4, none⟩ = some (.int .i64 P.op.at_) ∧ w.cell? ⟨b, 6, none⟩ = some (.int .i64 P.far) ∧ w.cell? ⟨b, 7, none⟩ = some (.int .i64 i) ∧ w.frozen? ⟨b, 7, none⟩ = false := by
  have := h.blk
  exact ⟨by simp [World.cell?, this], by simp [World.cell?, this], by simp [World.cell?, this], by simp [World.cell?, this], by simp [World.cell?, this], by simp [World.frozen?, this]⟩
theorem pst_tok {w : World} {b : Nat} {P : Ps} {tx : ByteArray} {ta : Option Addr} {tc i : Nat} {R0 R1 R2 R3 R4 R5 : Value} (h : PSt w b P tx ta tc i R0 R1 R2 R3 R4 R5) (j : Nat) (hlt : j < P.ts.length) :
    ∃ tb, ta = some ⟨tb, 0, none⟩ ∧ w.cell? ⟨tb, j * 4, none⟩ = some (.int .i64 (P.kind j)) ∧ w.cell? ⟨tb, j * 4 + 1, none⟩ = some (.string (mk (P.tok j).text)) ∧ w.cell? ⟨tb, j * 4 + 2, none⟩ = some (.int .i64 (P.tok j).at_) ∧ w.cell? ⟨tb, j * 4 + 3, none⟩ = some (.int .i64 (P.tok j).end_) := by
  have hT : P.ts[j]? = some (P.tok j) := by unfold Ps.tok; rw [List.getD_eq_getElem?_getD, List.getElem?_eq_getElem hlt]; rfl
  exact h.toks j _ hT
theorem Ps.kind_end {P : Ps} {i : Nat} (h : P.ts.length ≤ i) : P.kind i = 0 := by unfold Ps.kind Ps.tok; rw [List.getD_eq_getElem?_getD, List.getElem?_eq_none h]; rfl
set_option maxHeartbeats 1000000 in
set_option maxRecDepth 100000 in
theorem pa_kind (w : World) (b : Nat) (P : Ps) (tx : ByteArray) (ta : Option Addr) (tc i : Nat) (R0 R1 R2 R3 R4 R5 : Value) (h : PSt w b P tx ta tc i R0 R1 R2 R3 R4 R5) :
    Calls Tryd.prog 72 #[.pointer (some ⟨b, 0, none⟩)] w fun e w' => e = .returned (.int .i64 (P.kind i)) ∧ Drawn w w' := by
  obtain ⟨c1, c2, c4, c6, c7, -⟩ := h.cells
  have hlen := h.len
  have hpos := h.pos
  by_cases hlt : i < P.ts.length
  · go_enter Tryd.func72, Tryd.ntmps72
    go_wp2_with fail
    go_quiet (fail)
    have h2 := h.drawn ⟨nq, rfl⟩
    have hd2 : Hid (Drawn w (w.drewN nq)) := Lib.hid ⟨nq, rfl⟩
    generalize w.drewN nq = w2 at h2 hd2 ⊢
    clear c1 c2 c4 c6 c7
    obtain ⟨c1, c2, c4, c6, c7, -⟩ := h2.cells
    obtain ⟨tb, rfl, d0, d1, d2, d3⟩ := pst_tok h2 i hlt
    have hq0 : (0 : Int) ≤ (i : Int) := Int.natCast_nonneg _
    have hq1 : (i : Int) < (P.ts.length : Int) := by omega
    go_wp2_with fail
    go_quiet (fail)
    have hd3 := Lib.hid (hd2.out.step nq)
    generalize w2.drewN nq = w3 at hd3 ⊢
    go_wp2_with fail
    go_ret
    exact ⟨rfl, hd3.out⟩
  · have hk : Hid (P.kind i = 0) := Lib.hid (Ps.kind_end (by omega))
    go_enter Tryd.func72, Tryd.ntmps72
    go_wp2_with fail
    go_quiet (fail)
    have hd2 : Hid (Drawn w (w.drewN nq)) := Lib.hid ⟨nq, rfl⟩
    generalize w.drewN nq = w2 at hd2 ⊢
    go_wp2_with fail
    go_ret
    exact ⟨by rw [hk.out]; rfl, hd2.out⟩
end Go.Proofs.YtclioihichcpiaaDoor


/- Parse: stop. -/
namespace Go.Proofs.YtclioihichcpiaaDoor
open Go.RowKit Lx
/-- the panic of a text that goes on no more -/
def thrown (at_ : Int) : Ending := .panicked [{ v := .iface 114 (.agg #[.int .i64 at_]), recovered := false }]
set_option maxHeartbeats 1000000 in
set_option maxRecDepth 100000 in
theorem pa_stop (w : World) (b : Nat) (P : Ps) (tx : ByteArray) (ta : Option Addr) (tc i : Nat) (R0 R1 R2 R3 R4 R5 : Value) (h : PSt w b P tx ta tc i R0 R1 R2 R3 R4 R5) (wa : Option Addr) (ks : List Int) (wc : Nat) (hw : Ints .i64 w wa ks) (hk : ks.length ≤ 100) :
    Calls Tryd.prog 34 #[.pointer (some ⟨b, 0, none⟩), .slice wa ks.length wc] w fun e w' => e = thrown (P.stop i ks) ∧ Below w.heap.size w w' := by
  obtain ⟨c1, c2, c4, c6, c7, -⟩ := h.cells
  have hlen := h.len
  have hpos := h.pos
  by_cases hlt : i < P.ts.length
  · have hie : ((i : Int) == (P.ts.length : Int)) = false := by rw [beq_eq_false_iff_ne]; omega
    go_enter Tryd.func34, Tryd.ntmps34
    go_wp2_with fail
    go_quiet (fail)
    have h2 := h.drawn ⟨nq, rfl⟩
    have hd2 : Hid (Drawn w (w.drewN nq)) := Lib.hid ⟨nq, rfl⟩
    generalize w.drewN nq = w2 at h2 hd2 ⊢
    clear c1 c2 c4 c6 c7
    obtain ⟨c1, c2, c4, c6, c7, -⟩ := h2.cells
    obtain ⟨tb, rfl, d0, d1, d2, d3⟩ := pst_tok h2 i hlt
    have hq0 : (0 : Int) ≤ (i : Int) := Int.natCast_nonneg _
    have hq1 : (i : Int) < (P.ts.length : Int) := by omega
    have hS4 : ∀ w', Below w2.heap.size w2 w' → w'.cell? ⟨b, 1, none⟩ = some (.slice (some ⟨tb, 0, none⟩) P.ts.length tc) ∧ w'.cell? ⟨b, 7, none⟩ = some (.int .i64 i) ∧ w'.cell? ⟨tb, i * 4, none⟩ = some (.int .i64 (P.kind i)) ∧ w'.cell? ⟨tb, i * 4 + 1, none⟩ = some (.string (mk (P.tok i).text)) ∧ w'.cell? ⟨tb, i * 4 + 2, none⟩ = some (.int .i64 (P.tok i).at_) ∧ w'.cell? ⟨tb, i * 4 + 3, none⟩ = some (.int .i64 (P.tok i).end_) := fun w' hb =>
      ⟨cell_below hb rfl c1, cell_below hb rfl c7, cell_below hb rfl d0, cell_below hb rfl d1, cell_below hb rfl d2, cell_below hb rfl d3⟩
    replace hS4 := Lib.hid hS4
    have hz : Hid (∀ n, w2.drewN n = w2.drewN n) := Lib.hid fun _ => rfl
    go_wp2_with fail
    go_region_held3 (fun w' => w'.cell? ⟨b, 1, none⟩ = some (.slice (some ⟨tb, 0, none⟩) P.ts.length tc) ∧ w'.cell? ⟨b, 7, none⟩ = some (.int .i64 i) ∧ w'.cell? ⟨tb, i * 4, none⟩ = some (.int .i64 (P.kind i)) ∧ w'.cell? ⟨tb, i * 4 + 1, none⟩ = some (.string (mk (P.tok i).text)) ∧ w'.cell? ⟨tb, i * 4 + 2, none⟩ = some (.int .i64 (P.tok i).at_) ∧ w'.cell? ⟨tb, i * 4 + 3, none⟩ = some (.int .i64 (P.tok i).end_))
      (first
        | exact hS4.out _ (Below.refl _ _).drew
        | exact hS4.out _ ((Below.refl _ _).drew.al _)
        | exact hS4.out _ ((Below.refl _ _).al _).drew
        | go_keep)
      (fail)
    have hw3 : ∃ w3, w3 = (w2.alloc (.cells #[.int .i64 (P.kind i), .string (mk (P.tok i).text), .int .i64 (P.tok i).at_, .int .i64 (P.tok i).end_] 92)).drew := ⟨_, rfl⟩
    obtain ⟨w3, hw3⟩ := hw3
    have hr3 : w3.heap[w2.heap.size]? = some (.cells #[.int .i64 (P.kind i), .string (mk (P.tok i).text), .int .i64 (P.tok i).at_, .int .i64 (P.tok i).end_] 92) := by rw [hw3]; exact heap_alloc_new _ _
    have hb3 : Hid (Below w.heap.size w w3) := Lib.hid (by rw [hw3]; exact ((hd2.out.below _).al _).drew)
    rw [← hw3]
    clear hw3
    generalize w2.heap.size = g at hr3 ⊢
    have e0 : w3.cell? ⟨g, 0, none⟩ = some (.int .i64 (P.kind i)) := by simp [World.cell?, hr3]
    have e2 : w3.cell? ⟨g, 2, none⟩ = some (.int .i64 (P.tok i).at_) := by simp [World.cell?, hr3]
    have e3 : w3.cell? ⟨g, 3, none⟩ = some (.int .i64 (P.tok i).end_) := by simp [World.cell?, hr3]
    clear hr3 hS4 hz c1 c2 c4 c6 c7 d0 d1 d2 d3
    by_cases hk5 : P.kind i = 5 ∨ P.kind i = 6 ∨ P.kind i = 7
    · have hloop : Hid (P.stop i ks = if ks.contains 1 = true then ((P.tok i).end_ : Int) else (P.tok i).at_) := Lib.hid (by
        unfold Ps.stop; rw [if_neg (by omega)]
        by_cases hc : ks.contains 1 = true
        · rw [if_pos ⟨hk5, hc⟩, if_pos hc]
        · rw [if_neg (fun h => hc h.2), if_neg hc])
      rcases hk5 with hk5 | hk5 | hk5
      · rw [hk5] at e0
        clear hk5
        go_wp2_with fail
        go_loopw [8, 76] (fun _ j wr => ∃ (k : Nat), k ≤ ks.length ∧ j = .int .i64 k ∧ (∀ m, m < k → nth ks m ≠ 1) ∧ Hid (Drawn w3 wr)) (fun _ j _ => ks.length - (intOf j).toNat)
        case atStart => exact ⟨0, Nat.zero_le _, rfl, fun m hm => absurd hm (by omega), Lib.hid ⟨0, rfl⟩⟩
        case round =>
          obtain ⟨k, hkk, rfl, hno, hdr⟩ := hrel
          have f0 := cell_below (hdr.out.below w3.heap.size) rfl e0
          have f2 := cell_below (hdr.out.below w3.heap.size) rfl e2
          have f3 := cell_below (hdr.out.below w3.heap.size) rfl e3
          by_cases hkl : k < ks.length
          · obtain ⟨wb, off, rfl, hwc⟩ := ((hw.below hb3.out).below (hdr.out.below _)).cells k hkl
            by_cases heq : nth ks k = 1
            · have hS : Hid (P.stop i ks = (P.tok i).end_) := Lib.hid (by
                rw [hloop.out, if_pos]
                rw [List.contains_iff_mem, ← heq, nth_eq _ _ hkl]
                exact List.getElem_mem hkl)
              rw [heq] at hwc
              clear hno heq
              go_wp2_with fail
              exact ⟨rfl, by rw [hS.out]; rfl, hb3.out.trans ((hdr.out.below _).mono hb3.out.size)⟩
            · have hne : (nth ks k == 1) = false := by rw [beq_eq_false_iff_ne]; exact heq
              have hno' : Hid (∀ m, m < k + 1 → nth ks m ≠ 1) := Lib.hid (fun m hm => by
                by_cases hmk : m = k
                · subst hmk; exact heq
                · exact hno m (by omega))
              clear hno heq
              generalize nth ks k = kk at hwc hne
              go_wp2_with fail
              exact ⟨⟨k + 1, by omega, by go_num, hno'.out, hdr⟩, by simp [intOf]; omega⟩
          · have hS : Hid (P.stop i ks = (P.tok i).at_) := Lib.hid (by
              rw [hloop.out, if_neg]
              intro hc
              rw [List.contains_iff_mem] at hc
              obtain ⟨m, hm, he⟩ := List.getElem_of_mem hc
              exact hno m (by omega) (by rw [nth_eq _ _ hm]; exact he))
            clear hno
            go_wp2_with fail
            exact ⟨rfl, by rw [hS.out]; rfl, hb3.out.trans ((hdr.out.below _).mono hb3.out.size)⟩
      · rw [hk5] at e0
        clear hk5
        go_wp2_with fail
        go_loopw [8, 76] (fun _ j wr => ∃ (k : Nat), k ≤ ks.length ∧ j = .int .i64 k ∧ (∀ m, m < k → nth ks m ≠ 1) ∧ Hid (Drawn w3 wr)) (fun _ j _ => ks.length - (intOf j).toNat)
        case atStart => exact ⟨0, Nat.zero_le _, rfl, fun m hm => absurd hm (by omega), Lib.hid ⟨0, rfl⟩⟩
        case round =>
          obtain ⟨k, hkk, rfl, hno, hdr⟩ := hrel
          have f0 := cell_below (hdr.out.below w3.heap.size) rfl e0
          have f2 := cell_below (hdr.out.below w3.heap.size) rfl e2
          have f3 := cell_below (hdr.out.below w3.heap.size) rfl e3
          by_cases hkl : k < ks.length
          · obtain ⟨wb, off, rfl, hwc⟩ := ((hw.below hb3.out).below (hdr.out.below _)).cells k hkl
            by_cases heq : nth ks k = 1
            · have hS : Hid (P.stop i ks = (P.tok i).end_) := Lib.hid (by
                rw [hloop.out, if_pos]
                rw [List.contains_iff_mem, ← heq, nth_eq _ _ hkl]
                exact List.getElem_mem hkl)
              rw [heq] at hwc
              clear hno heq
              go_wp2_with fail
              exact ⟨rfl, by rw [hS.out]; rfl, hb3.out.trans ((hdr.out.below _).mono hb3.out.size)⟩
            · have hne : (nth ks k == 1) = false := by rw [beq_eq_false_iff_ne]; exact heq
              have hno' : Hid (∀ m, m < k + 1 → nth ks m ≠ 1) := Lib.hid (fun m hm => by
                by_cases hmk : m = k
                · subst hmk; exact heq
                · exact hno m (by omega))
              clear hno heq
              generalize nth ks k = kk at hwc hne
              go_wp2_with fail
              exact ⟨⟨k + 1, by omega, by go_num, hno'.out, hdr⟩, by simp [intOf]; omega⟩
          · have hS : Hid (P.stop i ks = (P.tok i).at_) := Lib.hid (by
              rw [hloop.out, if_neg]
              intro hc
              rw [List.contains_iff_mem] at hc
              obtain ⟨m, hm, he⟩ := List.getElem_of_mem hc
              exact hno m (by omega) (by rw [nth_eq _ _ hm]; exact he))
            clear hno
            go_wp2_with fail
            exact ⟨rfl, by rw [hS.out]; rfl, hb3.out.trans ((hdr.out.below _).mono hb3.out.size)⟩
      · rw [hk5] at e0
        clear hk5
        go_wp2_with fail
        go_loopw [8, 76] (fun _ j wr => ∃ (k : Nat), k ≤ ks.length ∧ j = .int .i64 k ∧ (∀ m, m < k → nth ks m ≠ 1) ∧ Hid (Drawn w3 wr)) (fun _ j _ => ks.length - (intOf j).toNat)
        case atStart => exact ⟨0, Nat.zero_le _, rfl, fun m hm => absurd hm (by omega), Lib.hid ⟨0, rfl⟩⟩
        case round =>
          obtain ⟨k, hkk, rfl, hno, hdr⟩ := hrel
          have f0 := cell_below (hdr.out.below w3.heap.size) rfl e0
          have f2 := cell_below (hdr.out.below w3.heap.size) rfl e2
          have f3 := cell_below (hdr.out.below w3.heap.size) rfl e3
          by_cases hkl : k < ks.length
          · obtain ⟨wb, off, rfl, hwc⟩ := ((hw.below hb3.out).below (hdr.out.below _)).cells k hkl
            by_cases heq : nth ks k = 1
            · have hS : Hid (P.stop i ks = (P.tok i).end_) := Lib.hid (by
                rw [hloop.out, if_pos]
                rw [List.contains_iff_mem, ← heq, nth_eq _ _ hkl]
                exact List.getElem_mem hkl)
              rw [heq] at hwc
              clear hno heq
              go_wp2_with fail
              exact ⟨rfl, by rw [hS.out]; rfl, hb3.out.trans ((hdr.out.below _).mono hb3.out.size)⟩
            · have hne : (nth ks k == 1) = false := by rw [beq_eq_false_iff_ne]; exact heq
              have hno' : Hid (∀ m, m < k + 1 → nth ks m ≠ 1) := Lib.hid (fun m hm => by
                by_cases hmk : m = k
                · subst hmk; exact heq
                · exact hno m (by omega))
              clear hno heq
              generalize nth ks k = kk at hwc hne
              go_wp2_with fail
              exact ⟨⟨k + 1, by omega, by go_num, hno'.out, hdr⟩, by simp [intOf]; omega⟩
          · have hS : Hid (P.stop i ks = (P.tok i).at_) := Lib.hid (by
              rw [hloop.out, if_neg]
              intro hc
              rw [List.contains_iff_mem] at hc
              obtain ⟨m, hm, he⟩ := List.getElem_of_mem hc
              exact hno m (by omega) (by rw [nth_eq _ _ hm]; exact he))
            clear hno
            go_wp2_with fail
            exact ⟨rfl, by rw [hS.out]; rfl, hb3.out.trans ((hdr.out.below _).mono hb3.out.size)⟩
    · have hS : Hid (P.stop i ks = (P.tok i).at_) := Lib.hid (by
        unfold Ps.stop; rw [if_neg (by omega), if_neg (fun h => hk5 h.1)])
      have k5 : (P.kind i == 5) = false := by rw [beq_eq_false_iff_ne]; omega
      have k6 : (P.kind i == 6) = false := by rw [beq_eq_false_iff_ne]; omega
      have k7 : (P.kind i == 7) = false := by rw [beq_eq_false_iff_ne]; omega
      clear hk5
      go_wp2_with fail
      exact ⟨rfl, by rw [hS.out]; rfl, hb3.out⟩
  · by_cases h0 : P.op.kind = 0
    · have hS : Hid (P.stop i ks = P.far) := Lib.hid (by unfold Ps.stop; rw [if_pos (by omega), if_pos h0])
      have hie : ((i : Int) == (P.ts.length : Int)) = true := by rw [beq_iff_eq]; omega
      have h0' : (P.op.kind == 0) = true := by rw [beq_iff_eq]; exact h0
      go_enter Tryd.func34, Tryd.ntmps34
      go_wp2_with fail
      go_quiet (fail)
      have h2 := h.drawn ⟨nq, rfl⟩
      have hd2 : Hid (Drawn w (w.drewN nq)) := Lib.hid ⟨nq, rfl⟩
      generalize w.drewN nq = w2 at h2 hd2 ⊢
      clear c1 c2 c4 c6 c7
      obtain ⟨c1, c2, c4, c6, c7, -⟩ := h2.cells
      go_wp2_with fail
      exact ⟨rfl, by rw [hS.out]; rfl, hd2.out.below _⟩
    · have hie : ((i : Int) == (P.ts.length : Int)) = true := by rw [beq_iff_eq]; omega
      have h0' : (P.op.kind == 0) = false := by rw [beq_eq_false_iff_ne]; exact h0
      go_enter Tryd.func34, Tryd.ntmps34
      go_wp2_with fail
      go_quiet (fail)
      have h2 := h.drawn ⟨nq, rfl⟩
      have hd2 : Hid (Drawn w (w.drewN nq)) := Lib.hid ⟨nq, rfl⟩
      generalize w.drewN nq = w2 at h2 hd2 ⊢
      clear c1 c2 c4 c6 c7
      obtain ⟨c1, c2, c4, c6, c7, -⟩ := h2.cells
      go_wp2_with fail
      go_loopw [5, 33] (fun _ j wr => ∃ (k : Nat), k ≤ ks.length ∧ j = .int .i64 k ∧ (∀ m, m < k → nth ks m ≠ P.op.kind) ∧ Hid (Drawn w wr)) (fun _ j _ => ks.length - (intOf j).toNat)
      case atStart => exact ⟨0, Nat.zero_le _, rfl, fun m hm => absurd hm (by omega), hd2⟩
      case round =>
        obtain ⟨k, hkk, rfl, hno, hdr⟩ := hrel
        have h3 := h.drawn hdr.out
        clear c1 c2 c4 c6 c7
        obtain ⟨c1, c2, c4, c6, c7, -⟩ := h3.cells
        by_cases hkl : k < ks.length
        · obtain ⟨wb, off, rfl, hwc⟩ := (hw.below (hdr.out.below _)).cells k hkl
          by_cases heq : nth ks k = P.op.kind
          · have hS : Hid (P.stop i ks = P.far) := Lib.hid (by
              unfold Ps.stop
              rw [if_pos (by omega), if_neg h0, if_pos]
              rw [List.contains_iff_mem, ← heq, nth_eq _ _ hkl]
              exact List.getElem_mem hkl)
            rw [heq] at hwc
            clear hno heq
            go_wp2_with fail
            exact ⟨rfl, by rw [hS.out]; rfl, hdr.out.below _⟩
          · have hne : (nth ks k == P.op.kind) = false := by rw [beq_eq_false_iff_ne]; exact heq
            have hno' : Hid (∀ m, m < k + 1 → nth ks m ≠ P.op.kind) := Lib.hid (fun m hm => by
              by_cases hmk : m = k
              · subst hmk; exact heq
              · exact hno m (by omega))
            clear hno heq
            generalize nth ks k = kk at hwc hne
            go_wp2_with fail
            exact ⟨⟨k + 1, by omega, by go_num, hno'.out, hdr⟩, by simp [intOf]; omega⟩
        · have hS : Hid (P.stop i ks = P.op.at_) := Lib.hid (by
            unfold Ps.stop
            rw [if_pos (by omega), if_neg h0, if_neg]
            intro hc
            rw [List.contains_iff_mem] at hc
            obtain ⟨m, hm, he⟩ := List.getElem_of_mem hc
            exact hno m (by omega) (by rw [nth_eq _ _ hm]; exact he))
          clear hno
          go_wp2_with fail
          exact ⟨rfl, by rw [hS.out]; rfl, hdr.out.below _⟩
end Go.Proofs.YtclioihichcpiaaDoor


/- Parse: take. -/
namespace Go.Proofs.YtclioihichcpiaaDoor
open Go.RowKit Lx
/-- all blocks but the parser's stay -/
def Mvd (b : Nat) (w w' : World) : Prop := w.grownBy w' (some b)
theorem Mvd.of {b : Nat} {w w' : World} (h : Below w.heap.size w w') : Mvd b w w' := ⟨h.os, h.tape, h.output, h.size, fun k hk _ => h.block k hk⟩
theorem Mvd.refl (b : Nat) (w : World) : Mvd b w w := Mvd.of (Below.refl _ _)
theorem Mvd.trans {b : Nat} {w w1 w2 : World} (h : Mvd b w w1) (h2 : Mvd b w1 w2) : Mvd b w w2 := World.grownBy.trans h h2
theorem PSt.below {w w' : World} {b : Nat} {P : Ps} {tx : ByteArray} {ta : Option Addr} {tc i : Nat} {R0 R1 R2 R3 R4 R5 : Value} (h : PSt w b P tx ta tc i R0 R1 R2 R3 R4 R5) (hb : Below w.heap.size w w') : PSt w' b P tx ta tc i R0 R1 R2 R3 R4 R5 :=
  ⟨(hb.block _ (Array.getElem?_eq_some_iff.1 h.blk).1).trans h.blk, fun j t hj => by
    obtain ⟨tb, h1, h2, h3, h4, h5⟩ := h.toks j t hj
    exact ⟨tb, h1, cell_below hb rfl h2, cell_below hb rfl h3, cell_below hb rfl h4, cell_below hb rfl h5⟩, h.len, h.pos⟩
set_option maxHeartbeats 1000000 in
set_option maxRecDepth 100000 in
theorem pa_take_err (w : World) (b : Nat) (P : Ps) (tx : ByteArray) (ta : Option Addr) (tc i : Nat) (R0 R1 R2 R3 R4 R5 : Value) (h : PSt w b P tx ta tc i R0 R1 R2 R3 R4 R5) (wa : Option Addr) (ks : List Int) (wc : Nat) (hw : Ints .i64 w wa ks) (hk : ks.length ≤ 100) (hc : ks.contains (P.kind i) = false) :
    Calls Tryd.prog 55 #[.pointer (some ⟨b, 0, none⟩), .slice wa ks.length wc] w fun e w' => e = thrown (P.stop i ks) ∧ Below w.heap.size w w' := by
  have hno : Hid (∀ m, m < ks.length → nth ks m ≠ P.kind i) := Lib.hid fun m hm he => by
    have : ks.contains (P.kind i) = true := by rw [List.contains_iff_mem, ← he, nth_eq _ _ hm]; exact List.getElem_mem hm
    rw [hc] at this; cases this
  go_enter Tryd.func55, Tryd.ntmps55
  go_wp2_with fail
  go_loopw [6, 9] (fun _ j wr => ∃ (k : Nat), k ≤ ks.length ∧ j = .int .i64 k ∧ Hid (Below w.heap.size w wr)) (fun _ j _ => ks.length - (intOf j).toNat)
  case atStart => exact ⟨0, Nat.zero_le _, rfl, Lib.hid ((Below.refl _ _).al _)⟩
  case round =>
    obtain ⟨k, hkk, rfl, hbw⟩ := hrel
    by_cases hkl : k < ks.length
    · obtain ⟨wb, off, rfl, hwc⟩ := (hw.below hbw.out).cells k hkl
      have hne : (P.kind i == nth ks k) = false := by rw [beq_eq_false_iff_ne]; exact fun e => hno.out k hkl e.symm
      have hpk := pa_kind wr b P tx ta tc i R0 R1 R2 R3 R4 R5 (h.below hbw.out)
      generalize nth ks k = kk at hwc hne
      generalize P.kind i = ki at hpk hne
      go_wp2_with (go_at_call 72; refine hpk.mono ?_; rintro e w2 ⟨rfl, hd⟩; have hb2 := Lib.hid (hbw.out.trans ((hd.below _).mono hbw.out.size)); clear hd)
      exact ⟨⟨k + 1, by omega, by go_num, hb2⟩, by simp [intOf]; omega⟩
    · have hps := pa_stop wr b P tx ta tc i R0 R1 R2 R3 R4 R5 (h.below hbw.out) wa ks wc (hw.below hbw.out) hk
      unfold thrown at hps
      go_wp2_with (go_at_call 34; refine hps.mono ?_; rintro e w2 ⟨rfl, hb20⟩; have hb2 := Lib.hid (hbw.out.trans (hb20.mono hbw.out.size)); clear hb20)
      exact ⟨rfl, rfl, hb2.out⟩
theorem PSt.step {w : World} {b : Nat} {P : Ps} {tx : ByteArray} {ta : Option Addr} {tc i : Nat} {R0 R1 R2 R3 R4 R5 : Value} (h : PSt w b P tx ta tc i R0 R1 R2 R3 R4 R5) (hlt : i < P.ts.length) :
    PSt (w.setCell ⟨b, 7, none⟩ (.int .i64 ((i + 1 : Nat) : Int))) b P tx ta tc (i + 1) R0 R1 R2 R3 R4 R5 ∧ Mvd b w (w.setCell ⟨b, 7, none⟩ (.int .i64 ((i + 1 : Nat) : Int))) := by
  have hs := Go.heap_setCell_same w b 7 _ _ (.int .i64 ((i + 1 : Nat) : Int)) h.blk
  refine ⟨⟨hs, fun j t hj => ?_, h.len, by omega⟩, ⟨rfl, rfl, rfl, by simp, fun k hk hne => heap_setCell_other _ _ _ _ (fun e => hne (by rw [e]))⟩⟩
  obtain ⟨tb, h1, h2, h3, h4, h5⟩ := h.toks j t hj
  have hne : tb ≠ b := by
    rintro rfl
    have hj0 : 0 < P.ts.length := by have := (List.getElem?_eq_some_iff.1 hj).1; omega
    obtain ⟨t0, e0, g0, _⟩ := h.toks 0 _ (List.getElem?_eq_getElem hj0)
    rw [h1] at e0
    cases e0
    have hb := h.blk
    simp [World.cell?, hb] at g0
  have hc : ∀ n, (w.setCell ⟨b, 7, none⟩ (.int .i64 ((i + 1 : Nat) : Int))).cell? ⟨tb, n, none⟩ = w.cell? ⟨tb, n, none⟩ := fun n => World.cell?_of_block (heap_setCell_other _ _ _ _ hne)
  exact ⟨tb, h1, by rw [hc]; exact h2, by rw [hc]; exact h3, by rw [hc]; exact h4, by rw [hc]; exact h5⟩
theorem sizeToken : (Tryd.prog.info? 92).map (fun i => i.size) = some 4 := by kernel_rfl
theorem PSt.mvd {w w' : World} {r b : Nat} {P : Ps} {tx : ByteArray} {ta : Option Addr} {tc i : Nat} {R0 R1 R2 R3 R4 R5 : Value} (h : PSt w b P tx ta tc i R0 R1 R2 R3 R4 R5) (hm : Mvd r w w') (hb : b ≠ r) (ht : ∀ x, ta = some x → x.block ≠ r) : PSt w' b P tx ta tc i R0 R1 R2 R3 R4 R5 :=
  ⟨(hm.block _ (Array.getElem?_eq_some_iff.1 h.blk).1 (fun e => hb (by injection e))).trans h.blk, fun j t hj => by
    obtain ⟨tb, h1, h2, h3, h4, h5⟩ := h.toks j t hj
    have hne : tb ≠ r := ht _ h1
    have hc : ∀ n v, w.cell? ⟨tb, n, none⟩ = some v → w'.cell? ⟨tb, n, none⟩ = some v := fun n v hv => by
      rw [World.cell?_of_block (hm.block tb (cell_lt hv) (fun e => hne (by injection e)))]; exact hv
    exact ⟨tb, h1, hc _ _ h2, hc _ _ h3, hc _ _ h4, hc _ _ h5⟩, h.len, h.pos⟩
theorem PSt.lt {w : World} {b : Nat} {P : Ps} {tx : ByteArray} {ta : Option Addr} {tc i : Nat} {R0 R1 R2 R3 R4 R5 : Value} (h : PSt w b P tx ta tc i R0 R1 R2 R3 R4 R5) : b < w.heap.size := (Array.getElem?_eq_some_iff.1 h.blk).1
theorem Mvd.set {b : Nat} {w w' : World} (h : Mvd b w w') (n : Nat) (v : Value) : Mvd b w (w'.setCell ⟨b, n, none⟩ v) :=
  h.trans ⟨rfl, rfl, rfl, by simp, fun k hk hne => heap_setCell_other _ _ _ _ (fun e => hne (by rw [e]))⟩
theorem Mvd.drew {b : Nat} {w w' : World} (h : Mvd b w w') : Mvd b w w'.drew := h.trans (Mvd.of (Below.refl _ _).drew)
theorem Mvd.new {b : Nat} {w w1 w2 : World} (h : Mvd b w w1) (h2 : Mvd w.heap.size w1 w2) : Mvd b w w2 :=
  ⟨h2.os.trans h.os, h2.tape.trans h.tape, h2.output.trans h.output, Nat.le_trans h.size h2.size, fun k hk hne => (h2.block k (Nat.lt_of_lt_of_le hk h.size) (fun e => by injection e with e; omega)).trans (h.block k hk hne)⟩
theorem mvd_cell {b k n : Nat} {w w' : World} {v : Value} (h : Mvd b w w') (hc : w.cell? ⟨k, n, none⟩ = some v) (hk : k ≠ b) : w'.cell? ⟨k, n, none⟩ = some v := by
  rw [World.cell?_of_block (h.block k (cell_lt hc) (fun e => hk (by injection e)))]; exact hc
set_option maxHeartbeats 2000000 in
set_option maxRecDepth 100000 in
theorem pa_take_ok (w : World) (b : Nat) (P : Ps) (tx : ByteArray) (ta : Option Addr) (tc i : Nat) (R0 R1 R2 R3 R4 R5 : Value) (h : PSt w b P tx ta tc i R0 R1 R2 R3 R4 R5) (wa : Option Addr) (ks : List Int) (wc : Nat) (hw : Ints .i64 w wa ks) (hk : ks.length ≤ 100) (hc : ks.contains (P.kind i) = true) (hlt : i < P.ts.length) :
    Calls Tryd.prog 55 #[.pointer (some ⟨b, 0, none⟩), .slice wa ks.length wc] w fun e w' => e = .returned (.agg #[.int .i64 (P.kind i), .string (mk (P.tok i).text), .int .i64 (P.tok i).at_, .int .i64 (P.tok i).end_]) ∧ PSt w' b P tx ta tc (i + 1) R0 R1 R2 R3 R4 R5 ∧ Mvd b w w' := by
  have hin : Hid (∃ m, m < ks.length ∧ nth ks m = P.kind i) := Lib.hid (by
    rw [List.contains_iff_mem] at hc
    obtain ⟨m, hm, he⟩ := List.getElem_of_mem hc
    exact ⟨m, hm, by rw [nth_eq _ _ hm]; exact he⟩)
  have hbl := h.lt
  have hlen := h.len
  go_enter Tryd.func55, Tryd.ntmps55
  go_wp2_with fail
  go_loopw [6, 9] (fun _ j wr => ∃ (k : Nat), k ≤ ks.length ∧ j = .int .i64 k ∧ (∀ m, m < k → nth ks m ≠ P.kind i) ∧ Hid (Below (w.alloc (.cells #[.int .i64 0, .string ⟨#[]⟩, .int .i64 0, .int .i64 0] 92)).heap.size (w.alloc (.cells #[.int .i64 0, .string ⟨#[]⟩, .int .i64 0, .int .i64 0] 92)) wr)) (fun _ j _ => ks.length - (intOf j).toNat)
  case atStart => exact ⟨0, Nat.zero_le _, rfl, fun m hm => absurd hm (by omega), Lib.hid (Below.refl _ _)⟩
  case round =>
    obtain ⟨k, hkk, rfl, hno, hbw⟩ := hrel
    have hbw' : Hid (Below w.heap.size w wr) := Lib.hid (((Below.refl _ _).al _).trans (hbw.out.mono (by rw [World.size_alloc]; omega)))
    by_cases hkl : k < ks.length
    · obtain ⟨wb, off, rfl, hwc⟩ := (hw.below hbw'.out).cells k hkl
      have hpk := pa_kind wr b P tx ta tc i R0 R1 R2 R3 R4 R5 (h.below hbw'.out)
      by_cases heq : nth ks k = P.kind i
      · rw [heq] at hwc
        clear hno heq hin
        have hst := Lib.hid (h.below hbw'.out)
        have hr := (hbw.out.block w.heap.size (by rw [World.size_alloc]; omega)).trans (heap_alloc_new _ _)
        have hkk' : (P.kind i == P.kind i) = true := by simp
        go_wp2_with (go_at_call 72; refine hpk.mono ?_; rintro e w2 ⟨rfl, hd⟩; have hst2 := Lib.hid (hst.out.drawn hd); have hb2 := Lib.hid (hbw'.out.trans ((hd.below _).mono hbw'.out.size)); have hr2 := (((hd.below wr.heap.size).block _ (Array.getElem?_eq_some_iff.1 hr).1).trans hr); obtain ⟨c1, c2, c4, c6, c7, cf⟩ := hst2.out.cells; replace hr2 := Lib.hid hr2; clear hd)
        have hs3 := hst2.out.step hlt
        rw [show ((i + 1 : Nat) : Int) = (i : Int) + 1 from by omega] at hs3
        generalize w2.setCell ⟨b, 7, none⟩ (.int .i64 ((i : Int) + 1)) = w3 at hs3 ⊢
        obtain ⟨hs3, hm3⟩ := hs3
        have hm3' : Hid (Mvd b w w3) := Lib.hid ((Mvd.of hb2.out).trans hm3)
        have hr3 := (hm3.block w.heap.size (Array.getElem?_eq_some_iff.1 hr2.out).1 (fun e => by injection e with e; omega)).trans hr2.out
        clear hm3 c1 c2 c4 c6 c7 cf
        obtain ⟨c1, c2, c4, c6, c7, cf⟩ := hs3.cells
        obtain ⟨tb, rfl, d0, d1, d2, d3⟩ := pst_tok hs3 i hlt
        have htb : tb < w.heap.size := by
          obtain ⟨tb', e', g', _⟩ := pst_tok h i hlt
          cases e'
          exact cell_lt g'
        rw [show ((i + 1 : Nat) : Int) = (i : Int) + 1 from by omega] at c7
        have hS4 : ∀ w', Mvd w.heap.size w3 w' → w'.cell? ⟨b, 1, none⟩ = some (.slice (some ⟨tb, 0, none⟩) P.ts.length tc) ∧ w'.cell? ⟨b, 7, none⟩ = some (.int .i64 ((i : Int) + 1)) ∧ w'.cell? ⟨tb, i * 4, none⟩ = some (.int .i64 (P.kind i)) ∧ w'.cell? ⟨tb, i * 4 + 1, none⟩ = some (.string (mk (P.tok i).text)) ∧ w'.cell? ⟨tb, i * 4 + 2, none⟩ = some (.int .i64 (P.tok i).at_) ∧ w'.cell? ⟨tb, i * 4 + 3, none⟩ = some (.int .i64 (P.tok i).end_) := fun w' hb =>
          ⟨mvd_cell hb c1 (by omega), mvd_cell hb c7 (by omega), mvd_cell hb d0 (by omega), mvd_cell hb d1 (by omega), mvd_cell hb d2 (by omega), mvd_cell hb d3 (by omega)⟩
        replace hS4 := Lib.hid hS4
        have r0 : w3.cell? ⟨w.heap.size, 0, none⟩ = some (.int .i64 0) := by simp [World.cell?, hr3]
        have r1 : w3.cell? ⟨w.heap.size, 1, none⟩ = some (.string ⟨#[]⟩) := by simp [World.cell?, hr3]
        have r2 : w3.cell? ⟨w.heap.size, 2, none⟩ = some (.int .i64 0) := by simp [World.cell?, hr3]
        have r3 : w3.cell? ⟨w.heap.size, 3, none⟩ = some (.int .i64 0) := by simp [World.cell?, hr3]
        have z0 : w3.frozen? ⟨w.heap.size, 0, none⟩ = false := by simp [World.frozen?, hr3]
        have z1 : w3.frozen? ⟨w.heap.size, 1, none⟩ = false := by simp [World.frozen?, hr3]
        have z2 : w3.frozen? ⟨w.heap.size, 2, none⟩ = false := by simp [World.frozen?, hr3]
        have z3 : w3.frozen? ⟨w.heap.size, 3, none⟩ = false := by simp [World.frozen?, hr3]
        have hq0 : (0 : Int) ≤ (i : Int) := Int.natCast_nonneg _
        have hq1 : (i : Int) < (P.ts.length : Int) := by omega
        have hwr : IntKind.i64.wrap ((i : Int) + 1 - 1) = (i : Int) := by rw [show (i : Int) + 1 - 1 = i from by omega]; exact IntWalk.i64_in _ (by omega)
        have hwr2 : IntKind.i64.wrap (i : Int) = (i : Int) := IntWalk.i64_in _ (by omega)
        replace hr3 := Lib.hid hr3
        go_region_held3 (fun w' => w'.cell? ⟨b, 1, none⟩ = some (.slice (some ⟨tb, 0, none⟩) P.ts.length tc) ∧ w'.cell? ⟨b, 7, none⟩ = some (.int .i64 ((i : Int) + 1)) ∧ w'.cell? ⟨tb, i * 4, none⟩ = some (.int .i64 (P.kind i)) ∧ w'.cell? ⟨tb, i * 4 + 1, none⟩ = some (.string (mk (P.tok i).text)) ∧ w'.cell? ⟨tb, i * 4 + 2, none⟩ = some (.int .i64 (P.tok i).at_) ∧ w'.cell? ⟨tb, i * 4 + 3, none⟩ = some (.int .i64 (P.tok i).end_))
          (first
            | exact hS4.out _ (Mvd.of (Below.refl _ _).drew)
            | exact hS4.out _ (((((Mvd.refl _ _).set _ _).set _ _).set _ _).set _ _).drew)
          (fail)
        have hV : ∃ V, V = ((((w3.setCell ⟨w.heap.size, 0, none⟩ (.int .i64 (P.kind i))).setCell ⟨w.heap.size, 1, none⟩ (.string (mk (P.tok i).text))).setCell ⟨w.heap.size, 2, none⟩ (.int .i64 (P.tok i).at_)).setCell ⟨w.heap.size, 3, none⟩ (.int .i64 (P.tok i).end_)).drew := ⟨_, rfl⟩
        obtain ⟨V, hV⟩ := hV
        have hmV : Mvd w.heap.size w3 V := by rw [hV]; exact (((((Mvd.refl _ _).set _ _).set _ _).set _ _).set _ _).drew
        have hR : Hid (V.heap[w.heap.size]? = some (.cells #[.int .i64 (P.kind i), .string (mk (P.tok i).text), .int .i64 (P.tok i).at_, .int .i64 (P.tok i).end_] 92)) := Lib.hid (by
          rw [hV]; exact Go.heap_setCell_same _ _ _ _ _ _ (Go.heap_setCell_same _ _ _ _ _ _ (Go.heap_setCell_same _ _ _ _ _ _ (Go.heap_setCell_same _ _ _ _ _ _ hr3.out))))
        have hsV : Hid (PSt V b P tx (some ⟨tb, 0, none⟩) tc (i + 1) R0 R1 R2 R3 R4 R5) := Lib.hid (hs3.mvd hmV (by omega) fun x hx => by cases hx; show tb ≠ _; omega)
        have hmbV : Hid (Mvd b w V) := Lib.hid (hm3'.out.new hmV)
        rw [← hV]
        clear hV hmV c1 c2 c4 c6 c7 cf d0 d1 d2 d3 r0 r1 r2 r3 z0 z1 z2 z3 hwr hwr2 hS4
        go_wp2_with fail
        refine bodyPost_ret (v := .agg #[.int .i64 (P.kind i), .string (mk (P.tok i).text), .int .i64 (P.tok i).at_, .int .i64 (P.tok i).end_]) (results_cell_row rfl _ _ w.heap.size 92 _ (0, 0) _ rfl hR.out Tryd.underlying92 rfl sizeToken) rfl ?_
        exact ⟨rfl, hsV.out, hmbV.out⟩
      · have hne : (P.kind i == nth ks k) = false := by rw [beq_eq_false_iff_ne]; exact fun e => heq e.symm
        have hno' : Hid (∀ m, m < k + 1 → nth ks m ≠ P.kind i) := Lib.hid (fun m hm => by
          by_cases hmk : m = k
          · subst hmk; exact heq
          · exact hno m (by omega))
        clear hno heq
        generalize nth ks k = kk at hwc hne
        go_wp2_with (go_at_call 72; refine hpk.mono ?_; rintro e w2 ⟨rfl, hd⟩; have hb2 := Lib.hid (hbw.out.trans ((hd.below _).mono hbw.out.size)); clear hd)
        exact ⟨⟨k + 1, by omega, by go_num, hno'.out, hb2⟩, by simp [intOf]; omega⟩
    · exfalso
      obtain ⟨m, hm, he⟩ := hin.out
      exact hno m (by omega) he
end Go.Proofs.YtclioihichcpiaaDoor


/- Parse: a term. -/
namespace Go.Proofs.YtclioihichcpiaaDoor
open Go.RowKit Lx
def tokV (t : Tok) : Value := .agg #[.int .i64 t.kind, .string (mk t.text), .int .i64 t.at_, .int .i64 t.end_]
theorem take_cases (P : Ps) (i : Nat) (ks : List Int) (h0 : ks.contains 0 = false) : (∃ t, P.take i ks = .ok (t, i + 1) ∧ t = P.tok i ∧ ks.contains (P.kind i) = true ∧ i < P.ts.length) ∨ (∃ a, P.take i ks = .error a ∧ a = P.stop i ks ∧ ks.contains (P.kind i) = false) := by
  cases hc : ks.contains (P.kind i) with
  | true =>
    refine .inl ⟨_, by unfold Ps.take; rw [hc]; rfl, rfl, rfl, ?_⟩
    rcases Nat.lt_or_ge i P.ts.length with h | h
    · exact h
    · rw [Ps.kind_end h, h0] at hc; cases hc
  | false => exact .inr ⟨_, by unfold Ps.take; rw [hc]; rfl, rfl, rfl⟩
namespace Lx
def psTerm (P : Ps) (i : Nat) : Except Int ((Bool × ByteArray) × Nat) :=
  match P.take i [2, 1, 3, 4] with
  | .ok (t, j) => .ok ((t.kind == 2, mk t.text), j)
  | .error a => .error a
end Lx
theorem kinds_lit2 (w : World) (o : Obj) (e : TypeId) (zs : List Int) (cells : Array Value) (hc : cells = (zs.map (Value.int .i64)).toArray) (hl : zs.length ≤ 100) (hw : zs.all (fun z => decide (0 ≤ z ∧ z ≤ 100)) = true) : Ints .i64 ((w.alloc o).alloc (.cells cells e)) (some ⟨w.heap.size + 1, 0, none⟩) zs :=
  ints_litB .i64 (w.alloc o) e zs cells _ (World.size_alloc _ _) hc (by omega) (fun i hi => by
    have h := List.all_eq_true.1 hw _ (List.getElem_mem hi)
    simp at h
    rw [nth_eq _ _ hi]
    exact IntWalk.i64_in _ (by omega))
theorem kinds_lit (w : World) (e : TypeId) (zs : List Int) (cells : Array Value) (hc : cells = (zs.map (Value.int .i64)).toArray) (hl : zs.length ≤ 100) (hw : zs.all (fun z => decide (0 ≤ z ∧ z ≤ 100)) = true) : Ints .i64 (w.alloc (.cells cells e)) (some ⟨w.heap.size, 0, none⟩) zs :=
  ints_litB .i64 w e zs cells _ rfl hc (by omega) (fun i hi => by
    have h := List.all_eq_true.1 hw _ (List.getElem_mem hi)
    simp at h
    rw [nth_eq _ _ hi]
    exact IntWalk.i64_in _ (by omega))
set_option maxHeartbeats 1000000 in
set_option maxRecDepth 100000 in
theorem pa_term_err (w : World) (b : Nat) (P : Ps) (tx : ByteArray) (ta : Option Addr) (tc i : Nat) (R0 R1 R2 R3 R4 R5 : Value) (h : PSt w b P tx ta tc i R0 R1 R2 R3 R4 R5) (x : Int) (hx : psTerm P i = .error x) :
    Calls Tryd.prog 89 #[.pointer (some ⟨b, 0, none⟩)] w fun e w' => e = thrown x ∧ Below w.heap.size w w' := by
  have hte := fun w h wa hw => pa_take_err w b P tx ta tc i R0 R1 R2 R3 R4 R5 h wa [2, 1, 3, 4] 4 hw (by decide)
  rcases take_cases P i [2, 1, 3, 4] (by decide) with ⟨t, ht, _⟩ | ⟨a, ht, ha, hc⟩
  · unfold psTerm at hx; rw [ht] at hx; cases hx
  · have he : a = x := by unfold psTerm at hx; rw [ht] at hx; injection hx
    subst he
    have hte' := fun w h wa hw => hte w h wa hw hc
    rw [← ha] at hte'
    clear hte ha hc ht hx
    unfold thrown at hte' ⊢
    go_enter Tryd.func89, Tryd.ntmps89
    go_wp2_with (go_at_call 55; refine (hte' _ (h.below (((Below.refl _ _).al _).al _)) _ (kinds_lit2 _ _ _ [2, 1, 3, 4] _ rfl (by decide) rfl)).mono ?_; rintro e w1 ⟨rfl, hb10⟩; have hb1 := Lib.hid ((((Below.refl _ w).al _).al _).trans (hb10.mono (by rw [World.size_alloc, World.size_alloc]; omega))); clear hb10)
    exact ⟨rfl, rfl, hb1.out⟩
theorem sizeTerm : (Tryd.prog.info? 76).map (fun i => i.size) = some 2 := by kernel_rfl
theorem term_res {b : Nat} {w w1 : World} {o o2 : Obj} (h : Mvd b ((w.alloc o).alloc o2) w1) (hb : b < w.heap.size) : w1.heap[w.heap.size]? = some o ∧ Mvd b w w1 := by
  refine ⟨(h.block w.heap.size (by rw [World.size_alloc, World.size_alloc]; omega) (fun e => by injection e with e; omega)).trans ?_, (Mvd.of (((Below.refl _ _).al _).al _)).trans h⟩
  rw [heap_alloc_old]
  · exact heap_alloc_new _ _
  · rw [World.size_alloc]; omega
set_option maxHeartbeats 1000000 in
set_option maxRecDepth 100000 in
theorem pa_term_ok (w : World) (b : Nat) (P : Ps) (tx : ByteArray) (ta : Option Addr) (tc i : Nat) (R0 R1 R2 R3 R4 R5 : Value) (h : PSt w b P tx ta tc i R0 R1 R2 R3 R4 R5) (v : Bool) (s : ByteArray) (j : Nat) (hx : psTerm P i = .ok ((v, s), j)) :
    Calls Tryd.prog 89 #[.pointer (some ⟨b, 0, none⟩)] w fun e w' => e = .returned (.agg #[.bool v, .string s]) ∧ PSt w' b P tx ta tc j R0 R1 R2 R3 R4 R5 ∧ Mvd b w w' := by
  have hte := fun w h wa hw => pa_take_ok w b P tx ta tc i R0 R1 R2 R3 R4 R5 h wa [2, 1, 3, 4] 4 hw (by decide)
  rcases take_cases P i [2, 1, 3, 4] (by decide) with ⟨t, ht, hte', hc, hlt⟩ | ⟨a, ht, ha, hc⟩
  · have he : (P.kind i == 2) = v ∧ mk (P.tok i).text = s ∧ i + 1 = j := by
      unfold psTerm at hx; rw [ht] at hx; injection hx with hx; injection hx with hx1 hx2; injection hx1 with hx3 hx4
      rw [hte'] at hx3 hx4
      exact ⟨hx3, hx4, hx2⟩
    obtain ⟨hv, rfl, rfl⟩ := he
    replace hte := fun w h wa hw => hte w h wa hw hc hlt
    clear hc ht hx hte'
    have hbl := h.lt
    generalize mk (P.tok i).text = S at hte ⊢
    generalize ((P.tok i).at_ : Int) = A at hte
    generalize ((P.tok i).end_ : Int) = E at hte
    generalize P.kind i = K at hte hv
    go_enter Tryd.func89, Tryd.ntmps89
    go_wp2_with (first
      | (go_at_call 55
         refine (hte _ (h.below (((Below.refl _ _).al _).al _)) _ (kinds_lit2 _ _ _ [2, 1, 3, 4] _ rfl (by decide) rfl)).mono ?_
         rintro e w1 ⟨rfl, hs10, hm10⟩
         obtain ⟨hr1, hmb⟩ := term_res hm10 hbl
         have hro : ∀ ob, (w1.alloc ob).heap[w.heap.size]? = some (.cells #[.bool false, .string ⟨#[]⟩] 76) := fun ob => (heap_alloc_old _ _ (Array.getElem?_eq_some_iff.1 hr1).1).trans hr1
         have q0 : ∀ ob, (w1.alloc ob).cell? ⟨w.heap.size, 0, none⟩ = some (.bool false) := fun ob => by simp [World.cell?, hro]
         have q1 : ∀ ob, (w1.alloc ob).cell? ⟨w.heap.size, 1, none⟩ = some (.string ⟨#[]⟩) := fun ob => by simp [World.cell?, hro]
         have f0 : ∀ ob, (w1.alloc ob).frozen? ⟨w.heap.size, 0, none⟩ = false := fun ob => by simp [World.frozen?, hro]
         have f1 : ∀ ob, (w1.alloc ob).frozen? ⟨w.heap.size, 1, none⟩ = false := fun ob => by simp [World.frozen?, hro]
         replace hro := Lib.hid hro
         have hs1 := Lib.hid hs10
         replace hmb := Lib.hid hmb
         replace hr1 := Lib.hid hr1
         clear hs10 hm10))
    have hV : ∃ V, V = (((w1.alloc (.cells #[.int .i64 K, .string S, .int .i64 A, .int .i64 E] 92)).setCell ⟨w.heap.size, 0, none⟩ (.bool v)).setCell ⟨w.heap.size, 1, none⟩ (.string S)) := ⟨_, rfl⟩
    obtain ⟨V, hV⟩ := hV
    have hR : Hid (V.heap[w.heap.size]? = some (.cells #[.bool v, .string S] 76)) := Lib.hid (by
      rw [hV]; exact Go.heap_setCell_same _ _ _ _ _ _ (Go.heap_setCell_same _ _ _ _ _ _ (hro.out _)))
    have hmV : Mvd w.heap.size w1 V := by rw [hV]; exact ((Mvd.of ((Below.refl _ _).al _)).set _ _).set _ _
    have hta : ∀ x, ta = some x → x.block < w.heap.size := fun x hx => by
      subst hx
      obtain ⟨tb, e1, g1, _⟩ := pst_tok h i hlt
      cases e1
      have hg := cell_lt g1
      exact hg
    rw [← hV]
    clear hV q0 q1 f0 f1
    refine bodyPost_ret (v := .agg #[.bool v, .string S]) (results_cell_row rfl _ _ w.heap.size 76 _ (0, 0) _ rfl hR.out Tryd.underlying76 rfl sizeTerm) rfl ?_
    exact ⟨rfl, hs1.out.mvd hmV (by omega) (fun x hx => by have := hta x hx; omega), hmb.out.new hmV⟩
  · unfold psTerm at hx; rw [ht] at hx; cases hx
end Go.Proofs.YtclioihichcpiaaDoor
