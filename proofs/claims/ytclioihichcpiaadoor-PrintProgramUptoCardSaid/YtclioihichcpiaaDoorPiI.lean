/- Print: a copied program is kept. -/
import Derived.Test.YtclioihichcpiaaDoorJoS
import Derived.Test.YtclioihichcpiaaDoorPrX
import Derived.Test.YtclioihichcpiaaDoorJoL
namespace Go.Proofs.YtclioihichcpiaaDoor
open Go.RowKit Go.Shelf Lx
theorem Inps.ri {w : World} {a : Option Addr} {l : List InpD} (h : Inps w a l) : RI w a l := ⟨by have := h.len; omega, h.cells⟩
theorem Outs.ro {w : World} {a : Option Addr} {l : List OutD} (h : Outs w a l) : RO w a l := ⟨by have := h.len; omega, h.cells⟩
theorem Ruls.rr {w : World} {a : Option Addr} {l : List Rul} (h : Ruls w a l) : RR w a (l.map toR) := by
  refine ⟨by rw [List.length_map]; have := h.len; omega, fun j x hx => ?_⟩
  rw [List.getElem?_map] at hx
  cases hy : l[j]? with
  | none => rw [hy] at hx; cases hx
  | some y =>
    rw [hy] at hx
    injection hx with hx
    subst hx
    obtain ⟨p, ad, cap, bd, bcap, hp, h0, h1, h2, h3, h4⟩ := h.cells j y hy
    refine ⟨p, ad, cap, bd, bcap, hp, h0, h1, ?_, h3.rt, h4.rl⟩
    show _ = some (Value.slice bd (y.b.map toP).length bcap)
    rw [List.length_map]
    exact h2
theorem PM.marked {w : World} {I : List InpD} {O : List OutD} {R : List Rul} {gi ci go co gr cr : Nat} {Q : List RQ} (h : PM w I O R gi ci go co gr cr Q) : w.cell? ⟨gi, I.length * 3, none⟩ = some (.string markB) ∧ w.cell? ⟨go, (O.length + 1) * 2, none⟩ = some (.string markB) ∧ w.cell? ⟨gr, R.length * 3, none⟩ = some (.string markB) ∧ w.cell? ⟨gr, (R.length + 1) * 3, none⟩ = some (.string markB) := by
  have hq : Q.length = R.length := by rw [← h.m, List.length_map]
  refine ⟨h.i.cells _ _ ?_, h.o.cells _ _ ?_, h.r.cells _ _ ?_, h.r.cells _ _ ?_⟩
  · rw [List.getElem?_append_right (by rw [flatI_len]; omega), flatI_len, Nat.sub_self]; rfl
  · rw [List.getElem?_append_right (by rw [flatO_len]; omega), flatO_len, show (O.length + 1) * 2 - O.length * 2 = 2 from by omega]; rfl
  · rw [List.getElem?_append_right (by rw [flatQ_len]; omega), flatQ_len, hq, Nat.sub_self]; rfl
  · rw [List.getElem?_append_right (by rw [flatQ_len]; omega), flatQ_len, hq, show (R.length + 1) * 3 - R.length * 3 = 3 from by omega]; rfl
set_option maxHeartbeats 8000000 in
set_option maxRecDepth 100000 in
theorem kp_program (I : List InpD) (O : List OutD) (R : List Rul) (a0 a1 a2 : Option Addr) (c0 c1 c2 : Nat) (gi ci go co gr cr : Nat) (Q : List RQ) (w : World) (hI : Inps w a0 I) (hO : Outs w a1 O) (hR : Ruls w a2 R) (hP : PM w I O R gi ci go co gr cr Q) :
    Calls Tryd.prog 9 #[.agg #[.slice (some ⟨gi, 0, none⟩) I.length ci, .slice (some ⟨go, 0, none⟩) O.length co, .slice (some ⟨gr, 0, none⟩) R.length cr], .agg #[.slice a0 I.length c0, .slice a1 O.length c1, .slice a2 R.length c2]] w fun e w' => e = .returned (.bool true) ∧ Below w.heap.size w w' := by
  have hlI := hI.len
  have hlO := hO.len
  have hlR := hR.len
  have m0 := hP.ci
  have m1 := hP.co
  have m2 := hP.cr
  have hsp := Lib.hid (fun w' (hb : Below w.heap.size w w') => by
    have h := sr_program I O (R.map toR) (some ⟨gi, 0, none⟩) (some ⟨go, 0, none⟩) (some ⟨gr, 0, none⟩) a0 a1 a2 ci co cr c0 c1 c2 w' ((hP.below hb).i.inps hlI hI.size).ri (hI.below hb).ri ((hP.below hb).o.outs hlO hO.size).ro (hO.below hb).ro ((hP.below hb).ruls hlR hR.size).rr (hR.below hb).rr
    rw [List.length_map] at h
    exact h)
  have hQR : ∀ (k : Nat) x, R[k]? = some x → ∃ y, Q[k]? = some y ∧ y.r = x := fun k x h => by
    rw [← hP.m, List.getElem?_map] at h
    cases hy : Q[k]? with
    | none => rw [hy] at h; cases h
    | some y => rw [hy] at h; injection h with h; exact ⟨y, rfl, h⟩
  have hB0 := BB.start w #[.slice (some ⟨gi, 0, none⟩) I.length ci, .slice (some ⟨go, 0, none⟩) O.length co, .slice (some ⟨gr, 0, none⟩) R.length cr] #[.slice a0 I.length c0, .slice a1 O.length c1, .slice a2 R.length c2]
  replace hB0 := Lib.hid hB0
  go_enter Tryd.func9, Tryd.ntmps9
  go_wp2_with (go_at_call 13; refine (hsp.out _ hB0.out.bel).mono ?_; rintro e w1 ⟨rfl, h1⟩; have hB1 := Lib.hid (hB0.out.below h1); clear h1 hB0)
  go_loopw [5, 6] (fun i _ wr => ∃ (k : Nat), k ≤ R.length ∧ i = .int .i64 k ∧ Hid (BB w wr #[.slice (some ⟨gi, 0, none⟩) I.length ci, .slice (some ⟨go, 0, none⟩) O.length co, .slice (some ⟨gr, 0, none⟩) R.length cr] #[.slice a0 I.length c0, .slice a1 O.length c1, .slice a2 R.length c2])) (fun i _ _ => R.length - (intOf i).toNat)
  case atStart => exact ⟨0, Nat.zero_le _, rfl, hB1⟩
  case round =>
    clear hB1
    obtain ⟨k, hk, rfl, hB⟩ := hrel
    obtain ⟨⟨x0, x1, x2⟩, ⟨y0, y1, y2⟩, -⟩ := hB.out.cells
    by_cases hlt : k < R.length
    · have hRk : R[k]? = some R[k] := List.getElem?_eq_getElem hlt
      obtain ⟨y, hy, hyx⟩ := hQR k _ hRk
      have hPw := hP.below hB.out.bel
      have hqi := Lib.hid (hPw.q y (List.mem_of_getElem? hy))
      have e0 := row_at_cell cellQ 3 (fun _ => rfl) hPw.r hy (o := 0) (by decide) rfl
      have e1 := row_at_cell cellQ 3 (fun _ => rfl) hPw.r hy (o := 1) (by decide) rfl
      have e2 := row_at_cell cellQ 3 (fun _ => rfl) hPw.r hy (o := 2) (by decide) rfl
      obtain ⟨q, ad, adc, bd, bdc, rfl, d0, d1, d2, hat, hbt⟩ := (hR.below hB.out.bel).cells k R[k] hRk
      rw [← hyx] at d0 d1 d2 hat hbt
      obtain ⟨⟨yh, ya, yb⟩, yg, yc, yB, ycB, yL⟩ := y
      dsimp only at e0 e1 e2 d0 d1 d2 hat hbt
      have hLl : yL.length = yb.length := by
        have h := congrArg List.length hqi.out.m
        rw [List.length_map] at h
        exact h
      have hkr := Lib.hid (fun w' (hb : Below wr.heap.size wr w') => by
        have h := kp_rule yh yg yc ya yB ycB yL ad bd adc bdc w' (hqi.out.t.below hb) (hat.below hb) (hqi.out.l.below hb) (by rw [hqi.out.m]; exact hbt.below hb)
        rw [hLl] at h
        exact h)
      clear hPw hy hyx hRk hat hbt hLl hqi
      have hkeep : Hid (∀ w', Below wr.heap.size wr w' → w'.cell? ⟨w.heap.size, 2, none⟩ = some (.slice (some ⟨gr, 0, none⟩) R.length cr) ∧ w'.cell? ⟨w.heap.size + 1, 2, none⟩ = some (.slice (some q) R.length c2) ∧ w'.cell? ⟨gr, k * 3, none⟩ = some (.string yh) ∧ w'.cell? ⟨gr, k * 3 + 1, none⟩ = some (.slice (some ⟨yg, 0, none⟩) ya.length yc) ∧ w'.cell? ⟨gr, k * 3 + 2, none⟩ = some (.slice (some ⟨yB, 0, none⟩) yb.length ycB) ∧ w'.cell? (q.add (k * 3)) = some (.string yh) ∧ w'.cell? ⟨(q.add (k * 3)).block, (q.add (k * 3)).off + 1, none⟩ = some (.slice ad ya.length adc) ∧ w'.cell? ⟨(q.add (k * 3)).block, (q.add (k * 3)).off + 2, none⟩ = some (.slice bd yb.length bdc)) := Lib.hid fun w' hb =>
        ⟨cell_below hb rfl x2, cell_below hb rfl y2, cell_below hb rfl e0, cell_below hb rfl e1, cell_below hb rfl e2, cell_below hb rfl d0, cell_below hb rfl d1, cell_below hb rfl d2⟩
      have hq0 : (0 : Int) ≤ (k : Int) := Int.natCast_nonneg _
      have hq1 : (k : Int) < (R.length : Int) := by omega
      go_wp2_with fail
      go_region_held3 (fun w' => w'.cell? ⟨w.heap.size, 2, none⟩ = some (.slice (some ⟨gr, 0, none⟩) R.length cr) ∧ w'.cell? ⟨w.heap.size + 1, 2, none⟩ = some (.slice (some q) R.length c2) ∧ w'.cell? ⟨gr, k * 3, none⟩ = some (.string yh) ∧ w'.cell? ⟨gr, k * 3 + 1, none⟩ = some (.slice (some ⟨yg, 0, none⟩) ya.length yc) ∧ w'.cell? ⟨gr, k * 3 + 2, none⟩ = some (.slice (some ⟨yB, 0, none⟩) yb.length ycB) ∧ w'.cell? (q.add (k * 3)) = some (.string yh) ∧ w'.cell? ⟨(q.add (k * 3)).block, (q.add (k * 3)).off + 1, none⟩ = some (.slice ad ya.length adc) ∧ w'.cell? ⟨(q.add (k * 3)).block, (q.add (k * 3)).off + 2, none⟩ = some (.slice bd yb.length bdc))
        (first
          | exact hkeep.out _ (Below.refl _ _).drew
          | exact hkeep.out _ hb2.out)
        (first
          | (go_at_call 28; refine (hkr.out _ (Below.refl _ _).drew).mono ?_; rintro e w2 ⟨rfl, hb20⟩
             have hb2 := Lib.hid ((Below.refl wr.heap.size wr).drew.trans hb20)
             clear hb20))
      have hBn := Lib.hid (hB.out.below hb2.out)
      go_wp2_with fail
      go_roundw
      case rel => exact ⟨k + 1, by omega, by go_num, hBn⟩
      case measure => simp [intOf]; omega
    · have hke : k = R.length := by omega
      subst hke
      obtain ⟨n0, n1, n2, n3⟩ := (hP.below hB.out.bel).marked
      unfold markB at n0 n1 n2 n3
      have hw0 : IntKind.i64.wrap ((I.length : Int) + 2) = (I.length : Int) + 2 := IntWalk.i64_in _ (by omega)
      have hw1 : IntKind.i64.wrap ((O.length : Int) + 2) = (O.length : Int) + 2 := IntWalk.i64_in _ (by omega)
      have hw2 : IntKind.i64.wrap ((R.length : Int) + 2) = (R.length : Int) + 2 := IntWalk.i64_in _ (by omega)
      have hw3 : IntKind.i64.wrap ((O.length : Int) + 1) = (O.length : Int) + 1 := IntWalk.i64_in _ (by omega)
      have hw4 : IntKind.i64.wrap ((R.length : Int) + 1) = (R.length : Int) + 1 := IntWalk.i64_in _ (by omega)
      go_wp2_with fail
      go_ret
      exact ⟨rfl, hB.out.bel⟩
end Go.Proofs.YtclioihichcpiaaDoor
