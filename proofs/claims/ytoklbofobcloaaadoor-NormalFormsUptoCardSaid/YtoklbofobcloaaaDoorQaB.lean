/- Normal: the document's every: a rule's terms. -/
import Derived.Test.YtoklbofobcloaaaDoorQaA
import Derived.Test.YtoklbofobcloaaaDoorNmR
import Derived.Test.YtoklbofobcloaaaDoorNmT
namespace Go.Proofs.YtoklbofobcloaaaDoor
open Go.RowKit Go.Sort Go.Shelf
set_option linter.unusedVariables false
theorem every_take (r : Rul) (k : Nat) (x : Lit) (h : r.b[k]? = some x) : (r.a ++ (r.b.take (k + 1)).flatMap everyL) = (r.a ++ (r.b.take k).flatMap everyL) ++ (x.a ++ [x.l, x.r]) := by
  obtain ⟨hlt, hx⟩ := List.getElem?_eq_some_iff.1 h
  rw [← List.take_append_getElem hlt, hx]
  simp [everyL]
theorem every_part (r : Rul) (k : Nat) : (r.a ++ (r.b.take k).flatMap everyL).length ≤ (everyR r).length := by
  unfold everyR
  have : r.b.flatMap everyL = (r.b.take k).flatMap everyL ++ (r.b.drop k).flatMap everyL := by rw [← List.flatMap_append, List.take_append_drop]
  rw [this]
  simp
set_option maxHeartbeats 4000000 in
set_option maxRecDepth 100000 in
theorem rn_every (r : Rul) (a b : Option Addr) (c d : Nat) (w : World) (ha : Terms w a r.a) (hb : Lits w b r.b) :
    Calls Tryd.prog 36 #[.agg #[.string r.h, .slice a r.a.length c, .slice b r.b.length d]] w fun e w' => ∃ v, e = .returned v ∧ w'.ownsRow (w.heap.size + 1) 33 2 v (everyR r).length (flatT (everyR r)) ∧ Below w.heap.size w w' := by
  have hN := every_len ha hb
  obtain ⟨ib, hib, hz0, hz1, hz2⟩ := info_parts pr_infoTerm
  have hlen := ha.len
  have hlenb := hb.len
  obtain ⟨W0, hW0⟩ : ∃ W0, W0 = w.alloc (.cells #[.string r.h, .slice a r.a.length c, .slice b r.b.length d] 27) := ⟨_, rfl⟩
  have hbx : Hid (∀ W, Below W0.heap.size W0 W → W.cell? ⟨w.heap.size, 0, none⟩ = some (.string r.h) ∧ W.cell? ⟨w.heap.size, 1, none⟩ = some (.slice a r.a.length c) ∧ W.cell? ⟨w.heap.size, 2, none⟩ = some (.slice b r.b.length d)) := Lib.hid (by
    subst hW0
    intro W hW
    have h := (hW.block w.heap.size (by rw [World.size_alloc]; omega)).trans (heap_alloc_new _ _)
    exact ⟨by simp [World.cell?, h], by simp [World.cell?, h], by simp [World.cell?, h]⟩)
  have hB0 : Hid (Below w.heap.size w W0 ∧ W0.heap.size = w.heap.size + 1) := Lib.hid (by subst hW0; exact ⟨(Below.refl _ _).al _, World.size_alloc _ _⟩)
  obtain ⟨q0, q1, q2⟩ := hbx.out W0 (Below.refl _ _)
  have haW := ha.below hB0.out.1
  have hbW := Lib.hid (hb.below hB0.out.1)
  have hnews := haW.news
  have hl := flatT_len r.a
  have h1 := flatT_one r.a
  have hown0 : W0.ownsRow W0.heap.size 33 2 (.slice none 0 0) 0 [] := World.ownsRow_nil _ _ _ _
  go_enter Tryd.func36, Tryd.ntmps36
  go_upto_region 1 with fail
  rw [← hW0]
  clear hW0 ha hb haW
  go_wp2_with (at_builtin; go_loud (refine wpList_append_any rfl (.const (.slice none 0 0)) (.tmp 7) 22 rfl W0.heap.size 33 ib (.agg #[.bool false, .string ⟨#[]⟩]) 2 24 Tryd.underlying22 hib hz0 hz1 hz2 rfl (by decide) _ 0 [] rfl hown0 a r.a.length c (flatT r.a) rfl hl hnews h1 (by unfold maxLen; omega) (by omega) (Nat.le_refl _) ?_))
  intro v1 w1 hown1 hgr1 hnil1 hat1
  have hb1 : Hid (Below W0.heap.size W0 w1) := Lib.hid ((Below.refl _ _).grown hgr1 (Nat.le_refl _) (own_ge hown0))
  replace hown1 := Lib.hid hown1
  clear hgr1 hnil1 hat1 hnews
  go_wp2
  go_loopw [3, 4] (fun v i wr => ∃ k : Nat, k ≤ r.b.length ∧ i = .int .i64 k ∧ Hid (wr.ownsRow W0.heap.size 33 2 v (r.a ++ (r.b.take k).flatMap everyL).length (flatT (r.a ++ (r.b.take k).flatMap everyL))) ∧ Hid (Below W0.heap.size W0 wr)) (fun _ i _ => r.b.length - (intOf i).toNat)
  case atStart => exact ⟨0, Nat.zero_le _, rfl, by simpa using hown1, hb1⟩
  case round =>
    obtain ⟨k, hk, rfl, hown, hbr⟩ := hrel
    clear q0 q1 q2
    obtain ⟨q0, q1, q2⟩ := hbx.out wr hbr.out
    have hq0 : (0 : Int) ≤ (k : Int) := Int.natCast_nonneg _
    by_cases hlt : k < r.b.length
    · have hq1 : (k : Int) < (r.b.length : Int) := by omega
      obtain ⟨x, ex⟩ : ∃ x, r.b[k]? = some x := ⟨_, List.getElem?_eq_getElem hlt⟩
      obtain ⟨q, ad, acap, rfl, hd1, hd2, hd3, hd4, hd5, hd6, hd7, hat0⟩ := hbW.out.cells k x ex
      have hat := hat0.below hbr.out
      have htk := every_take r k x ex
      have hpt := every_part r (k + 1)
      have hpt0 := every_part r k
      rw [htk] at hpt
      replace htk := Lib.hid htk
      generalize r.a ++ (r.b.take k).flatMap everyL = ts at hown htk hpt hpt0
      obtain ⟨xk, xp, xa, ⟨xlv, xlt⟩, ⟨xrv, xrt⟩⟩ := x
      dsimp only at hd1 hd2 hd3 hd4 hd5 hd6 hd7 hat hat0 hpt
      simp only [List.length_append, List.length_cons, List.length_nil] at hpt
      obtain ⟨va, vc, rfl, hva⟩ := own_slice hown.out
      clear hva
      have hla := flatT_len xa
      have hoa := flatT_one xa
      have hnw := hat.news
      have hcf : Hid (∀ W, Below W0.heap.size W0 W → W.cell? ⟨w.heap.size, 2, none⟩ = some (.slice (some q) r.b.length d) ∧ W.cell? ⟨(q.add (k * 7)).block, (q.add (k * 7)).off + 3, none⟩ = some (.bool xlv) ∧ W.cell? ⟨(q.add (k * 7)).block, (q.add (k * 7)).off + 4, none⟩ = some (.string xlt) ∧ W.cell? ⟨(q.add (k * 7)).block, (q.add (k * 7)).off + 5, none⟩ = some (.bool xrv) ∧ W.cell? ⟨(q.add (k * 7)).block, (q.add (k * 7)).off + 6, none⟩ = some (.string xrt)) := Lib.hid (fun W hW => ⟨(hbx.out W hW).2.2, cell_below hW rfl hd4, cell_below hW rfl hd5, cell_below hW rfl hd6, cell_below hW rfl hd7⟩)
      have hd3' := cell_below hbr.out rfl hd3
      clear hd1 hd2 hd3 hd4 hd5 hd6 hd7 ex hat0
      go_wp2_with (at_builtin; go_loud (refine wpList_append_any rfl (.tmp 16) (.tmp 23) 22 rfl W0.heap.size 33 ib (.agg #[.bool false, .string ⟨#[]⟩]) 2 24 Tryd.underlying22 hib hz0 hz1 hz2 rfl (by decide) _ ts.length (flatT ts) rfl hown.out ad xa.length acap (flatT xa) rfl hla hnw hoa (by unfold maxLen; omega) (by omega) hbr.out.size ?_))
      intro v2 w2 hown2 hgr2 hnil2 hat2
      have hb2 : Hid (Below W0.heap.size W0 w2) := Lib.hid (hbr.out.grown hgr2 hbr.out.size (own_ge hown.out))
      have hown2' : Hid (w2.ownsRow W0.heap.size 33 2 v2 (ts ++ xa).length (flatT (ts ++ xa))) := Lib.hid (by rw [List.length_append, show flatT (ts ++ xa) = flatT ts ++ flatT xa by simp [flatT]]; exact hown2)
      clear hgr2 hnil2 hat2 hown2 hnw hd3' q0 q1 q2
      obtain ⟨us, hus⟩ : ∃ us, ts ++ xa = us := ⟨_, rfl⟩
      rw [hus] at hown2'
      have hul : Hid (us.length = ts.length + xa.length) := Lib.hid (by rw [← hus, List.length_append])
      replace hus := Lib.hid hus
      obtain ⟨va2, vc2, rfl, hva2⟩ := own_slice hown2'.out
      clear hva2
      obtain ⟨f0, f1, f2, f3, f4⟩ := hcf.out w2 hb2.out
      have h63 : Hid (us.length + 2 ≤ maxLen) := Lib.hid (by have := hul.out; unfold maxLen; omega)
      have h64 : Hid ((us.length + 2) * 24 ≤ 140737488355328) := Lib.hid (by have := hul.out; omega)
      go_wp2_with fail
      go_region_held3 (fun w' => w'.cell? ⟨w.heap.size, 2, none⟩ = some (.slice (some q) r.b.length d) ∧ w'.cell? ⟨(q.add (k * 7)).block, (q.add (k * 7)).off + 3, none⟩ = some (.bool xlv) ∧ w'.cell? ⟨(q.add (k * 7)).block, (q.add (k * 7)).off + 4, none⟩ = some (.string xlt) ∧ w'.cell? ⟨(q.add (k * 7)).block, (q.add (k * 7)).off + 5, none⟩ = some (.bool xrv) ∧ w'.cell? ⟨(q.add (k * 7)).block, (q.add (k * 7)).off + 6, none⟩ = some (.string xrt))
        (exact hcf.out _ (by repeat (first | exact hb3.out | exact hb2.out | exact Below.refl _ _ | refine Below.drew ?_ | refine Below.al ?_ _)))
        ((refine step_append_lies (w2.alloc (.cells #[.bool xlv, .string xlt, .bool xrv, .string xrt] 33)).drew ?guard (.tmp 25) (.tmp 38) 22 ?op W0.heap.size 33 ib (.agg #[.bool false, .string ⟨#[]⟩]) 2 24 Tryd.underlying22 hib hz0 hz1 hz2 (by rfl) (by omega) (.slice va2 us.length vc2) us.length (flatT us) ?ev1 (own_below (hown2'.out.alloc _) (Below.refl _ _).drew) ⟨w2.heap.size, 0, none⟩ 2 2 (flatT [(xlv, xlt), (xrv, xrt)]) ?ev2 (by rfl) (own_cells_row rfl rfl) (flatT_one _) (by omega) h63.out h64.out (by have := hb2.out.size; simp; omega) (w2.heap.size + 1) (by simp) ?rest
          case guard => rfl
          case op => rfl
          case ev1 => rfl
          case ev2 => rfl
          intro gg cp w3 hown30 hgrow hat3 hlt3
          have hown3 := Lib.hid hown30
          have hb3 := Lib.hid (((hb2.out.al _).drew).grown hgrow (by have := hb2.out.size; simp; omega) (own_ge hown2'.out))
          clear hown30 hgrow hat3 hlt3))
      go_wp2_with fail
      go_roundw
      case rel => exact ⟨k + 1, by omega, by go_num, by rw [htk.out, ← List.append_assoc, hus.out, List.length_append, show flatT (us ++ [(xlv, xlt), (xrv, xrt)]) = flatT us ++ flatT [(xlv, xlt), (xrv, xrt)] by simp [flatT]]; exact hown3, hb3⟩
      case measure => simp [intOf]; omega
    · have hq1 : ¬ (k : Int) < (r.b.length : Int) := by omega
      have hke : k = r.b.length := by omega
      have hfin : Hid (wr.ownsRow (w.heap.size + 1) 33 2 _ (everyR r).length (flatT (everyR r))) := Lib.hid (by
        have := hown.out
        rw [hke, List.take_length, hB0.out.2] at this
        exact this)
      have hbf := Lib.hid (hB0.out.1.trans (hbr.out.mono hB0.out.1.size))
      clear hown
      go_wp2
      go_ret
      exact ⟨_, rfl, hfin.out, hbf.out⟩
end Go.Proofs.YtoklbofobcloaaaDoor


/- Normal: the document's Vars. -/
namespace Go.Proofs.YtoklbofobcloaaaDoor
open Go.RowKit Go.Sort Go.Shelf
set_option linter.unusedVariables false
theorem own_low {w : World} {base base' size n : Nat} {e : TypeId} {v : Value} {xs : List Value} (h : w.ownsRow base e size v n xs) (hb : base' ≤ base) : w.ownsRow base' e size v n xs := by
  refine ⟨h.1, ?_⟩
  rcases h.2 with h0 | ⟨g, cap, cur, rfl, h1, h2⟩
  · exact .inl h0
  · exact .inr ⟨g, cap, cur, rfl, Nat.le_trans hb h1, h2⟩
set_option maxHeartbeats 4000000 in
set_option maxRecDepth 100000 in
theorem rn_Vars (r : Rul) (a b : Option Addr) (c d : Nat) (w : World) (ha : Terms w a r.a) (hb : Lits w b r.b) (hnv : (everyR r).length ≤ 1048576) :
    Calls Tryd.prog 11 #[.agg #[.string r.h, .slice a r.a.length c, .slice b r.b.length d]] w fun e w' => ∃ v, e = .returned v ∧ w'.ownsRow w.heap.size 9 1 v (varsR r).length ((varsR r).map Value.string) ∧ Below w.heap.size w w' := by
  have hsz := every_size ha hb
  have hev := fun W (hW : Below w.heap.size w W) => rn_every r a b c d W (ha.below hW) (hb.below hW)
  replace hev := Lib.hid hev
  obtain ⟨VR, hVR⟩ : ∃ V, varsR r = V := ⟨_, rfl⟩
  rw [hVR]
  have hVR' : Hid (VR = varsOf (everyR r)) := Lib.hid hVR.symm
  clear ha hb hVR
  go_enter Tryd.func11, Tryd.ntmps11
  go_wp2_with (go_at_call 36; go_loud (refine (hev.out _ ((Below.refl _ _).al _)).mono ?_); rintro e w1 ⟨v, rfl, hown, hbb⟩; obtain ⟨na, nc, rfl, hT, hlo⟩ := (TRow.mk hown hnv hsz).form; have hrow := Lib.hid hT; have hb1 := Lib.hid (((Below.refl _ _).al _).trans (hbb.mono (by simp))); clear hown hbb hT hlo)
  generalize everyR r = L at hnv hsz hrow hVR' ⊢
  clear hev
  go_loopw [3, 5] (fun v i wr => ∃ k : Nat, k ≤ L.length ∧ i = .int .i64 k ∧ Hid (wr.ownsRow w1.heap.size 9 1 v (varsOf (L.take k)).length ((varsOf (L.take k)).map Value.string)) ∧ Hid (Below w1.heap.size w1 wr)) (fun _ i _ => L.length - (intOf i).toNat)
  case atStart => exact ⟨0, Nat.zero_le _, rfl, Lib.hid (World.ownsRow_nil _ _ _ _), Lib.hid (Below.refl _ _)⟩
  case round =>
    obtain ⟨k, hk, rfl, hown, hbr⟩ := hrel
    have hq0 : (0 : Int) ≤ (k : Int) := Int.natCast_nonneg _
    obtain ⟨xa, xc, rfl, -⟩ := own_slice hown.out
    by_cases hlt : k < L.length
    · have hq1 : (k : Int) < (L.length : Int) := by omega
      obtain ⟨x, ex⟩ : ∃ x, L[k]? = some x := ⟨_, List.getElem?_eq_getElem hlt⟩
      have hsx := hsz x (List.mem_of_getElem? ex)
      obtain ⟨q, rfl, hd1, hd2⟩ := (hrow.out.below hbr.out).cells k x ex
      have hvk : varsOf (L.take (k + 1)) = addV (varsOf (L.take k)) x := by
        obtain ⟨hl2, hx⟩ := List.getElem?_eq_some_iff.1 ex
        rw [← List.take_append_getElem hl2, hx, varsOf_snoc]
      have hvs : ∀ y ∈ varsOf (L.take k), y.size ≤ 1048576 := fun y hy => hsz _ (List.mem_of_mem_take ((mem_varsOf _ _).1 hy))
      have hvl : (varsOf (L.take k)).length ≤ 1048576 := Nat.le_trans (varsOf_len _) (by rw [List.length_take]; omega)
      replace hvk := Lib.hid hvk
      generalize varsOf (L.take k) = vl at hown hvk hvs hvl
      obtain ⟨xv, xs⟩ := x
      dsimp only at hd1 hd2 hsx
      cases xv with
      | false =>
        have hvk2 : Hid (varsOf (L.take (k + 1)) = vl) := Lib.hid (by rw [hvk.out]; exact if_neg (by simp))
        clear ex hvk
        go_wp2
        go_roundw
        case rel => exact ⟨k + 1, by omega, by go_num, by rw [hvk2.out]; exact hown, hbr⟩
        case measure => simp [intOf]; omega
      | true =>
        have hpl := Lib.hid (fun W (hW : Below wr.heap.size wr W) => rn_place xa xc vl xs W ((own_txts hown.out hvl hvs).below hW))
        obtain ⟨ii, hii, hi0, hi1, hi2⟩ := info_parts infoStr2
        by_cases hin : xs ∈ vl
        · have hvk2 : Hid (varsOf (L.take (k + 1)) = vl) := Lib.hid (by rw [hvk.out]; exact if_neg (by simp [hin]))
          clear ex hvk
          go_wp2_with fail
          go_at_call 37
          refine (hpl.out _ (Below.refl _ _)).mono ?_
          rintro e w2 ⟨z, rfl, hz, rfl⟩
          have hz0 : ¬ z < 0 := by (rcases hz with ⟨j, -, -, rfl⟩ | ⟨h, -⟩; omega; exact absurd hin h)
          clear hz
          go_wp2_with fail
          go_roundw
          case rel => exact ⟨k + 1, by omega, by go_num, by rw [hvk2.out]; exact hown, hbr⟩
          case measure => simp [intOf]; omega
        · have hvk2 : Hid (varsOf (L.take (k + 1)) = vl ++ [xs]) := Lib.hid (by rw [hvk.out]; exact if_pos ⟨rfl, hin⟩)
          have hbs := hbr.out.size
          clear ex hvk
          go_wp2_with fail
          go_at_call 37
          refine (hpl.out _ (Below.refl _ _)).mono ?_
          rintro e w2 ⟨z, rfl, hz, rfl⟩
          obtain rfl : z = -1 := (by (rcases hz with ⟨j, hj, -, -⟩ | ⟨-, h⟩; exact absurd (List.mem_of_getElem? hj) hin; exact h))
          clear hz
          go_wp2_with (at_builtin; go_loud (refine wpList_append_own _ rfl (.tmp 29) (.tmp 35) 28 rfl w1.heap.size 9 ii (.string ⟨#[]⟩) 1 16 Tryd.underlying28 hii hi0 hi1 hi2 rfl (by decide) _ vl.length (vl.map Value.string) rfl (hown.out.alloc _) ⟨wr.heap.size, 0, none⟩ 1 1 [.string xs] rfl rfl (cell_one_new' _ _ _) (by intro u hu; simp at hu; subst hu; rfl) (by unfold maxLen; omega) (by omega) (by rw [World.size_alloc]; omega) ?_))
          intro v3 w3 hown3 hgr3 _
          have hb3 := Lib.hid ((hbr.out.al (.cells #[.string xs] 9)).grown hgr3 (by rw [World.size_alloc]; omega) (own_ge hown.out))
          have hown4 : Hid (w3.ownsRow w1.heap.size 9 1 v3 (vl ++ [xs]).length ((vl ++ [xs]).map Value.string)) := Lib.hid (by rw [List.length_append, List.map_append]; exact hown3)
          clear hgr3 hown3 hown
          go_wp2
          go_roundw
          case rel => exact ⟨k + 1, by omega, by go_num, by rw [hvk2.out]; exact hown4, hb3⟩
          case measure => simp [intOf]; omega
    · have hq1 : ¬ (k : Int) < (L.length : Int) := by omega
      have hke : k = L.length := by omega
      have hfin : Hid (VR = varsOf (L.take k)) := Lib.hid (by rw [hVR'.out, hke, List.take_length])
      generalize varsOf (L.take k) = vl at hown hfin
      have hf2 : Hid (wr.ownsRow w.heap.size 9 1 (.slice xa vl.length xc) VR.length (VR.map Value.string)) := Lib.hid (by rw [hfin.out]; exact own_low hown.out (by have := hb1.out.size; omega))
      have hb3 : Hid (Below w.heap.size w wr) := Lib.hid (hb1.out.trans (hbr.out.mono hb1.out.size))
      clear hown
      go_wp2
      go_ret
      exact ⟨_, rfl, hf2.out, hb3.out⟩
end Go.Proofs.YtoklbofobcloaaaDoor
