/- LexTokens: the law walked. -/
import Derived.Test.YtefgipoegnacjaaProg
import Derived.Test.YtefgipoegnacjaaBase
import Derived.Test.YtefgipoegnacjaaLexD
import Derived.Test.YtefgipoegnacjaaLexX
import Derived.Test.YtefgipoegnacjaaLexZ
import Derived.Test.YtefgipoegnacjaaSame
import Derived.Test.YtefgipoegnacjaaKnown
import Derived.Deep.AppendLies
namespace Go.Proofs.Ytefgipoegnacjaa
open Go.RowKit Lx

/-! ### rows that are written -/
theorem grown_trans {w w1 w2 : World} {r r1 : Option Nat} (h : w.grownBy w1 r) (h1 : w1.grownBy w2 r1) (hr : r1 = r ∨ ∀ k, r1 = some k → w.heap.size ≤ k) : w.grownBy w2 r := by
  refine ⟨h1.os.trans h.os, h1.tape.trans h.tape, h1.output.trans h.output, Nat.le_trans h.size h1.size, fun k hk hne => ?_⟩
  rw [h1.block k (Nat.lt_of_lt_of_le hk h.size) (fun he => ?_), h.block k hk hne]
  rcases hr with rfl | hr
  · exact hne he
  · have := hr k he.symm; omega
theorem grown_drew {w w1 : World} {r : Option Nat} (n : Nat) (h : w.grownBy w1 r) : w.grownBy (w1.drewN n) r := by
  have hb : Below w1.heap.size w1 (w1.drewN n) := below_drewN (Below.refl _ _) n
  exact ⟨hb.os.trans h.os, hb.tape.trans h.tape, hb.output.trans h.output, Nat.le_trans h.size hb.size, fun k hk hne => (hb.block k (Nat.lt_of_lt_of_le hk h.size)).trans (h.block k hk hne)⟩
theorem grown_set {w w1 : World} {g i : Nat} {u : Value} (h : w.grownBy w1 (some g)) : w.grownBy (w1.setCell ⟨g, i, none⟩ u) (some g) := by
  refine ⟨h.os, h.tape, h.output, ?_, fun k hk hne => ?_⟩
  · simpa [World.setCell] using h.size
  · rw [heap_setCell_other _ _ _ _ (by show k ≠ g; intro he; exact hne (by rw [he]))]; exact h.block k hk hne
theorem grown_al {w w1 : World} {ob : Obj} {r : Option Nat} (h : w.grownBy w1 r) : w.grownBy (w1.alloc ob) r :=
  ⟨h.os, h.tape, h.output, by rw [World.size_alloc]; have := h.size; omega, fun k hk hne => by rw [heap_alloc_old w1 ob (Nat.lt_of_lt_of_le hk h.size)]; exact h.block k hk hne⟩
theorem TokRow.grown {w w1 : World} {r : Option Nat} {a : Option Addr} {l : List Tok} (h : TokRow w a l) (hg : w.grownBy w1 r) (hn : ∀ ad, a = some ad → some ad.block ≠ r) : TokRow w1 a l :=
  ⟨fun i hi => let ⟨g, e, h0, h1, h2, h3⟩ := h.at_ i hi; ⟨g, e, hg.cell h0 (hn ⟨g, 0, none⟩ e), hg.cell h1 (hn ⟨g, 0, none⟩ e), hg.cell h2 (hn ⟨g, 0, none⟩ e), hg.cell h3 (hn ⟨g, 0, none⟩ e)⟩⟩

theorem tcells_set (l : List Tok) (i : Nat) (t : Tok) : ((((tcells l).set (i * 4) (.int .i64 t.kind)).set (i * 4 + 1) (.string (mk t.text))).set (i * 4 + 2) (.int .i64 t.at_)).set (i * 4 + 3) (.int .i64 t.end_) = tcells (l.set i t) := by
  induction l generalizing i with
  | nil => simp [tcells]
  | cons x r ih =>
    have e : ∀ y, tcells (y :: r) = tcs y ++ tcells r := fun y => by simp [tcells]
    have h4 : (tcs x).length = 4 := rfl
    cases i with
    | zero =>
      show _ = tcells (t :: r)
      rw [e, e]; rfl
    | succ i =>
      show _ = tcells (x :: r.set i t)
      have e2 : tcells (x :: r.set i t) = tcs x ++ tcells (r.set i t) := by simp [tcells]
      rw [e2, ← ih i, e]
      rw [List.set_append_right _ _ (by omega), List.set_append_right _ _ (by omega), List.set_append_right _ _ (by omega), List.set_append_right _ _ (by omega), h4]
      rw [show (i + 1) * 4 - 4 = i * 4 from by omega, show (i + 1) * 4 + 1 - 4 = i * 4 + 1 from by omega, show (i + 1) * 4 + 2 - 4 = i * 4 + 2 from by omega, show (i + 1) * 4 + 3 - 4 = i * 4 + 3 from by omega]
theorem own_put1 {w : World} {base : Nat} {e : TypeId} {size g n c : Nat} {xs : List Value} {j : Nat} {u : Value} (h : w.ownsRow base e size (.slice (some ⟨g, 0, none⟩) n c) n xs) :
    (w.setCell ⟨g, j, none⟩ u).ownsRow base e size (.slice (some ⟨g, 0, none⟩) n c) n (xs.set j u) := by
  refine ⟨by rw [List.length_set]; exact h.1, ?_⟩
  rcases h.2 with ⟨hv, _⟩ | ⟨g', cap, cur, hv, hb, hh, hnc, hcm, hcs, ht⟩
  · cases hv
  · injection hv with h1 h2 h3
    injection h1 with h1
    injection h1 with h1 _ _
    subst h1 h3
    refine .inr ⟨g, c, cur.setIfInBounds j u, rfl, hb, heap_setCell_same _ _ _ _ _ _ hh, hnc, hcm, by simpa using hcs, ?_⟩
    rw [Array.toList_setIfInBounds, List.take_set, ht]
theorem own_put {w : World} {base : Nat} {e : TypeId} {g n c i : Nat} {l : List Tok} (t : Tok) (h : w.ownsRow base e 4 (.slice (some ⟨g, 0, none⟩) n c) n (tcells l)) :
    ((((w.setCell ⟨g, i * 4, none⟩ (.int .i64 t.kind)).setCell ⟨g, i * 4 + 1, none⟩ (.string (mk t.text))).setCell ⟨g, i * 4 + 2, none⟩ (.int .i64 t.at_)).setCell ⟨g, i * 4 + 3, none⟩ (.int .i64 t.end_)).ownsRow base e 4 (.slice (some ⟨g, 0, none⟩) n c) n (tcells (l.set i t)) := by
  rw [← tcells_set]
  exact own_put1 (own_put1 (own_put1 (own_put1 h)))
theorem own_frozen {w : World} {base : Nat} {e : TypeId} {size g n c : Nat} {xs : List Value} (h : w.ownsRow base e size (.slice (some ⟨g, 0, none⟩) n c) n xs) (j : Nat) : w.frozen? ⟨g, j, none⟩ = false := by
  rcases h.2 with ⟨hv, _⟩ | ⟨g', cap, cur, hv, hb, hh, hnc, hcm, hcs, ht⟩
  · cases hv
  · injection hv with h1 h2 h3
    injection h1 with h1
    injection h1 with h1 _ _
    subst h1
    exact frozen_of_row _ _ _ _ _ hh

theorem map_block {va : Option Addr} {k : Nat} (h : some k = va.map (fun ad => ad.block)) : ∃ ad, va = some ad ∧ ad.block = k := by
  cases va with
  | none => cases h
  | some ad => exact ⟨ad, rfl, by simpa using h.symm⟩
def markT : Tok := ⟨-7, [109, 97, 114, 107], 0, 0⟩
theorem put_mark (l : List Tok) (i : Nat) (h : i < l.length) : (List.replicate i markT ++ l.drop i).set i markT = List.replicate (i + 1) markT ++ l.drop (i + 1) := by
  rw [List.set_append_right _ _ (by simp), List.length_replicate, Nat.sub_self, List.drop_eq_getElem_cons h, List.set_cons_zero, List.replicate_succ', List.append_assoc]; rfl

/-- what a call of Tokens leaves: its row, its open token in memory -/
theorem al_store {w1 w2 : World} {B : Nat} (hb : Below B w1 w2) : Below B w1 w2 := hb

set_option maxRecDepth 100000 in
set_option maxHeartbeats 8000000 in
theorem law_LexTokens (s : ByteArray) (w : World) (hs : s.size ≤ 1048576) :
    Calls Try.prog 3 #[.string s] w fun e w' => e = .returned (.bool true) ∧ Below w.heap.size w w' := by
  obtain ⟨it, hit, hz0, hz1, hz2⟩ := info_parts infoTok
  obtain ⟨R, hR⟩ : ∃ R, R = tokens (bl s) := ⟨_, rfl⟩
  have hRl : R.toks.length ≤ 1048576 := by
    rw [hR, tokens_tk]; have := (tk_far (bl s) 0 false).2.2.2; rw [bl_length] at this; omega
  replace hR := Lib.hid hR
  have hs2 : s.size ≤ 4194304 := by omega
  obtain ⟨C, hC⟩ : ∃ C : Int, C = if R.ok then 0 else 11 := ⟨_, rfl⟩
  replace hC := Lib.hid hC
  go_enter Try.func3, Try.ntmps3
  go_wp2_with fail
  refine (lx_Tokens s _ hs2).mono ?_
  rintro e w1 ⟨v1, he, own1, hb1⟩
  rw [← hR.out] at he own1
  rw [← hC.out] at he
  subst he
  obtain ⟨va, ca, rfl, hva⟩ := own_slice own1
  clear hva
  go_wp2_with (refine wpList_store_rowA rfl 25 (.tmp 4) (.tmp 23) rfl w1.heap.size (tokC R.open_) rfl rfl 25 (tokCs 0 [] 0 0) (heap_alloc_new _ _) sizeTok rfl (tokCs_one _ _ _ _) ?_)
  intro w2 hg2 hgr hsz
  have hb12 : Below w1.heap.size w1 w2 := ((Below.refl _ _).al _).grown hgr (by simp) (by intro k hk; injection hk with hk; omega)
  have hs12 : w1.heap.size < w2.heap.size := by have h := hsz.out; first | omega | (simp at h; omega)
  clear hgr hsz
  go_wp2_with fail
  refine (lx_Tokens s _ hs2).mono ?_
  rintro e w3 ⟨v3, he, own3, hb3⟩
  rw [← hR.out] at he own3
  rw [← hC.out] at he
  subst he
  obtain ⟨vb, cb, rfl, hvb⟩ := own_slice own3
  clear hvb
  go_wp2_with (refine wpList_store_rowA rfl 25 (.tmp 8) (.tmp 30) rfl w3.heap.size (tokC R.open_) rfl rfl 25 (tokCs 0 [] 0 0) (heap_alloc_new _ _) sizeTok rfl (tokCs_one _ _ _ _) ?_)
  intro w4 hg4 hgr hsz
  have hb34 : Below w3.heap.size w3 w4 := ((Below.refl _ _).al _).grown hgr (by simp) (by intro k hk; injection hk with hk; omega)
  have hs34 : w3.heap.size < w4.heap.size := by have h := hsz.out; first | omega | (simp at h; omega)
  clear hgr hsz
  go_wp2_with fail
  refine (rx_Tokens s _ hs2).mono ?_
  rintro e w5 ⟨v5, he, own5, hb5⟩
  rw [← hR.out] at he own5
  rw [← hC.out] at he
  subst he
  obtain ⟨vc, cc, rfl, hvc⟩ := own_slice own5
  clear hvc
  go_wp2_with (refine wpList_store_rowA rfl 25 (.tmp 12) (.tmp 37) rfl w5.heap.size (tokC R.open_) rfl rfl 25 (tokCs 0 [] 0 0) (heap_alloc_new _ _) sizeTok rfl (tokCs_one _ _ _ _) ?_)
  intro w6 hg6 hgr hsz
  have hb56 : Below w5.heap.size w5 w6 := ((Below.refl _ _).al _).grown hgr (by simp) (by intro k hk; injection hk with hk; omega)
  have hs56 : w5.heap.size < w6.heap.size := by have h := hsz.out; first | omega | (simp at h; omega)
  clear hgr hsz
  -- all of it, at the world behind the three calls
  have b13 : Below w1.heap.size w1 w3 := hb12.trans (hb3.mono hb12.size)
  have b15 : Below w1.heap.size w1 w5 := b13.trans ((hb34.trans (hb5.mono hb34.size)).mono b13.size)
  have b16 : Below w1.heap.size w1 w6 := b15.trans (hb56.mono b15.size)
  have b26 : Below w2.heap.size w2 w6 := (hb3.trans ((hb34.trans (hb5.mono hb34.size)).mono hb3.size)).trans (hb56.mono (by have := hb3.size; have := hb34.size; have := hb5.size; omega))
  have b36 : Below w3.heap.size w3 w6 := (hb34.trans (hb5.mono hb34.size)).trans (hb56.mono (by have := hb34.size; have := hb5.size; omega))
  have b46 : Below w4.heap.size w4 w6 := hb5.trans (hb56.mono hb5.size)
  have bw6 : Hid (Below w.heap.size w w6) := hb1.trans (b16.mono hb1.size)
  have oa : Hid (w6.ownsRow w.heap.size 25 4 (.slice va R.toks.length ca) R.toks.length (tcells R.toks)) := own_below own1 b16
  have rb : Hid (TokRow w6 vb R.toks) := (TokRow.own own3).2.below b36
  have rc : Hid (TokRow w6 vc R.toks) := (TokRow.own own5).2.below hb56
  have fa : Hid (∀ ad, va = some ad → w.heap.size ≤ ad.block ∧ ad.block < w1.heap.size) := by
    rintro ad rfl
    rcases own1.2 with ⟨h, _⟩ | ⟨g, cap, cur, h, hg, hh, _⟩
    · cases h
    · injection h with h _ _; injection h with h; subst h; exact ⟨hg, (Array.getElem?_eq_some_iff.1 hh).1⟩
  have fb : Hid (∀ ad, vb = some ad → w2.heap.size ≤ ad.block ∧ ad.block < w3.heap.size) := by
    rintro ad rfl
    rcases own3.2 with ⟨h, _⟩ | ⟨g, cap, cur, h, hg, hh, _⟩
    · cases h
    · injection h with h _ _; injection h with h; subst h; exact ⟨hg, (Array.getElem?_eq_some_iff.1 hh).1⟩
  have fc : Hid (∀ ad, vc = some ad → w4.heap.size ≤ ad.block ∧ ad.block < w5.heap.size) := by
    rintro ad rfl
    rcases own5.2 with ⟨h, _⟩ | ⟨g, cap, cur, h, hg, hh, _⟩
    · cases h
    · injection h with h _ _; injection h with h; subst h; exact ⟨hg, (Array.getElem?_eq_some_iff.1 hh).1⟩
  have ha6 : Hid (w6.heap[w1.heap.size]? = some (.cells (tokC R.open_) 25)) := (b26.block _ hs12).trans hg2.out
  have hb6 : Hid (w6.heap[w3.heap.size]? = some (.cells (tokC R.open_) 25)) := (b46.block _ hs34).trans hg4.out
  have z1 : w1.heap.size < w6.heap.size := by have := b26.size; omega
  have z3 : w3.heap.size < w6.heap.size := by have := b46.size; omega
  have z5 : w5.heap.size < w6.heap.size := hs56
  have z23 : w1.heap.size < w2.heap.size := hs12
  have z45 : w3.heap.size < w4.heap.size := hs34
  have z2 : w2.heap.size ≤ w3.heap.size := hb3.size
  have z4 : w4.heap.size ≤ w5.heap.size := hb5.size
  clear own1 own3 own5 hb1 hb12 hb3 hb34 hb5 hb56 b13 b15 b16 b26 b36 b46 hg2 hg4 hs12 hs34 hs56
  obtain ⟨N, hN⟩ : ∃ N, N = R.toks.length := ⟨_, rfl⟩
  rw [← hN] at hRl
  go_wp2_with fail
  refine (rx_Same va vc _ _ R.toks w6 (TokRow.own oa.out).2 rc.out (by omega)).mono ?_
  rintro e w7 ⟨rfl, hd7⟩
  have hb7 : Below w6.heap.size w6 w7 := hd7.below _
  clear hd7
  have rb7 := Lib.hid (rb.out.below hb7)
  have rc7 := Lib.hid (rc.out.below hb7)
  have oa7 := Lib.hid (own_below oa.out hb7)
  have ha7 := Lib.hid ((hb7.block _ z1).trans ha6.out)
  have hb7' := Lib.hid ((hb7.block _ z3).trans hb6.out)
  have hc7 := Lib.hid ((hb7.block _ z5).trans hg6.out)
  have bw7 := Lib.hid (bw6.out.trans (hb7.mono bw6.out.size))
  have hz7 := hb7.size
  clear rb rc oa ha6 hb6 hg6 bw6 hb7
  go_wp2_with fail
  refine (rx_Same vb vc _ _ R.toks w7 rb7.out rc7.out (by omega)).mono ?_
  rintro e w8 ⟨rfl, hd8⟩
  have hb8 : Below w7.heap.size w7 w8 := hd8.below _
  clear hd8
  have rb8 := Lib.hid (rb7.out.below hb8)
  have rc8 := Lib.hid (rc7.out.below hb8)
  have oa8 := Lib.hid (own_below oa7.out hb8)
  have bw8 := Lib.hid (bw7.out.trans (hb8.mono bw7.out.size))
  have hz8 := hb8.size
  obtain ⟨a0, a1, a2, a3⟩ := row_cells ((hb8.block _ (by omega)).trans ha7.out)
  obtain ⟨d0, d1, d2, d3⟩ := row_cells ((hb8.block _ (by omega)).trans hb7'.out)
  obtain ⟨c0, c1, c2, c3⟩ := row_cells ((hb8.block _ (by omega)).trans hc7.out)
  have hq := run_neq_self R.open_
  obtain ⟨O, hO⟩ : ∃ O, O = R.open_ := ⟨_, rfl⟩
  rw [← hO] at a0 a1 a2 a3 d0 d1 d2 d3 c0 c1 c2 c3 hq
  replace hO := Lib.hid hO
  clear rb7 rc7 oa7 ha7 hb7' hc7 bw7 hb8
  go_wp2_with (go_at_call 13; refine (nm_any _ _).mono ?_; rintro e w' ⟨rfl, rfl⟩)
  clear a0 a1 a2 a3 d0 d1 d2 d3 c0 c1 c2 c3 hq hO
  rw [← hN]
  have mk0 : Hid ((w8.alloc (.cells #[.int .i64 (-7), .string ⟨#[109, 97, 114, 107]⟩, .int .i64 0, .int .i64 0] 25)).heap[w8.heap.size]? = some (.cells (tokC markT) 25)) := heap_alloc_new _ _
  have oa0 := Lib.hid (oa8.out.alloc (.cells #[.int .i64 (-7), .string ⟨#[109, 97, 114, 107]⟩, .int .i64 0, .int .i64 0] 25))
  have hal : Below w8.heap.size w8 (w8.alloc (.cells #[.int .i64 (-7), .string ⟨#[109, 97, 114, 107]⟩, .int .i64 0, .int .i64 0] 25)) := (Below.refl _ _).al _
  have rb0 := Lib.hid (rb8.out.below hal)
  have rc0 := Lib.hid (rc8.out.below hal)
  have bw0 := Lib.hid (bw8.out.trans (hal.mono bw8.out.size))
  have hzW : w8.heap.size < (w8.alloc (.cells #[.int .i64 (-7), .string ⟨#[109, 97, 114, 107]⟩, .int .i64 0, .int .i64 0] 25)).heap.size := by simp
  clear hal oa8 rb8 rc8 bw8
  generalize w8.alloc (.cells #[.int .i64 (-7), .string ⟨#[109, 97, 114, 107]⟩, .int .i64 0, .int .i64 0] 25) = W at mk0 oa0 rb0 rc0 bw0 hzW ⊢
  obtain ⟨m, hm⟩ : ∃ m, m = w8.heap.size := ⟨_, rfl⟩
  rw [← hm] at mk0 hzW ⊢
  have hmlo : w1.heap.size < m := by omega
  replace hm := Lib.hid hm
  obtain ⟨row, hrow⟩ : ∃ row : Option Nat, row = va.map (fun ad => ad.block) := ⟨_, rfl⟩
  have hrm : Hid (some m ≠ row) := by
    show some m ≠ row
    rw [hrow]
    intro h
    obtain ⟨ad, had, hbl⟩ := map_block h
    have := (fa.out ad had).2; omega
  have hrb : Hid (∀ ad, vb = some ad → some ad.block ≠ row) := by
    show ∀ ad, vb = some ad → some ad.block ≠ row
    intro ad had
    have h2 := fb.out ad had
    rw [hrow]
    intro h
    obtain ⟨ad', had', hbl⟩ := map_block h
    have := (fa.out ad' had').2; omega
  have hrc : Hid (∀ ad, vc = some ad → some ad.block ≠ row) := by
    show ∀ ad, vc = some ad → some ad.block ≠ row
    intro ad had
    have h2 := fc.out ad had
    rw [hrow]
    intro h
    obtain ⟨ad', had', hbl⟩ := map_block h
    have := (fa.out ad' had').2; omega
  have hrw : Hid (∀ k, row = some k → w.heap.size ≤ k) := by
    show ∀ k, row = some k → w.heap.size ≤ k
    intro k hk
    rw [hrow] at hk
    obtain ⟨ad, had, rfl⟩ := map_block hk.symm
    exact (fa.out ad had).1
  replace hrow := Lib.hid hrow
  clear fa fb fc hz7 hz8 z1 z3 z5 z23 z45 z2 z4
  go_loopw [16] (fun i wr => ∃ k : Nat, k ≤ N ∧ i = .int .i64 k ∧ Hid (wr.ownsRow w.heap.size 25 4 (.slice va N ca) N (tcells (List.replicate k markT ++ R.toks.drop k))) ∧ Hid (W.grownBy wr row)) (fun i _ => N - (intOf i).toNat)
  case atStart => exact ⟨0, Nat.zero_le _, rfl, by rw [hN]; exact oa0, World.grownBy.refl _ _⟩
  case round =>
    obtain ⟨k, hk, rfl, own, hgr⟩ := hrel
    have q := row_cells ((hgr.out.block m hzW hrm.out).trans mk0.out)
    obtain ⟨k0, k1, k2, k3⟩ := q
    by_cases hlt : k < N
    · obtain ⟨g, c', hv, hg0, hg1, _⟩ := own_shape own.out (by omega)
      injection hv with hv hv2 hv3
      subst hv hv3
      clear hv2
      have hlen : (List.replicate k markT ++ R.toks.drop k).length = N := by simp; omega
      obtain ⟨g', hge, p0, p1, p2, p3⟩ := (TokRow.own own.out).2.at_ k (by omega)
      injection hge with hge
      injection hge with hge hge2 hge3
      subst hge
      clear hge2 hge3
      generalize (List.replicate k markT ++ R.toks.drop k)[k]'(by omega) = old at p0 p1 p2 p3
      have f0 := own_frozen own.out (k * 4)
      have f1 := own_frozen own.out (k * 4 + 1)
      have f2 := own_frozen own.out (k * 4 + 2)
      have f3 := own_frozen own.out (k * 4 + 3)
      have own2 := Lib.hid (own_put (i := k) markT own.out)
      have hput := put_mark R.toks k (by omega)
      rw [hput] at own2
      have hgr2 : Hid (∀ a b c d : Value, W.grownBy ((((wr.setCell ⟨g, k * 4, none⟩ a).setCell ⟨g, k * 4 + 1, none⟩ b).setCell ⟨g, k * 4 + 2, none⟩ c).setCell ⟨g, k * 4 + 3, none⟩ d) row) := by
        intro a b c d
        have h := hgr.out
        rw [hrow.out] at h ⊢
        exact grown_set (grown_set (grown_set (grown_set h)))
      clear hlen hput own hgr hg0 hg1
      replace k0 : wr.cell? ⟨m, 0, none⟩ = some (.int .i64 (-7)) := k0
      replace k1 : wr.cell? ⟨m, 1, none⟩ = some (.string ⟨#[109, 97, 114, 107]⟩) := k1
      replace k2 : wr.cell? ⟨m, 2, none⟩ = some (.int .i64 0) := k2
      replace k3 : wr.cell? ⟨m, 3, none⟩ = some (.int .i64 0) := k3
      go_wp2
      go_roundw
      case rel => exact ⟨k + 1, by omega, by go_num, own2, hgr2.out _ _ _ _⟩
      case measure => simp [intOf]; omega
    · have hkN : k = N := by omega
      have own3 := own.out
      rw [List.drop_of_length_le (by omega), List.append_nil, hkN] at own3
      replace own3 := Lib.hid own3
      clear own hkN k0 k1 k2 k3
      replace hN := Lib.hid hN
      go_wp2
      clear hk hlt
      go_loopw [3, 17] (fun a i wr => ∃ (k : Nat) (va2 : Option Addr) (ca2 : Nat), k ≤ 40 ∧ i = .int .i64 k ∧ a = .slice va2 (N + k) ca2 ∧ Hid (wr.ownsRow w.heap.size 25 4 (.slice va2 (N + k) ca2) (N + k) (tcells (List.replicate (N + k) markT))) ∧ Hid (W.grownBy wr row) ∧
          Hid ((Value.slice va2 (N + k) ca2).ownBlock = row ∨ ∀ b, (Value.slice va2 (N + k) ca2).ownBlock = some b → W.heap.size ≤ b)) (fun _ i _ => 40 - (intOf i).toNat)
      case atStart => exact ⟨0, va, ca, Nat.zero_le _, rfl, rfl, own3, hgr, .inl (by rw [hrow.out]; cases va <;> rfl)⟩
      case round =>
        obtain ⟨j, va2, ca2, hj, rfl, rfl, own, hgr, hat⟩ := hrel
        obtain ⟨k0, k1, k2, k3⟩ := row_cells ((hgr.out.block m hzW hrm.out).trans mk0.out)
        replace k0 : wr.cell? ⟨m, 0, none⟩ = some (.int .i64 (-7)) := k0
        replace k1 : wr.cell? ⟨m, 1, none⟩ = some (.string ⟨#[109, 97, 114, 107]⟩) := k1
        replace k2 : wr.cell? ⟨m, 2, none⟩ = some (.int .i64 0) := k2
        replace k3 : wr.cell? ⟨m, 3, none⟩ = some (.int .i64 0) := k3
        by_cases hlt : j < 40
        · have h63 : Hid (N + j + 1 ≤ maxLen) := by show N + j + 1 ≤ maxLen; unfold maxLen; omega
          have h64 : Hid ((N + j + 1) * 40 ≤ 140737488355328) := by show (N + j + 1) * 40 ≤ 140737488355328; omega
          have hbs : w.heap.size ≤ wr.heap.size := by have := bw0.out.size; have := hgr.out.size; omega
          go_wp2_with (first
            | (at_builtin; refine wpList_append_lies _ rfl (.tmp 97) (.tmp 99) 22 rfl w.heap.size 25 it (.agg (tokCs 0 [] 0 0)) 4 40 Try.underlying22 hit hz0 hz1 hz2 rfl (by decide) _ (N + j) _ rfl (own.out.alloc _) ⟨wr.heap.size, 0, none⟩ 1 1 (tcs markT) rfl rfl (own_cells_row rfl rfl) (tcs_one markT) (by decide) h63.out h64.out (by rw [World.size_alloc]; omega) _ rfl ?_))
          intro g4 c4 w4 own4 hgr4 hat4 hlt4
          have own5 : Hid (w4.ownsRow w.heap.size 25 4 (.slice (some ⟨g4, 0, none⟩) (N + (j + 1)) c4) (N + (j + 1)) (tcells (List.replicate (N + (j + 1)) markT))) := by
            show World.ownsRow _ _ _ _ _ _ _
            rw [show N + (j + 1) = N + j + 1 from by omega, List.replicate_succ', tcells_snoc]; exact own4
          have hgr5 : Hid (W.grownBy w4 row) := grown_trans (grown_al hgr.out) hgr4 (by
            rcases hat.out with h | h
            · exact .inl h
            · exact .inr h)
          have hat5 : Hid ((Value.slice (some ⟨g4, 0, none⟩) (N + (j + 1)) c4).ownBlock = row ∨ ∀ b, (Value.slice (some ⟨g4, 0, none⟩) (N + (j + 1)) c4).ownBlock = some b → W.heap.size ≤ b) := by
            rcases hat4 with h | h
            · rcases hat.out with h2 | h2
              · left; rw [← h2, h]; rfl
              · right; intro b hb; have hb : some g4 = some b := hb; rw [← h] at hb; exact h2 b hb
            · right; intro b hb; have hb : some g4 = some b := hb; injection hb with hb; have := hgr.out.size; omega
          clear own4 hgr4 hat4 hlt4 own hgr hat
          go_wp2_with fail
          go_roundw
          case rel => exact ⟨j + 1, some ⟨g4, 0, none⟩, c4, by omega, by go_num, rfl, own5, hgr5, hat5⟩
          case measure => simp [intOf]; omega
        · have hj40 : j = 40 := by omega
          subst hj40
          have hrowA := Lib.hid (TokRow.own own.out).2
          obtain ⟨M, hM⟩ : ∃ M, M = N + 40 := ⟨_, rfl⟩
          have hM2 : M ≤ 1048616 := by omega
          rw [← hM] at hrowA ⊢
          replace hM := Lib.hid hM
          clear own hat hlt hj
          have hmark := run_neq_self markT
          go_wp2
          go_loopw [18] (fun i w2 => ∃ k : Nat, k ≤ M ∧ i = .int .i64 k ∧ Drawn wr w2) (fun i _ => M - (intOf i).toNat)
          case atStart => exact ⟨0, Nat.zero_le _, rfl, Drawn.refl _⟩
          case round =>
            obtain ⟨i, hi, rfl, ⟨nd, rfl⟩⟩ := hrel
            by_cases hlt : i < M
            · obtain ⟨g, hge, p0, p1, p2, p3⟩ := hrowA.out.at_ i (by simp; exact hlt)
              rw [List.getElem_replicate] at p0 p1 p2 p3
              subst hge
              replace p0 : wr.cell? ⟨g, i * 4, none⟩ = some (.int .i64 (-7)) := p0
              replace p1 : wr.cell? ⟨g, i * 4 + 1, none⟩ = some (.string ⟨#[109, 97, 114, 107]⟩) := p1
              replace p2 : wr.cell? ⟨g, i * 4 + 2, none⟩ = some (.int .i64 0) := p2
              replace p3 : wr.cell? ⟨g, i * 4 + 3, none⟩ = some (.int .i64 0) := p3
              go_wp2
              go_quiet (fail)
              go_wp2
              go_roundw
              case rel => exact ⟨i + 1, by omega, by go_num, by (repeat (refine Drawn.step ?_ _)); exact Drawn.refl _⟩
              case measure => simp [intOf]; omega
            · have hgr9 := Lib.hid (grown_drew nd hgr.out)
              have rb9 := Lib.hid (rb0.out.grown hgr9.out hrb.out)
              have rc9 := Lib.hid (rc0.out.grown hgr9.out hrc.out)
              have bw9 := Lib.hid (bw0.out.grown hgr9.out bw0.out.size hrw.out)
              clear k0 k1 k2 k3
              go_wp2_with fail
              rw [hN.out]
              refine (rx_Same vb vc _ _ R.toks _ rb9.out rc9.out (by have := hN.out; omega)).mono ?_
              rintro e w9 ⟨rfl, hd9⟩
              have bw10 := bw9.out.trans ((hd9.below w.heap.size))
              clear hd9
              go_wp2_with (go_at_call 14; refine (lw_known _).mono ?_; rintro e w10 ⟨rfl, hb10⟩)
              go_ret
              exact ⟨rfl, bw10.trans (hb10.mono bw10.size)⟩

end Go.Proofs.Ytefgipoegnacjaa
