/- Normal: Put: terms in the places of variables. -/
import Derived.Test.YtoklbofobcloaaaDoorNmL
import Derived.Test.YtoklbofobcloaaaDoorMap
namespace Go.Proofs.YtoklbofobcloaaaDoor
open Go.RowKit Go.Sort
attribute [local go_sem ↓] Go.wp_at_zero Go.wp_at_succ
/-- a row of texts in memory -/
structure Txts (w : World) (a : Option Addr) (l : List ByteArray) : Prop where
  len : l.length ≤ 1048576
  cells : ∀ j x, l[j]? = some x → ∃ p, a = some p ∧ w.cell? (p.add j) = some (.string x)
  size : ∀ x ∈ l, x.size ≤ 1048576
theorem Txts.below {w w' : World} {a : Option Addr} {l : List ByteArray} (h : Txts w a l) (hb : Below w.heap.size w w') : Txts w' a l :=
  ⟨h.len, fun j x hj => by
    obtain ⟨p, hp, h1⟩ := h.cells j x hj
    exact ⟨p, hp, cell_below hb rfl h1⟩, h.size⟩
theorem find1_none {s : ByteArray} : ∀ {l : List ByteArray} {ts : List Tm}, s ∉ l → find1 l ts s = none
  | [], _, _ => rfl
  | n :: l, ts, h => by
    unfold find1
    rw [if_neg (fun e => h (by rw [e]; exact List.mem_cons_self ..))]
    exact find1_none fun e => h (List.mem_cons_of_mem _ e)
theorem find1_snoc (s n : ByteArray) : ∀ (l : List ByteArray) (ts : List Tm), find1 (l ++ [n]) ts s = if s ∈ l then find1 l ts s else if n = s then ts[l.length]? else none
  | [], ts => by
    simp only [List.nil_append, find1, List.not_mem_nil, if_false, List.length_nil]
    cases ts <;> rfl
  | m :: l, ts => by
    rw [List.cons_append, find1, find1, find1_snoc s n l ts.tail]
    by_cases h : m = s
    · subst h; simp
    · rw [if_neg h, if_neg h]
      have hm : s ∈ m :: l ↔ s ∈ l := by
        rw [List.mem_cons]
        constructor
        · rintro (e | e)
          · exact absurd e.symm h
          · exact e
        · exact .inr
      by_cases hs : s ∈ l
      · rw [if_pos hs, if_pos (hm.2 hs)]
      · rw [if_neg hs, if_neg (fun e => hs (hm.1 e))]
        cases ts <;> simp
/-- a term as a value -/
def tmV (t : Tm) : Value := .agg #[.bool t.1, .string t.2]
/-- the map of Put behind its first names -/
noncomputable def putM (names : List ByteArray) (terms : List Tm) (s : ByteArray) : Option Value := if s ∈ names then some (tmV ((find1 names terms s).getD (true, s))) else none
theorem putM_nil (terms : List Tm) (s : ByteArray) : putM [] terms s = none := rfl
theorem putM_old {names : List ByteArray} {n : ByteArray} (terms : List Tm) (h : n ∈ names) (s : ByteArray) : putM (names ++ [n]) terms s = putM names terms s := by
  unfold putM
  rw [find1_snoc]
  by_cases hs : s ∈ names
  · rw [if_pos hs, if_pos hs, if_pos (List.mem_append_left _ hs)]
  · have : s ∉ names ++ [n] := fun e => by
      rcases List.mem_append.1 e with e | e
      · exact hs e
      · rw [List.mem_singleton] at e; exact hs (e ▸ h)
    rw [if_neg this, if_neg hs]
theorem putM_new {names : List ByteArray} {n : ByteArray} (terms : List Tm) (h : n ∉ names) : putM (names ++ [n]) terms = upd (putM names terms) n (some (tmV ((terms[names.length]?).getD (true, n)))) := by
  funext s
  by_cases e : s = n
  · subst e
    rw [upd_same]
    unfold putM
    rw [if_pos (by simp), find1_snoc, if_neg h, if_pos rfl]
  · rw [upd_ne _ _ e]
    unfold putM
    rw [find1_snoc]
    by_cases hs : s ∈ names
    · rw [if_pos hs, if_pos hs, if_pos (List.mem_append_left _ hs)]
    · have : s ∉ names ++ [n] := fun e2 => by
        rcases List.mem_append.1 e2 with e2 | e2
        · exact hs e2
        · rw [List.mem_singleton] at e2; exact e e2
      rw [if_neg this, if_neg hs]
theorem zeroTm (w : World) : (zeroValue 33).run Tryd.prog w = .ok (.agg #[.bool false, .string ⟨#[]⟩]) w := by kernel_rfl
theorem sizeTm : (Tryd.prog.info? 33).map (fun i => i.size) = some 2 := by kernel_rfl
set_option maxHeartbeats 1000000 in
set_option maxRecDepth 100000 in
theorem nm_put1 (mb b n : Nat) (names : List ByteArray) (terms : List Tm) (t : Tm) (W : World) (hbox : W.cell? ⟨mb, 0, none⟩ = some (.map (some b))) (hm : MapIs W Tryd.prog 9 tKey b n (putM names terms)) (hts : t.2.size ≤ 1048576) :
    Calls Tryd.prog 40 #[.agg #[.bool t.1, .string t.2], .pointer (some ⟨mb, 0, none⟩)] W fun e w' => e = .returned (.agg #[.bool (one1 names terms t).1, .string (one1 names terms t).2]) ∧ Below W.heap.size W w' := by
  obtain ⟨tv, ts⟩ := t
  dsimp only at hts ⊢
  have hkey := tKey_of (s := ts) (by unfold maxLen; omega)
  have hbx : ((W.alloc (.cells #[.bool tv, .string ts] 33)).alloc (.cells #[.bool false, .string ⟨#[]⟩] 33)).cell? ⟨mb, 0, none⟩ = some (.map (some b)) := cell_below (((Below.refl W.heap.size W).al _).al _) rfl hbox
  have hmx := Lib.hid (hm.below (((Below.refl W.heap.size W).al (.cells #[.bool tv, .string ts] 33)).al (.cells #[.bool false, .string ⟨#[]⟩] 33)))
  replace hkey := Lib.hid hkey
  clear hm hbox hts
  have h1 : ∀ x, putM names terms ts = some x → ∃ y : Tm, x = tmV y ∧ one1 names terms (true, ts) = y := fun x hx => by
    unfold putM at hx
    split at hx
    · injection hx with hx
      exact ⟨_, hx.symm, by simp [one1]⟩
    · cases hx
  have h0 : putM names terms ts = none → one1 names terms (true, ts) = (true, ts) := fun hx => by
    unfold putM at hx
    split at hx
    · cases hx
    · rename_i h; simp [one1, find1_none h]
  cases hσ : putM names terms ts with
  | none =>
    have hone : one1 names terms (tv, ts) = (tv, ts) := by
      cases tv
      · simp [one1]
      · exact h0 hσ
    rw [hone]
    replace hσ := Lib.hid hσ
    clear h0 h1 hone
    go_enter Tryd.func40, Tryd.ntmps40
    go_wp2_with (at_lookup; go_loud (refine wp_look_ok _ rfl _ _ 62 rfl 9 33 strKeyed Tryd.underlying62 (zeroTm _) b n _ rfl hmx.out _ ts rfl hkey.out ?_); rw [hσ.out]; dsimp only [Option.getD, Option.isSome])
    refine bodyPost_ret (results_cell_row rfl _ _ (W.heap.size + 1) 33 _ (0, 0) _ rfl (three_new (Below.refl _ _)).2.1 Tryd.underlying33 rfl sizeTm) rfl ?_
    exact ⟨rfl, (three_new (Below.refl _ _)).2.2.2.1⟩
  | some x =>
    obtain ⟨⟨yv, ys⟩, rfl, hy⟩ := h1 x hσ
    unfold tmV at hσ
    dsimp only at hσ
    replace hσ := Lib.hid hσ
    clear h0 h1
    cases tv
    · have hone : one1 names terms (false, ts) = (false, ts) := by simp [one1]
      rw [hone]
      clear hone hy
      go_enter Tryd.func40, Tryd.ntmps40
      go_wp2_with (at_lookup; go_loud (refine wp_look_ok _ rfl _ _ 62 rfl 9 33 strKeyed Tryd.underlying62 (zeroTm _) b n _ rfl hmx.out _ ts rfl hkey.out ?_); rw [hσ.out]; dsimp only [Option.getD, Option.isSome])
      refine bodyPost_ret (results_cell_row rfl _ _ (W.heap.size + 1) 33 _ (0, 0) _ rfl (three_new (Below.refl _ _)).2.1 Tryd.underlying33 rfl sizeTm) rfl ?_
      exact ⟨rfl, (three_new (Below.refl _ _)).2.2.2.1⟩
    · rw [hy]
      clear hy
      go_enter Tryd.func40, Tryd.ntmps40
      go_wp2_with (at_lookup; go_loud (refine wp_look_ok _ rfl _ _ 62 rfl 9 33 strKeyed Tryd.underlying62 (zeroTm _) b n _ rfl hmx.out _ ts rfl hkey.out ?_); rw [hσ.out]; dsimp only [Option.getD, Option.isSome])
      refine bodyPost_ret (results_cell_row rfl _ _ (W.heap.size + 1) 33 _ (0, 0) _ rfl (three_new (Below.refl _ _)).2.1 Tryd.underlying33 rfl sizeTm) rfl ?_
      exact ⟨rfl, (three_new (Below.refl _ _)).2.2.2.1⟩
end Go.Proofs.YtoklbofobcloaaaDoor
