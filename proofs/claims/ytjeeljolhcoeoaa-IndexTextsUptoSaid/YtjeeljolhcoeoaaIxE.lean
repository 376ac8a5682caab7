/- Index: what asks find and writes nothing. -/
import Derived.Test.YtjeeljolhcoeoaaIxD
namespace Go.Proofs.Ytjeeljolhcoeoaa
open Go.RowKit
attribute [local go_sem] eql_fn_h eql_nn_h eql_fn_s eql_nn_s eql_fn_i eql_nn_i

theorem hashF_range (way key : Int) : 0 ≤ hashF way key ∧ hashF way key < 18446744073709551616 := by
  have h1 := wrap_u64_range key
  have h2 := wrap_u64_range (IntKind.u64.wrap key * 11400714819323198485)
  unfold hashF
  repeat' split
  all_goals omega
theorem fnd_there {pl : Nat → Option Nat} {mt : Nat → Bool} {sz : Nat} : ∀ (f j seen : Nat), j < sz → (fnd pl mt sz f j seen).2.2 = true → (fnd pl mt sz f j seen).1 < sz ∧ ∃ b, pl (fnd pl mt sz f j seen).1 = some b ∧ mt b = true
  | 0, _, _, _, h => by simp [fnd] at h
  | f + 1, j, seen, hj, h => by
    rw [fnd] at h ⊢
    cases hp : pl j with
    | none => rw [hp] at h; simp at h
    | some b =>
      rw [hp] at h
      simp only [] at h ⊢
      by_cases hm : mt b = true
      · rw [if_pos hm]; exact ⟨hj, b, hp, hm⟩
      · rw [if_neg hm] at h ⊢
        exact fnd_there f _ _ (Nat.mod_lt _ (by omega)) h
theorem fnd_free {pl : Nat → Option Nat} {mt : Nat → Bool} {sz : Nat} : ∀ (f j seen : Nat), j < sz → (∃ d, d < f ∧ pl ((j + d) % sz) = none) → (fnd pl mt sz f j seen).2.2 = false → (fnd pl mt sz f j seen).1 < sz ∧ pl (fnd pl mt sz f j seen).1 = none
  | 0, _, _, _, h, _ => by obtain ⟨d, hd, _⟩ := h; omega
  | f + 1, j, seen, hj, hf, h => by
    rw [fnd] at h ⊢
    cases hp : pl j with
    | none => exact ⟨hj, hp⟩
    | some b =>
      rw [hp] at h
      simp only [] at h ⊢
      by_cases hm : mt b = true
      · rw [if_pos hm] at h; simp at h
      · rw [if_neg hm] at h ⊢
        exact fnd_free f _ _ (Nat.mod_lt _ (by omega)) (free_next hj hp hf) h

section
variable {w : World} {T P hb sb : Nat} {way : Int} {sz : Nat} {es : List Ent} {pl : Nat → Option Nat}

theorem ix_place (h : Tab w T P hb sb way sz es pl) (key : Int) (hfree : ∃ q, q < sz ∧ pl q = none) {R : Nat × Nat × Bool} (hR : fnd pl (mtch es way key (hashF way key)) sz sz (homeN (hashF way key) sz) 1 = R) :
    Calls Try.prog 25 #[.pointer (some ⟨T, 0, none⟩), .int .i64 key] w fun e w' => e = .returned (.tuple #[.int .i64 (if R.2.2 then (R.1 : Int) else 0), .bool R.2.2]) ∧ Drawn w w' := by
  have t0 := h.t0
  unfold hashV at t0
  obtain ⟨r1, r2, r3⟩ := R
  cases r3
  all_goals (
    go_enter Try.func25, Try.ntmps25
    go_wp2_with (first
      | (go_at_call 46; refine (ix_none h).mono ?_; rintro e w' ⟨rfl, rfl⟩)
      | (go_at_call 42; refine (ix_hash way key hb _ h.hH.cell).mono ?_; rintro e w' ⟨rfl, rfl⟩)
      | (go_at_call 47; refine (ix_find h key (hashF way key) (hashF_range way key).1 (hashF_range way key).2 hfree hR).mono ?_; rintro e wq ⟨rfl, hd⟩))
    go_ret2
    exact ⟨rfl, hd⟩)

theorem ix_probes (h : Tab w T P hb sb way sz es pl) (key : Int) (hfree : ∃ q, q < sz ∧ pl q = none) {R : Nat × Nat × Bool} (hR : fnd pl (mtch es way key (hashF way key)) sz sz (homeN (hashF way key) sz) 1 = R) :
    Calls Try.prog 26 #[.pointer (some ⟨T, 0, none⟩), .int .i64 key] w fun e w' => e = .returned (.int .i64 R.2.1) ∧ Drawn w w' := by
  have t0 := h.t0
  unfold hashV at t0
  obtain ⟨r1, r2, r3⟩ := R
  go_enter Try.func26, Try.ntmps26
  go_wp2_with (first
    | (go_at_call 46; refine (ix_none h).mono ?_; rintro e w' ⟨rfl, rfl⟩)
    | (go_at_call 42; refine (ix_hash way key hb _ h.hH.cell).mono ?_; rintro e w' ⟨rfl, rfl⟩)
    | (go_at_call 47; refine (ix_find h key (hashF way key) (hashF_range way key).1 (hashF_range way key).2 hfree hR).mono ?_; rintro e wq ⟨rfl, hd⟩))
  go_ret
  exact ⟨rfl, hd⟩

/-- Get: the value of the entry that find found -/
theorem ix_get (h : Tab w T P hb sb way sz es pl) (key : Int) (hfree : ∃ q, q < sz ∧ pl q = none) {R : Nat × Nat × Bool} (hR : fnd pl (mtch es way key (hashF way key)) sz sz (homeN (hashF way key) sz) 1 = R)
    {v : Int} (hv1 : R.2.2 = true → ∃ i, ∃ hi : i < es.length, pl R.1 = some es[i].b ∧ es[i].val = v) (hv0 : R.2.2 = false → v = 0) :
    Calls Try.prog 27 #[.pointer (some ⟨T, 0, none⟩), .int .i64 key] w fun e w' => e = .returned (.tuple #[.int .i64 v, .bool R.2.2]) ∧ Drawn w w' := by
  have t0 := h.t0
  unfold hashV at t0
  have hhm : homeN (hashF way key) sz < sz := Nat.mod_lt _ (by have := h.hsz; omega)
  have hth := fnd_there (pl := pl) (mt := mtch es way key (hashF way key)) (sz := sz) sz (homeN (hashF way key) sz) 1 hhm
  rw [hR] at hth
  obtain ⟨r1, r2, r3⟩ := R
  cases r3 with
  | false =>
    obtain rfl := hv0 rfl
    clear hth hv0 hv1 hhm
    go_enter Try.func27, Try.ntmps27
    go_wp2_with (first
      | (go_at_call 46; refine (ix_none h).mono ?_; rintro e w' ⟨rfl, rfl⟩)
      | (go_at_call 42; refine (ix_hash way key hb _ h.hH.cell).mono ?_; rintro e w' ⟨rfl, rfl⟩)
      | (go_at_call 47; refine (ix_find h key (hashF way key) (hashF_range way key).1 (hashF_range way key).2 hfree hR).mono ?_; rintro e wq ⟨rfl, hd⟩))
    go_ret2
    exact ⟨rfl, hd⟩
  | true =>
    obtain ⟨hlt, _⟩ := hth rfl
    obtain ⟨i, hi, hp, rfl⟩ := hv1 rfl
    dsimp only at hlt hp
    have hpl := h.place r1 hlt
    rw [hp] at hpl
    change w.cell? _ = some (Value.pointer (some ⟨es[i].b, 0, none⟩)) at hpl
    have e1 := h.e1 i hi
    have t2 := h.t2
    obtain ⟨V, hV⟩ : ∃ V, es[i].val = V := ⟨_, rfl⟩
    obtain ⟨B, hB⟩ : ∃ B, es[i].b = B := ⟨_, rfl⟩
    rw [hV] at e1 ⊢
    rw [hB] at e1 hpl
    clear hth hv0 hv1 hhm hp hV hB
    go_enter Try.func27, Try.ntmps27
    go_wp2_with (first
      | (go_at_call 46; refine (ix_none h).mono ?_; rintro e w' ⟨rfl, rfl⟩)
      | (go_at_call 42; refine (ix_hash way key hb _ h.hH.cell).mono ?_; rintro e w' ⟨rfl, rfl⟩)
      | (go_at_call 47; refine (ix_find h key (hashF way key) (hashF_range way key).1 (hashF_range way key).2 hfree hR).mono ?_; rintro e wq ⟨rfl, hd⟩; replace t2 := cell_below (hd.below _) rfl t2; replace e1 := cell_below (hd.below _) rfl e1; replace hpl := cell_below (hd.below _) rfl hpl))
    go_ret2
    exact ⟨rfl, hd⟩
end
end Go.Proofs.Ytjeeljolhcoeoaa
