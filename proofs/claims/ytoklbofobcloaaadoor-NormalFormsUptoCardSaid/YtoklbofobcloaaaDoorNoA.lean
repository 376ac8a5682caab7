/- Normal: Rule. -/
import Derived.Test.YtoklbofobcloaaaDoorNmZ
namespace Go.Proofs.YtoklbofobcloaaaDoor
open Go.RowKit Go.Sort Go.Shelf
attribute [local go_sem ↓] Go.wp_at_zero Go.wp_at_succ
theorem insL_flat {α β : Type} (f : α → α → Int) (g : α → List β) (x : α) : ∀ l : List α, ((insL f x l).flatMap g).length ≤ (g x).length + (l.flatMap g).length
  | [] => by simp [insL]
  | y :: l => by
    unfold insL
    split
    · rw [List.flatMap_cons, List.flatMap_cons, List.length_append, List.length_append]
      have := insL_flat f g x l
      omega
    · split
      · omega
      · rw [List.flatMap_cons, List.length_append]; exact Nat.le_refl _
theorem setL_flat {α β : Type} (f : α → α → Int) (g : α → List β) (l : List α) : ((setL f l).flatMap g).length ≤ (l.flatMap g).length := by
  have : ∀ (l acc : List α), ((l.foldl (fun acc x => insL f x acc) acc).flatMap g).length ≤ (acc.flatMap g).length + (l.flatMap g).length := by
    intro l
    induction l with
    | nil => intro acc; simp
    | cons x l ih =>
      intro acc
      rw [List.foldl_cons, List.flatMap_cons, List.length_append]
      have := ih (insL f x acc)
      have := insL_flat f g x acc
      omega
  have := this l []
  simpa [setL] using this
theorem everyL_turn (x : Lit) : (everyL (turnL x)).length = (everyL x).length := by
  unfold turnL everyL
  split <;> simp
theorem every_body (r : Rul) : (everyR (bodyR r)).length ≤ (everyR r).length := by
  unfold everyR bodyR
  rw [List.length_append, List.length_append]
  have h1 := setL_flat cmpL everyL (r.b.map turnL)
  have h2 : ∀ l : List Lit, ((l.map turnL).flatMap everyL).length = (l.flatMap everyL).length := by
    intro l
    induction l with
    | nil => rfl
    | cons x l ih => rw [List.map_cons, List.flatMap_cons, List.flatMap_cons, List.length_append, List.length_append, ih, everyL_turn]
  rw [h2] at h1
  dsimp only
  omega
set_option maxHeartbeats 4000000 in
set_option maxRecDepth 100000 in
theorem nm_Rule (r : Rul) (a b : Option Addr) (c d : Nat) (w : World) (ha : Terms w a r.a) (hb : Lits w b r.b) (hnv : (everyR r).length ≤ 1048576) (htab : Lib.TabIs Tryd.prog w "internal/strconv.uint64pow10" .u64 Lib.pow10Tab) :
    Calls Tryd.prog 15 #[.agg #[.string r.h, .slice a r.a.length c, .slice b r.b.length d]] w fun e w' => ∃ va vb, e = .returned (.agg #[.string r.h, va, vb]) ∧ RRow w' w.heap.size va vb (ruleR r) ∧ Below w.heap.size w w' := by
  obtain ⟨W0, hW0⟩ : ∃ W0, W0 = (w.alloc (.cells #[.string r.h, .slice a r.a.length c, .slice b r.b.length d] 27)).alloc (.cells #[.string ⟨#[]⟩, .slice none 0 0, .slice none 0 0] 27) := ⟨_, rfl⟩
  have hkp : Hid (∀ w', Below W0.heap.size W0 w' → w'.heap[w.heap.size]? = some (.cells #[.string r.h, .slice a r.a.length c, .slice b r.b.length d] 27) ∧ w'.heap[w.heap.size + 1]? = some (.cells #[.string ⟨#[]⟩, .slice none 0 0, .slice none 0 0] 27) ∧ Below w.heap.size w w') := Lib.hid (by
    subst hW0; intro w' hb; obtain ⟨h1, h2, h3⟩ := two_cells hb; exact ⟨h2, h3, h1⟩)
  have hB0 := (hkp.out W0 (Below.refl _ _)).2.2
  have h0 := hkp.out W0 (Below.refl _ _)
  have q0 : W0.cell? ⟨w.heap.size, 0, none⟩ = some (.string r.h) := by simp [World.cell?, h0.1]
  have q1 : W0.cell? ⟨w.heap.size, 1, none⟩ = some (.slice a r.a.length c) := by simp [World.cell?, h0.1]
  have q2 : W0.cell? ⟨w.heap.size, 2, none⟩ = some (.slice b r.b.length d) := by simp [World.cell?, h0.1]
  clear h0
  have hbod := Lib.hid (nm_Body r a b c d W0 (ha.below hB0) (hb.below hB0))
  have hlen := Nat.le_trans (every_body r) hnv
  have hren := fun va ca vb cb W h1 h2 h3 => nm_Rename (bodyR r) va vb ca cb W h1 h2 hlen h3
  rw [show (bodyR r).h = r.h from rfl] at hren
  have hsp : Hid (renR (bodyR r) = ruleR r) := Lib.hid rfl
  have hsp2 : (bodyR r).a.length = r.a.length := rfl
  generalize bodyR r = R at hbod hren hsp hlen hsp2
  have htb : Hid (∀ W, Below w.heap.size w W → Lib.TabIs Tryd.prog W "internal/strconv.uint64pow10" .u64 Lib.pow10Tab) := Lib.hid fun W hW => Go.Joins.tab_stays (g := 0) (by kernel_rfl) htab hW (Nat.le_refl _)
  replace hren := Lib.hid hren
  clear ha hb htab hsp2 hlen
  go_enter Tryd.func15, Tryd.ntmps15
  go_upto_region 1 with fail
  rw [← hW0]
  clear hW0
  go_wp2_with (first
    | (go_at_call 14
       go_loud (refine hbod.out.mono ?_)
       rintro e w1 ⟨va, vb, rfl, hr0, hbb⟩
       obtain ⟨xa, xc, xb, xd, rfl, rfl, t1, t2⟩ := hr0.form
       have hb1 := Lib.hid hbb
       replace t1 := Lib.hid t1
       replace t2 := Lib.hid t2
       clear hr0 hbb)
    | (go_at_call 12
       go_loud (refine (hren.out xa xc xb xd w1 t1.out t2.out (htb.out _ (hkp.out _ hb1.out).2.2)).mono ?_)
       rintro e w2 ⟨va, vb, rfl, hr2, hbb⟩
       obtain ⟨za, zc, zb, zd, rfl, rfl, -, -⟩ := hr2.form
       have hb2 := Lib.hid (hb1.out.trans (hbb.mono hb1.out.size))
       have hx := (hkp.out _ hb2.out).2.1
       obtain ⟨x0, x1, x2⟩ := box_cells hx
       have g0 : w2.frozen? ⟨w.heap.size + 1, 0, none⟩ = false := by simp [World.frozen?, hx]
       have g1 : w2.frozen? ⟨w.heap.size + 1, 1, none⟩ = false := by simp [World.frozen?, hx]
       have g2 : w2.frozen? ⟨w.heap.size + 1, 2, none⟩ = false := by simp [World.frozen?, hx]
       replace hx := Lib.hid hx
       have hr3 := Lib.hid hr2
       clear hr2 hbb))
  obtain ⟨V, hV, hVb, hVg, hVw⟩ := rule_stored hx.out (.string r.h) (.slice za (renR R).a.length zc) (.slice zb (renR R).b.length zd) (Nat.le_refl w.heap.size) (Nat.le_succ _) (hkp.out _ hb2.out).2.2
  rw [← hV]
  refine bodyPost_ret (v := .agg #[.string r.h, .slice za (renR R).a.length zc, .slice zb (renR R).b.length zd]) (results_cell_row rfl _ _ (w.heap.size + 1) 27 _ (0, 0) _ rfl hVb Tryd.underlying27 rfl pr_sizeRule) rfl ?_
  exact ⟨_, _, rfl, by rw [← hsp.out]; exact (hr3.out.keepR hx.out hVg).mono (Nat.le_trans hB0.size hb1.out.size), hVw⟩
end Go.Proofs.YtoklbofobcloaaaDoor
