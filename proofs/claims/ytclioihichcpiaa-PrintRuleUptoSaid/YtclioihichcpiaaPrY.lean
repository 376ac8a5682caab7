/- PrintRule: the law walked. -/
import Derived.Test.YtclioihichcpiaaPrX
import Derived.Test.YtclioihichcpiaaPrN
namespace Go.Proofs.Ytclioihichcpiaa
open Go.RowKit Go.Shelf Lx
theorem own_stays {w w' : World} {base : Nat} {e : TypeId} {size : Nat} {v : Value} {n : Nat} {xs : List Value} {r : Option Nat} (h : w.ownsRow base e size v n xs) (hg : w.grownBy w' r) (hk : ∀ b, v.ownBlock = some b → r ≠ some b) : w'.ownsRow base e size v n xs := by
  refine ⟨h.1, ?_⟩
  rcases h.2 with hn | ⟨k, cap, cur, rfl, hg1, hh, r⟩
  · exact .inl hn
  · exact .inr ⟨k, cap, cur, rfl, hg1, by rw [hg.block k (Array.getElem?_eq_some_iff.1 hh).1 (fun he => hk k rfl he.symm)]; exact hh, r⟩
/-- an atom in memory -/
structure AtD where
  p : ByteArray
  g : Nat
  l : List (Bool × ByteArray)
  c : Nat
def cellA (x : AtD) : List Value := [.string x.p, .slice (some ⟨x.g, 0, none⟩) x.l.length x.c]
def flatA (l : List AtD) : List Value := l.flatMap cellA
theorem flatA_len (l : List AtD) : (flatA l).length = l.length * 2 := flat_len cellA 2 (fun _ => rfl) l
/-- what stands in the law's loops -/
structure LW (w3 wr : World) (vA vT : Value) (A : List AtD) (T : List (Bool × ByteArray)) (n m : Nat) : Prop where
  lenA : A.length = n
  lenT : T.length = m
  ownA : wr.ownsRow w3.heap.size 24 2 vA n (flatA A)
  ownT : wr.ownsRow w3.heap.size 38 2 vT m (flatT T)
  apart : ∀ b, vA.ownBlock = some b → vT.ownBlock ≠ some b
  atoms : ∀ x ∈ A, x.p.size ≤ 1048576 ∧ TermsM w3 x.g x.l x.c
  terms : ∀ x ∈ T, x.2.size ≤ 1048576
  bel : Below w3.heap.size w3 wr
theorem flatA_one (l : List AtD) : ∀ u ∈ flatA l, u.oneCell' = true := by
  intro u hu
  obtain ⟨x, _, hx⟩ := List.mem_flatMap.1 hu
  simp [cellA] at hx
  rcases hx with rfl | rfl <;> rfl
theorem cellA_one (x : AtD) : ∀ u ∈ cellA x, u.oneCell' = true := by
  intro u hu
  simp [cellA] at hu
  rcases hu with rfl | rfl <;> rfl
theorem flatA_snoc (l : List AtD) (y : AtD) : flatA (l ++ [y]) = flatA l ++ cellA y := by simp [flatA]
theorem flatT_app (l m : List (Bool × ByteArray)) : flatT (l ++ m) = flatT l ++ flatT m := by simp [flatT]
/-- one atom more -/
theorem LW.atom {w3 wr w' : World} {vA vA' vT : Value} {A : List AtD} {T : List (Bool × ByteArray)} {n m : Nat} (h : LW w3 wr vA vT A T n m) {ob : Obj} {x : AtD} (hx : x.p.size ≤ 1048576 ∧ TermsM w3 x.g x.l x.c)
    (hown : w'.ownsRow w3.heap.size 24 2 vA' (n + 1) (flatA A ++ cellA x)) (hg : (wr.alloc ob).grownBy w' vA.ownBlock) (hat : vA'.ownBlock = vA.ownBlock ∨ vA'.ownBlock = some (wr.heap.size + 1)) : LW w3 w' vA' vT (A ++ [x]) T (n + 1) m := by
  refine ⟨by rw [List.length_append, h.lenA]; rfl, h.lenT, by rw [flatA_snoc]; exact hown, own_stays (h.ownT.alloc ob) hg fun b hb e => h.apart b e hb, ?_, ?_, h.terms, ?_⟩
  · intro b hb e
    rcases hat with hat | hat
    · exact h.apart b (by rw [← hat]; exact hb) e
    · rw [hat] at hb
      have h1 := (h.ownT.lt b e).2
      have h2 : wr.heap.size + 1 = b := by injection hb
      omega
  · intro y hy
    rcases List.mem_append.1 hy with hy | hy
    · exact h.atoms y hy
    · simp at hy; subst hy; exact hx
  · exact (h.bel.al ob).grown hg (by have := h.bel.size; rw [World.size_alloc]; omega) (own_ge h.ownA)
/-- terms more -/
theorem LW.term {w3 wr w' : World} {vA vT vT' : Value} {A : List AtD} {T : List (Bool × ByteArray)} {n m : Nat} (h : LW w3 wr vA vT A T n m) {ob : Option Obj} {W : World} (hW : W = match ob with | some o => wr.alloc o | none => wr) {N : List (Bool × ByteArray)} (hx : ∀ x ∈ N, x.2.size ≤ 1048576)
    (hown : w'.ownsRow w3.heap.size 38 2 vT' (m + N.length) (flatT T ++ flatT N)) (hg : W.grownBy w' vT.ownBlock) (hat : vT'.ownBlock = vT.ownBlock ∨ vT'.ownBlock = some W.heap.size) : LW w3 w' vA vT' A (T ++ N) n (m + N.length) := by
  have hA : W.ownsRow w3.heap.size 24 2 vA n (flatA A) := by
    rw [hW]; cases ob with
    | none => exact h.ownA
    | some o => exact h.ownA.alloc o
  have hB : Below w3.heap.size w3 W := by
    rw [hW]; cases ob with
    | none => exact h.bel
    | some o => exact h.bel.al o
  refine ⟨h.lenA, by rw [List.length_append, h.lenT], own_stays hA hg fun b hb e => h.apart b hb e, by rw [flatT_app]; exact hown, ?_, h.atoms, ?_, ?_⟩
  · intro b hb e
    rcases hat with hat | hat
    · exact h.apart b hb (by rw [← hat]; exact e)
    · rw [hat] at e
      have h1 := (hA.lt b hb).2
      have h2 : W.heap.size = b := by injection e
      omega
  · intro y hy
    rcases List.mem_append.1 hy with hy | hy
    · exact h.terms y hy
    · exact hx y hy
  · exact hB.grown hg (by have := hB.size; omega) (own_ge h.ownT)
theorem LW.term1 {w3 wr w' : World} {vA vT : Value} {A : List AtD} {T : List (Bool × ByteArray)} {n m g cp : Nat} (h : LW w3 wr vA vT A T n m) {ob : Obj} {N : List (Bool × ByteArray)} (hx : ∀ x ∈ N, x.2.size ≤ 1048576)
    (hown : w'.ownsRow w3.heap.size 38 2 (.slice (some ⟨g, 0, none⟩) (m + N.length) cp) (m + N.length) (flatT T ++ flatT N)) (hg : (wr.alloc ob).grownBy w' vT.ownBlock) (hat : vT.ownBlock = some g ∨ g = wr.heap.size + 1) : LW w3 w' vA (.slice (some ⟨g, 0, none⟩) (m + N.length) cp) A (T ++ N) n (m + N.length) :=
  h.term (ob := some ob) rfl hx hown hg (hat.elim (fun e => .inl (by rw [e]; rfl)) (fun e => .inr (by rw [e, World.size_alloc]; rfl)))
theorem LW.mono {w3 wr w' : World} {vA vT : Value} {A : List AtD} {T : List (Bool × ByteArray)} {n m : Nat} (h : LW w3 wr vA vT A T n m) (hb : Below wr.heap.size wr w') : LW w3 w' vA vT A T n m :=
  ⟨h.lenA, h.lenT, own_below h.ownA hb, own_below h.ownT hb, h.apart, h.atoms, h.terms, h.bel.trans (hb.mono h.bel.size)⟩
set_option maxHeartbeats 4000000 in
set_option maxRecDepth 100000 in
theorem law_PrintRule (h : ByteArray) (a : Option Addr) (l : List (Bool × ByteArray)) (cap : Nat) (ba : Option Addr) (b : List Lit) (bcap : Nat) (w : World) (hh : h.size ≤ 1048576) (ht : Terms w a l) (hb : Lits w ba b) :
    Calls Try.prog 3 #[.agg #[.string h, .slice a l.length cap, .slice ba b.length bcap]] w fun e w' => e = .returned (.bool true) ∧ Below w.heap.size w w' := by
  obtain ⟨ia, hia, ha0, ha1, ha2⟩ := info_parts infoAtom
  obtain ⟨it, hit, ht0, ht1, ht2⟩ := info_parts infoTerm
  have hcr := fun w ht hb => cq_rule h a l cap ba b bcap w ht hb
  have hrq := fun w ht hb => rq_Rule h a l cap ba b bcap w hh ht hb
  have hpr := fun g c B cB w ht hb => pt_Rule h (some ⟨g, 0, none⟩) l c (some ⟨B, 0, none⟩) b cB w hh ht hb
  generalize ruleS ⟨h, l, b⟩ = RS at hrq hpr
  generalize ruleE ⟨h, l, b⟩ = RE at hrq hpr
  go_enter Try.func3, Try.ntmps3
  go_wp2_with (first
    | (go_at_call 9; refine (hrq _ (htw.out.below hb2.out) (hbw.out.below hb2.out)).mono ?_; rintro e w3 ⟨rfl, hb30⟩; have hb3 := Lib.hid (hb2.out.trans (hb30.mono hb2.out.size)); have cu1 := cell_below hb30 rfl t1; have cu2 := cell_below hb30 rfl t2; have cu3 := cell_below hb30 rfl t3; have cv1 := cell_below hb30 rfl s1; have cv2 := cell_below hb30 rfl s2; have cv3 := cell_below hb30 rfl s3; clear hb30 t1 t2 t3 s1 s2 s3)
    | (go_at_call 8; refine (hpr g c B cB _ (hM1.out.terms.new _) (by rw [← hLb.out]; exact hL1.out.lits.new _)).mono ?_; rintro e w2 ⟨rfl, hb20⟩; have hb2 := Lib.hid hb20; obtain ⟨t1, t2, t3⟩ := new_cells3 hb20; have s1 := cell_below hb20 rfl (cell_below ((Below.refl _ _).al _) rfl r1); have s2 := cell_below hb20 rfl (cell_below ((Below.refl _ _).al _) rfl r2); have s3 := cell_below hb20 rfl (cell_below ((Below.refl _ _).al _) rfl r3); clear hb20 r1 r2 r3)
    | (go_at_call 7; refine (hcr _ (ht.new _) (hb.new _)).mono ?_; rintro e w1 ⟨g, c, B, cB, L, rfl, hM10, hL10, hLb0, hb10⟩
       have hM1 := Lib.hid hM10
       have hL1 := Lib.hid hL10
       have hLb := Lib.hid hLb0
       have hb1 := Lib.hid hb10
       have htw : Hid (Terms (w1.alloc (.cells #[.string h, .slice (some ⟨g, 0, none⟩) l.length c, .slice (some ⟨B, 0, none⟩) b.length cB] 27)) a l) := Lib.hid (((ht.new _).below hb10).new _)
       have hbw : Hid (Lits (w1.alloc (.cells #[.string h, .slice (some ⟨g, 0, none⟩) l.length c, .slice (some ⟨B, 0, none⟩) b.length cB] 27)) ba b) := Lib.hid (((hb.new _).below hb10).new _)
       obtain ⟨r1, r2, r3⟩ := new_cells3 hb10
       clear hM10 hL10 hLb0 hb10))
  have hbase : Hid (Below w.heap.size w w3) := Lib.hid (by
    have h1 : Below w.heap.size w w1 := one_cell hb1.out
    exact (h1.al _).trans (hb3.out.mono (by rw [World.size_alloc]; have := h1.size; omega)))
  have hlen := hb.len
  have hLl : L.length = b.length := by rw [← hLb.out, List.length_map]
  have hL3 : Hid (LitsM w3 B L cB) := Lib.hid ((hL1.out.below ((Below.refl _ _).al _)).below hb3.out)
  have hM3 : Hid (TermsM w3 g l c) := Lib.hid ((hM1.out.below ((Below.refl _ _).al _)).below hb3.out)
  have hLW0 : Hid (LW w3 (w3.alloc (.cells #[.string h, .slice (some ⟨g, 0, none⟩) l.length c] 24)) (.slice (some ⟨w3.heap.size, 0, none⟩) 1 1) (.slice none 0 0) [⟨h, g, l, c⟩] [] 1 0) := Lib.hid ⟨rfl, rfl, ⟨rfl, .inr ⟨_, 1, _, rfl, Nat.le_refl _, heap_alloc_new _ _, by decide, by unfold maxLen; omega, rfl, rfl⟩⟩, World.ownsRow_nil _ _ _ _, (by intro b hb e; simp [Value.ownBlock] at e), (by intro x hx; simp at hx; subst hx; exact ⟨hh, hM3.out⟩), (by simp), (Below.refl _ _).al _⟩
  go_loopw [4, 5, 6, 7, 8, 9, 10] (fun _ _ _ _ vA vT i wr => ∃ (k : Nat) (A : List AtD) (T : List (Bool × ByteArray)), k ≤ b.length ∧ i = .int .i64 k ∧ Hid (LW w3 wr vA vT A T (k + 1) (2 * k))) (fun _ _ _ _ _ _ i _ => b.length - (intOf i).toNat)
  case atStart => exact ⟨0, _, _, Nat.zero_le _, rfl, hLW0⟩
  case round =>
    obtain ⟨k, A, T, hk, rfl, hLW⟩ := hrel
    by_cases hlt : k < b.length
    · have hy : L[k]? = some (L[k]'(by omega)) := List.getElem?_eq_getElem (by omega)
      have hin := Lib.hid (hL3.out.inner (L[k]'(by omega)) (List.getElem_mem _))
      obtain ⟨hz1, hz2, hz3⟩ := hL3.out.size (L[k]'(by omega)) (List.getElem_mem _)
      have hd1 := hL3.out.cell k 0 (by decide) hy rfl
      have hd2 := hL3.out.cell k 1 (by decide) hy rfl
      have hd3 := hL3.out.cell k 2 (by decide) hy rfl
      have hd4 := hL3.out.cell k 3 (by decide) hy rfl
      have hd5 := hL3.out.cell k 4 (by decide) hy rfl
      have hd6 := hL3.out.cell k 5 (by decide) hy rfl
      have hd7 := hL3.out.cell k 6 (by decide) hy rfl
      clear hy
      generalize L[k]'(by omega) = y at hin hz1 hz2 hz3 hd1 hd2 hd3 hd4 hd5 hd6 hd7
      obtain ⟨x, yg, yc⟩ := y
      have hpl := fun w ht => pt_Literal x (some ⟨yg, 0, none⟩) yc w hz1 ht hz2 hz3
      have hql := fun w ht => rq_Literal x (some ⟨yg, 0, none⟩) yc w hz1 ht hz2 hz3
      generalize litS x = LS at hpl hql
      generalize litE x = LE at hpl hql
      obtain ⟨xk, xp, xa, ⟨xlv, xlt⟩, ⟨xrv, xrt⟩⟩ := x
      unfold litV at hpl hql
      dsimp only at hpl hql hin hz1 hz2 hz3 hd1 hd2 hd3 hd4 hd5 hd6 hd7
      have hkeep : ∀ w', Below w3.heap.size w3 w' → w'.cell? ⟨w1.heap.size, 2, none⟩ = some (.slice (some ⟨B, 0, none⟩) b.length cB) ∧ w'.cell? ⟨B, k * 7, none⟩ = some (.int .i64 xk) ∧ w'.cell? ⟨B, k * 7 + 1, none⟩ = some (.string xp) ∧ w'.cell? ⟨B, k * 7 + 2, none⟩ = some (.slice (some ⟨yg, 0, none⟩) xa.length yc) ∧ w'.cell? ⟨B, k * 7 + 3, none⟩ = some (.bool xlv) ∧ w'.cell? ⟨B, k * 7 + 4, none⟩ = some (.string xlt) ∧ w'.cell? ⟨B, k * 7 + 5, none⟩ = some (.bool xrv) ∧ w'.cell? ⟨B, k * 7 + 6, none⟩ = some (.string xrt) := fun w' hb =>
        ⟨cell_below hb rfl cu3, cell_below hb rfl hd1, cell_below hb rfl hd2, cell_below hb rfl hd3, cell_below hb rfl hd4, cell_below hb rfl hd5, cell_below hb rfl hd6, cell_below hb rfl hd7⟩
      obtain ⟨c0, c1, c2, c3, c4, c5, c6, c7⟩ := hkeep wr hLW.out.bel
      replace hkeep := Lib.hid hkeep
      replace hz1 := Lib.hid hz1
      replace hz2 := Lib.hid hz2
      replace hz3 := Lib.hid hz3
      clear hd1 hd2 hd3 hd4 hd5 hd6 hd7
      obtain ⟨ga, cpa, rfl, hac, -, -, -, -⟩ := own_some hLW.out.ownA (by omega)
      obtain ⟨va, vc, rfl, hva⟩ := own_slice hLW.out.ownT
      clear hva
      have hq0 : (0 : Int) ≤ (k : Int) := Int.natCast_nonneg _
      have hq1 : (k : Int) < (b.length : Int) := by omega
      have h63 : Hid (k + 1 + 1 ≤ maxLen) := Lib.hid (by unfold maxLen; omega)
      have h64 : Hid ((k + 1 + 1) * 40 ≤ 140737488355328) := Lib.hid (by omega)
      go_wp2_with (first
        | (at_builtin; have hg := hLWb.out; clear hg; go_loud (refine wpList_append_any rfl (.tmp 69) (.tmp 76) 34 rfl w3.heap.size 24 ia (.agg #[.string ⟨#[]⟩, .slice none 0 0]) 2 40 Try.underlying34 hia ha0 ha1 ha2 rfl (by decide) _ (k + 1) (flatA A) rfl (hLWb.out.ownA.alloc _) (some ⟨w5.heap.size, 0, none⟩) 1 1 (cellA ⟨xp, yg, xa, yc⟩) rfl rfl (fun j u hj => ⟨_, rfl, own_cells_row rfl rfl j u hj⟩) (cellA_one _) h63.out h64.out (by have := hLWb.out.bel.size; rw [World.size_alloc]; omega) ?_))
        | (go_at_call 11; refine (hql _ ((hin.out.below hLWa.out.bel).terms)).mono ?_; rintro e w5 ⟨rfl, hb50⟩; have hLWb := Lib.hid (hLWa.out.mono hb50); clear hb50; obtain ⟨c0, c1, c2, c3, c4, c5, c6, c7⟩ := hkeep.out _ hLWb.out.bel)
        | (go_at_call 10; refine (hpl _ ((hin.out.below hLW.out.bel).terms)).mono ?_; rintro e w4 ⟨rfl, hb40⟩; have hLWa := Lib.hid (hLW.out.mono hb40); clear hb40; obtain ⟨c0, c1, c2, c3, c4, c5, c6, c7⟩ := hkeep.out _ hLWa.out.bel))
      intro vA6 w6 hown6 hgr6 hnil6 hat6
      have hLWc := Lib.hid (hLWb.out.atom (x := ⟨xp, yg, xa, yc⟩) ⟨hz1.out, hin.out⟩ hown6 hgr6 hat6)
      clear hown6 hgr6 hnil6 hat6
      obtain ⟨ga6, cpa6, rfl, -, -, -, -, -⟩ := own_some hLWc.out.ownA (by omega)
      obtain ⟨c0, c1, c2, c3, c4, c5, c6, c7⟩ := hkeep.out _ hLWc.out.bel
      have h93 : Hid (2 * k + 2 ≤ maxLen) := Lib.hid (by unfold maxLen; omega)
      have h94 : Hid ((2 * k + 2) * 24 ≤ 140737488355328) := Lib.hid (by omega)
      have hN : Hid (∀ x ∈ [(xlv, xlt), (xrv, xrt)], x.2.size ≤ 1048576) := Lib.hid (by intro x hx; simp at hx; rcases hx with rfl | rfl; exact hz2.out; exact hz3.out)
      go_wp2_with fail
      go_region_held3 (fun w' => w'.cell? ⟨w1.heap.size, 2, none⟩ = some (.slice (some ⟨B, 0, none⟩) b.length cB) ∧ w'.cell? ⟨B, k * 7, none⟩ = some (.int .i64 xk) ∧ w'.cell? ⟨B, k * 7 + 1, none⟩ = some (.string xp) ∧ w'.cell? ⟨B, k * 7 + 2, none⟩ = some (.slice (some ⟨yg, 0, none⟩) xa.length yc) ∧ w'.cell? ⟨B, k * 7 + 3, none⟩ = some (.bool xlv) ∧ w'.cell? ⟨B, k * 7 + 4, none⟩ = some (.string xlt) ∧ w'.cell? ⟨B, k * 7 + 5, none⟩ = some (.bool xrv) ∧ w'.cell? ⟨B, k * 7 + 6, none⟩ = some (.string xrt))
        (first
          | exact hkeep.out _ hLWc.out.bel.drew
          | exact hkeep.out _ (hLWd.out.bel)
          | exact hkeep.out _ (hLWc.out.bel.al _).drew
          | exact hkeep.out _ (hLWc.out.bel.drew.al _))
        (first
          | (refine step_append_lies (w6.alloc (.cells #[.bool xlv, .string xlt, .bool xrv, .string xrt] 38)).drew ?guard (.tmp 78) (.tmp 91) 22 ?op w3.heap.size 38 it (.agg #[.bool false, .string ⟨#[]⟩]) 2 24 Try.underlying22 hit ht0 ht1 ht2 (by rfl) (by omega) (.slice va (2 * k) vc) (2 * k) (flatT T) ?ev1 (hLWc.out.ownT.alloc _) ⟨w6.heap.size, 0, none⟩ 2 2 (flatT [(xlv, xlt), (xrv, xrt)]) ?ev2 (by rfl) (own_cells_row rfl rfl) (flatT_one _) (by omega) h93.out h94.out (by have := hLWc.out.bel.size; show w3.heap.size ≤ (w6.alloc _).heap.size; rw [World.size_alloc]; omega) (w6.heap.size + 1) (World.size_alloc _ _) ?rest
             case guard => rfl
             case op => rfl
             case ev1 => rfl
             case ev2 => rfl
             intro gg cp w7 hown70 hgrow hat7 hlt7
             have hLWd := Lib.hid ((hLWc.out.mono (Below.refl _ _).drew).term1 (N := [(xlv, xlt), (xrv, xrt)]) hN.out hown70 hgrow hat7)
             clear hown70 hgrow hat7 hlt7))
      go_wp2_with fail
      go_roundw
      case rel => exact ⟨k + 1, _, _, by omega, by go_num, by rw [show 2 * (k + 1) = 2 * k + 2 from by omega]; exact hLWd⟩
      case measure => simp [intOf]; omega
    · have hke : k = b.length := by omega
      subst hke
      obtain ⟨ga, cpa, rfl, hac, -, -, -, -⟩ := own_some hLW.out.ownA (by omega)
      obtain ⟨va, vc, rfl, hva⟩ := own_slice hLW.out.ownT
      clear hva
      have hAl : A.length = b.length + 1 := hLW.out.lenA
      have hc3 := cell_below hLW.out.bel rfl cu3
      go_wp2_with fail
      clear hc3
      go_loopw [4, 5, 6, 7, 9, 11] (fun _ _ _ _ vT i wr2 => ∃ (k : Nat) (T2 : List (Bool × ByteArray)) (m : Nat), k ≤ b.length + 1 ∧ i = .int .i64 k ∧ m ≤ 2 * b.length + k * 1048576 ∧ Hid (LW w3 wr2 (.slice (some ⟨ga, 0, none⟩) (b.length + 1) cpa) vT A T2 (b.length + 1) m)) (fun _ _ _ _ _ i _ => b.length + 1 - (intOf i).toNat)
      case atStart => exact ⟨0, _, _, Nat.zero_le _, rfl, by omega, hLW⟩
      case round =>
        clear hLW
        obtain ⟨k, T2, m, hk2, rfl, hm, hLW⟩ := hrel
        by_cases hlt2 : k < b.length + 1
        · have hx : A[k]? = some (A[k]'(by omega)) := List.getElem?_eq_getElem (by omega)
          obtain ⟨hz1, hin⟩ := hLW.out.atoms (A[k]'(by omega)) (List.getElem_mem _)
          have hfl := fun o (ho : o < 2) => flat_get cellA 2 (fun _ => rfl) A k o ho
          rw [hx] at hfl
          clear hx
          generalize A[k]'(by omega) = x at hz1 hin hfl
          obtain ⟨xp, xg, xl, xc⟩ := x
          dsimp only at hz1 hin
          have hpl := fun w ht => pt_Atom xp (some ⟨xg, 0, none⟩) xl xc w hz1 ht
          have hql := fun w ht => rq_Atom xp (some ⟨xg, 0, none⟩) xl xc w hz1 ht
          generalize atomS xp xl = LS at hpl hql
          generalize atomE xp xl = LE at hpl hql
          have hxl := hin.len
          have hkeep : Hid (∀ w' vT T m, LW w3 w' (.slice (some ⟨ga, 0, none⟩) (b.length + 1) cpa) vT A T (b.length + 1) m → w'.cell? ⟨ga, k * 2, none⟩ = some (.string xp) ∧ w'.cell? ⟨ga, k * 2 + 1, none⟩ = some (.slice (some ⟨xg, 0, none⟩) xl.length xc)) := Lib.hid fun w' vT T m hw => by
            have hcs := hw.ownA.cells (g := ga) rfl
            refine ⟨?_, ?_⟩
            · have := hcs (k * 2) (.string xp) (by have := hfl 0 (by decide); rw [Nat.add_zero] at this; exact this)
              rw [addr_add, Nat.zero_add] at this; exact this
            · have := hcs (k * 2 + 1) _ (hfl 1 (by decide))
              rw [addr_add, Nat.zero_add] at this; exact this
          replace hin := Lib.hid hin
          clear hfl hz1
          obtain ⟨c0, c1⟩ := hkeep.out _ _ _ _ hLW.out
          obtain ⟨va, vc, rfl, hva⟩ := own_slice hLW.out.ownT
          clear hva
          have hq0 : (0 : Int) ≤ (k : Int) := Int.natCast_nonneg _
          have hq1 : (k : Int) < (b.length : Int) + 1 := by omega
          have hkm : k * 1048576 ≤ 1048577 * 1048576 := Nat.mul_le_mul_right _ (by omega)
          have h63 : Hid (m + xl.length ≤ maxLen) := Lib.hid (by unfold maxLen; omega)
          have h64 : Hid ((m + xl.length) * 24 ≤ 140737488355328) := Lib.hid (by omega)
          clear hkm
          have hm2 : Hid (m + xl.length ≤ 2 * b.length + (k + 1) * 1048576) := Lib.hid (by omega)
          clear hm
          go_wp2_with (first
            | (at_builtin; have hg := hLWb.out; clear hg; go_loud (refine wpList_append_any rfl (.tmp 123) (.tmp 128) 22 rfl w3.heap.size 38 it (.agg #[.bool false, .string ⟨#[]⟩]) 2 24 Try.underlying22 hit ht0 ht1 ht2 rfl (by decide) _ m (flatT T2) rfl hLWb.out.ownT (some ⟨xg, 0, none⟩) xl.length xc (flatT xl) rfl (flatT_len xl) (hin.out.below hLWb.out.bel).terms.news (flatT_one xl) h63.out h64.out hLWb.out.bel.size ?_))
            | (go_at_call 13; refine (hql _ ((hin.out.below hLWa.out.bel).terms)).mono ?_; rintro e w5 ⟨rfl, hb50⟩; have hLWb := Lib.hid (hLWa.out.mono hb50); clear hb50; obtain ⟨d0, d1⟩ := hkeep.out _ _ _ _ hLWb.out)
            | (go_at_call 12; refine (hpl _ ((hin.out.below hLW.out.bel).terms)).mono ?_; rintro e w4 ⟨rfl, hb40⟩; have hLWa := Lib.hid (hLW.out.mono hb40); clear hb40; obtain ⟨e0, e1⟩ := hkeep.out _ _ _ _ hLWa.out))
          intro vT6 w6 hown6 hgr6 hnil6 hat6
          have hLWc := Lib.hid (hLWb.out.term (ob := none) rfl hin.out.size hown6 hgr6 hat6)
          clear hown6 hgr6 hnil6 hat6
          go_wp2_with fail
          go_roundw
          case rel => exact ⟨k + 1, _, _, by omega, by go_num, hm2.out, hLWc⟩
          case measure => simp [intOf]; omega
        · have hm9 : m ≤ 1099515822080 := by
            have : k * 1048576 ≤ 1048577 * 1048576 := Nat.mul_le_mul_right _ (by omega)
            omega
          clear hm
          obtain ⟨va, vc, rfl, hva⟩ := own_slice hLW.out.ownT
          clear hva
          go_wp2_with fail
          go_loopw [4, 5, 6, 7, 12] (fun _ _ _ _ i wr3 => ∃ (k : Nat), k ≤ m ∧ i = .int .i64 k ∧ Hid (LW w3 wr3 (.slice (some ⟨ga, 0, none⟩) (b.length + 1) cpa) (.slice va m vc) A T2 (b.length + 1) m)) (fun _ _ _ _ i _ => m - (intOf i).toNat)
          case atStart => exact ⟨0, Nat.zero_le _, rfl, hLW⟩
          case round =>
            clear hLW
            obtain ⟨k3, hk3, rfl, hLW⟩ := hrel
            clear hk2 hlt2
            by_cases hlt3 : k3 < m
            · have hTl : T2.length = m := hLW.out.lenT
              obtain ⟨gt, ct, he, hct, -, -, -, -⟩ := own_some hLW.out.ownT (by omega)
              injection he with he1 he2 he3
              subst he1
              subst he3
              clear he2
              have hx : T2[k3]? = some (T2[k3]'(by omega)) := List.getElem?_eq_getElem (by omega)
              have hz1 := hLW.out.terms (T2[k3]'(by omega)) (List.getElem_mem _)
              have hfl := fun o (ho : o < 2) => flat_get cellT 2 (fun _ => rfl) T2 k3 o ho
              rw [hx] at hfl
              clear hx
              generalize T2[k3]'(by omega) = x at hz1 hfl
              obtain ⟨xv, xs⟩ := x
              dsimp only at hz1
              have hpl := fun w => pt_Term xv xs w hz1
              have hql := fun w => rq_Term xv xs w hz1
              generalize mk (termL xv (bl xs)) = LS at hpl hql
              generalize termE xv (bl xs) = LE at hpl hql
              have hkeep : Hid (∀ w', LW w3 w' (.slice (some ⟨ga, 0, none⟩) (b.length + 1) cpa) (.slice (some ⟨gt, 0, none⟩) m vc) A T2 (b.length + 1) m → w'.cell? ⟨gt, k3 * 2, none⟩ = some (.bool xv) ∧ w'.cell? ⟨gt, k3 * 2 + 1, none⟩ = some (.string xs)) := Lib.hid fun w' hw => by
                have hcs := hw.ownT.cells (g := gt) rfl
                refine ⟨?_, ?_⟩
                · have := hcs (k3 * 2) (.bool xv) (by have := hfl 0 (by decide); rw [Nat.add_zero] at this; exact this)
                  rw [addr_add, Nat.zero_add] at this; exact this
                · have := hcs (k3 * 2 + 1) _ (hfl 1 (by decide))
                  rw [addr_add, Nat.zero_add] at this; exact this
              clear hfl hz1
              obtain ⟨c0, c1⟩ := hkeep.out _ hLW.out
              have hq0 : (0 : Int) ≤ (k3 : Int) := Int.natCast_nonneg _
              have hq1 : (k3 : Int) < (m : Int) := by omega
              go_wp2_with (first
                | (go_at_call 15; refine (hql _).mono ?_; rintro e w5 ⟨rfl, hb50⟩; have hLWb := Lib.hid (hLWa.out.mono hb50); clear hb50)
                | (go_at_call 14; refine (hpl _).mono ?_; rintro e w4 ⟨rfl, hb40⟩; have hLWa := Lib.hid (hLW.out.mono hb40); clear hb40; obtain ⟨e0, e1⟩ := hkeep.out _ hLWa.out))
              go_roundw
              case rel => exact ⟨k3 + 1, by omega, by go_num, hLWb⟩
              case measure => simp [intOf]; omega
            · have hke : k3 = m := by omega
              subst hke
              have hkr := kp_rule h g c l B cB L a ba cap bcap
              rw [hLl, hLb.out] at hkr
              have hbl := hLW.out.bel
              have f1 := cell_below hbl rfl cu1
              have f2 := cell_below hbl rfl cu2
              have f3 := cell_below hbl rfl cu3
              have f4 := cell_below hbl rfl cv1
              have f5 := cell_below hbl rfl cv2
              have f6 := cell_below hbl rfl cv3
              have k1 := Lib.hid (hM3.out.below hbl)
              have k2 := Lib.hid ((htw.out.below hb3.out).below hbl)
              have k3 := Lib.hid (hL3.out.below hbl)
              have k4 := Lib.hid ((hbw.out.below hb3.out).below hbl)
              replace hbl := Lib.hid hbl
              go_wp2_with (first
                | (go_at_call 17; refine (lw_known _).mono ?_; rintro e w9 ⟨rfl, hb9⟩; replace hb9 := Lib.hid (hb8.out.trans (hb9.mono hb8.out.size)))
                | (go_at_call 16; refine (hkr _ k1.out k2.out k3.out k4.out).mono ?_; rintro e w8 ⟨rfl, hb8⟩; replace hb8 := Lib.hid (hbl.out.trans (hb8.mono hbl.out.size))))
              go_ret
              exact ⟨rfl, hbase.out.trans (hb9.out.mono hbase.out.size)⟩
end Go.Proofs.Ytclioihichcpiaa
