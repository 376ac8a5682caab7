/- Print: a body copied. -/
import Derived.Test.YtclioihichcpiaaPrU
import Derived.Deep.RegionHeld3
import Derived.Deep.AppendLies
namespace Go.Proofs.Ytclioihichcpiaa
open Go.RowKit Go.Shelf Lx
def cellL (y : Lit × Nat × Nat) : List Value := (litV y.1 (some ⟨y.2.1, 0, none⟩) y.2.2).toList
def flatL (l : List (Lit × Nat × Nat)) : List Value := l.flatMap cellL
theorem cellL_len (y : Lit × Nat × Nat) : (cellL y).length = 7 := rfl
theorem flatL_len (l : List (Lit × Nat × Nat)) : (flatL l).length = l.length * 7 := flat_len cellL 7 cellL_len l
def mark77 : List Value := [.int .i64 77, .string ⟨#[]⟩, .slice none 0 0, .bool false, .string ⟨#[]⟩, .bool false, .string ⟨#[]⟩]
theorem TermsM.below {w w' : World} {g c : Nat} {l : List (Bool × ByteArray)} (h : TermsM w g l c) (hb : Below w.heap.size w w') : TermsM w' g l c :=
  ⟨h.len, fun j u hj => cell_below hb rfl (h.cells j u hj), h.size, h.cap⟩
/-- a copy of a row of literals: a block of its own, with marks behind -/
structure LitsM (w : World) (B : Nat) (L : List (Lit × Nat × Nat)) (c : Nat) : Prop where
  len : L.length ≤ 1048576
  cells : ∀ j u, (flatL L ++ (mark77 ++ mark77))[j]? = some u → w.cell? ⟨B, j, none⟩ = some u
  inner : ∀ y ∈ L, TermsM w y.2.1 y.1.a y.2.2
  size : ∀ y ∈ L, y.1.p.size ≤ 1048576 ∧ y.1.l.2.size ≤ 1048576 ∧ y.1.r.2.size ≤ 1048576
  cap : L.length + 2 ≤ c
theorem LitsM.below {w w' : World} {B c : Nat} {L : List (Lit × Nat × Nat)} (h : LitsM w B L c) (hb : Below w.heap.size w w') : LitsM w' B L c :=
  ⟨h.len, fun j u hj => cell_below hb rfl (h.cells j u hj), fun y hy => (h.inner y hy).below hb, h.size, h.cap⟩
theorem LitsM.same {w w' : World} {B c : Nat} {L : List (Lit × Nat × Nat)} (h : LitsM w B L c) (hB : w'.heap[B]? = w.heap[B]?) (hin : ∀ y ∈ L, w'.heap[y.2.1]? = w.heap[y.2.1]?) : LitsM w' B L c :=
  ⟨h.len, fun j u hj => by rw [← h.cells j u hj]; exact World.cell?_of_block hB, fun y hy => (h.inner y hy).same (hin y hy), h.size, h.cap⟩
theorem LitsM.cell {w : World} {B c : Nat} {L : List (Lit × Nat × Nat)} (h : LitsM w B L c) (j o : Nat) (ho : o < 7) {y : Lit × Nat × Nat} (hj : L[j]? = some y) {u : Value} (hu : (cellL y)[o]? = some u) : w.cell? ⟨B, j * 7 + o, none⟩ = some u := by
  refine h.cells _ _ ?_
  have hlt := (List.getElem?_eq_some_iff.1 hj).1
  rw [List.getElem?_append_left (by rw [flatL_len]; omega)]
  have := flat_get cellL 7 cellL_len L j o ho
  rw [hj] at this
  exact this.trans hu
theorem LitsM.lits {w : World} {B c : Nat} {L : List (Lit × Nat × Nat)} (h : LitsM w B L c) : Lits w (some ⟨B, 0, none⟩) (L.map (·.1)) := by
  refine ⟨by rw [List.length_map]; exact h.len, fun j x hj => ?_, fun x hx => ?_⟩
  · rw [List.getElem?_map] at hj
    cases hy : L[j]? with
    | none => rw [hy] at hj; cases hj
    | some y =>
      rw [hy] at hj
      cases hj
      refine ⟨_, some ⟨y.2.1, 0, none⟩, y.2.2, rfl, ?_, ?_, ?_, ?_, ?_, ?_, ?_, (h.inner y (List.mem_of_getElem? hy)).terms⟩
      all_goals rw [addr_add, Nat.zero_add]
      · exact h.cell j 0 (by decide) hy rfl
      · exact h.cell j 1 (by decide) hy rfl
      · exact h.cell j 2 (by decide) hy rfl
      · exact h.cell j 3 (by decide) hy rfl
      · exact h.cell j 4 (by decide) hy rfl
      · exact h.cell j 5 (by decide) hy rfl
      · exact h.cell j 6 (by decide) hy rfl
  · obtain ⟨y, hy, rfl⟩ := List.mem_map.1 hx
    exact h.size y hy
theorem LitsM.marked {w : World} {B c : Nat} {L : List (Lit × Nat × Nat)} (h : LitsM w B L c) : w.cell? ⟨B, L.length * 7, none⟩ = some (.int .i64 77) ∧ w.cell? ⟨B, (L.length + 1) * 7, none⟩ = some (.int .i64 77) := by
  constructor
  · refine h.cells _ _ ?_
    rw [List.getElem?_append_right (by rw [flatL_len]; omega), flatL_len, Nat.sub_self]; rfl
  · refine h.cells _ _ ?_
    rw [List.getElem?_append_right (by rw [flatL_len]; omega), flatL_len, show (L.length + 1) * 7 - L.length * 7 = 7 from by omega]; rfl
/-- what stands while a body is copied -/
structure Inn (w : World) (B0 : Nat) (v : Value) (L : List (Lit × Nat × Nat)) : Prop where
  terms : ∀ y ∈ L, TermsM w y.2.1 y.1.a y.2.2
  low : ∀ y ∈ L, B0 ≤ y.2.1
  high : ∀ y ∈ L, y.2.1 < w.heap.size
  own : ∀ y ∈ L, v.ownBlock ≠ some y.2.1
theorem Inn.step {w w2 w3 : World} {B0 : Nat} {v : Value} {L : List (Lit × Nat × Nat)} (h : Inn w B0 v L) (hb : Below w.heap.size w w2) {ob : Obj} {x : Lit} {g c gg n cap : Nat} (hM : TermsM w2 g x.a c) (hg1 : w.heap.size ≤ g) (hg2 : g < w2.heap.size) (hB0 : B0 ≤ w.heap.size) (hv : ∀ k, v.ownBlock = some k → k < w.heap.size)
    (hgr : (w2.alloc ob).grownBy w3 v.ownBlock) (hat : v.ownBlock = some gg ∨ gg = w2.heap.size + 1) : Inn w3 B0 (.slice (some ⟨gg, 0, none⟩) n cap) (L ++ [(x, g, c)]) := by
  have hk : ∀ b, b < w2.heap.size → v.ownBlock ≠ some b → w3.heap[b]? = w2.heap[b]? := fun b hb1 hb2 =>
    (hgr.block b (by rw [World.size_alloc]; omega) (fun e => hb2 e.symm)).trans (heap_alloc_old _ _ hb1)
  have hs3 : w2.heap.size + 1 ≤ w3.heap.size := by have := hgr.size; rw [World.size_alloc] at this; exact this
  have hgv : v.ownBlock ≠ some g := fun e => by have := hv g e; omega
  constructor
  · intro y hy
    rcases List.mem_append.1 hy with hy | hy
    · have h1 := h.high y hy
      exact ((h.terms y hy).below hb).same (hk _ (by have := hb.size; omega) (h.own y hy))
    · simp at hy; subst hy
      exact hM.same (hk _ hg2 hgv)
  · intro y hy
    rcases List.mem_append.1 hy with hy | hy
    · exact h.low y hy
    · simp at hy; subst hy; show B0 ≤ g; omega
  · intro y hy
    rcases List.mem_append.1 hy with hy | hy
    · have := h.high y hy; have := hb.size; omega
    · simp at hy; subst hy; show g < _; omega
  · intro y hy e
    have e' : gg = y.2.1 := by simpa [Value.ownBlock] using e
    rcases List.mem_append.1 hy with hy | hy
    · rcases hat with hat | hat
      · exact h.own y hy (by rw [hat, e'])
      · have := h.high y hy; have := hb.size; omega
    · simp at hy; subst hy
      rcases hat with hat | hat
      · have h9 := hv gg hat
        have e2 : gg = g := e'
        omega
      · have e2 : gg = g := e'
        omega
theorem cellL_one (l : List (Lit × Nat × Nat)) : ∀ u ∈ flatL l, u.oneCell' = true := by
  intro u hu
  obtain ⟨x, _, hx⟩ := List.mem_flatMap.1 hu
  simp [cellL, litV] at hx
  rcases hx with rfl | rfl | rfl | rfl | rfl | rfl | rfl <;> rfl
theorem mark_one : ∀ u ∈ mark77 ++ mark77, u.oneCell' = true := fun u hu => List.all_eq_true.1 (show (mark77 ++ mark77).all (fun u => u.oneCell') = true from rfl) u hu
theorem flatL_snoc (l : List (Lit × Nat × Nat)) (y : Lit × Nat × Nat) : flatL (l ++ [y]) = flatL l ++ cellL y := by simp [flatL]
set_option maxHeartbeats 2000000 in
set_option maxRecDepth 100000 in
theorem cq_body (a : Option Addr) (b : List Lit) (cap : Nat) (w : World) (hb : Lits w a b) :
    Calls Try.prog 29 #[.slice a b.length cap] w fun e w' => ∃ B c L, e = .returned (.slice (some ⟨B, 0, none⟩) b.length c) ∧ LitsM w' B L c ∧ L.map (·.1) = b ∧ w.heap.size ≤ B ∧ (∀ y ∈ L, w.heap.size ≤ y.2.1) ∧ Below w.heap.size w w' := by
  obtain ⟨ib, hib, hz0, hz1, hz2⟩ := info_parts infoLit
  have hlen := hb.len
  go_enter Try.func29, Try.ntmps29
  go_wp2_with fail
  go_loopw [3, 4] (fun v i wr => ∃ (k : Nat) (L : List (Lit × Nat × Nat)), k ≤ b.length ∧ i = .int .i64 k ∧ L.map (·.1) = b.take k ∧ Hid (wr.ownsRow w.heap.size 40 7 v k (flatL L)) ∧ Hid (Inn wr w.heap.size v L) ∧ Hid (Below w.heap.size w wr)) (fun _ i _ => b.length - (intOf i).toNat)
  case atStart => exact ⟨0, [], Nat.zero_le _, rfl, rfl, Lib.hid (World.ownsRow_nil _ _ _ _), Lib.hid ⟨by simp, by simp, by simp, by simp⟩, Lib.hid (Below.refl _ _)⟩
  case round =>
    obtain ⟨k, L, hk, rfl, hLb, hown, hinn, hbw⟩ := hrel
    by_cases hlt : k < b.length
    · obtain ⟨q, ad, acap, rfl, hd1, hd2, hd3, hd4, hd5, hd6, hd7, hat⟩ := hb.cells k b[k] (List.getElem?_eq_getElem hlt)
      have hLb' : (b.take k) ++ [b[k]] = b.take (k + 1) := (List.take_succ_eq_append_getElem hlt).symm
      generalize b[k] = x at hd1 hd2 hd3 hd4 hd5 hd6 hd7 hat hLb'
      obtain ⟨xk, xp, xa, ⟨xlv, xlt⟩, ⟨xrv, xrt⟩⟩ := x
      dsimp only at hd1 hd2 hd3 hd4 hd5 hd6 hd7 hat
      have hkeep : ∀ w', Below w.heap.size w w' → w'.cell? (q.add (k * 7)) = some (.int .i64 xk) ∧ w'.cell? ⟨(q.add (k * 7)).block, (q.add (k * 7)).off + 1, none⟩ = some (.string xp) ∧ w'.cell? ⟨(q.add (k * 7)).block, (q.add (k * 7)).off + 2, none⟩ = some (.slice ad xa.length acap) ∧ w'.cell? ⟨(q.add (k * 7)).block, (q.add (k * 7)).off + 3, none⟩ = some (.bool xlv) ∧ w'.cell? ⟨(q.add (k * 7)).block, (q.add (k * 7)).off + 4, none⟩ = some (.string xlt) ∧ w'.cell? ⟨(q.add (k * 7)).block, (q.add (k * 7)).off + 5, none⟩ = some (.bool xrv) ∧ w'.cell? ⟨(q.add (k * 7)).block, (q.add (k * 7)).off + 6, none⟩ = some (.string xrt) := fun w' hb =>
        ⟨cell_below hb rfl hd1, cell_below hb rfl hd2, cell_below hb rfl hd3, cell_below hb rfl hd4, cell_below hb rfl hd5, cell_below hb rfl hd6, cell_below hb rfl hd7⟩
      obtain ⟨he1, he2, he3, he4, he5, he6, he7⟩ := hkeep wr hbw.out
      have hat' := Lib.hid (hat.below hbw.out)
      clear hd1 hd2 hd3 hd4 hd5 hd6 hd7
      obtain ⟨va, vc, rfl, hva⟩ := own_slice hown.out
      clear hva
      replace hkeep := Lib.hid hkeep
      replace hLb := Lib.hid hLb
      replace hLb' := Lib.hid hLb'
      have h63 : Hid (k + 1 ≤ maxLen) := Lib.hid (by unfold maxLen; omega)
      have h64 : Hid ((k + 1) * 96 ≤ 140737488355328) := Lib.hid (by omega)
      have hq0 : (0 : Int) ≤ (k : Int) := Int.natCast_nonneg _
      have hq1 : (k : Int) < (b.length : Int) := by omega
      have hca := fun w ht => cq_atom xp ad xa acap w ht
      go_wp2_with fail
      go_region_held3 (fun w' => w'.cell? (q.add (k * 7)) = some (.int .i64 xk) ∧ w'.cell? ⟨(q.add (k * 7)).block, (q.add (k * 7)).off + 1, none⟩ = some (.string xp) ∧ w'.cell? ⟨(q.add (k * 7)).block, (q.add (k * 7)).off + 2, none⟩ = some (.slice ad xa.length acap) ∧ w'.cell? ⟨(q.add (k * 7)).block, (q.add (k * 7)).off + 3, none⟩ = some (.bool xlv) ∧ w'.cell? ⟨(q.add (k * 7)).block, (q.add (k * 7)).off + 4, none⟩ = some (.string xlt) ∧ w'.cell? ⟨(q.add (k * 7)).block, (q.add (k * 7)).off + 5, none⟩ = some (.bool xrv) ∧ w'.cell? ⟨(q.add (k * 7)).block, (q.add (k * 7)).off + 6, none⟩ = some (.string xrt))
        (first
          | exact hkeep.out _ hbw.out.drew
          | exact hkeep.out _ hb3.out
          | exact hkeep.out _ (hb2.out.al _)
          | exact hkeep.out _ hb2.out)
        (first
          | (go_at_call 28; refine (hca _ (hat'.out.below (Below.refl _ _).drew)).mono ?_; rintro e w2 ⟨g, gc, rfl, hM0, hg10, hg20, hbb⟩
             have hM := Lib.hid hM0
             have hg1 := Lib.hid hg10
             have hg2 := Lib.hid hg20
             have hbb2 := Lib.hid ((Below.refl _ wr).drew.trans hbb)
             have hb2 := Lib.hid (hbw.out.trans (hbb2.out.mono hbw.out.size))
             clear hM0 hg10 hg20 hbb)
          | (have hg := hb2.out
             clear hg
             refine step_append_lies (w2.alloc (.cells #[.int .i64 xk, .string xp, .slice (some ⟨g, 0, none⟩) xa.length gc, .bool xlv, .string xlt, .bool xrv, .string xrt] 40)) ?guard (.tmp 11) (.tmp 34) 25 ?op w.heap.size 40 ib (.agg #[.int .i64 0, .string ⟨#[]⟩, .slice none 0 0, .bool false, .string ⟨#[]⟩, .bool false, .string ⟨#[]⟩]) 7 96 Try.underlying25 hib hz0 hz1 hz2 (by rfl) (by omega) (.slice va k vc) k (flatL L) ?ev1 ((own_below hown.out hbb2.out).alloc _) ⟨w2.heap.size, 0, none⟩ 1 1 (cellL (⟨xk, xp, xa, (xlv, xlt), (xrv, xrt)⟩, g, gc)) ?ev2 (by rfl) (own_cells_row rfl rfl) (by intro u hu; simp [cellL, litV] at hu; rcases hu with rfl | rfl | rfl | rfl | rfl | rfl | rfl <;> rfl) (by omega) h63.out h64.out (by have := hb2.out.size; rw [World.size_alloc]; omega) (w2.heap.size + 1) (by rw [World.size_alloc]) ?rest
             case guard => rfl
             case op => rfl
             case ev1 => rfl
             case ev2 => rfl
             intro gg cp w3 hown30 hgrow hat3 hlt3
             have hown3 := Lib.hid hown30
             have hb3 := Lib.hid ((hb2.out.al _).grown hgrow (by have := hb2.out.size; rw [World.size_alloc]; omega) (own_ge hown.out))
             have hI3 := Lib.hid (hinn.out.step (n := k + 1) (cap := cp) (x := ⟨xk, xp, xa, (xlv, xlt), (xrv, xrt)⟩) hbb2.out hM.out hg1.out hg2.out hbw.out.size (fun k hk => (hown.out.lt k hk).2) hgrow hat3)
             clear hown30 hgrow hat3 hlt3))
      go_wp2_with fail
      go_roundw
      case rel => exact ⟨k + 1, L ++ [(⟨xk, xp, xa, (xlv, xlt), (xrv, xrt)⟩, g, gc)], by omega, by go_num, by rw [List.map_append, hLb.out]; exact hLb'.out, by rw [flatL_snoc]; exact hown3, hI3, hb3⟩
      case measure => simp [intOf]; omega
    · have hke : k = b.length := by omega
      subst hke
      rw [List.take_length] at hLb
      obtain ⟨va, vc, rfl, hva⟩ := own_slice hown.out
      clear hva
      have h63 : Hid (b.length + 2 ≤ maxLen) := Lib.hid (by unfold maxLen; omega)
      have h64 : Hid ((b.length + 2) * 96 ≤ 140737488355328) := Lib.hid (by omega)
      replace hLb := Lib.hid hLb
      go_wp2_with (at_builtin; go_loud (refine wpList_append_any rfl (.tmp 36) (.tmp 39) 25 rfl w.heap.size 40 ib (.agg #[.int .i64 0, .string ⟨#[]⟩, .slice none 0 0, .bool false, .string ⟨#[]⟩, .bool false, .string ⟨#[]⟩]) 7 96 Try.underlying25 hib hz0 hz1 hz2 rfl (by decide) _ b.length (flatL L) rfl (hown.out.alloc _) (some ⟨wr.heap.size, 0, none⟩) 2 2 (mark77 ++ mark77) rfl rfl (fun j u hj => ⟨_, rfl, own_cells_row rfl rfl j u hj⟩) mark_one h63.out h64.out (by have := hbw.out.size; rw [World.size_alloc]; omega) ?_))
      intro v4 w4 hown4 hgr4 hnil4 hat4
      have hb4 := Lib.hid ((hbw.out.al _).grown hgr4 (by have := hbw.out.size; rw [World.size_alloc]; omega) (own_ge hown.out))
      have hin4 : Hid (∀ y ∈ L, TermsM w4 y.2.1 y.1.a y.2.2) := Lib.hid fun y hy =>
        (hinn.out.terms y hy).same ((hgr4.block _ (by have := hinn.out.high y hy; rw [World.size_alloc]; omega) (fun e => hinn.out.own y hy e.symm)).trans (heap_alloc_old _ _ (hinn.out.high y hy)))
      obtain ⟨B, c, rfl, hBc, hcm, hbB, hBw, hcell⟩ := own_some hown4 (by omega)
      have hLl : L.length = b.length := by rw [← hLb.out, List.length_map]
      have hsz4 : ∀ y ∈ L, y.1.p.size ≤ 1048576 ∧ y.1.l.2.size ≤ 1048576 ∧ y.1.r.2.size ≤ 1048576 := fun y hy => hb.size y.1 (by rw [← hLb.out]; exact List.mem_map_of_mem hy)
      have hM : Hid (LitsM w4 B L c) := Lib.hid ⟨by omega, hcell, hin4.out, hsz4, by omega⟩
      have hc0 : b.length ≤ c := by omega
      clear hcell hgr4 hnil4 hat4 hown4 hsz4 hin4 hLl
      go_wp2_with fail
      go_ret
      exact ⟨B, c, L, rfl, hM.out, hLb.out, hbB, hinn.out.low, hb4.out⟩
end Go.Proofs.Ytclioihichcpiaa
