/- Print: a list of terms. -/
import Derived.Test.YtclioihichcpiaaPrG
namespace Go.Proofs.Ytclioihichcpiaa
open Go.RowKit Go.Shelf Lx
theorem pt_Term (v : Bool) (s : ByteArray) (w : World) (hs : s.size ≤ 1048576) :
    Calls Try.prog 14 #[.agg #[.bool v, .string s]] w fun e w' => e = .returned (.tuple #[.string (mk (termL v (bl s))), .int .i64 (termE v (bl s))]) ∧ Below w.heap.size w w' := by
  cases v
  · exact pt_Term_const s w hs
  · exact pt_Term_var s w hs
/-- a row of terms in memory -/
structure Terms (w : World) (a : Option Addr) (l : List (Bool × ByteArray)) : Prop where
  len : l.length ≤ 1048576
  cells : ∀ j x, l[j]? = some x → ∃ p, a = some p ∧ w.cell? (p.add (j * 2)) = some (.bool x.1) ∧ w.cell? ⟨(p.add (j * 2)).block, (p.add (j * 2)).off + 1, none⟩ = some (.string x.2)
  size : ∀ x ∈ l, x.2.size ≤ 1048576
theorem Terms.below {w w' : World} {a : Option Addr} {l : List (Bool × ByteArray)} (h : Terms w a l) (hb : Below w.heap.size w w') : Terms w' a l :=
  ⟨h.len, fun j x hj => by
    obtain ⟨p, hp, h1, h2⟩ := h.cells j x hj
    exact ⟨p, hp, cell_below hb rfl h1, cell_below hb rfl h2⟩, h.size⟩
def textsT (l : List (Bool × ByteArray)) : List ByteArray := l.map fun x => mk (termL x.1 (bl x.2))
def okT (l : List (Bool × ByteArray)) : Bool := l.all fun x => termOk x.1 (bl x.2)
theorem infoStr : (Try.prog.info? 9).map (fun i => (i.zero, i.size, i.bytes)) = some (some (.string ⟨#[]⟩), 1, 16) := by kernel_rfl
theorem joinTail_bound (sep : List UInt8) (ls : List (List UInt8)) (m : Nat) (h : ∀ l ∈ ls, l.length ≤ m) : (Lib.joinTail sep ls).length ≤ ls.length * (sep.length + m) := by
  induction ls with
  | nil => simp [Lib.joinTail]
  | cons x r ih =>
    have h1 := ih fun l hl => h l (List.mem_cons_of_mem _ hl)
    have h2 := h x (List.mem_cons_self ..)
    rw [Lib.joinTail_length] at h1 ⊢
    have e : Lib.lens (x :: r) = x.length + Lib.lens r := by simp [Lib.lens]
    rw [e, List.length_cons, Nat.mul_succ, Nat.succ_mul]
    omega
theorem join_bound (sep : List UInt8) (ls : List (List UInt8)) (m : Nat) (h : ∀ l ∈ ls, l.length ≤ m) : (Lib.join ls sep).length ≤ ls.length * (sep.length + m) := by
  cases ls with
  | nil => simp [Lib.join_nil]
  | cons x r =>
    rw [Lib.join_cons, List.length_append, List.length_cons, Nat.succ_mul]
    have h1 := joinTail_bound sep r m fun l hl => h l (List.mem_cons_of_mem _ hl)
    have h2 := h x (List.mem_cons_self ..)
    omega
theorem own_join {w : World} {base n : Nat} {v : Value} {ts : List ByteArray} {sep : ByteArray} (h : w.ownsRow base 9 1 v n (ts.map Value.string)) (hn : ts.length ≤ 1048576) (hs : sep.size ≤ 1048576) (hm : ∀ t ∈ ts, t.size ≤ 8388608) :
    Calls Try.prog 58 #[v, .string sep] w fun e w' => e = .returned (.string ⟨(Lib.join (ts.map (·.data.toList)) sep.data.toList).toArray⟩) ∧ Below w.heap.size w w' := by
  have hl : ts.length = n := by have := h.1; rw [List.length_map] at this; omega
  rcases h.2 with ⟨rfl, rfl⟩ | ⟨g, cap, cur, rfl, hg, hb, hc, hcm, hcz, hx⟩
  · have : ts = [] := List.eq_nil_of_length_eq_zero hl
    subst this
    exact (Try.strings_Join_none none 0 sep w).mono fun e w' ⟨h1, h2⟩ => ⟨h1, h2 ▸ Below.refl _ _⟩
  · subst hl
    refine Try.strings_Join g 0 cap ts sep w (fun j x hj => ?_) (Array.getElem?_eq_some_iff.1 hb).1 (by omega) hc ?_
    · have h1 : (ts.map Value.string)[j]? = some (.string x) := by rw [List.getElem?_map, hj]; rfl
      rw [← hx, List.getElem?_take] at h1
      have hj2 : j < ts.length * 1 := by have := (List.getElem?_eq_some_iff.1 hj).1; omega
      rw [if_pos hj2, Array.getElem?_toList] at h1
      simp [World.cell?, hb, h1]
    · have h1 := join_bound sep.data.toList (ts.map (·.data.toList)) 8388608 (by
        intro l hl
        obtain ⟨t, ht, rfl⟩ := List.mem_map.1 hl
        rw [Array.length_toList]; exact hm t ht)
      rw [List.length_map, Array.length_toList] at h1
      have h2 : ts.length * (sep.data.size + 8388608) ≤ 1048576 * (1048576 + 8388608) := Nat.mul_le_mul hn (Nat.add_le_add_right hs _)
      exact Nat.le_trans h1 (Nat.le_trans h2 (by decide))
theorem termL_len (v : Bool) (l : Bs) (h : l.length ≤ 1048576) : (termL v l).length ≤ 8388608 := by
  have := (escs_len l).2
  unfold termL quoteL
  split
  · split
    · omega
    · rw [List.length_cons, List.length_append]; show _ + 1 + 1 ≤ _; omega
  · simp
theorem textsT_size (l : List (Bool × ByteArray)) (h : ∀ x ∈ l, x.2.size ≤ 1048576) : ∀ t ∈ textsT l, t.size ≤ 8388608 := by
  intro t ht
  obtain ⟨x, hx, rfl⟩ := List.mem_map.1 ht
  have h1 := termL_len x.1 (bl x.2) (by rw [bl_length]; exact h x hx)
  show (mk _).data.size ≤ _
  simpa [mk] using h1
set_option maxHeartbeats 1000000 in
set_option maxRecDepth 100000 in
theorem pt_listed_Term (a : Option Addr) (l : List (Bool × ByteArray)) (cap : Nat) (sep : ByteArray) (w : World) (ht : Terms w a l) (hsep : sep.size ≤ 1048576) :
    Calls Try.prog 32 #[.slice a l.length cap, .string sep, .func (.func 14) #[] #[]] w fun e w' => e = .returned (.tuple #[.string (if okT l then ⟨(Lib.join ((textsT l).map (·.data.toList)) sep.data.toList).toArray⟩ else ⟨#[]⟩), .bool (okT l)]) ∧ Below w.heap.size w w' := by
  obtain ⟨ib, hib, hz0, hz1, hz2⟩ := info_parts infoStr
  obtain ⟨RT, hRT⟩ : ∃ x, Hid ((if okT l then (⟨(Lib.join ((textsT l).map (·.data.toList)) sep.data.toList).toArray⟩ : ByteArray) else ⟨#[]⟩) = x) := ⟨_, Lib.hid rfl⟩
  obtain ⟨OT, hOT⟩ : ∃ x, Hid (okT l = x) := ⟨_, Lib.hid rfl⟩
  rw [hRT.out, hOT.out]
  go_enter Try.func32, Try.ntmps32
  go_wp2_with fail
  go_loopw [8, 10, 11, 12, 15] (fun b _ _ _ i wr => ∃ (k : Nat), k ≤ l.length ∧ i = .int .i64 k ∧ Hid (okT (l.take k) = true) ∧ Hid (wr.ownsRow w.heap.size 9 1 b k ((textsT (l.take k)).map Value.string)) ∧ Hid (Below w.heap.size w wr)) (fun _ _ _ _ i _ => l.length - (intOf i).toNat)
  case atStart => exact ⟨0, Nat.zero_le _, rfl, Lib.hid rfl, Lib.hid (World.ownsRow_nil _ _ _ _), Lib.hid (Below.refl _ _)⟩
  case round =>
    obtain ⟨k, hk, rfl, hok, hown, hb⟩ := hrel
    by_cases hlt : k < l.length
    · obtain ⟨p, rfl, hc1, hc2⟩ := (ht.below hb.out).cells k l[k] (List.getElem?_eq_getElem hlt)
      generalize hxk : l[k] = x at hc1 hc2
      obtain ⟨xv, xs⟩ := x
      dsimp only at hc1 hc2
      have hxs : xs.size ≤ 1048576 := ht.size (xv, xs) (by rw [← hxk]; exact List.getElem_mem hlt)
      cases hx : termOk xv (bl xs) with
      | true =>
        have hr : termE xv (bl xs) = 0 := by unfold termE; rw [hx]; rfl
        have hpt := fun w => pt_Term xv xs w hxs
        rw [hr] at hpt
        have hok1 : Hid (okT (l.take (k + 1)) = true) := Lib.hid (by
          have := hok.out
          unfold okT at this ⊢
          rw [List.take_succ_eq_append_getElem hlt, List.all_append, this, hxk]; simp [hx])
        clear hx hr hok
        obtain ⟨va, vc, rfl, hva⟩ := own_slice hown.out
        clear hva
        have hlen := ht.len
        have h63 : Hid (k + 1 ≤ maxLen) := Lib.hid (by unfold maxLen; omega)
        have h64 : Hid ((k + 1) * 16 ≤ 140737488355328) := Lib.hid (by omega)
        go_wp2_with (first
          | (go_at_call 14; refine (hpt _).mono ?_; rintro e w2 ⟨rfl, hb2⟩; have hown2 := Lib.hid (own_below (hown.out.alloc _) hb2); replace hb2 := Lib.hid ((hb.out.al _).trans (hb2.mono (by rw [World.size_alloc]; have := hb.out.size; omega))))
          | (at_builtin; refine wpList_append_own _ rfl (.tmp 27) (.tmp 29) 107 rfl w.heap.size 9 ib (.string ⟨#[]⟩) 1 16 Try.underlying107 hib hz0 hz1 hz2 rfl (by decide) _ k _ rfl (hown2.out.alloc _) ⟨w2.heap.size, 0, none⟩ 1 1 [.string (mk (termL xv (bl xs)))] rfl rfl (own_cells_row rfl rfl) (by intro u hu; simp at hu; subst hu; rfl) h63.out h64.out (by rw [World.size_alloc]; have := hb2.out.size; omega) ?_))
        intro v3 w3 hown3 hgrow3 hv3
        have hb3 : Hid (Below w.heap.size w w3) := own_grown hown2.out hb2.out hgrow3
        have hown4 : Hid (w3.ownsRow w.heap.size 9 1 v3 (k + 1) ((textsT (l.take (k + 1))).map Value.string)) := Lib.hid (by
          rw [List.take_succ_eq_append_getElem hlt, textsT, List.map_append, List.map_append, hxk]; exact hown3)
        clear hown3 hgrow3 hv3
        go_wp2_with fail
        go_roundw
        case rel => exact ⟨k + 1, by omega, by go_num, hok1, hown4, hb3⟩
        case measure => simp [intOf]; omega
      | false =>
        have hr : termE xv (bl xs) = 2 := by unfold termE; rw [hx]; rfl
        have hpt := fun w => pt_Term xv xs w hxs
        rw [hr] at hpt
        have hR : Hid (RT = ByteArray.mk #[] ∧ OT = false) := Lib.hid (by
          have : okT l = false := by
            unfold okT; rw [List.all_eq_false]; exact ⟨l[k], List.getElem_mem hlt, by rw [hxk]; simp [hx]⟩
          rw [← hRT.out, ← hOT.out, this]; exact ⟨rfl, rfl⟩)
        clear hx hr hok
        go_wp2_with (go_at_call 14; refine (hpt _).mono ?_; rintro e w2 ⟨rfl, hb2⟩; replace hb2 := Lib.hid hb2)
        go_ret2
        rw [hR.out.1, hR.out.2]
        exact ⟨rfl, (hb.out.al _).trans (hb2.out.mono (by rw [World.size_alloc]; have := hb.out.size; omega))⟩
    · have hke : k = l.length := by omega
      subst hke
      rw [List.take_length] at hok hown
      have hR : Hid (RT = ⟨(Lib.join ((textsT l).map (·.data.toList)) sep.data.toList).toArray⟩ ∧ OT = true) := Lib.hid (by rw [← hRT.out, ← hOT.out, hok.out]; exact ⟨rfl, rfl⟩)
      have hjn := own_join hown.out (by rw [textsT, List.length_map]; exact ht.len) hsep (textsT_size l ht.size)
      rw [← hR.out.1] at hjn
      go_wp2_with (go_at_call 58; refine hjn.mono ?_; rintro e w2 ⟨rfl, hb2⟩; replace hb2 := Lib.hid hb2)
      go_ret2
      rw [hR.out.2]
      exact ⟨rfl, hb.out.trans (hb2.out.mono hb.out.size)⟩
end Go.Proofs.Ytclioihichcpiaa
