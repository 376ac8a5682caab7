/- Print: a term. -/
import Derived.Test.YtclioihichcpiaaDoorPrB
import Derived.Test.YtclioihichcpiaaDoorJoG
namespace Go.Proofs.YtclioihichcpiaaDoor
open Go.RowKit Lx
namespace Lx
/-- a term's text as it is written; what says whether it has one -/
def termOk (v : Bool) (l : Bs) : Bool := if v then variableB l else decide (l.length ≤ 1024)
def termL (v : Bool) (l : Bs) : Bs := if termOk v l then (if v || bareB l then l else quoteL l) else []
def termE (v : Bool) (l : Bs) : Int := if termOk v l then 0 else 2
end Lx
set_option maxHeartbeats 1000000 in
theorem pt_Term_const (s : ByteArray) (w : World) (hs : s.size ≤ 1048576) :
    Calls Tryd.prog 65 #[.agg #[.bool false, .string s]] w fun e w' => e = .returned (.tuple #[.string (mk (termL false (bl s))), .int .i64 (termE false (bl s))]) ∧ Below w.heap.size w w' := by
  by_cases h1 : s.size ≤ 1024
  · cases hb : bareB (bl s) with
    | true =>
      have hr : Hid (mk (termL false (bl s)) = s ∧ termE false (bl s) = 0) := Lib.hid (by
        have : termOk false (bl s) = true := by unfold termOk; rw [if_neg (by decide), decide_eq_true (by rw [bl_length]; exact h1)]
        unfold termL termE; rw [this, hb]; exact ⟨rfl, rfl⟩)
      have hc := fun w => pt_Bare s w (by omega)
      rw [hb] at hc
      go_enter Tryd.func65, Tryd.ntmps65
      go_wp2_with (go_at_call 82; refine (hc _).mono ?_; rintro e w' ⟨rfl, rfl⟩)
      go_ret2
      rw [hr.out.1, hr.out.2]
      exact ⟨rfl, (Below.refl _ _).al _⟩
    | false =>
      have hr : Hid (termL false (bl s) = quoteL (bl s) ∧ termE false (bl s) = 0) := Lib.hid (by
        have : termOk false (bl s) = true := by unfold termOk; rw [if_neg (by decide), decide_eq_true (by rw [bl_length]; exact h1)]
        unfold termL termE; rw [this, hb]; exact ⟨rfl, rfl⟩)
      have hc := fun w => pt_Bare s w (by omega)
      rw [hb] at hc
      go_enter Tryd.func65, Tryd.ntmps65
      go_wp2_with (first
        | (go_at_call 82; refine (hc _).mono ?_; rintro e w' ⟨rfl, rfl⟩)
        | (go_at_call 21; refine (pt_Quote _ _ hs).mono ?_; rintro e w2 ⟨rfl, hb2⟩; replace hb2 := Lib.hid hb2))
      go_ret2
      rw [hr.out.1, hr.out.2]
      exact ⟨rfl, ((Below.refl _ _).al _).trans (hb2.out.mono (by rw [World.size_alloc]; omega))⟩
  · have hr : Hid (termL false (bl s) = [] ∧ termE false (bl s) = 2) := Lib.hid (by
      have : termOk false (bl s) = false := by unfold termOk; rw [if_neg (by decide), decide_eq_false (by rw [bl_length]; exact h1)]
      unfold termL termE; rw [this]; exact ⟨rfl, rfl⟩)
    go_enter Tryd.func65, Tryd.ntmps65
    go_wp2_with fail
    go_ret2
    rw [hr.out.1, hr.out.2]
    exact ⟨rfl, (Below.refl _ _).al _⟩
set_option maxHeartbeats 1000000 in
theorem pt_Term_var (s : ByteArray) (w : World) (hs : s.size ≤ 1048576) :
    Calls Tryd.prog 65 #[.agg #[.bool true, .string s]] w fun e w' => e = .returned (.tuple #[.string (mk (termL true (bl s))), .int .i64 (termE true (bl s))]) ∧ Below w.heap.size w w' := by
  cases hv : variableB (bl s) with
  | true =>
    have hr : Hid (mk (termL true (bl s)) = s ∧ termE true (bl s) = 0) := Lib.hid (by
      have : termOk true (bl s) = true := by unfold termOk; rw [if_pos rfl, hv]
      unfold termL termE; rw [this]; exact ⟨rfl, rfl⟩)
    have hc := fun w => lx_Variable s w (by omega)
    rw [hv] at hc
    go_enter Tryd.func65, Tryd.ntmps65
    go_wp2_with (go_at_call 81; refine (hc _).mono ?_; rintro e w' ⟨rfl, rfl⟩)
    go_ret2
    rw [hr.out.1, hr.out.2]
    exact ⟨rfl, (Below.refl _ _).al _⟩
  | false =>
    have hr : Hid (termL true (bl s) = [] ∧ termE true (bl s) = 2) := Lib.hid (by
      have : termOk true (bl s) = false := by unfold termOk; rw [if_pos rfl, hv]
      unfold termL termE; rw [this]; exact ⟨rfl, rfl⟩)
    have hc := fun w => lx_Variable s w (by omega)
    rw [hv] at hc
    go_enter Tryd.func65, Tryd.ntmps65
    go_wp2_with (go_at_call 81; refine (hc _).mono ?_; rintro e w' ⟨rfl, rfl⟩)
    go_ret2
    rw [hr.out.1, hr.out.2]
    exact ⟨rfl, (Below.refl _ _).al _⟩
end Go.Proofs.YtclioihichcpiaaDoor


/- Print: a term, in the document. -/
namespace Go.Proofs.YtclioihichcpiaaDoor
open Go.RowKit Lx
theorem dec_le (s : ByteArray) : decide ((bl s).length ≤ 1024) = decide ((s.size : Int) ≤ 1024) := by
  rw [bl_length]; congr 1; apply propext; omega
set_option maxHeartbeats 1000000 in
theorem rk_constant (s : ByteArray) (w : World) :
    Calls Tryd.prog 51 #[.string s] w fun e w' => e = .returned (.bool (decide ((bl s).length ≤ 1024))) ∧ w = w' := by
  go_enter Tryd.func51, Tryd.ntmps51
  go_wp2_with fail
  go_ret
  exact ⟨by rw [dec_le]; rfl, rfl⟩
set_option maxHeartbeats 1000000 in
theorem rk_Term (v : Bool) (s : ByteArray) (w : World) (hs : s.size ≤ 1048576) :
    Calls Tryd.prog 85 #[.agg #[.bool v, .string s]] w fun e w' => e = .returned (.bool (termOk v (bl s))) ∧ Below w.heap.size w w' := by
  cases v with
  | true =>
    go_enter Tryd.func85, Tryd.ntmps85
    go_wp2_with (go_at_call 99; refine (rp_Variable s _ (by omega)).mono ?_; rintro e w' ⟨rfl, rfl⟩)
    go_ret
    exact ⟨rfl, (Below.refl _ _).al _⟩
  | false =>
    go_enter Tryd.func85, Tryd.ntmps85
    go_wp2_with (go_at_call 51; refine (rk_constant s _).mono ?_; rintro e w' ⟨rfl, rfl⟩)
    go_ret
    exact ⟨rfl, (Below.refl _ _).al _⟩
set_option maxHeartbeats 1000000 in
theorem rq_term_var (s : ByteArray) (w : World) :
    Calls Tryd.prog 60 #[.agg #[.bool true, .string s]] w fun e w' => e = .returned (.string s) ∧ Below w.heap.size w w' := by
  go_enter Tryd.func60, Tryd.ntmps60
  go_wp2_with fail
  go_ret
  exact ⟨rfl, (Below.refl _ _).al _⟩
set_option maxHeartbeats 1000000 in
theorem rq_term_const (s : ByteArray) (w : World) (hs : s.size ≤ 1048576) :
    Calls Tryd.prog 60 #[.agg #[.bool false, .string s]] w fun e w' => e = .returned (.string (mk (if bareB (bl s) then bl s else quoteL (bl s)))) ∧ Below w.heap.size w w' := by
  cases hb : bareB (bl s) with
  | true =>
    have hc := fun w => rp_Bare s w (by omega)
    rw [hb] at hc
    go_enter Tryd.func60, Tryd.ntmps60
    go_wp2_with (go_at_call 77; refine (hc _).mono ?_; rintro e w' ⟨rfl, rfl⟩)
    go_ret
    exact ⟨rfl, (Below.refl _ _).al _⟩
  | false =>
    have hc := fun w => rp_Bare s w (by omega)
    rw [hb] at hc
    go_enter Tryd.func60, Tryd.ntmps60
    go_wp2_with (first
      | (go_at_call 77; refine (hc _).mono ?_; rintro e w' ⟨rfl, rfl⟩)
      | (go_at_call 15; refine (rq_Quote _ _ (by omega)).mono ?_; rintro e w2 ⟨rfl, hb2⟩; replace hb2 := Lib.hid hb2))
    go_ret
    exact ⟨rfl, ((Below.refl _ _).al _).trans (hb2.out.mono (by rw [World.size_alloc]; omega))⟩
theorem new_cells {w w1 : World} {a b : Value} {t : TypeId} (hb : Below (w.alloc (.cells #[a, b] t)).heap.size (w.alloc (.cells #[a, b] t)) w1) : w1.cell? ⟨w.heap.size, 0, none⟩ = some a ∧ w1.cell? ⟨w.heap.size, 1, none⟩ = some b := by
  have h : w1.heap[w.heap.size]? = some (.cells #[a, b] t) := (hb.block _ (by rw [World.size_alloc]; omega)).trans (heap_alloc_new _ _)
  exact ⟨by simp [World.cell?, h], by simp [World.cell?, h]⟩
end Go.Proofs.YtclioihichcpiaaDoor


/- Print: a list of terms. -/
namespace Go.Proofs.YtclioihichcpiaaDoor
open Go.RowKit Go.Shelf Lx
theorem pt_Term (v : Bool) (s : ByteArray) (w : World) (hs : s.size ≤ 1048576) :
    Calls Tryd.prog 65 #[.agg #[.bool v, .string s]] w fun e w' => e = .returned (.tuple #[.string (mk (termL v (bl s))), .int .i64 (termE v (bl s))]) ∧ Below w.heap.size w w' := by
  cases v
  · exact pt_Term_const s w hs
  · exact pt_Term_var s w hs
/-- a row of terms in memory -/
structure Terms (w : World) (a : Option Addr) (l : List (Bool × ByteArray)) : Prop where
  len : l.length ≤ 1048576
  cells : ∀ j x, l[j]? = some x → ∃ p, a = some p ∧ w.cell? (p.add (j * 2)) = some (.bool x.1) ∧ w.cell? ⟨(p.add (j * 2)).block, (p.add (j * 2)).off + 1, none⟩ = some (.string x.2)
  size : ∀ x ∈ l, x.2.size ≤ 1048576
theorem Terms.below {w w' : World} {a : Option Addr} {l : List (Bool × ByteArray)} (h : Terms w a l) (hb : Below w.heap.size w w') : Terms w' a l :=
  ⟨h.len, fun j x hj => by
    obtain ⟨p, hp, h1, h2⟩ := h.cells j x hj
    exact ⟨p, hp, cell_below hb rfl h1, cell_below hb rfl h2⟩, h.size⟩
def textsT (l : List (Bool × ByteArray)) : List ByteArray := l.map fun x => mk (termL x.1 (bl x.2))
def okT (l : List (Bool × ByteArray)) : Bool := l.all fun x => termOk x.1 (bl x.2)
theorem infoStr : (Tryd.prog.info? 9).map (fun i => (i.zero, i.size, i.bytes)) = some (some (.string ⟨#[]⟩), 1, 16) := by kernel_rfl
theorem joinTail_bound (sep : List UInt8) (ls : List (List UInt8)) (m : Nat) (h : ∀ l ∈ ls, l.length ≤ m) : (Lib.joinTail sep ls).length ≤ ls.length * (sep.length + m) := by
  induction ls with
  | nil => simp [Lib.joinTail]
  | cons x r ih =>
    have h1 := ih fun l hl => h l (List.mem_cons_of_mem _ hl)
    have h2 := h x (List.mem_cons_self ..)
    rw [Lib.joinTail_length] at h1 ⊢
    have e : Lib.lens (x :: r) = x.length + Lib.lens r := by simp [Lib.lens]
    rw [e, List.length_cons, Nat.mul_succ, Nat.succ_mul]
    omega
theorem join_bound (sep : List UInt8) (ls : List (List UInt8)) (m : Nat) (h : ∀ l ∈ ls, l.length ≤ m) : (Lib.join ls sep).length ≤ ls.length * (sep.length + m) := by
  cases ls with
  | nil => simp [Lib.join_nil]
  | cons x r =>
    rw [Lib.join_cons, List.length_append, List.length_cons, Nat.succ_mul]
    have h1 := joinTail_bound sep r m fun l hl => h l (List.mem_cons_of_mem _ hl)
    have h2 := h x (List.mem_cons_self ..)
    omega
theorem own_join {w : World} {base n : Nat} {v : Value} {ts : List ByteArray} {sep : ByteArray} (h : w.ownsRow base 9 1 v n (ts.map Value.string)) (hn : ts.length ≤ 1048576) (hs : sep.size ≤ 1048576) (hm : ∀ t ∈ ts, t.size ≤ 8388608) :
    Calls Tryd.prog 40 #[v, .string sep] w fun e w' => e = .returned (.string ⟨(Lib.join (ts.map (·.data.toList)) sep.data.toList).toArray⟩) ∧ Below w.heap.size w w' := by
  have hl : ts.length = n := by have := h.1; rw [List.length_map] at this; omega
  rcases h.2 with ⟨rfl, rfl⟩ | ⟨g, cap, cur, rfl, hg, hb, hc, hcm, hcz, hx⟩
  · have : ts = [] := List.eq_nil_of_length_eq_zero hl
    subst this
    exact (Tryd.strings_Join_none none 0 sep w).mono fun e w' ⟨h1, h2⟩ => ⟨h1, h2 ▸ Below.refl _ _⟩
  · subst hl
    refine Tryd.strings_Join g 0 cap ts sep w (fun j x hj => ?_) (Array.getElem?_eq_some_iff.1 hb).1 (by omega) hc ?_
    · have h1 : (ts.map Value.string)[j]? = some (.string x) := by rw [List.getElem?_map, hj]; rfl
      rw [← hx, List.getElem?_take] at h1
      have hj2 : j < ts.length * 1 := by have := (List.getElem?_eq_some_iff.1 hj).1; omega
      rw [if_pos hj2, Array.getElem?_toList] at h1
      simp [World.cell?, hb, h1]
    · have h1 := join_bound sep.data.toList (ts.map (·.data.toList)) 8388608 (by
        intro l hl
        obtain ⟨t, ht, rfl⟩ := List.mem_map.1 hl
        rw [Array.length_toList]; exact hm t ht)
      rw [List.length_map, Array.length_toList] at h1
      have h2 : ts.length * (sep.data.size + 8388608) ≤ 1048576 * (1048576 + 8388608) := Nat.mul_le_mul hn (Nat.add_le_add_right hs _)
      exact Nat.le_trans h1 (Nat.le_trans h2 (by decide))
theorem termL_len (v : Bool) (l : Bs) (h : l.length ≤ 1048576) : (termL v l).length ≤ 8388608 := by
  have := (escs_len l).2
  unfold termL quoteL
  split
  · split
    · omega
    · rw [List.length_cons, List.length_append]; show _ + 1 + 1 ≤ _; omega
  · simp
theorem textsT_size (l : List (Bool × ByteArray)) (h : ∀ x ∈ l, x.2.size ≤ 1048576) : ∀ t ∈ textsT l, t.size ≤ 8388608 := by
  intro t ht
  obtain ⟨x, hx, rfl⟩ := List.mem_map.1 ht
  have h1 := termL_len x.1 (bl x.2) (by rw [bl_length]; exact h x hx)
  show (mk _).data.size ≤ _
  simpa [mk] using h1
set_option maxHeartbeats 1000000 in
set_option maxRecDepth 100000 in
theorem pt_listed_Term (a : Option Addr) (l : List (Bool × ByteArray)) (cap : Nat) (sep : ByteArray) (w : World) (ht : Terms w a l) (hsep : sep.size ≤ 1048576) :
    Calls Tryd.prog 64 #[.slice a l.length cap, .string sep, .func (.func 65) #[] #[]] w fun e w' => e = .returned (.tuple #[.string (if okT l then ⟨(Lib.join ((textsT l).map (·.data.toList)) sep.data.toList).toArray⟩ else ⟨#[]⟩), .bool (okT l)]) ∧ Below w.heap.size w w' := by
  obtain ⟨ib, hib, hz0, hz1, hz2⟩ := info_parts infoStr
  obtain ⟨RT, hRT⟩ : ∃ x, Hid ((if okT l then (⟨(Lib.join ((textsT l).map (·.data.toList)) sep.data.toList).toArray⟩ : ByteArray) else ⟨#[]⟩) = x) := ⟨_, Lib.hid rfl⟩
  obtain ⟨OT, hOT⟩ : ∃ x, Hid (okT l = x) := ⟨_, Lib.hid rfl⟩
  rw [hRT.out, hOT.out]
  go_enter Tryd.func64, Tryd.ntmps64
  go_wp2_with fail
  go_loopw [8, 10, 11, 12, 15] (fun b _ _ _ i wr => ∃ (k : Nat), k ≤ l.length ∧ i = .int .i64 k ∧ Hid (okT (l.take k) = true) ∧ Hid (wr.ownsRow w.heap.size 9 1 b k ((textsT (l.take k)).map Value.string)) ∧ Hid (Below w.heap.size w wr)) (fun _ _ _ _ i _ => l.length - (intOf i).toNat)
  case atStart => exact ⟨0, Nat.zero_le _, rfl, Lib.hid rfl, Lib.hid (World.ownsRow_nil _ _ _ _), Lib.hid (Below.refl _ _)⟩
  case round =>
    obtain ⟨k, hk, rfl, hok, hown, hb⟩ := hrel
    by_cases hlt : k < l.length
    · obtain ⟨p, rfl, hc1, hc2⟩ := (ht.below hb.out).cells k l[k] (List.getElem?_eq_getElem hlt)
      generalize hxk : l[k] = x at hc1 hc2
      obtain ⟨xv, xs⟩ := x
      dsimp only at hc1 hc2
      have hxs : xs.size ≤ 1048576 := ht.size (xv, xs) (by rw [← hxk]; exact List.getElem_mem hlt)
      cases hx : termOk xv (bl xs) with
      | true =>
        have hr : termE xv (bl xs) = 0 := by unfold termE; rw [hx]; rfl
        have hpt := fun w => pt_Term xv xs w hxs
        rw [hr] at hpt
        have hok1 : Hid (okT (l.take (k + 1)) = true) := Lib.hid (by
          have := hok.out
          unfold okT at this ⊢
          rw [List.take_succ_eq_append_getElem hlt, List.all_append, this, hxk]; simp [hx])
        clear hx hr hok
        obtain ⟨va, vc, rfl, hva⟩ := own_slice hown.out
        clear hva
        have hlen := ht.len
        have h63 : Hid (k + 1 ≤ maxLen) := Lib.hid (by unfold maxLen; omega)
        have h64 : Hid ((k + 1) * 16 ≤ 140737488355328) := Lib.hid (by omega)
        go_wp2_with (first
          | (go_at_call 65; refine (hpt _).mono ?_; rintro e w2 ⟨rfl, hb2⟩; have hown2 := Lib.hid (own_below (hown.out.alloc _) hb2); replace hb2 := Lib.hid ((hb.out.al _).trans (hb2.mono (by rw [World.size_alloc]; have := hb.out.size; omega))))
          | (at_builtin; refine wpList_append_own _ rfl (.tmp 27) (.tmp 29) 68 rfl w.heap.size 9 ib (.string ⟨#[]⟩) 1 16 Tryd.underlying68 hib hz0 hz1 hz2 rfl (by decide) _ k _ rfl (hown2.out.alloc _) ⟨w2.heap.size, 0, none⟩ 1 1 [.string (mk (termL xv (bl xs)))] rfl rfl (own_cells_row rfl rfl) (by intro u hu; simp at hu; subst hu; rfl) h63.out h64.out (by rw [World.size_alloc]; have := hb2.out.size; omega) ?_))
        intro v3 w3 hown3 hgrow3 hv3
        have hb3 : Hid (Below w.heap.size w w3) := own_grown hown2.out hb2.out hgrow3
        have hown4 : Hid (w3.ownsRow w.heap.size 9 1 v3 (k + 1) ((textsT (l.take (k + 1))).map Value.string)) := Lib.hid (by
          rw [List.take_succ_eq_append_getElem hlt, textsT, List.map_append, List.map_append, hxk]; exact hown3)
        clear hown3 hgrow3 hv3
        go_wp2_with fail
        go_roundw
        case rel => exact ⟨k + 1, by omega, by go_num, hok1, hown4, hb3⟩
        case measure => simp [intOf]; omega
      | false =>
        have hr : termE xv (bl xs) = 2 := by unfold termE; rw [hx]; rfl
        have hpt := fun w => pt_Term xv xs w hxs
        rw [hr] at hpt
        have hR : Hid (RT = ByteArray.mk #[] ∧ OT = false) := Lib.hid (by
          have : okT l = false := by
            unfold okT; rw [List.all_eq_false]; exact ⟨l[k], List.getElem_mem hlt, by rw [hxk]; simp [hx]⟩
          rw [← hRT.out, ← hOT.out, this]; exact ⟨rfl, rfl⟩)
        clear hx hr hok
        go_wp2_with (go_at_call 65; refine (hpt _).mono ?_; rintro e w2 ⟨rfl, hb2⟩; replace hb2 := Lib.hid hb2)
        go_ret2
        rw [hR.out.1, hR.out.2]
        exact ⟨rfl, (hb.out.al _).trans (hb2.out.mono (by rw [World.size_alloc]; have := hb.out.size; omega))⟩
    · have hke : k = l.length := by omega
      subst hke
      rw [List.take_length] at hok hown
      have hR : Hid (RT = ⟨(Lib.join ((textsT l).map (·.data.toList)) sep.data.toList).toArray⟩ ∧ OT = true) := Lib.hid (by rw [← hRT.out, ← hOT.out, hok.out]; exact ⟨rfl, rfl⟩)
      have hjn := own_join hown.out (by rw [textsT, List.length_map]; exact ht.len) hsep (textsT_size l ht.size)
      rw [← hR.out.1] at hjn
      go_wp2_with (go_at_call 40; refine hjn.mono ?_; rintro e w2 ⟨rfl, hb2⟩; replace hb2 := Lib.hid hb2)
      go_ret2
      rw [hR.out.2]
      exact ⟨rfl, hb.out.trans (hb2.out.mono hb.out.size)⟩
end Go.Proofs.YtclioihichcpiaaDoor


/- Print: an atom. -/
namespace Go.Proofs.YtclioihichcpiaaDoor
open Go.RowKit Go.Shelf Lx
def commas (l : List (Bool × ByteArray)) : ByteArray := ⟨(Lib.join ((textsT l).map (·.data.toList)) [44, 32]).toArray⟩
def atomOk (p : ByteArray) (l : List (Bool × ByteArray)) : Bool := okT l && nameB (bl p) && decide (l.length ≤ 16)
def atomL (p : ByteArray) (l : List (Bool × ByteArray)) : ByteArray := if l.length = 0 then p else p ++ ⟨#[40]⟩ ++ commas l ++ ⟨#[41]⟩
def atomS (p : ByteArray) (l : List (Bool × ByteArray)) : ByteArray := if atomOk p l then atomL p l else ⟨#[]⟩
def atomE (p : ByteArray) (l : List (Bool × ByteArray)) : Int := if atomOk p l then 0 else 2
theorem Terms.new {w : World} {a : Option Addr} {l : List (Bool × ByteArray)} (h : Terms w a l) (ob : Obj) : Terms (w.alloc ob) a l := h.below ((Below.refl _ _).al _)
theorem commas_size (l : List (Bool × ByteArray)) (h : ∀ x ∈ l, x.2.size ≤ 1048576) (hn : l.length ≤ 16) : (commas l).size ≤ 134217760 := by
  have h1 := join_bound [44, 32] ((textsT l).map (·.data.toList)) 8388608 (by
    intro t ht
    obtain ⟨u, hu, rfl⟩ := List.mem_map.1 ht
    rw [Array.length_toList]; exact textsT_size l h u hu)
  rw [List.length_map, textsT, List.length_map] at h1
  have h2 : l.length * ([44, 32].length + 8388608) ≤ 16 * (2 + 8388608) := Nat.mul_le_mul hn (Nat.le_refl _)
  have h3 : (commas l).size = (Lib.join ((textsT l).map (·.data.toList)) [44, 32]).length := by show (Array.size _) = _; simp
  rw [h3]
  exact Nat.le_trans h1 (Nat.le_trans h2 (by decide))
set_option maxHeartbeats 1000000 in
set_option maxRecDepth 100000 in
theorem pt_Atom (p : ByteArray) (a : Option Addr) (l : List (Bool × ByteArray)) (cap : Nat) (w : World) (hp : p.size ≤ 1048576) (ht : Terms w a l) :
    Calls Tryd.prog 44 #[.agg #[.string p, .slice a l.length cap]] w fun e w' => e = .returned (.tuple #[.string (atomS p l), .int .i64 (atomE p l)]) ∧ Below w.heap.size w w' := by
  have hls := fun w ht => pt_listed_Term a l cap ⟨#[44, 32]⟩ w ht (by decide)
  cases ho : okT l with
  | false =>
    have hr : Hid (atomS p l = ⟨#[]⟩ ∧ atomE p l = 2) := Lib.hid (by unfold atomS atomE atomOk; rw [ho]; exact ⟨rfl, rfl⟩)
    rw [ho] at hls
    go_enter Tryd.func44, Tryd.ntmps44
    go_wp2_with (go_at_call 64; refine (hls _ (ht.new _)).mono ?_; rintro e w1 ⟨rfl, hb1⟩; obtain ⟨hc1, hc2⟩ := new_cells hb1; replace hb1 := Lib.hid hb1)
    go_ret2
    rw [hr.out.1, hr.out.2]
    exact ⟨rfl, ((Below.refl _ _).al _).trans (hb1.out.mono (by rw [World.size_alloc]; omega))⟩
  | true =>
    have hnm := fun w => lx_Name p w (by omega)
    rw [ho] at hls
    rw [if_pos rfl, show (⟨(Lib.join ((textsT l).map (·.data.toList)) [44, 32]).toArray⟩ : ByteArray) = commas l from rfl] at hls
    cases hn : nameB (bl p) with
    | false =>
      have hr : Hid (atomS p l = ⟨#[]⟩ ∧ atomE p l = 2) := Lib.hid (by unfold atomS atomE atomOk; rw [ho, hn]; exact ⟨rfl, rfl⟩)
      rw [hn] at hnm
      go_enter Tryd.func44, Tryd.ntmps44
      go_wp2_with (first
          | (go_at_call 64; refine (hls _ (ht.new _)).mono ?_; rintro e w1 ⟨rfl, hb1⟩; obtain ⟨hc1, hc2⟩ := new_cells hb1; replace hb1 := Lib.hid hb1)
          | (go_at_call 41; refine (hnm _).mono ?_; rintro e w' ⟨rfl, rfl⟩))
      go_ret2
      rw [hr.out.1, hr.out.2]
      exact ⟨rfl, ((Below.refl _ _).al _).trans (hb1.out.mono (by rw [World.size_alloc]; omega))⟩
    | true =>
      rw [hn] at hnm
      by_cases h16 : l.length ≤ 16
      · have hok : atomOk p l = true := by unfold atomOk; rw [ho, hn, decide_eq_true h16]; rfl
        by_cases h0 : l.length = 0
        · have hr : Hid (atomS p l = p ∧ atomE p l = 0) := Lib.hid (by unfold atomS atomE atomL; rw [hok, if_pos rfl, if_pos h0]; exact ⟨rfl, rfl⟩)
          clear hok
          rw [h0] at hls
          rw [h0]
          go_enter Tryd.func44, Tryd.ntmps44
          go_wp2_with (first
              | (go_at_call 64; refine (hls _ (ht.new _)).mono ?_; rintro e w1 ⟨rfl, hb1⟩; obtain ⟨hc1, hc2⟩ := new_cells hb1; replace hb1 := Lib.hid hb1)
              | (go_at_call 41; refine (hnm _).mono ?_; rintro e w' ⟨rfl, rfl⟩))
          go_ret2
          rw [hr.out.1, hr.out.2]
          exact ⟨rfl, ((Below.refl _ _).al _).trans (hb1.out.mono (by rw [World.size_alloc]; omega))⟩
        · have hr : Hid (atomS p l = p ++ ⟨#[40]⟩ ++ commas l ++ ⟨#[41]⟩ ∧ atomE p l = 0) := Lib.hid (by unfold atomS atomE atomL; rw [hok, if_pos rfl, if_neg h0]; exact ⟨rfl, rfl⟩)
          have hcs := commas_size l ht.size h16
          have h0' : ((l.length : Int) == 0) = false := by rw [beq_eq_false_iff_ne]; omega
          clear hok
          go_enter Tryd.func44, Tryd.ntmps44
          go_wp2_with (first
              | (go_at_call 64; refine (hls _ (ht.new _)).mono ?_; rintro e w1 ⟨rfl, hb1⟩; obtain ⟨hc1, hc2⟩ := new_cells hb1; replace hb1 := Lib.hid hb1)
              | (go_at_call 41; refine (hnm _).mono ?_; rintro e w' ⟨rfl, rfl⟩))
          go_ret2
          rw [hr.out.1, hr.out.2]
          exact ⟨rfl, ((Below.refl _ _).al _).trans (hb1.out.mono (by rw [World.size_alloc]; omega))⟩
      · have hr : Hid (atomS p l = ⟨#[]⟩ ∧ atomE p l = 2) := Lib.hid (by unfold atomS atomE atomOk; rw [ho, hn, decide_eq_false h16]; exact ⟨rfl, rfl⟩)
        go_enter Tryd.func44, Tryd.ntmps44
        go_wp2_with (first
            | (go_at_call 64; refine (hls _ (ht.new _)).mono ?_; rintro e w1 ⟨rfl, hb1⟩; obtain ⟨hc1, hc2⟩ := new_cells hb1; replace hb1 := Lib.hid hb1)
            | (go_at_call 41; refine (hnm _).mono ?_; rintro e w' ⟨rfl, rfl⟩))
        go_ret2
        rw [hr.out.1, hr.out.2]
        exact ⟨rfl, ((Below.refl _ _).al _).trans (hb1.out.mono (by rw [World.size_alloc]; omega))⟩
end Go.Proofs.YtclioihichcpiaaDoor


/- Print: a literal. -/
namespace Go.Proofs.YtclioihichcpiaaDoor
open Go.RowKit Go.Shelf Lx
/-- a literal -/
structure Lit where
  k : Int
  p : ByteArray
  a : List (Bool × ByteArray)
  l : Bool × ByteArray
  r : Bool × ByteArray
def zeroT (x : Bool × ByteArray) : Bool := !x.1 && decide (x.2.toList = [])
def litOk (x : Lit) : Bool :=
  if x.k = 3 then okT [x.l, x.r] && decide (x.p.toList = []) && decide (x.a.length = 0)
  else (decide (x.k = 1) || decide (x.k = 2)) && atomOk x.p x.a && (zeroT x.l && zeroT x.r)
def bothL (x y : Bool × ByteArray) : ByteArray := ⟨(Lib.join ((textsT [x, y]).map (·.data.toList)) [32, 33, 61, 32]).toArray⟩
def litL (x : Lit) : ByteArray :=
  if x.k = 3 then bothL x.l x.r
  else if x.k = 2 then ⟨#[110, 111, 116, 32]⟩ ++ atomL x.p x.a else atomL x.p x.a
def litS (x : Lit) : ByteArray := if litOk x then litL x else ⟨#[]⟩
def litE (x : Lit) : Int := if litOk x then 0 else 2
def litV (x : Lit) (a : Option Addr) (cap : Nat) : Array Value :=
  #[.int .i64 x.k, .string x.p, .slice a x.a.length cap, .bool x.l.1, .string x.l.2, .bool x.r.1, .string x.r.2]
theorem lit_no {x : Lit} (h : litOk x = false) : litS x = ⟨#[]⟩ ∧ litE x = 2 := by unfold litS litE; rw [h]; exact ⟨rfl, rfl⟩
theorem lit_yes {x : Lit} (h : litOk x = true) : litS x = litL x ∧ litE x = 0 := by unfold litS litE; rw [h]; exact ⟨rfl, rfl⟩
theorem nil_text {s : ByteArray} (h : s.toList = []) : s = ⟨#[]⟩ := by
  rw [ByteArray.toList_eq] at h
  cases s with | mk d => simp at h; rw [h]
theorem heap_second (w : World) (o1 o2 : Obj) : ((w.alloc o1).alloc o2).heap[w.heap.size + 1]? = some o2 := by
  have := heap_alloc_new (w.alloc o1) o2
  rwa [World.size_alloc] at this
theorem Terms.two {w : World} {b : Nat} {lv rv : Bool} {lt rt : ByteArray} {t : TypeId} (h : w.heap[b]? = some (.cells #[.bool lv, .string lt, .bool rv, .string rt] t)) (hl : lt.size ≤ 1048576) (hr : rt.size ≤ 1048576) : Terms w (some ⟨b, 0, none⟩) [(lv, lt), (rv, rt)] := by
  refine ⟨by simp, fun j x hj => ?_, by intro x hx; simp at hx; rcases hx with rfl | rfl <;> assumption⟩
  match j, hj with
  | 0, hj =>
    simp at hj; subst hj
    exact ⟨_, rfl, by simp [World.cell?, Addr.add, h], by simp [World.cell?, Addr.add, h]⟩
  | 1, hj =>
    simp at hj; subst hj
    exact ⟨_, rfl, by simp [World.cell?, Addr.add, h], by simp [World.cell?, Addr.add, h]⟩
set_option maxHeartbeats 1000000 in
set_option maxRecDepth 100000 in
theorem pt_Literal_3 (p : ByteArray) (a : Option Addr) (l : List (Bool × ByteArray)) (cap : Nat) (lv rv : Bool) (lt rt : ByteArray) (w : World) (hl : lt.size ≤ 1048576) (hr : rt.size ≤ 1048576) :
    Calls Tryd.prog 46 #[.agg #[.int .i64 3, .string p, .slice a l.length cap, .bool lv, .string lt, .bool rv, .string rt]] w fun e w' => e = .returned (.tuple #[.string (litS ⟨3, p, l, (lv, lt), (rv, rt)⟩), .int .i64 (litE ⟨3, p, l, (lv, lt), (rv, rt)⟩)]) ∧ Below w.heap.size w w' := by
  by_cases hp : p.toList = []
  · by_cases h0 : l.length = 0
    · have hls := fun a w ht => pt_listed_Term a [(lv, lt), (rv, rt)] 2 ⟨#[32, 33, 61, 32]⟩ w ht (by decide)
      have hpe := nil_text hp
      subst hpe
      have hle := List.eq_nil_of_length_eq_zero h0
      subst hle
      cases ho : okT [(lv, lt), (rv, rt)] with
      | true =>
        have hS : Hid (litS ⟨3, ⟨#[]⟩, [], (lv, lt), (rv, rt)⟩ = bothL (lv, lt) (rv, rt) ∧ litE ⟨3, ⟨#[]⟩, [], (lv, lt), (rv, rt)⟩ = 0) := Lib.hid (lit_yes (by unfold litOk; rw [if_pos rfl, ho]; show (true && decide ((⟨#[]⟩ : ByteArray).toList = []) && true) = true; rw [decide_eq_true hp]; rfl))
        rw [ho, if_pos rfl] at hls
        change ∀ a w, Terms w a [(lv, lt), (rv, rt)] → Calls _ _ _ w fun e w' => e = .returned (.tuple #[.string (bothL (lv, lt) (rv, rt)), .bool true]) ∧ Below w.heap.size w w' at hls
        generalize bothL (lv, lt) (rv, rt) = X at hls hS
        cases lv <;> cases rv
        all_goals go_enter Tryd.func46, Tryd.ntmps46
        all_goals go_wp2_with (go_at_call 64; refine (hls _ _ (Terms.two (heap_second _ _ _) hl hr)).mono ?_; rintro e w1 ⟨rfl, hb1⟩; replace hb1 := Lib.hid hb1)
        all_goals (go_ret2; rw [hS.out.1, hS.out.2]; exact ⟨rfl, (((Below.refl _ _).al _).al _).trans (hb1.out.mono (by rw [World.size_alloc, World.size_alloc]; omega))⟩)
      | false =>
        have hS : Hid (litS ⟨3, ⟨#[]⟩, [], (lv, lt), (rv, rt)⟩ = ⟨#[]⟩ ∧ litE ⟨3, ⟨#[]⟩, [], (lv, lt), (rv, rt)⟩ = 2) := Lib.hid (lit_no (by unfold litOk; rw [if_pos rfl, ho]; rfl))
        rw [ho] at hls
        cases lv <;> cases rv
        all_goals go_enter Tryd.func46, Tryd.ntmps46
        all_goals go_wp2_with (go_at_call 64; refine (hls _ _ (Terms.two (heap_second _ _ _) hl hr)).mono ?_; rintro e w1 ⟨rfl, hb1⟩; replace hb1 := Lib.hid hb1)
        all_goals (go_ret2; rw [hS.out.1, hS.out.2]; exact ⟨rfl, (((Below.refl _ _).al _).al _).trans (hb1.out.mono (by rw [World.size_alloc, World.size_alloc]; omega))⟩)
    · have hS : Hid (litS ⟨3, p, l, (lv, lt), (rv, rt)⟩ = ⟨#[]⟩ ∧ litE ⟨3, p, l, (lv, lt), (rv, rt)⟩ = 2) := Lib.hid (lit_no (by unfold litOk; simp [h0]))
      have h0' : 0 < l.length := by omega
      clear h0
      go_enter Tryd.func46, Tryd.ntmps46
      go_wp2_with fail
      all_goals (go_ret2; rw [hS.out.1, hS.out.2]; exact ⟨rfl, (Below.refl _ _).al _⟩)
  · have hS : Hid (litS ⟨3, p, l, (lv, lt), (rv, rt)⟩ = ⟨#[]⟩ ∧ litE ⟨3, p, l, (lv, lt), (rv, rt)⟩ = 2) := Lib.hid (lit_no (by unfold litOk; simp [hp]))
    go_enter Tryd.func46, Tryd.ntmps46
    go_wp2_with fail
    all_goals (go_ret2; rw [hS.out.1, hS.out.2]; exact ⟨rfl, (Below.refl _ _).al _⟩)
end Go.Proofs.YtclioihichcpiaaDoor
