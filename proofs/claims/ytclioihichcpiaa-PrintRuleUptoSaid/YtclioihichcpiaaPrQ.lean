/- Print: an atom, in the document. -/
import Derived.Test.YtclioihichcpiaaPrM
namespace Go.Proofs.Ytclioihichcpiaa
open Go.RowKit Go.Shelf Lx
theorem atom_cells {w w1 : World} {a b : Value} {t : TypeId} (hb : Below (w.alloc (.cells #[a, b] t)).heap.size (w.alloc (.cells #[a, b] t)) w1) : Below w.heap.size w w1 := ((Below.refl _ _).al _).trans (hb.mono (by rw [World.size_alloc]; omega))
theorem okT_take {l : List (Bool × ByteArray)} {k : Nat} (hlt : k < l.length) (h : okT (l.take k) = true) (hx : termOk l[k].1 (bl l[k].2) = true) : okT (l.take (k + 1)) = true := by
  unfold okT at h ⊢
  rw [List.take_succ_eq_append_getElem hlt, List.all_append, h]; simp [hx]
theorem okT_not {l : List (Bool × ByteArray)} {k : Nat} (hlt : k < l.length) (hx : termOk l[k].1 (bl l[k].2) = false) : okT l = false := by
  unfold okT; rw [List.all_eq_false]; exact ⟨l[k], List.getElem_mem hlt, by simp [hx]⟩
set_option maxHeartbeats 1000000 in
set_option maxRecDepth 100000 in
theorem rk_Atom (p : ByteArray) (a : Option Addr) (l : List (Bool × ByteArray)) (cap : Nat) (w : World) (hp : p.size ≤ 1048576) (ht : Terms w a l) :
    Calls Try.prog 36 #[.agg #[.string p, .slice a l.length cap]] w fun e w' => e = .returned (.bool (atomOk p l)) ∧ Below w.heap.size w w' := by
  have hnm := fun w => rp_Name p w (by omega)
  cases hn : nameB (bl p) with
  | false =>
    have hS : Hid (atomOk p l = false) := Lib.hid (by unfold atomOk; rw [hn, Bool.and_false, Bool.false_and])
    rw [hn] at hnm
    go_enter Try.func36, Try.ntmps36
    go_wp2_with (go_at_call 44; refine (hnm _).mono ?_; rintro e w' ⟨rfl, rfl⟩)
    go_ret
    rw [hS.out]
    exact ⟨rfl, (Below.refl _ _).al _⟩
  | true =>
    rw [hn] at hnm
    by_cases h16 : l.length ≤ 16
    · have hO : Hid (atomOk p l = okT l) := Lib.hid (by unfold atomOk; rw [hn, decide_eq_true h16, Bool.and_true, Bool.and_true])
      go_enter Try.func36, Try.ntmps36
      go_wp2_with (go_at_call 44; refine (hnm _).mono ?_; rintro e w' ⟨rfl, rfl⟩)
      go_loopw [3] (fun i wr => ∃ (k : Nat), k ≤ l.length ∧ i = .int .i64 k ∧ Hid (okT (l.take k) = true) ∧ Hid (Below (w.alloc (.cells #[.string p, .slice a l.length cap] 24)).heap.size (w.alloc (.cells #[.string p, .slice a l.length cap] 24)) wr)) (fun i _ => l.length - (intOf i).toNat)
      case atStart => exact ⟨0, Nat.zero_le _, rfl, Lib.hid rfl, Lib.hid (Below.refl _ _)⟩
      case round =>
        obtain ⟨k, hk, rfl, hok, hb⟩ := hrel
        obtain ⟨hc1, hc2⟩ := new_cells hb.out
        by_cases hlt : k < l.length
        · obtain ⟨q, rfl, hd1, hd2⟩ := ((ht.new _).below hb.out).cells k l[k] (List.getElem?_eq_getElem hlt)
          have hsz := ht.size l[k] (List.getElem_mem hlt)
          have hkT := fun w => rk_Term l[k].1 l[k].2 w hsz
          cases hx : termOk l[k].1 (bl l[k].2) with
          | true =>
            rw [hx] at hkT
            have hok' := Lib.hid (okT_take hlt hok.out hx)
            clear hx hok hsz
            generalize l[k] = x at hd1 hd2 hkT
            obtain ⟨xv, xs⟩ := x
            dsimp only at hd1 hd2 hkT
            go_wp2_with (go_at_call 39; refine (hkT _).mono ?_; rintro e w2 ⟨rfl, hb2⟩; replace hb2 := Lib.hid (hb.out.trans (hb2.mono hb.out.size)))
            go_roundw
            case rel => exact ⟨k + 1, by omega, by go_num, hok', hb2⟩
            case measure => simp [intOf]; omega
          | false =>
            rw [hx] at hkT
            have hS := Lib.hid (hO.out.trans (okT_not hlt hx))
            clear hx hok hsz
            generalize l[k] = x at hd1 hd2 hkT
            obtain ⟨xv, xs⟩ := x
            dsimp only at hd1 hd2 hkT
            go_wp2_with (go_at_call 39; refine (hkT _).mono ?_; rintro e w2 ⟨rfl, hb2⟩; replace hb2 := Lib.hid (hb.out.trans (hb2.mono hb.out.size)))
            go_ret
            rw [hS.out]
            exact ⟨rfl, atom_cells hb2.out⟩
        · have hke : k = l.length := by omega
          subst hke
          rw [List.take_length] at hok
          go_wp2_with fail
          go_ret
          rw [hO.out, hok.out]
          exact ⟨rfl, atom_cells hb.out⟩
    · have hS : Hid (atomOk p l = false) := Lib.hid (by unfold atomOk; rw [decide_eq_false h16, Bool.and_false])
      go_enter Try.func36, Try.ntmps36
      go_wp2_with (go_at_call 44; refine (hnm _).mono ?_; rintro e w' ⟨rfl, rfl⟩)
      go_ret
      rw [hS.out]
      exact ⟨rfl, (Below.refl _ _).al _⟩

theorem rq_term (v : Bool) (s : ByteArray) (w : World) (hs : s.size ≤ 1048576) (hx : termOk v (bl s) = true) :
    Calls Try.prog 40 #[.agg #[.bool v, .string s]] w fun e w' => e = .returned (.string (mk (termL v (bl s)))) ∧ Below w.heap.size w w' := by
  cases v with
  | true =>
    have e : mk (termL true (bl s)) = s := by unfold termL; rw [hx]; rfl
    rw [e]; exact rq_term_var s w
  | false =>
    have e : mk (termL false (bl s)) = mk (if bareB (bl s) then bl s else quoteL (bl s)) := by unfold termL; rw [hx]; rfl
    rw [e]; exact rq_term_const s w hs
theorem joinTail_snoc (sep y : List UInt8) (xs : List (List UInt8)) : Lib.joinTail sep (xs ++ [y]) = Lib.joinTail sep xs ++ (sep ++ y) := by
  induction xs with
  | nil => simp [Lib.joinTail]
  | cons x r ih => simp [Lib.joinTail] at ih ⊢
theorem join_snoc (sep y : List UInt8) (xs : List (List UInt8)) (h : xs ≠ []) : Lib.join (xs ++ [y]) sep = Lib.join xs sep ++ (sep ++ y) := by
  cases xs with
  | nil => exact absurd rfl h
  | cons x r => rw [List.cons_append, Lib.join_cons, Lib.join_cons, joinTail_snoc, List.append_assoc]
theorem join_one (sep y : List UInt8) : Lib.join [y] sep = y := by rw [Lib.join_cons]; simp [Lib.joinTail]
def part (p : ByteArray) (l : List (Bool × ByteArray)) (k : Nat) : ByteArray := if k = 0 then p else p ++ ⟨#[40]⟩ ++ commas (l.take k)
theorem part_one (p : ByteArray) (l : List (Bool × ByteArray)) (h : 0 < l.length) : part p l 1 = p ++ ⟨#[40]⟩ ++ mk (termL (l[0]).1 (bl (l[0]).2)) := by
  have e : l.take 1 = [l[0]] := by rw [List.take_succ_eq_append_getElem h]; rfl
  unfold part commas
  rw [if_neg (by omega), e, textsT, List.map_cons, List.map_cons, List.map_nil, List.map_nil, join_one]
theorem part_succ (p : ByteArray) (l : List (Bool × ByteArray)) (k : Nat) (hk : k < l.length) (h0 : ¬ k = 0) : part p l (k + 1) = part p l k ++ ⟨#[44, 32]⟩ ++ mk (termL (l[k]).1 (bl (l[k]).2)) := by
  have e : commas (l.take (k + 1)) = commas (l.take k) ++ (⟨#[44, 32]⟩ ++ mk (termL (l[k]).1 (bl (l[k]).2))) := by
    have bl_append : ∀ a b : ByteArray, bl (a ++ b) = bl a ++ bl b := fun a b => by show (a ++ b).data.toList = _; rw [ByteArray.data_append, Array.toList_append]
    apply bl_inj
    rw [bl_append, bl_append]
    unfold commas
    rw [List.take_succ_eq_append_getElem hk, textsT, List.map_append, List.map_append]
    show (Lib.join _ _).toArray.toList = (Lib.join _ _).toArray.toList ++ _
    rw [List.toList_toArray, List.toList_toArray]
    refine (join_snoc _ _ _ ?_).trans rfl
    intro h
    have := congrArg List.length h
    rw [List.length_map, List.length_map, List.length_take, Nat.min_eq_left (by omega)] at this
    exact h0 this
  unfold part
  rw [if_neg (by omega), if_neg h0, e, ByteArray.append_assoc, ByteArray.append_assoc, ByteArray.append_assoc, ByteArray.append_assoc]
theorem part_all (p : ByteArray) (l : List (Bool × ByteArray)) (h : 0 < l.length) : part p l l.length ++ ⟨#[41]⟩ = atomL p l := by
  unfold part atomL
  rw [if_neg (by omega), if_neg (by omega), List.take_length]
theorem part_size (p : ByteArray) (l : List (Bool × ByteArray)) (k : Nat) (hp : p.size ≤ 1048576) (hl : l.length ≤ 16) : (part p l k).size ≤ 1572864 := by
  unfold part
  split
  · omega
  · have := commas_small (l.take k) (by rw [List.length_take]; omega)
    rw [ByteArray.size_append, ByteArray.size_append]
    show p.size + 1 + _ ≤ _
    omega
theorem termL_size (v : Bool) (l : Bs) : (mk (termL v l)).size ≤ 8192 := by
  have := termL_small v l
  show (termL v l).toArray.size ≤ _
  simpa using this
set_option maxHeartbeats 1000000 in
set_option maxRecDepth 100000 in
theorem rq_atom (p : ByteArray) (a : Option Addr) (l : List (Bool × ByteArray)) (cap : Nat) (w : World) (hp : p.size ≤ 1048576) (ht : Terms w a l) (h16 : l.length ≤ 16) (ho : okT l = true) :
    Calls Try.prog 37 #[.agg #[.string p, .slice a l.length cap]] w fun e w' => e = .returned (.string (atomL p l)) ∧ Below w.heap.size w w' := by
  have hps := part_size p l
  go_enter Try.func37, Try.ntmps37
  go_wp2_with fail
  go_loopw [3, 4] (fun s i wr => ∃ (k : Nat), k ≤ l.length ∧ i = .int .i64 k ∧ s = .string (part p l k) ∧ Hid (Below (w.alloc (.cells #[.string p, .slice a l.length cap] 24)).heap.size (w.alloc (.cells #[.string p, .slice a l.length cap] 24)) wr)) (fun _ i _ => l.length - (intOf i).toNat)
  case atStart => exact ⟨0, Nat.zero_le _, rfl, rfl, Lib.hid (Below.refl _ _)⟩
  case round =>
    obtain ⟨k, hk, rfl, rfl, hb⟩ := hrel
    obtain ⟨hc1, hc2⟩ := new_cells hb.out
    by_cases hlt : k < l.length
    · obtain ⟨q, rfl, hd1, hd2⟩ := ((ht.new _).below hb.out).cells k l[k] (List.getElem?_eq_getElem hlt)
      have hsz := ht.size l[k] (List.getElem_mem hlt)
      have hx : termOk l[k].1 (bl l[k].2) = true := by
        unfold okT at ho; exact List.all_eq_true.1 ho _ (List.getElem_mem hlt)
      have hkT := fun w => rq_term l[k].1 l[k].2 w hsz hx
      have htz := termL_size l[k].1 (bl l[k].2)
      have hpz := hps k hp h16
      by_cases h0 : k = 0
      · subst h0
        have hS := Lib.hid (part_one p l hlt)
        have hP : part p l 0 = p := rfl
        rw [hP]
        rw [show q.add (0 * 2) = q from rfl] at hd1 hd2
        clear hx hsz ho hps hpz hP
        generalize mk (termL l[0].1 (bl l[0].2)) = T at hkT htz hS
        generalize l[0] = x at hd1 hd2 hkT
        obtain ⟨xv, xs⟩ := x
        dsimp only at hd1 hd2 hkT
        go_wp2_with (go_at_call 40; refine (hkT _).mono ?_; rintro e w2 ⟨rfl, hb2⟩; replace hb2 := Lib.hid (hb.out.trans (hb2.mono hb.out.size)))
        go_roundw
        case rel => exact ⟨1, by omega, by go_num, by rw [hS.out], hb2⟩
        case measure => simp [intOf]; omega
      · have hS := Lib.hid (part_succ p l k hlt h0)
        have h0' : ((k : Int) == 0) = false := by rw [beq_eq_false_iff_ne]; omega
        clear hx hsz ho hps h0
        generalize mk (termL l[k].1 (bl l[k].2)) = T at hkT htz hS
        generalize part p l k = S at hpz hS ⊢
        generalize l[k] = x at hd1 hd2 hkT
        obtain ⟨xv, xs⟩ := x
        dsimp only at hd1 hd2 hkT
        go_wp2_with (go_at_call 40; refine (hkT _).mono ?_; rintro e w2 ⟨rfl, hb2⟩; replace hb2 := Lib.hid (hb.out.trans (hb2.mono hb.out.size)))
        go_roundw
        case rel => exact ⟨k + 1, by omega, by go_num, by rw [hS.out], hb2⟩
        case measure => simp [intOf]; omega
    · have hke : k = l.length := by omega
      subst hke
      by_cases h0 : l.length = 0
      · have hS : Hid (part p l l.length = atomL p l) := Lib.hid (by unfold part atomL; rw [if_pos h0, if_pos h0])
        rw [hS.out, h0]
        rw [h0] at hc2
        clear hps
        go_wp2_with fail
        go_ret
        exact ⟨rfl, atom_cells hb.out⟩
      · have hS := Lib.hid (part_all p l (by omega))
        have hpz := hps l.length hp h16
        have h0' : 0 < l.length := by omega
        clear hps h0
        generalize part p l l.length = S at hS hpz ⊢
        go_wp2_with fail
        go_ret
        rw [← hS.out]
        exact ⟨rfl, atom_cells hb.out⟩
end Go.Proofs.Ytclioihichcpiaa
