/- Print: a rule, in the document. -/
import Derived.Test.YtclioihichcpiaaPrR
namespace Go.Proofs.Ytclioihichcpiaa
open Go.RowKit Go.Shelf Lx
theorem okL_take {l : List Lit} {k : Nat} (hlt : k < l.length) (h : okL (l.take k) = true) (hx : litOk l[k] = true) : okL (l.take (k + 1)) = true := by
  unfold okL at h ⊢
  rw [List.take_succ_eq_append_getElem hlt, List.all_append, h]; simp [hx]
theorem okL_not {l : List Lit} {k : Nat} (hlt : k < l.length) (hx : litOk l[k] = false) : okL l = false := by
  unfold okL; rw [List.all_eq_false]; exact ⟨l[k], List.getElem_mem hlt, by simp [hx]⟩
/-- the room of a rule's own block -/
abbrev ruleB (h : ByteArray) (a : Option Addr) (l : List (Bool × ByteArray)) (cap : Nat) (ba : Option Addr) (b : List Lit) (bcap : Nat) : Obj := .cells #[.string h, .slice a l.length cap, .slice ba b.length bcap] 27
set_option maxHeartbeats 1000000 in
set_option maxRecDepth 100000 in
theorem rk_Rule (h : ByteArray) (a : Option Addr) (l : List (Bool × ByteArray)) (cap : Nat) (ba : Option Addr) (b : List Lit) (bcap : Nat) (w : World) (hh : h.size ≤ 1048576) (ht : Terms w a l) (hb : Lits w ba b) :
    Calls Try.prog 23 #[.agg #[.string h, .slice a l.length cap, .slice ba b.length bcap]] w fun e w' => e = .returned (.bool (ruleOk ⟨h, l, b⟩)) ∧ Below w.heap.size w w' := by
  have hk := fun w ht => rk_Atom h a l cap w hh ht
  cases ha : atomOk h l with
  | false =>
    have hS : Hid (ruleOk ⟨h, l, b⟩ = false) := Lib.hid (by unfold ruleOk; dsimp only; rw [ha, Bool.false_and, Bool.false_and])
    rw [ha] at hk
    go_enter Try.func23, Try.ntmps23
    go_wp2_with (go_at_call 36; refine (hk _ (ht.new _)).mono ?_; rintro e w1 ⟨rfl, hb1⟩; obtain ⟨hc1, hc2, hc3⟩ := new_cells3 hb1; replace hb1 := Lib.hid hb1)
    go_ret
    rw [hS.out]
    exact ⟨rfl, one_cell hb1.out⟩
  | true =>
    rw [ha] at hk
    by_cases h256 : b.length ≤ 256
    · have hO : Hid (ruleOk ⟨h, l, b⟩ = okL b) := Lib.hid (by unfold ruleOk; dsimp only; rw [ha, decide_eq_true h256, Bool.and_true, Bool.true_and])
      clear ha
      go_enter Try.func23, Try.ntmps23
      go_wp2_with (go_at_call 36; refine (hk _ (ht.new _)).mono ?_; rintro e w1 ⟨rfl, hb1⟩; obtain ⟨hc1, hc2, hc3⟩ := new_cells3 hb1; replace hb1 := Lib.hid hb1)
      go_loopw [3] (fun i wr => ∃ (k : Nat), k ≤ b.length ∧ i = .int .i64 k ∧ Hid (okL (b.take k) = true) ∧ Hid (Below (w.alloc (ruleB h a l cap ba b bcap)).heap.size (w.alloc (ruleB h a l cap ba b bcap)) wr)) (fun i _ => b.length - (intOf i).toNat)
      case atStart => exact ⟨0, Nat.zero_le _, rfl, Lib.hid rfl, hb1⟩
      case round =>
        obtain ⟨k, hkk, rfl, hok, hbw⟩ := hrel
        obtain ⟨hc4, hc5, hc6⟩ := new_cells3 hbw.out
        by_cases hlt : k < b.length
        · obtain ⟨q, ad, acap, rfl, hd1, hd2, hd3, hd4, hd5, hd6, hd7, hat⟩ := ((hb.new _).below hbw.out).cells k b[k] (List.getElem?_eq_getElem hlt)
          obtain ⟨hz1, hz2, hz3⟩ := hb.size b[k] (List.getElem_mem hlt)
          have hLk := rk_Literal b[k] ad acap
          have hkT := fun w ht => hLk w hz1 ht hz2 hz3
          clear hLk
          cases hx : litOk b[k] with
          | true =>
            rw [hx] at hkT
            have hok' := Lib.hid (okL_take hlt hok.out hx)
            clear hx hok hz1 hz2 hz3
            generalize b[k] = x at hd1 hd2 hd3 hd4 hd5 hd6 hd7 hat hkT
            obtain ⟨xk, xp, xa, ⟨xlv, xlt⟩, ⟨xrv, xrt⟩⟩ := x
            unfold litV at hkT
            dsimp only at hd1 hd2 hd3 hd4 hd5 hd6 hd7 hat hkT
            go_wp2_with (go_at_call 33; refine (hkT _ hat).mono ?_; rintro e w2 ⟨rfl, hb2⟩; replace hb2 := Lib.hid (hbw.out.trans (hb2.mono hbw.out.size)))
            go_roundw
            case rel => exact ⟨k + 1, by omega, by go_num, hok', hb2⟩
            case measure => simp [intOf]; omega
          | false =>
            rw [hx] at hkT
            have hS := Lib.hid (hO.out.trans (okL_not hlt hx))
            clear hx hok hz1 hz2 hz3
            generalize b[k] = x at hd1 hd2 hd3 hd4 hd5 hd6 hd7 hat hkT
            obtain ⟨xk, xp, xa, ⟨xlv, xlt⟩, ⟨xrv, xrt⟩⟩ := x
            unfold litV at hkT
            dsimp only at hd1 hd2 hd3 hd4 hd5 hd6 hd7 hat hkT
            go_wp2_with (go_at_call 33; refine (hkT _ hat).mono ?_; rintro e w2 ⟨rfl, hb2⟩; replace hb2 := Lib.hid (hbw.out.trans (hb2.mono hbw.out.size)))
            go_ret
            rw [hS.out]
            exact ⟨rfl, one_cell hb2.out⟩
        · have hke : k = b.length := by omega
          subst hke
          rw [List.take_length] at hok
          go_wp2_with fail
          go_ret
          rw [hO.out, hok.out]
          exact ⟨rfl, one_cell hbw.out⟩
    · have hS : Hid (ruleOk ⟨h, l, b⟩ = false) := Lib.hid (by unfold ruleOk; dsimp only; rw [decide_eq_false h256, Bool.and_false])
      clear ha
      go_enter Try.func23, Try.ntmps23
      go_wp2_with (go_at_call 36; refine (hk _ (ht.new _)).mono ?_; rintro e w1 ⟨rfl, hb1⟩; obtain ⟨hc1, hc2, hc3⟩ := new_cells3 hb1; replace hb1 := Lib.hid hb1)
      go_ret
      rw [hS.out]
      exact ⟨rfl, one_cell hb1.out⟩
def partL (h : ByteArray) (l : List (Bool × ByteArray)) (b : List Lit) (k : Nat) : ByteArray := if k = 0 then atomL h l else atomL h l ++ (⟨#[32, 58, 45, 32]⟩ ++ commasL (b.take k))
theorem partL_one (h : ByteArray) (l : List (Bool × ByteArray)) (b : List Lit) (hb : 0 < b.length) : partL h l b 1 = atomL h l ++ ⟨#[32, 58, 45, 32]⟩ ++ litS b[0] := by
  have e : b.take 1 = [b[0]] := by rw [List.take_succ_eq_append_getElem hb]; rfl
  unfold partL commasL
  rw [if_neg (by omega), e, textsL, List.map_cons, List.map_cons, List.map_nil, List.map_nil, join_one, ByteArray.append_assoc]
theorem partL_succ (h : ByteArray) (l : List (Bool × ByteArray)) (b : List Lit) (k : Nat) (hk : k < b.length) (h0 : ¬ k = 0) : partL h l b (k + 1) = partL h l b k ++ ⟨#[44, 32]⟩ ++ litS b[k] := by
  have e : commasL (b.take (k + 1)) = commasL (b.take k) ++ (⟨#[44, 32]⟩ ++ litS b[k]) := by
    have bl_append : ∀ a b : ByteArray, bl (a ++ b) = bl a ++ bl b := fun a b => by show (a ++ b).data.toList = _; rw [ByteArray.data_append, Array.toList_append]
    apply bl_inj
    rw [bl_append, bl_append]
    unfold commasL
    rw [List.take_succ_eq_append_getElem hk, textsL, List.map_append, List.map_append]
    show (Lib.join _ _).toArray.toList = (Lib.join _ _).toArray.toList ++ _
    rw [List.toList_toArray, List.toList_toArray]
    refine (join_snoc _ _ _ ?_).trans rfl
    intro h
    have := congrArg List.length h
    rw [List.length_map, List.length_map, List.length_take, Nat.min_eq_left (by omega)] at this
    exact h0 this
  unfold partL
  rw [if_neg (by omega), if_neg h0, e]
  simp only [ByteArray.append_assoc]
theorem partL_all (h : ByteArray) (l : List (Bool × ByteArray)) (b : List Lit) : partL h l b b.length ++ ⟨#[46]⟩ = ruleL ⟨h, l, b⟩ := by
  unfold partL ruleL
  dsimp only
  by_cases h0 : b.length = 0
  · rw [if_pos h0, if_pos h0]
  · rw [if_neg h0, if_neg h0, List.take_length]
theorem partL_size (h : ByteArray) (l : List (Bool × ByteArray)) (b : List Lit) (k : Nat) (hh : h.size ≤ 1048576) (ha : atomOk h l = true) (hb : ∀ x ∈ b, x.p.size ≤ 1048576) (h256 : b.length ≤ 256) : (partL h l b k).size ≤ 1075839500 := by
  have h1 := atom_small h l hh ha
  unfold partL
  split
  · omega
  · have := commasL_size (b.take k) (fun x hx => hb x (List.mem_of_mem_take hx)) (by rw [List.length_take]; omega)
    rw [ByteArray.size_append, ByteArray.size_append]
    show _ + (4 + _) ≤ _
    omega
set_option maxHeartbeats 1000000 in
set_option maxRecDepth 100000 in
theorem rq_rule (h : ByteArray) (a : Option Addr) (l : List (Bool × ByteArray)) (cap : Nat) (ba : Option Addr) (b : List Lit) (bcap : Nat) (w : World) (hh : h.size ≤ 1048576) (ht : Terms w a l) (hb : Lits w ba b) (hok : ruleOk ⟨h, l, b⟩ = true) :
    Calls Try.prog 31 #[.agg #[.string h, .slice a l.length cap, .slice ba b.length bcap]] w fun e w' => e = .returned (.string (ruleL ⟨h, l, b⟩)) ∧ Below w.heap.size w w' := by
  have hok3 : atomOk h l = true ∧ okL b = true ∧ b.length ≤ 256 := by unfold ruleOk at hok; simp at hok; exact ⟨hok.1.1, hok.1.2, hok.2⟩
  obtain ⟨ha, hol, h256⟩ := hok3
  clear hok
  have hk := fun w ht => rq_atom h a l cap w hh ht (by unfold atomOk at ha; simp at ha; omega) (by unfold atomOk at ha; simp at ha; exact ha.1.1)
  have hsz := atom_small h l hh ha
  have hps := fun k => partL_size h l b k hh ha (fun x hx => (hb.size x hx).1) h256
  have hpa := Lib.hid (partL_all h l b)
  have hp0 : atomL h l = partL h l b 0 := rfl
  rw [hp0] at hk hsz
  go_enter Try.func31, Try.ntmps31
  go_wp2_with (go_at_call 37; refine (hk _ (ht.new _)).mono ?_; rintro e w1 ⟨rfl, hb1⟩; obtain ⟨hc1, hc2, hc3⟩ := new_cells3 hb1; replace hb1 := Lib.hid hb1)
  go_loopw [3, 4] (fun s i wr => ∃ (k : Nat), k ≤ b.length ∧ i = .int .i64 k ∧ s = .string (partL h l b k) ∧ Hid (Below (w.alloc (ruleB h a l cap ba b bcap)).heap.size (w.alloc (ruleB h a l cap ba b bcap)) wr)) (fun _ i _ => b.length - (intOf i).toNat)
  case atStart => exact ⟨0, Nat.zero_le _, rfl, rfl, hb1⟩
  case round =>
    obtain ⟨k, hkk, rfl, rfl, hbw⟩ := hrel
    obtain ⟨hc4, hc5, hc6⟩ := new_cells3 hbw.out
    by_cases hlt : k < b.length
    · obtain ⟨q, ad, acap, rfl, hd1, hd2, hd3, hd4, hd5, hd6, hd7, hat⟩ := ((hb.new _).below hbw.out).cells k b[k] (List.getElem?_eq_getElem hlt)
      obtain ⟨hz1, hz2, hz3⟩ := hb.size b[k] (List.getElem_mem hlt)
      have hx : litOk b[k] = true := by
        unfold okL at hol; exact List.all_eq_true.1 hol _ (List.getElem_mem hlt)
      have hLk := rq_literal b[k] ad acap
      have hkT := fun w ht => hLk w hz1 ht hz2 hz3 hx
      clear hLk
      have htz := litS_size b[k] hz1
      have hSL : litS b[k] = litL b[k] := (lit_yes hx).1
      rw [← hSL] at hkT
      have hpz := hps k
      clear hSL
      by_cases h0 : k = 0
      · subst h0
        have hS := Lib.hid (partL_one h l b hlt)
        rw [hp0] at hS
        rw [show q.add (0 * 7) = q from rfl] at hd1 hd2 hd3 hd4 hd5 hd6 hd7
        clear hx hz1 hz2 hz3 hol hps hp0 hsz
        generalize litS b[0] = T at hkT htz hS
        generalize partL h l b 0 = S at hpz hS ⊢
        generalize b[0] = x at hd1 hd2 hd3 hd4 hd5 hd6 hd7 hat hkT
        obtain ⟨xk, xp, xa, ⟨xlv, xlt⟩, ⟨xrv, xrt⟩⟩ := x
        unfold litV at hkT
        dsimp only at hd1 hd2 hd3 hd4 hd5 hd6 hd7 hat hkT
        go_wp2_with (go_at_call 34; refine (hkT _ hat).mono ?_; rintro e w2 ⟨rfl, hb2⟩; replace hb2 := Lib.hid (hbw.out.trans (hb2.mono hbw.out.size)))
        go_roundw
        case rel => exact ⟨1, by omega, by go_num, by rw [hS.out], hb2⟩
        case measure => simp [intOf]; omega
      · have hS := Lib.hid (partL_succ h l b k hlt h0)
        have h0' : ((k : Int) == 0) = false := by rw [beq_eq_false_iff_ne]; omega
        clear hx hz1 hz2 hz3 hol hps h0 hp0 hsz
        generalize litS b[k] = T at hkT htz hS
        generalize partL h l b k = S at hpz hS ⊢
        generalize b[k] = x at hd1 hd2 hd3 hd4 hd5 hd6 hd7 hat hkT
        obtain ⟨xk, xp, xa, ⟨xlv, xlt⟩, ⟨xrv, xrt⟩⟩ := x
        unfold litV at hkT
        dsimp only at hd1 hd2 hd3 hd4 hd5 hd6 hd7 hat hkT
        go_wp2_with (go_at_call 34; refine (hkT _ hat).mono ?_; rintro e w2 ⟨rfl, hb2⟩; replace hb2 := Lib.hid (hbw.out.trans (hb2.mono hbw.out.size)))
        go_roundw
        case rel => exact ⟨k + 1, by omega, by go_num, by rw [hS.out], hb2⟩
        case measure => simp [intOf]; omega
    · have hke : k = b.length := by omega
      subst hke
      have hpz := hps b.length
      clear hps hp0 hsz
      generalize partL h l b b.length = S at hpa hpz ⊢
      go_wp2_with fail
      go_ret
      rw [← hpa.out]
      exact ⟨rfl, one_cell hbw.out⟩
set_option maxHeartbeats 1000000 in
set_option maxRecDepth 100000 in
theorem rq_Rule (h : ByteArray) (a : Option Addr) (l : List (Bool × ByteArray)) (cap : Nat) (ba : Option Addr) (b : List Lit) (bcap : Nat) (w : World) (hh : h.size ≤ 1048576) (ht : Terms w a l) (hb : Lits w ba b) :
    Calls Try.prog 9 #[.agg #[.string h, .slice a l.length cap, .slice ba b.length bcap]] w fun e w' => e = .returned (.tuple #[.string (ruleS ⟨h, l, b⟩), .int .i64 (ruleE ⟨h, l, b⟩)]) ∧ Below w.heap.size w w' := by
  have hk := fun w ht hb => rk_Rule h a l cap ba b bcap w hh ht hb
  cases ho : ruleOk ⟨h, l, b⟩ with
  | false =>
    have hS := Lib.hid (rule_no ho)
    rw [ho] at hk
    go_enter Try.func9, Try.ntmps9
    go_wp2_with (go_at_call 23; refine (hk _ (ht.new _) (hb.new _)).mono ?_; rintro e w1 ⟨rfl, hb1⟩; replace hb1 := Lib.hid hb1)
    go_ret2
    rw [hS.out.1, hS.out.2]
    exact ⟨rfl, one_cell hb1.out⟩
  | true =>
    have hS := Lib.hid (rule_yes ho)
    have hq := fun w ht hb => rq_rule h a l cap ba b bcap w hh ht hb ho
    rw [ho] at hk
    generalize ruleL ⟨h, l, b⟩ = X at hS hq
    go_enter Try.func9, Try.ntmps9
    go_wp2_with (first
      | (go_at_call 31; refine (hq _ ((ht.new _).below hb1.out) ((hb.new _).below hb1.out)).mono ?_; rintro e w2 ⟨rfl, hb2⟩; replace hb2 := Lib.hid (hb1.out.trans (hb2.mono hb1.out.size)))
      | (go_at_call 23; refine (hk _ (ht.new _) (hb.new _)).mono ?_; rintro e w1 ⟨rfl, hb1⟩; obtain ⟨hc1, hc2, hc3⟩ := new_cells3 hb1; replace hb1 := Lib.hid hb1))
    go_ret2
    rw [hS.out.1, hS.out.2]
    exact ⟨rfl, one_cell hb2.out⟩
end Go.Proofs.Ytclioihichcpiaa
