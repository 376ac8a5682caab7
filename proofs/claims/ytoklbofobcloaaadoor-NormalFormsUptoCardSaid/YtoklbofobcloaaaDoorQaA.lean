/- Normal: the document's place, one. -/
import Derived.Test.YtoklbofobcloaaaDoorNmO
import Derived.Deep.Cut
import Derived.Laws.IdiomStrings
namespace Go.Proofs.YtoklbofobcloaaaDoor
open Go.RowKit Go.Sort Go.Shelf
set_option linter.unusedVariables false
/-- where a text first stands -/
def Plc (l : List ByteArray) (s : ByteArray) (z : Int) : Prop := (∃ i : Nat, l[i]? = some s ∧ (∀ j, j < i → l[j]? ≠ some s) ∧ z = i) ∨ (s ∉ l ∧ z = -1)
theorem find1_at : ∀ (names : List ByteArray) (terms : List Tm) (s : ByteArray) (i : Nat), names[i]? = some s → (∀ j, j < i → names[j]? ≠ some s) → find1 names terms s = terms[i]?
  | [], _, _, _, h, _ => by simp at h
  | n :: ns, ts, s, 0, h, _ => by
    have : n = s := by simpa using h
    unfold find1
    rw [if_pos this]
    cases ts <;> rfl
  | n :: ns, ts, s, i + 1, h, hj => by
    have hn : ¬ n = s := fun e => hj 0 (by omega) (by rw [e]; rfl)
    unfold find1
    rw [if_neg hn, find1_at ns ts.tail s i (by simpa using h) (fun j hji e => hj (j + 1) (by omega) (by simpa using e))]
    cases ts <;> simp
theorem strB_eq (a b : ByteArray) : (a.toList == b.toList) = decide (a = b) := by
  rw [Bool.eq_iff_iff]
  simp only [beq_iff_eq, decide_eq_true_eq]
  exact ⟨fun h => toList_ext h, fun h => by rw [h]⟩
set_option maxHeartbeats 2000000 in
set_option maxRecDepth 100000 in
theorem rn_place (na : Option Addr) (nc : Nat) (l : List ByteArray) (s : ByteArray) (w : World) (hn : Txts w na l) :
    Calls Tryd.prog 37 #[.slice na l.length nc, .string s] w fun e w' => ∃ z, e = .returned (.int .i64 z) ∧ Plc l s z ∧ w = w' := by
  have hlen := hn.len
  replace hn := Lib.hid hn
  go_enter Tryd.func37, Tryd.ntmps37
  go_wp2
  go_loopw [5] (fun v5 wr => ∃ k : Nat, v5 = .int .i64 k ∧ k ≤ l.length ∧ (∀ j, j < k → l[j]? ≠ some s) ∧ wr = w) (fun v5 wr => l.length - (intOf v5).toNat)
  case atStart => exact ⟨0, rfl, Nat.zero_le _, fun j hj => by omega, rfl⟩
  case round =>
    obtain ⟨k, rfl, hk, hno, rfl⟩ := hrel
    have hq0 : (0 : Int) ≤ (k : Int) := Int.natCast_nonneg _
    by_cases hlt : k < l.length
    · have hq1 : (k : Int) < (l.length : Int) := by omega
      obtain ⟨x, ex⟩ : ∃ x, l[k]? = some x := ⟨_, List.getElem?_eq_getElem hlt⟩
      obtain ⟨q, rfl, hc⟩ := hn.out.cells k x ex
      by_cases hx : x = s
      · subst hx
        have hfin : Hid (Plc l x (k : Int)) := Lib.hid (.inl ⟨k, ex, hno, rfl⟩)
        clear hno ex
        go_wp2
        go_ret
        exact ⟨_, rfl, hfin.out, rfl⟩
      · have hno2 : Hid (∀ j, j < k + 1 → l[j]? ≠ some s) := Lib.hid (fun j hj e => by
          by_cases hjk : j < k
          · exact hno j hjk e
          · have : j = k := by omega
            subst this
            rw [ex] at e
            injection e with e
            exact hx e)
        have hx2 : (x.toList == s.toList) = false := by rw [strB_eq]; simp [hx]
        clear hno ex
        go_wp2
        go_roundw
        case rel => exact ⟨k + 1, by go_num, by omega, hno2.out, trivial⟩
        case measure => simp [intOf]; omega
    · have hq1 : ¬ (k : Int) < (l.length : Int) := by omega
      have hfin : Hid (Plc l s (-1)) := Lib.hid (.inr ⟨fun h => by
        obtain ⟨j, hj, e⟩ := List.mem_iff_getElem.1 h
        exact hno j (by omega) (by rw [List.getElem?_eq_getElem hj, e]), rfl⟩)
      clear hno
      go_wp2
      go_ret
      exact ⟨_, rfl, hfin.out, rfl⟩
theorem one1_var {names : List ByteArray} {terms : List Tm} {s : ByteArray} {z : Int} (h : Plc names s z) : (0 ≤ z ∧ z < terms.length → ∃ i : Nat, z = i ∧ terms[i]? = some (one1 names terms (true, s))) ∧ (¬ (0 ≤ z ∧ z < terms.length) → one1 names terms (true, s) = (true, s)) := by
  rcases h with ⟨i, hi, hj, rfl⟩ | ⟨hs, rfl⟩
  · have hf := find1_at names terms s i hi hj
    refine ⟨fun ⟨_, h2⟩ => ⟨i, rfl, ?_⟩, fun h2 => ?_⟩
    · have hlt : i < terms.length := by omega
      unfold one1
      rw [if_pos rfl, hf, List.getElem?_eq_getElem hlt]
      rfl
    · have hlt : terms.length ≤ i := by omega
      unfold one1
      rw [if_pos rfl, hf, List.getElem?_eq_none hlt]
      rfl
  · refine ⟨fun ⟨h2, _⟩ => by omega, fun _ => ?_⟩
    unfold one1
    rw [if_pos rfl, find1_none hs]
    rfl
end Go.Proofs.YtoklbofobcloaaaDoor


/- Normal: the document's one: a term, put. -/
namespace Go.Proofs.YtoklbofobcloaaaDoor
open Go.RowKit Go.Sort Go.Shelf
set_option linter.unusedVariables false
theorem pr_sizeTm : (Tryd.prog.info? 33).map (fun i => i.size) = some 2 := by kernel_rfl
theorem one_stored (w : World) (o : Obj) (x y : Value) : ∃ V, V = (w.alloc o).alloc (.cells #[x, y] 33) ∧ V.heap[w.heap.size + 1]? = some (.cells #[x, y] 33) ∧ Below w.heap.size w V :=
  ⟨_, rfl, k_second _ _ _, ((Below.refl w.heap.size w).al _).al _⟩
set_option maxHeartbeats 2000000 in
set_option maxRecDepth 100000 in
theorem rn_one (v : Bool) (s : ByteArray) (na ta : Option Addr) (nc tc : Nat) (names : List ByteArray) (terms : List Tm) (w : World) (hn : Txts w na names) (ht : Terms w ta terms) :
    Calls Tryd.prog 47 #[.agg #[.bool v, .string s], .slice na names.length nc, .slice ta terms.length tc] w fun e w' => e = .returned (tmV (one1 names terms (v, s))) ∧ Below w.heap.size w w' := by
  have hlen := ht.len
  have hpl := fun W (hW : Below w.heap.size w W) => rn_place na nc names s W (hn.below hW)
  replace hpl := Lib.hid hpl
  replace ht := Lib.hid ht
  clear hn
  go_enter Tryd.func47, Tryd.ntmps47
  go_upto_region 2 with (go_at_call 37; go_loud (refine (hpl.out _ (((Below.refl _ _).al _).al _)).mono ?_); rintro e w1 ⟨z, rfl, hz0, rfl⟩; have hz := Lib.hid hz0; clear hz0)
  obtain ⟨o1, o2⟩ := one1_var (terms := terms) hz.out
  replace o1 := Lib.hid o1
  replace o2 := Lib.hid o2
  cases v with
  | false =>
    have he : Hid (one1 names terms (false, s) = (false, s)) := Lib.hid (if_neg (by simp))
    clear o1 o2
    obtain ⟨V, hV, hVb, hVw⟩ := one_stored w (.cells #[.bool false, .string s] 33) (.bool false) (.string s)
    go_wp2
    rw [← hV]
    exact bodyPost_ret (v := .agg #[.bool false, .string s]) (results_cell_row rfl _ _ (w.heap.size + 1) 33 _ (0, 0) _ rfl hVb Tryd.underlying33 rfl pr_sizeTm) rfl ⟨by rw [he.out]; rfl, hVw⟩
  | true =>
    by_cases hr : 0 ≤ z ∧ z < terms.length
    · obtain ⟨i, rfl, hi⟩ := o1.out hr
      obtain ⟨hr1, hr2⟩ := hr
      obtain ⟨⟨tv, ts⟩, he0⟩ : ∃ t, one1 names terms (true, s) = t := ⟨_, rfl⟩
      rw [he0] at hi
      have he := Lib.hid he0
      obtain ⟨q, rfl, e1, e2⟩ := ht.out.cells i _ hi
      clear he0 o1 o2 hi
      have f1 : ((w.alloc (.cells #[.bool true, .string s] 33)).alloc (.cells #[.bool false, .string ⟨#[]⟩] 33)).cell? (q.add (i * 2)) = some (.bool tv) := cell_below (((Below.refl _ _).al _).al _) rfl e1
      have f2 : ((w.alloc (.cells #[.bool true, .string s] 33)).alloc (.cells #[.bool false, .string ⟨#[]⟩] 33)).cell? ⟨(q.add (i * 2)).block, (q.add (i * 2)).off + 1, none⟩ = some (.string ts) := cell_below (((Below.refl _ _).al _).al _) rfl e2
      obtain ⟨V, hV, hVb, hVw⟩ := one_stored w (.cells #[.bool true, .string s] 33) (.bool tv) (.string ts)
      go_wp2
      rw [← hV]
      exact bodyPost_ret (v := .agg #[.bool tv, .string ts]) (results_cell_row rfl _ _ (w.heap.size + 1) 33 _ (0, 0) _ rfl hVb Tryd.underlying33 rfl pr_sizeTm) rfl ⟨by rw [he.out]; rfl, hVw⟩
    · have he : Hid (one1 names terms (true, s) = (true, s)) := Lib.hid (o2.out hr)
      clear o1 o2
      by_cases hr1 : 0 ≤ z
      · have hr2 : ¬ z < (terms.length : Int) := fun h => hr ⟨hr1, h⟩
        clear hr
        obtain ⟨V, hV, hVb, hVw⟩ := one_stored w (.cells #[.bool true, .string s] 33) (.bool true) (.string s)
        go_wp2
        rw [← hV]
        exact bodyPost_ret (v := .agg #[.bool true, .string s]) (results_cell_row rfl _ _ (w.heap.size + 1) 33 _ (0, 0) _ rfl hVb Tryd.underlying33 rfl pr_sizeTm) rfl ⟨by rw [he.out]; rfl, hVw⟩
      · clear hr
        obtain ⟨V, hV, hVb, hVw⟩ := one_stored w (.cells #[.bool true, .string s] 33) (.bool true) (.string s)
        go_wp2
        rw [← hV]
        exact bodyPost_ret (v := .agg #[.bool true, .string s]) (results_cell_row rfl _ _ (w.heap.size + 1) 33 _ (0, 0) _ rfl hVb Tryd.underlying33 rfl pr_sizeTm) rfl ⟨by rw [he.out]; rfl, hVw⟩
end Go.Proofs.YtoklbofobcloaaaDoor


/- Normal: the document's digits. -/
namespace Go.Proofs.YtoklbofobcloaaaDoor
open Go.RowKit Go.Sort Go.Shelf
set_option linter.unusedVariables false
theorem dgs_small {n : Nat} (h : n < 10) : decB n = [UInt8.ofNat (48 + n)] := by rw [decB, dif_pos h]
theorem dgs_big {n : Nat} (h : ¬ n < 10) : decB n = decB (n / 10) ++ decB (n % 10) := by
  conv => lhs; rw [decB]
  rw [dif_neg h]
theorem dgs_len (n : Nat) : (decB n).length ≤ n + 1 := by
  induction n using Nat.strongRecOn with
  | _ n ih =>
    by_cases h : n < 10
    · rw [dgs_small h]; simp
    · rw [dgs_big h, List.length_append]
      have h1 := ih (n / 10) (by omega)
      have h2 : n % 10 < 10 := by omega
      rw [dgs_small h2]
      simp
      omega
set_option maxHeartbeats 2000000 in
set_option maxRecDepth 100000 in
theorem rn_digits (n : Nat) (hn : n ≤ 4611686018427387904) (w : World) :
    Calls Tryd.prog 46 #[.int .i64 n] w fun e w' => e = .returned (.string ⟨(decB n).toArray⟩) ∧ Below w.heap.size w w' := by
  induction n using Nat.strongRecOn generalizing w with
  | _ n ih =>
    by_cases h : n < 10
    · have h1 : (n : Int) < 10 := by omega
      have h0 : (0 : Int) ≤ (n : Int) := Int.natCast_nonneg _
      have hd := Lib.hid (dgs_small h)
      have hcon := run_convert_bytes_back (P := Tryd.prog) (w.alloc (.cells #[.int .u8 (48 + (n : Int))] 5)) 86 9 5 ⟨w.heap.size, 0, none⟩ 1 [UInt8.ofNat (48 + n)] Tryd.underlying86 Tryd.underlying5 Tryd.underlying9
      replace hcon := hcon (fun j hj => by
        have hj0 : j = 0 := by simp at hj; exact hj
        subst hj0
        have e1 : ((UInt8.ofNat (48 + n)).toNat : Int) = 48 + (n : Int) := by
          rw [UInt8.toNat_ofNat_of_lt' (by show 48 + n < 256; omega)]
          omega
        show _ = some (Value.int .u8 ((UInt8.ofNat (48 + n)).toNat : Int))
        rw [e1]
        exact own_cells_row rfl rfl 0 _ rfl)
      have hcon2 : (convert 86 9 (.slice (some ⟨w.heap.size, 0, none⟩) 1 1)).run Tryd.prog (w.alloc (.cells #[.int .u8 (48 + (n : Int))] 5)) = .ok (.string ⟨(decB n).toArray⟩) (w.alloc (.cells #[.int .u8 (48 + (n : Int))] 5)) := by
        rw [hd.out]; exact hcon
      clear hcon
      go_enter Tryd.func46, Tryd.ntmps46
      go_wp2
      go_ret
      exact ⟨rfl, ((Below.refl _ _).al _)⟩
    · have h1 : ¬ (n : Int) < 10 := by omega
      have h0 : (0 : Int) ≤ (n : Int) := Int.natCast_nonneg _
      have hd := Lib.hid (dgs_big h)
      have ha := fun w => ih (n / 10) (by omega) (by omega) w
      have hb := fun w => ih (n % 10) (by omega) (by omega) w
      rw [show ((n / 10 : Nat) : Int) = (n : Int) / 10 by omega] at ha
      rw [show ((n % 10 : Nat) : Int) = (n : Int) % 10 by omega] at hb
      replace ha := Lib.hid ha
      replace hb := Lib.hid hb
      have hlen : ¬ 9223372036854775807 < (decB (n / 10)).length + (decB (n % 10)).length := by
        have := dgs_len (n / 10)
        have := dgs_len (n % 10)
        omega
      have happ : Hid (((⟨(decB (n / 10)).toArray⟩ : ByteArray) ++ ⟨(decB (n % 10)).toArray⟩) = ⟨(decB n).toArray⟩) := Lib.hid (by rw [hd.out]; apply ByteArray.ext; simp)
      clear ih
      go_enter Tryd.func46, Tryd.ntmps46
      go_wp2_with (first
        | (have hg := h1b.out; clear hg; go_at_call 46; go_loud (refine (hb.out _).mono ?_); rintro e w2 ⟨rfl, hbb⟩; have h2b := Lib.hid (h1b.out.trans (hbb.mono h1b.out.size)); clear hbb)
        | (go_at_call 46; go_loud (refine (ha.out _).mono ?_); rintro e w1 ⟨rfl, hbb⟩; have h1b := Lib.hid hbb; clear hbb))
      go_ret
      exact ⟨by first | rfl | (rw [happ.out]; rfl) | (rw [← happ.out]; rfl), h2b.out⟩
end Go.Proofs.YtoklbofobcloaaaDoor
