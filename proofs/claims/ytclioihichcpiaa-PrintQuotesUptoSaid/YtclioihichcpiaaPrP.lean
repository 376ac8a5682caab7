/- PrintQuotes: the law walked. -/
import Derived.Test.YtclioihichcpiaaPrN
import Derived.Test.YtclioihichcpiaaPrB
import Derived.Deep.QuietTactic
import Derived.BigQuiet
namespace Go.Proofs.Ytclioihichcpiaa
open Go.RowKit Go.Shelf Lx
set_option maxHeartbeats 1000000 in
theorem lw_digit (c : Int) (w : World) (h0 : 0 ≤ c) (h1 : c < 16) : Calls Try.prog 22 #[.int .u8 (hexI c)] w fun e w' => e = .returned (.int .u8 c) ∧ w = w' := by
  have : c = 0 ∨ c = 1 ∨ c = 2 ∨ c = 3 ∨ c = 4 ∨ c = 5 ∨ c = 6 ∨ c = 7 ∨ c = 8 ∨ c = 9 ∨ c = 10 ∨ c = 11 ∨ c = 12 ∨ c = 13 ∨ c = 14 ∨ c = 15 := by omega
  rcases this with rfl | rfl | rfl | rfl | rfl | rfl | rfl | rfl | rfl | rfl | rfl | rfl | rfl | rfl | rfl | rfl
  all_goals (unfold hexI; go_enter Try.func22, Try.ntmps22; go_wp2_with fail; go_ret; exact ⟨rfl, rfl⟩)
theorem q_size (l : Bs) : (mk (quoteL l)).size = (l.flatMap escL).length + 2 := by
  show (quoteL l).toArray.size = _
  simp [quoteL]
theorem q_first (l : Bs) : bat (mk (quoteL l)) 0 = 34 := by unfold bat; rw [bl_mk]; rfl
theorem q_last (l : Bs) : bat (mk (quoteL l)) ((l.flatMap escL).length + 1) = 34 := by
  unfold bat; rw [bl_mk]; unfold quoteL; simp
theorem q_in (l : Bs) : (mk (quoteL l)).extract 1 ((l.flatMap escL).length + 1) = mk (l.flatMap escL) := by
  rw [extract_mk', bl_mk]; unfold quoteL; simp
/- MARK -/
theorem byte_at (s : ByteArray) (j : Nat) (h : j < s.size) : ((s[j]'h).toNat : Int) = bat s j := by
  unfold bat
  have h' : j < (bl s).length := by rw [bl_length]; exact h
  rw [List.getD_eq_getElem?_getD, List.getElem?_eq_getElem h']
  rfl
theorem bi_byteI (n : Int) (h0 : 0 ≤ n) (h1 : n < 256) : bi (byteI n) = n := by
  have := u8v_byteI n h0 h1
  unfold u8v at this
  injection this
def off (s : ByteArray) (k : Nat) : Nat := (((bl s).take k).flatMap escL).length
theorem off_all (s : ByteArray) : off s s.size = ((bl s).flatMap escL).length := by
  unfold off; rw [List.take_of_length_le (by rw [bl_length]; exact Nat.le_refl _)]
theorem off_succ (s : ByteArray) (k : Nat) (h : k < s.size) : off s (k + 1) = off s k + (escL ((bl s).getD k 0)).length := by
  have h' : k < (bl s).length := by rw [bl_length]; exact h
  unfold off
  rw [List.take_succ_eq_append_getElem h', List.flatMap_append, List.length_append]
  rw [List.getD_eq_getElem?_getD, List.getElem?_eq_getElem h']
  simp
theorem off_at (s : ByteArray) (k j : Nat) (h : k < s.size) (hj : j < (escL ((bl s).getD k 0)).length) : bat (mk ((bl s).flatMap escL)) (off s k + j) = bi ((escL ((bl s).getD k 0)).getD j 0) := by
  have h' : k < (bl s).length := by rw [bl_length]; exact h
  have e : (bl s).flatMap escL = ((bl s).take k).flatMap escL ++ (escL ((bl s).getD k 0) ++ ((bl s).drop (k + 1)).flatMap escL) := by
    conv => lhs; rw [← List.take_append_drop k (bl s), drop_bl s k h]
    rw [List.flatMap_append, List.flatMap_cons]
  unfold bat bi
  rw [bl_mk, e]
  unfold off
  rw [List.getD_eq_getElem?_getD, List.getElem?_append_right (by omega), Nat.add_sub_cancel_left, List.getElem?_append_left hj, ← List.getD_eq_getElem?_getD]
theorem off_mono (s : ByteArray) (k : Nat) (h : k < s.size) : off s k + (escL ((bl s).getD k 0)).length ≤ ((bl s).flatMap escL).length := by
  have h' : k < (bl s).length := by rw [bl_length]; exact h
  have e : (bl s).flatMap escL = ((bl s).take k).flatMap escL ++ (escL ((bl s).getD k 0) ++ ((bl s).drop (k + 1)).flatMap escL) := by
    conv => lhs; rw [← List.take_append_drop k (bl s), drop_bl s k h]
    rw [List.flatMap_append, List.flatMap_cons]
  rw [e, List.length_append, List.length_append]
  unfold off
  omega
set_option maxHeartbeats 1000000 in
set_option maxRecDepth 100000 in
theorem law_PrintQuotes (s : ByteArray) (w : World) (hs : s.size ≤ 1048576) :
    Calls Try.prog 5 #[.string s] w fun e w' => e = .returned (.bool true) ∧ Below w.heap.size w w' := by
  have hpq := fun w => pt_Quote s w hs
  have hm := (escs_len (bl s)).2
  have hqs := q_size (bl s)
  have hq0 := q_first (bl s)
  have hq1 := q_last (bl s)
  have hqi := q_in (bl s)
  generalize mk (quoteL (bl s)) = Q at hpq hqs hq0 hq1 hqi
  have hoa := off_all s
  have hos := Lib.hid (off_succ s)
  have hoat := Lib.hid (off_at s)
  have hom := Lib.hid (off_mono s)
  have hIs : (mk ((bl s).flatMap escL)).size = ((bl s).flatMap escL).length := by show ((bl s).flatMap escL).toArray.size = _; simp
  generalize mk ((bl s).flatMap escL) = I at hqi hoat hIs
  generalize ((bl s).flatMap escL).length = m at hm hqs hq1 hqi hoa hom hIs
  rw [bl_length] at hm
  have hx0 := fun w => run_index_str0 (P := Try.prog) Try.underlying9 Q (by omega) w
  have hL : ((Q[m + 1]'(by omega)).toNat : Int) = 34 := by
    rw [← hq1]; unfold bat
    have h' : m + 1 < (bl Q).length := by rw [bl_length]; omega
    rw [List.getD_eq_getElem?_getD, List.getElem?_eq_getElem h']
    rfl
  rw [hq0] at hx0
  go_enter Try.func5, Try.ntmps5
  go_wp2_with (go_at_call 20; refine (hpq _).mono ?_; rintro e w1 ⟨rfl, hb1⟩; replace hb1 := Lib.hid hb1)
  rw [show Q.extract 1 (m + 2 - 1) = I from hqi]
  clear hx0 hL hqi hq0 hq1
  go_loopw [5, 6, 7] (fun n i _ wr => ∃ (k : Nat), k ≤ s.size ∧ n = .int .i64 k ∧ i = .int .i64 (off s k) ∧ Hid (Below w.heap.size w wr)) (fun n _ _ _ => s.size - (intOf n).toNat)
  case atStart => exact ⟨0, Nat.zero_le _, rfl, rfl, hb1⟩
  case round =>
    obtain ⟨k, hk, rfl, rfl, hbw⟩ := hrel
    by_cases hlt : k < s.size
    · have hsx := fun w => run_index_str (P := Try.prog) Try.underlying9 s k hlt w
      obtain ⟨hr1, hr2⟩ := bat_range s k
      have ho1 := hos.out k hlt
      have ho2 := hom.out k hlt
      have ho3 := fun j hj => hoat.out k j hlt hj
      generalize off s k = o at ho1 ho2 ho3 ⊢
      have hx := fun (j : Nat) (h : o + j < I.size) w => run_index_str (P := Try.prog) Try.underlying9 I (o + j) h w
      by_cases h34 : bat s k = 34 ∨ bat s k = 92
      · have he := esc_a ((bl s).getD k 0) h34
        rcases h34 with h34 | h34
        · have hc : bi ((bl s).getD k 0) = 34 := h34
          have he : escL ((bl s).getD k 0) = [92, (bl s).getD k 0] := he
          rw [he] at ho1 ho2 ho3
          have ho1' : off s (k + 1) = o + 2 := ho1
          have ho2' : o + 2 ≤ m := ho2
          have hb0 : bat I (o + 0) = 92 := by rw [ho3 0 (by show 0 < 2; decide)]; rfl
          have hx0 := hx 0 (by omega)
          rw [hb0] at hx0
          have hb1 : bat I (o + 1) = 34 := by rw [ho3 1 (by show 1 < 2; decide)]; exact hc
          have hx1 : ((I[o + 1]'(by omega)).toNat : Int) = 34 := (byte_at I (o + 1) (by omega)).trans hb1
          rw [Nat.add_zero] at hx0
          clear hx ho1 ho2 ho3 he hb0 hb1
          replace ho1' := Lib.hid ho1'
          rw [h34] at hsx
          go_wp2_with fail
          go_roundw
          case rel => exact ⟨k + 1, by omega, by go_num, by rw [ho1'.out]; go_num, hbw⟩
          case measure => simp [intOf]; omega
        · have hc : bi ((bl s).getD k 0) = 92 := h34
          have he : escL ((bl s).getD k 0) = [92, (bl s).getD k 0] := he
          rw [he] at ho1 ho2 ho3
          have ho1' : off s (k + 1) = o + 2 := ho1
          have ho2' : o + 2 ≤ m := ho2
          have hb0 : bat I (o + 0) = 92 := by rw [ho3 0 (by show 0 < 2; decide)]; rfl
          have hx0 := hx 0 (by omega)
          rw [hb0] at hx0
          have hb1 : bat I (o + 1) = 92 := by rw [ho3 1 (by show 1 < 2; decide)]; exact hc
          have hx1 : ((I[o + 1]'(by omega)).toNat : Int) = 92 := (byte_at I (o + 1) (by omega)).trans hb1
          rw [Nat.add_zero] at hx0
          clear hx ho1 ho2 ho3 he hb0 hb1
          replace ho1' := Lib.hid ho1'
          rw [h34] at hsx
          go_wp2_with fail
          go_roundw
          case rel => exact ⟨k + 1, by omega, by go_num, by rw [ho1'.out]; go_num, hbw⟩
          case measure => simp [intOf]; omega
      · by_cases h10 : bat s k = 10
        · have he : escL ((bl s).getD k 0) = [92, 110] := esc_n _ h10
          rw [he] at ho1 ho2 ho3
          have ho1' : off s (k + 1) = o + 2 := ho1
          have ho2' : o + 2 ≤ m := ho2
          have hb0 : bat I (o + 0) = 92 := by rw [ho3 0 (by show 0 < 2; decide)]; rfl
          have hx0 := hx 0 (by omega)
          rw [hb0] at hx0
          have hb1 : bat I (o + 1) = 110 := by rw [ho3 1 (by show 1 < 2; decide)]; rfl
          have hx1 : ((I[o + 1]'(by omega)).toNat : Int) = 110 := (byte_at I (o + 1) (by omega)).trans hb1
          rw [Nat.add_zero] at hx0
          clear hx ho1 ho2 ho3 he hb0 hb1
          replace ho1' := Lib.hid ho1'
          rw [h10] at hsx
          go_wp2_with fail
          go_roundw
          case rel => exact ⟨k + 1, by omega, by go_num, by rw [ho1'.out]; go_num, hbw⟩
          case measure => simp [intOf]; omega
        · by_cases h9 : bat s k = 9
          · have he : escL ((bl s).getD k 0) = [92, 116] := esc_t _ h9
            rw [he] at ho1 ho2 ho3
            have ho1' : off s (k + 1) = o + 2 := ho1
            have ho2' : o + 2 ≤ m := ho2
            have hb0 : bat I (o + 0) = 92 := by rw [ho3 0 (by show 0 < 2; decide)]; rfl
            have hx0 := hx 0 (by omega)
            rw [hb0] at hx0
            have hb1 : bat I (o + 1) = 116 := by rw [ho3 1 (by show 1 < 2; decide)]; rfl
            have hx1 : ((I[o + 1]'(by omega)).toNat : Int) = 116 := (byte_at I (o + 1) (by omega)).trans hb1
            rw [Nat.add_zero] at hx0
            clear hx ho1 ho2 ho3 he hb0 hb1
            replace ho1' := Lib.hid ho1'
            rw [h9] at hsx
            go_wp2_with fail
            go_roundw
            case rel => exact ⟨k + 1, by omega, by go_num, by rw [ho1'.out]; go_num, hbw⟩
            case measure => simp [intOf]; omega
          · by_cases hp : 32 ≤ bat s k ∧ bat s k ≤ 126
            · have he : escL ((bl s).getD k 0) = [(bl s).getD k 0] := esc_p _ h34 hp
              rw [he] at ho1 ho2 ho3
              have ho1' : off s (k + 1) = o + 1 := ho1
              have ho2' : o + 1 ≤ m := ho2
              have hb0 : bat I (o + 0) = bat s k := by rw [ho3 0 (by show 0 < 1; decide)]; rfl
              have hx0 := hx 0 (by omega)
              rw [hb0] at hx0
              rw [Nat.add_zero] at hx0
              clear hx ho1 ho2 ho3 he hb0
              replace ho1' := Lib.hid ho1'
              generalize bat s k = c at hsx hx0 hr1 hr2 h34 hp
              have g1 : (c == 34) = false := by rw [beq_eq_false_iff_ne]; omega
              have g2 : (c == 92) = false := by rw [beq_eq_false_iff_ne]; omega
              have g3 : ¬ c < 32 := by omega
              have g4 : ¬ 126 < c := by omega
              go_wp2_with fail
              go_roundw
              case rel => exact ⟨k + 1, by omega, by go_num, by rw [ho1'.out]; go_num, hbw⟩
              case measure => simp [intOf]; omega
            · have he : escL ((bl s).getD k 0) = [92, 120, byteI (hexI (bi ((bl s).getD k 0) / 16)), byteI (hexI (bi ((bl s).getD k 0) % 16))] := esc_x _ h34 h10 h9 hp
              rw [he] at ho1 ho2 ho3
              have ho1' : off s (k + 1) = o + 4 := ho1
              have ho2' : o + 4 ≤ m := ho2
              have hb0 : bat I (o + 0) = 92 := by rw [ho3 0 (by show 0 < 4; decide)]; rfl
              have hx0 := hx 0 (by omega)
              rw [hb0] at hx0
              have hb1 : bat I (o + 1) = 120 := by rw [ho3 1 (by show 1 < 4; decide)]; rfl
              have hx1 : ((I[o + 1]'(by omega)).toNat : Int) = 120 := (byte_at I (o + 1) (by omega)).trans hb1
              have hb2 : bat I (o + 2) = hexI (bat s k / 16) := by rw [ho3 2 (by show 2 < 4; decide)]; exact bi_byteI _ (hexI_range _ (by show 0 ≤ bat s k / 16; omega) (by show bat s k / 16 < 16; omega)).1 (hexI_range _ (by show 0 ≤ bat s k / 16; omega) (by show bat s k / 16 < 16; omega)).2
              have hx2 : ((I[o + 2]'(by omega)).toNat : Int) = hexI (bat s k / 16) := (byte_at I (o + 2) (by omega)).trans hb2
              have hb3 : bat I (o + 3) = hexI (bat s k % 16) := by rw [ho3 3 (by show 3 < 4; decide)]; exact bi_byteI _ (hexI_range _ (by show 0 ≤ bat s k % 16; omega) (by show bat s k % 16 < 16; omega)).1 (hexI_range _ (by show 0 ≤ bat s k % 16; omega) (by show bat s k % 16 < 16; omega)).2
              have hx3 : ((I[o + 3]'(by omega)).toNat : Int) = hexI (bat s k % 16) := (byte_at I (o + 3) (by omega)).trans hb3
              rw [Nat.add_zero] at hx0
              clear hx ho1 ho2 ho3 he hb0 hb1 hb2 hb3
              replace ho1' := Lib.hid ho1'
              have hd1 := fun w => lw_digit (bat s k / 16) w (by omega) (by omega)
              have hd2 := fun w => lw_digit (bat s k % 16) w (by omega) (by omega)
              obtain ⟨q, hq⟩ : ∃ q, q = bat s k / 16 := ⟨_, rfl⟩
              obtain ⟨r, hr⟩ : ∃ r, r = bat s k % 16 := ⟨_, rfl⟩
              have hqr : bat s k = 16 * q + r := by omega
              rw [← hq] at hd1 hx2
              rw [← hr] at hd2 hx3
              have q0 : 0 ≤ q := by omega
              have q1 : q < 16 := by omega
              have r0 : 0 ≤ r := by omega
              have r1 : r < 16 := by omega
              rw [hqr] at hsx h34 h10 h9 hp
              clear hq hr hqr hr1 hr2
              have hi2 : ∀ w, (Instr.index 9 (.string I) (.int .i64 ((o : Int) + 1 + 1))).run Try.prog w = .ok (.int .u8 (hexI q)) w := fun w => by
                rw [show (o : Int) + 1 + 1 = ((o + 2 : Nat) : Int) from by omega, run_index_str Try.underlying9 I (o + 2) (by omega) w, ← byte_at I (o + 2) (by omega), hx2]
              have hi2' : ∀ w, (Instr.index 9 (.string I) (.int .i64 ((o : Int) + 2))).run Try.prog w = .ok (.int .u8 (hexI q)) w := fun w => by
                rw [show (o : Int) + 2 = ((o + 2 : Nat) : Int) from by omega, run_index_str Try.underlying9 I (o + 2) (by omega) w, ← byte_at I (o + 2) (by omega), hx2]
              have hi3 : ∀ w, (Instr.index 9 (.string I) (.int .i64 ((o : Int) + 1 + 2))).run Try.prog w = .ok (.int .u8 (hexI r)) w := fun w => by
                rw [show (o : Int) + 1 + 2 = ((o + 3 : Nat) : Int) from by omega, run_index_str Try.underlying9 I (o + 3) (by omega) w, ← byte_at I (o + 3) (by omega), hx3]
              have hi3' : ∀ w, (Instr.index 9 (.string I) (.int .i64 ((o : Int) + 3))).run Try.prog w = .ok (.int .u8 (hexI r)) w := fun w => by
                rw [show (o : Int) + 3 = ((o + 3 : Nat) : Int) from by omega, run_index_str Try.underlying9 I (o + 3) (by omega) w, ← byte_at I (o + 3) (by omega), hx3]
              have w2 : IntKind.i64.wrap ((o : Int) + 1 + 1) = (o : Int) + 1 + 1 := IntWalk.i64_in _ (by omega)
              have w2' : IntKind.i64.wrap ((o : Int) + 2) = (o : Int) + 2 := IntWalk.i64_in _ (by omega)
              have w3 : IntKind.i64.wrap ((o : Int) + 1 + 2) = (o : Int) + 1 + 2 := IntWalk.i64_in _ (by omega)
              have w3' : IntKind.i64.wrap ((o : Int) + 3) = (o : Int) + 3 := IntWalk.i64_in _ (by omega)
              have w4 : IntKind.u8.wrap (16 * q) = 16 * q := by rw [IntKind.wrap_u8]; omega
              have w5 : IntKind.u8.wrap (16 * q + r) = 16 * q + r := by rw [IntKind.wrap_u8]; omega
              generalize hexI q = H1 at hd1 hx2 hi2 hi2'
              generalize hexI r = H2 at hd2 hx3 hi3 hi3'
              go_wp2_with fail
              go_quiet (first
                | (go_at_call_of 22 H1; exact Calls.quiet_of_same ((hd1 _).mono fun _ _ h => ⟨h.1, h.2.symm⟩))
                | (go_at_call_of 22 H2; exact Calls.quiet_of_same ((hd2 _).mono fun _ _ h => ⟨h.1, h.2.symm⟩)))
              clear hi2 hi2' hi3 hi3' w2 w2' w3 w3' w4 w5 hd1 hd2 hx2 hx3 q0 q1 r0 r1
              have hbw' : Hid (Below w.heap.size w (wr.drewN nq)) := Lib.hid (hbw.out.drewN _)
              generalize 16 * q + r = v at hsx h34 h10 h9 hp ⊢
              generalize wr.drewN nq = wq at hbw' ⊢
              have g1 : (v == 10) = false := by rw [beq_eq_false_iff_ne]; exact h10
              have g2 : (v == 9) = false := by rw [beq_eq_false_iff_ne]; exact h9
              clear h10 h9
              by_cases h32 : 32 ≤ v
              · have h126 : 126 < v := by omega
                clear hp
                go_wp2_with fail
                go_roundw
                case rel => exact ⟨k + 1, by omega, by go_num, by rw [ho1'.out]; go_num, hbw'⟩
                case measure => simp [intOf]; omega
              · clear hp
                go_wp2_with fail
                go_roundw
                case rel => exact ⟨k + 1, by omega, by go_num, by rw [ho1'.out]; go_num, hbw'⟩
                case measure => simp [intOf]; omega
    · have hke : k = s.size := by omega
      subst hke
      rw [hoa]
      have hk1 := fun w => lw_known w
      go_wp2_with (go_at_call 17; refine (lw_known _).mono ?_; rintro e w2 ⟨rfl, hb2⟩; replace hb2 := Lib.hid hb2)
      go_ret
      exact ⟨rfl, hbw.out.trans (hb2.out.mono hbw.out.size)⟩
end Go.Proofs.Ytclioihichcpiaa
