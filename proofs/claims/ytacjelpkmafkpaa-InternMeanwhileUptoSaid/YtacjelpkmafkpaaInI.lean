/- Intern: the document's table: PutAll, Text, Texts; alike numbers. -/
import Derived.Test.YtacjelpkmafkpaaInH
namespace Go.Proofs.Ytacjelpkmafkpaa
open Go.RowKit It
set_option maxHeartbeats 2000000
set_option maxRecDepth 100000
theorem KeptR.rtab {w w1 w2 : World} {rb : Nat} {v v1 : Value} (h : KeptR (RTabB rb v) w w1) (hv : ∀ k, v1.ownBlock = some k → v.ownBlock = some k ∨ w.heap.size ≤ k) (hk : KeptR (RTabB rb v1) w1 w2) : KeptR (RTabB rb v) w w2 :=
  ⟨hk.os.trans h.os, hk.tape.trans h.tape, hk.output.trans h.output, Nat.le_trans h.size hk.size, fun k hk0 hn => (hk.block k (Nat.lt_of_lt_of_le hk0 h.size) (fun hb => by
    rcases hb with rfl | hb
    · exact hn (.inl rfl)
    · rcases hv k hb with h1 | h1
      · exact hn (.inr h1)
      · omega)).trans (h.block k hk0 hn)⟩
theorem ints_snoc (l : List Nat) (n : Nat) : ints (l ++ [n]) = ints l ++ [.int .i64 (n : Int)] := by simp [ints]
section
variable {w : World} {B rb : Nat} {v : Value} {L : List ByteArray}
def RAllP (w : World) (B rb : Nat) (v : Value) (L l : List ByteArray) (e : Ending) (w' : World) : Prop :=
  ∃ o v', e = .returned (.tuple #[o, .int .i64 0]) ∧ w'.ownsRow w.heap.size 3 1 o l.length (ints (nums L l)) ∧ RTab w' B rb v' (putAll L l) ∧ KeptR (RTabB rb v) w w' ∧ (∀ k, v'.ownBlock = some k → v.ownBlock = some k ∨ w.heap.size ≤ k)
theorem rf_PutAll (h : RTab w B rb v L) {a : Option Addr} {l : List ByteArray} {c : Nat} (ht : TxA w a l) (hap : ∀ ad, a = some ad → 0 < l.length → ¬ RTabB rb v ad.block) (hl : L.length + l.length ≤ 8796093022208) :
    Calls Try.prog 9 #[.pointer (some ⟨rb, 0, none⟩), .slice a l.length c] w (RAllP w B rb v L l) := by
  obtain ⟨ii, hii, hi0, hi1, hi2⟩ := info_parts infoIntN
  have hln := ht.len
  have h0 := Lib.hid h
  replace ht := Lib.hid ht
  replace hap := Lib.hid hap
  have hlt := Lib.hid h.lt
  clear h
  go_enter Try.func9, Try.ntmps9
  go_wp2
  go_loopw [6, 7, 8, 9] (fun o i _ _ wr => ∃ (k : Nat) (v1 : Value) (va : Option Addr) (vc : Nat), k ≤ l.length ∧ o = .slice va k vc ∧ i = .int .i64 k ∧ Hid (RTab wr B rb v1 (putAll L (l.take k))) ∧ Hid (wr.ownsRow w.heap.size 3 1 (.slice va k vc) k (ints (nums L (l.take k)))) ∧ Hid (KeptR (RTabB rb v) w wr) ∧ Hid ((∀ k, v1.ownBlock = some k → v.ownBlock = some k ∨ w.heap.size ≤ k) ∧ ∀ g, va = some g → ¬ RTabB rb v1 g.block)) (fun _ i _ _ _ => l.length - (intOf i).toNat)
  case atStart => exact ⟨0, v, none, 0, Nat.zero_le _, rfl, rfl, h0, Lib.hid (World.ownsRow_nil _ _ _ _), Lib.hid (KeptR.refl _ _), Lib.hid ⟨fun k hk => .inl hk, fun g hg => by cases hg⟩⟩
  case round =>
    obtain ⟨k, v1, va, vc, hk, rfl, rfl, hT, hR, hK, hv⟩ := hrel
    by_cases hlk : k < l.length
    · have hX := Lib.hid (ht.out.kept hK.out hap.out)
      obtain ⟨ga, off, rfl, hc⟩ := hX.out.cells k hlk
      obtain ⟨s, hs⟩ : ∃ s, l.getD k ⟨#[]⟩ = s := ⟨_, rfl⟩
      rw [hs] at hc
      have hpl := (putAll_len (l.take k) L).2
      rw [List.length_take, Nat.min_eq_left (by omega)] at hpl
      have hput := Lib.hid (rf_Put hT.out s (by omega))
      have hki : (k : Int) < (l.length : Int) := by omega
      have hk0 : (0 : Int) ≤ (k : Int) := Int.natCast_nonneg _
      have hsl : Hid (putAll L (l.take (k + 1)) = put (putAll L (l.take k)) s ∧ nums L (l.take (k + 1)) = nums L (l.take k) ++ [(putAll L (l.take k)).idxOf s] ∧ (nums L (l.take k)).length = k) := Lib.hid (by
        have e : l.take (k + 1) = l.take k ++ [s] := by
          rw [List.take_succ_eq_append_getElem hlk, ← hs, List.getD_eq_getElem?_getD, List.getElem?_eq_getElem hlk]; rfl
        rw [e]
        exact ⟨putAll_snoc _ _ _, nums_snoc _ _ _, by rw [nums_len, List.length_take]; omega⟩)
      replace hs := Lib.hid hs
      have h63 : Hid (k + 1 ≤ maxLen) := Lib.hid (by unfold maxLen; omega)
      have h64 : Hid ((k + 1) * 8 ≤ 140737488355328) := Lib.hid (by omega)
      clear hpl
      obtain ⟨x, hx⟩ : ∃ x, (putAll L (l.take k)).idxOf s = x := ⟨_, rfl⟩
      rw [hx] at hput hsl
      clear hx
      go_wp2_with (first
        | (go_at_call 13
           refine hput.out.mono ?_
           rintro e w2 ⟨rfl, v2, hT2, hk2, hv2⟩
           have hown2 := Lib.hid (own_keptS hR.out hk2 (fun j hj hb => by
             cases va with
             | none => cases hj
             | some g =>
               have hoff : g.block = j := by
                 obtain ⟨q, rfl⟩ : ∃ q, g = ⟨q, 0, none⟩ := by
                   rcases hR.out.2 with ⟨e, -⟩ | ⟨q, _, _, e, -⟩
                   · cases e
                   · injection e with e; injection e with e; exact ⟨q, e⟩
                 injection hj
               exact hv.out.2 g rfl (hoff ▸ hb)))
           have hT2' := Lib.hid hT2
           have hk2' := Lib.hid (hK.out.rtab hv.out.1 hk2)
           have hs2 := Lib.hid hk2.size
           have hv2' := Lib.hid hv2
           clear hT2 hk2 hv2)
        | (at_builtin; refine wpList_append_own_at _ rfl (.tmp 27) (.tmp 29) 28 rfl w.heap.size 3 ii (.int .i64 0) 1 8 Try.underlying28 hii hi0 hi1 hi2 rfl (by decide) _ k (ints (nums L (l.take k))) rfl (hown2.out.alloc _) ⟨w2.heap.size, 0, none⟩ 1 1 [.int .i64 (x : Int)] rfl rfl (cell_one_new _ _ _) (by intro u hu; simp at hu; subst hu; rfl) h63.out h64.out (by rw [World.size_alloc]; have := hk2'.out.size; omega) ?_))
      intro v3 w3 hown3 hg3 _ hat3
      have hs3 := hg3.size
      rw [World.size_alloc] at hs3
      have hold : ∀ j, (Value.slice va k vc).ownBlock = some j → w.heap.size ≤ j ∧ j < wr.heap.size ∧ ¬ RTabB rb v2 j := fun j hj => by
        have h1 := own_lt hR.out j hj
        refine ⟨h1.1, h1.2, fun hb => ?_⟩
        have h2 : ¬ RTabB rb v1 j := by
          rcases hR.out.2 with ⟨e, -⟩ | ⟨q, _, _, e, -⟩
          · rw [e] at hj; cases hj
          · injection e with e; subst e
            have : q = j := by injection hj
            subst this
            exact hv.out.2 _ rfl
        rcases hb with hb | hb
        · exact h2 (.inl hb)
        · rcases hv2'.out j hb with h3 | h3
          · exact h2 (.inr h3)
          · omega
      obtain ⟨g3, c3, rfl, hge3, -⟩ := own_shape hown3 (by omega)
      have hT3 := Lib.hid (hT2'.out.kept (S := fun j => (Value.slice va k vc).ownBlock = some j) (((KeptR.refl _ w2).al (.cells #[.int .i64 (x : Int)] 3)).grown hg3 (fun j hj => .inl hj)) (fun j hj e => (hold j e).2.2 hj))
      have hk3 := Lib.hid ((hk2'.out.al (.cells #[.int .i64 (x : Int)] 3)).grown hg3 (fun j hj => .inr (hold j hj).1))
      have hR3 : Hid (w3.ownsRow w.heap.size 3 1 (.slice (some ⟨g3, 0, none⟩) (k + 1) c3) (k + 1) (ints (nums L (l.take (k + 1))))) := Lib.hid (by rw [hsl.out.2.1, ints_snoc]; exact hown3)
      have hv3 : Hid ((∀ k, v2.ownBlock = some k → v.ownBlock = some k ∨ w.heap.size ≤ k) ∧ ∀ g, (some ⟨g3, 0, none⟩ : Option Addr) = some g → ¬ RTabB rb v2 g.block) := Lib.hid ⟨fun j hj => by
        rcases hv2'.out j hj with h1 | h1
        · exact hv.out.1 j h1
        · exact .inr (Nat.le_trans hK.out.size h1), fun g hg => by
        cases hg
        rcases hat3 with e | e
        · exact (hold g3 e.symm).2.2
        · intro hb
          have h1 := (hT2'.out.lt _ hb).2
          injection e with e
          have e2 : g3 = w2.heap.size + 1 := e
          have : g3 < w2.heap.size := h1
          omega⟩
      clear hown3 hg3 hat3 hold hs3
      go_wp2_with fail
      go_roundw
      case rel => exact ⟨k + 1, v2, some ⟨g3, 0, none⟩, c3, by omega, rfl, by go_num, by rw [hsl.out.1]; exact hT3, hR3, hk3, hv3⟩
      case measure => simp [intOf]; omega
    · have hke : k = l.length := by omega
      have hki : ¬ ((k : Int) < (l.length : Int)) := by omega
      rw [hke, List.take_length] at hT hR
      rw [hke]
      go_wp2_with fail
      go_ret2
      exact ⟨_, v1, rfl, hR.out, hT.out, hK.out, hv.out.1⟩
theorem rf_Text (h : RTab w B rb v L) (n : Int) : Calls Try.prog 31 #[.pointer (some ⟨rb, 0, none⟩), .int .i64 n] w fun e w' => e = .returned (.tuple #[.string (txtOf L n), .bool (decide (okN L n))]) ∧ w = w' := by
  obtain ⟨c0, -⟩ := h.cells
  obtain ⟨va, vc, rfl, -⟩ := own_slice h.row
  have h0 := Lib.hid h
  have hl := h.len
  clear h
  by_cases hn : okN L n
  · obtain ⟨m, rfl⟩ : ∃ m : Nat, n = m := ⟨n.toNat, by have := hn.1; omega⟩
    have hm : m < L.length := by have := hn.2; omega
    obtain ⟨g, rfl, hc⟩ := row_txt h0.out.row m hm
    have ht : Hid (txtOf L m = L.getD m ⟨#[]⟩ ∧ decide (okN L m) = true) := Lib.hid ⟨by unfold txtOf; rw [if_pos hn]; rfl, decide_eq_true hn⟩
    generalize L.getD m ⟨#[]⟩ = s at hc ht
    have hm0 : ¬ (m : Int) < 0 := by omega
    have hm1 : ¬ (L.length : Int) ≤ (m : Int) := by omega
    have hm2 : (m : Int) < (L.length : Int) := by omega
    clear hn
    go_enter Try.func31, Try.ntmps31
    go_wp2_with (go_at_call 11; refine (rf_Len h0.out).mono ?_; rintro e w1 ⟨rfl, rfl⟩)
    go_ret2
    exact ⟨by rw [ht.out.1, ht.out.2]; rfl, rfl⟩
  · have ht : Hid (txtOf L n = ⟨#[]⟩ ∧ decide (okN L n) = false) := Lib.hid ⟨by unfold txtOf; rw [if_neg hn], decide_eq_false hn⟩
    by_cases hn0 : n < 0
    · clear hn
      go_enter Try.func31, Try.ntmps31
      go_wp2_with (go_at_call 11; refine (rf_Len h0.out).mono ?_; rintro e w1 ⟨rfl, rfl⟩)
      go_ret2
      exact ⟨by rw [ht.out.1, ht.out.2]; rfl, rfl⟩
    · have hn1 : (L.length : Int) ≤ n := by unfold okN at hn; omega
      clear hn
      go_enter Try.func31, Try.ntmps31
      go_wp2_with (go_at_call 11; refine (rf_Len h0.out).mono ?_; rintro e w1 ⟨rfl, rfl⟩)
      go_ret2
      exact ⟨by rw [ht.out.1, ht.out.2]; rfl, rfl⟩
/-- what the document's Texts tells -/
def RTextsP (w : World) (L : List ByteArray) (ns : List Int) (e : Ending) (w' : World) : Prop :=
  Below w.heap.size w w' ∧ ((getsB L ns = true ∧ ∃ va vc, e = .returned (.tuple #[.slice va ns.length vc, .int .i64 0]) ∧ w'.ownsRow w.heap.size 9 1 (.slice va ns.length vc) ns.length (strs (ns.map (txtOf L)))) ∨ (getsB L ns = false ∧ e = .returned (.tuple #[.slice none 0 0, .int .i64 2])))
theorem rf_Texts (h : RTab w B rb v L) {a : Option Addr} {ns : List Int} {c : Nat} (hx : Ints .i64 w a ns) (hn : ns.length ≤ 8796093022208) :
    Calls Try.prog 23 #[.pointer (some ⟨rb, 0, none⟩), .slice a ns.length c] w (RTextsP w L ns) := by
  obtain ⟨is, his, hz0, hz1, hz2⟩ := info_parts infoStr
  have h0 := Lib.hid h
  replace hx := Lib.hid hx
  clear h
  go_enter Try.func23, Try.ntmps23
  go_wp2
  go_loopw [6, 7, 8, 9] (fun o i _ _ wr => ∃ (k : Nat) (va : Option Addr) (vc : Nat), k ≤ ns.length ∧ o = .slice va k vc ∧ i = .int .i64 k ∧ Hid (Below w.heap.size w wr) ∧ Hid (getsB L (ns.take k) = true) ∧ Hid (wr.ownsRow w.heap.size 9 1 (.slice va k vc) k (strs ((ns.take k).map (txtOf L))))) (fun _ i _ _ _ => ns.length - (intOf i).toNat)
  case atStart => exact ⟨0, none, 0, Nat.zero_le _, rfl, rfl, Lib.hid (Below.refl _ _), Lib.hid rfl, Lib.hid (World.ownsRow_nil _ _ _ _)⟩
  case round =>
    obtain ⟨k, va, vc, hk, rfl, rfl, hb, hG, hR⟩ := hrel
    by_cases hlk : k < ns.length
    · have hT := Lib.hid (h0.out.below hb.out)
      obtain ⟨ga, off, rfl, hc⟩ := (hx.out.below hb.out).cells k hlk
      have hki : (k : Int) < (ns.length : Int) := by omega
      have hk0 : (0 : Int) ≤ (k : Int) := Int.natCast_nonneg _
      have hnx := Lib.hid (getsB_take hlk hG.out)
      have htk : Hid (ns.take (k + 1) = ns.take k ++ [nth ns k]) := Lib.hid (by rw [List.take_succ_eq_append_getElem hlk, nth_eq _ _ hlk])
      have htx := Lib.hid (rf_Text hT.out (nth ns k))
      have h63 : Hid (k + 1 ≤ maxLen) := Lib.hid (by unfold maxLen; omega)
      have h64 : Hid ((k + 1) * 16 ≤ 140737488355328) := Lib.hid (by omega)
      have hbs := Lib.hid hb.out.size
      by_cases hok : okN L (nth ns k)
      · rw [decide_eq_true hok] at hnx htx
        have hx2 : Hid (strs ((ns.take (k + 1)).map (txtOf L)) = strs ((ns.take k).map (txtOf L)) ++ [.string (txtOf L (nth ns k))]) := Lib.hid (by rw [htk.out]; simp [strs])
        clear hok
        generalize txtOf L (nth ns k) = s at htx hx2
        generalize nth ns k = n at hc htx
        go_wp2_with (first
          | (go_at_call 31
             refine htx.out.mono ?_
             rintro e w2 ⟨rfl, rfl⟩)
          | (at_builtin; refine wpList_append_own_at _ rfl (.tmp 29) (.tmp 31) 22 rfl w.heap.size 9 is (.string ⟨#[]⟩) 1 16 Try.underlying22 his hz0 hz1 hz2 rfl (by decide) _ k (strs ((ns.take k).map (txtOf L))) rfl (hR.out.alloc _) ⟨wr.heap.size, 0, none⟩ 1 1 [.string s] rfl rfl (cell_one_new _ _ _) (by intro u hu; simp at hu; subst hu; rfl) h63.out h64.out (by rw [World.size_alloc]; have := hbs.out; omega) ?_))
        intro v3 w3 hown3 hg3 _ _
        obtain ⟨g3, c3, rfl, -⟩ := own_shape hown3 (by omega)
        have hb3 := Lib.hid ((hb.out.al (.cells #[.string s] 9)).grown hg3 (by rw [World.size_alloc]; have := hbs.out; omega) (fun j hj => (own_lt hR.out j hj).1))
        have hR3 : Hid (w3.ownsRow w.heap.size 9 1 (.slice (some ⟨g3, 0, none⟩) (k + 1) c3) (k + 1) (strs ((ns.take (k + 1)).map (txtOf L)))) := Lib.hid (by rw [hx2.out, List.map_take]; exact hown3)
        clear hown3 hg3
        go_wp2_with fail
        go_roundw
        case rel => exact ⟨k + 1, some ⟨g3, 0, none⟩, c3, by omega, rfl, by go_num, hb3, hnx, hR3⟩
        case measure => simp [intOf]; omega
      · have hno := Lib.hid (getsB_no hlk hok)
        rw [decide_eq_false hok] at htx
        clear hok
        generalize txtOf L (nth ns k) = s at htx
        generalize nth ns k = n at hc htx
        go_wp2_with (go_at_call 31
                     refine htx.out.mono ?_
                     rintro e w2 ⟨rfl, rfl⟩)
        go_ret2
        exact ⟨hb.out, .inr ⟨hno.out, rfl⟩⟩
    · have hke : k = ns.length := by omega
      have hki : ¬ ((k : Int) < (ns.length : Int)) := by omega
      rw [hke, List.take_length] at hG hR
      rw [hke]
      go_wp2
      go_ret2
      exact ⟨hb.out, .inl ⟨hG.out, va, vc, rfl, hR.out⟩⟩
end
/-- two lists of numbers that are alike -/
theorem rf_SameInts {w : World} {a b : Option Addr} {l : List Int} {c d : Nat} (h1 : Ints .i64 w a l) (h2 : Ints .i64 w b l) :
    Calls Try.prog 28 #[.slice a l.length c, .slice b l.length d] w fun e w' => e = .returned (.bool true) ∧ Below w.heap.size w w' := by
  have hln := h1.len
  replace h1 := Lib.hid h1
  replace h2 := Lib.hid h2
  go_enter Try.func28, Try.ntmps28
  go_wp2
  go_loopw [5] (fun i wr => ∃ k : Nat, k ≤ l.length ∧ i = .int .i64 k ∧ Hid (Below w.heap.size w wr)) (fun i _ => l.length - (intOf i).toNat)
  case atStart => exact ⟨0, Nat.zero_le _, rfl, Lib.hid (Below.refl _ _)⟩
  case round =>
    obtain ⟨k, hk, rfl, hb⟩ := hrel
    by_cases hlt : k < l.length
    · obtain ⟨g, off, rfl, q1⟩ := (h1.out.below hb.out).cells k hlt
      obtain ⟨g2, off2, rfl, q2⟩ := (h2.out.below hb.out).cells k hlt
      have hki : (k : Int) < (l.length : Int) := by omega
      have hk0 : (0 : Int) ≤ (k : Int) := Int.natCast_nonneg _
      generalize nth l k = s at q1 q2
      have hss : (s != s) = false := by simp
      go_wp2
      go_quiet (fail)
      go_wp2
      go_roundw
      case rel => exact ⟨k + 1, by omega, by go_num, Lib.hid (below_drewN hb.out _)⟩
      case measure => simp [intOf]; omega
    · have hki : ¬ ((k : Int) < (l.length : Int)) := by omega
      go_wp2
      go_ret
      exact ⟨rfl, hb.out⟩
end Go.Proofs.Ytacjelpkmafkpaa
