/- Intern: PutAll. -/
import Derived.Test.YtacjelpkmafkpaaInB
import Derived.Laws.OwnMore
namespace Go.Proofs.Ytacjelpkmafkpaa
open Go.RowKit It
attribute [local go_sem] neq_map
set_option maxHeartbeats 2000000
set_option maxRecDepth 100000
/-- texts as they are read -/
structure TxA (w : World) (a : Option Addr) (l : List ByteArray) : Prop where
  len : l.length ≤ 140737488355328
  cells : ∀ i, i < l.length → ∃ b off, a = some ⟨b, off, none⟩ ∧ w.cell? ⟨b, off + i, none⟩ = some (.string (l.getD i ⟨#[]⟩))
  size : ∀ i, (l.getD i ⟨#[]⟩).size ≤ 140737488355328
theorem TxA.below {w w' : World} {a : Option Addr} {l : List ByteArray} (h : TxA w a l) (hb : Below w.heap.size w w') : TxA w' a l :=
  ⟨h.len, fun i hi => let ⟨b, off, ha, hc⟩ := h.cells i hi; ⟨b, off, ha, cell_below hb rfl hc⟩, h.size⟩
theorem TxA.lt {w : World} {a : Option Addr} {l : List ByteArray} (h : TxA w a l) : ∀ ad, a = some ad → 0 < l.length → ad.block < w.heap.size := fun ad e h0 => by
  obtain ⟨b, off, ha, hc⟩ := h.cells 0 h0
  rw [ha] at e
  injection e with e
  subst e
  exact cell_lt hc
theorem TxA.kept {w w' : World} {a : Option Addr} {l : List ByteArray} {S : Nat → Prop} (h : TxA w a l) (hk : KeptR S w w') (hS : ∀ ad, a = some ad → 0 < l.length → ¬ S ad.block) : TxA w' a l :=
  ⟨h.len, fun i hi => let ⟨b, off, ha, hc⟩ := h.cells i hi; ⟨b, off, ha, hk.cell hc (fun h => hS _ ha (by omega) h)⟩, h.size⟩
def ints (l : List Nat) : List Value := l.map fun n : Nat => Value.int .i64 (n : Int)
theorem KeptR.tab {w w1 w2 : World} {b mb : Nat} {v v1 : Value} (h : KeptR (TabB b v mb) w w1) (hv : ∀ k, v1.ownBlock = some k → v.ownBlock = some k ∨ w.heap.size ≤ k) (hk : KeptR (TabB b v1 mb) w1 w2) : KeptR (TabB b v mb) w w2 :=
  ⟨hk.os.trans h.os, hk.tape.trans h.tape, hk.output.trans h.output, Nat.le_trans h.size hk.size, fun k hk0 hn => (hk.block k (Nat.lt_of_lt_of_le hk0 h.size) (fun hb => by
    rcases hb with rfl | rfl | hb
    · exact hn (.inl rfl)
    · exact hn (.inr (.inl rfl))
    · rcases hv k hb with h1 | h1
      · exact hn (.inr (.inr h1))
      · omega)).trans (h.block k hk0 hn)⟩
theorem KeptR.of {S : Nat → Prop} {w w1 w2 : World} (h : KeptR S w w1) (hb : Below w1.heap.size w1 w2) : KeptR S w w2 :=
  ⟨hb.os.trans h.os, hb.tape.trans h.tape, hb.output.trans h.output, Nat.le_trans h.size hb.size, fun k hk hn => (hb.block k (Nat.lt_of_lt_of_le hk h.size)).trans (h.block k hk hn)⟩
theorem set_ints (l : List Nat) (k m : Nat) (x : Nat) (hk : l.length = k) : (ints l ++ List.replicate (m + 1) (Value.int .i64 0)).set k (.int .i64 (x : Int)) = ints (l ++ [x]) ++ List.replicate m (.int .i64 0) := by
  subst hk
  rw [List.set_append_right _ _ (by simp [ints])]
  simp [ints, List.replicate_succ]
section
variable {w : World} {B b mb : Nat} {v : Value} {L : List ByteArray}
def AllP (w : World) (B b : Nat) (v : Value) (mb : Nat) (L l : List ByteArray) (e : Ending) (w' : World) : Prop :=
  ∃ g cp v', e = .returned (.tuple #[.slice (some ⟨g, 0, none⟩) l.length cp, .int .i64 0]) ∧ w.heap.size ≤ g ∧ ¬ TabB b v' mb g ∧ w'.ownsRow w.heap.size 3 1 (.slice (some ⟨g, 0, none⟩) l.length cp) l.length (ints (nums L l)) ∧
      Tab w' B b v' mb (putAll L l) ∧ KeptR (TabB b v mb) w w' ∧ (∀ k, v'.ownBlock = some k → v.ownBlock = some k ∨ w.heap.size ≤ k)
theorem in_PutAll (h : Tab w B b v mb L) {a : Option Addr} {l : List ByteArray} {c : Nat} (ht : TxA w a l) (hap : ∀ ad, a = some ad → 0 < l.length → ¬ TabB b v mb ad.block) (hl : L.length + l.length ≤ 8796093022208) :
    Calls Try.prog 7 #[.pointer (some ⟨b, 0, none⟩), .slice a l.length c] w (AllP w B b v mb L l) := by
  obtain ⟨ii, hii, hi0, hi1, hi2⟩ := info_parts infoIntN
  have hln := ht.len
  have h0 := Lib.hid h
  replace ht := Lib.hid ht
  replace hap := Lib.hid hap
  have hlt := Lib.hid h.lt
  clear h
  go_enter Try.func7, Try.ntmps7
  go_wp2_with (first
    | (go_at_call 25; refine (in_made h0.out).mono ?_; rintro e w1 ⟨rfl, rfl⟩)
    | (refine wpList_make_full _ rfl (.tmp 13) (.tmp 13) 28 rfl w.heap.size 3 ii (.int .i64 0) 1 Try.underlying28 hii hi0 hi1 .i64 .i64 _ _ l.length rfl rfl rfl rfl (by rw [hi2]; omega) (by unfold maxLen; omega) (Nat.le_refl _) ?_))
  intro w1 hown hg1
  have hb1 : Below w.heap.size w w1 := ⟨hg1.os, hg1.tape, hg1.output, hg1.size, fun k hk => hg1.block k hk (fun e => by cases e)⟩
  have hk1 := Lib.hid ((KeptR.refl (TabB b v mb) w).of hb1)
  have ht1 := Lib.hid (h0.out.below hb1)
  have hown1 : Hid (w1.ownsRow w.heap.size 3 1 (.slice (some ⟨w.heap.size, 0, none⟩) l.length l.length) l.length (ints (nums L (l.take 0)) ++ List.replicate (l.length - 0) (.int .i64 0))) := Lib.hid (by
    rw [toList_madeCells_one] at hown
    simpa [nums, ints] using hown)
  clear hown hg1 hb1
  have ht1' := Lib.hid (ht.out.kept hk1.out hap.out)
  go_wp2
  go_loopw [17, 7, 8] (fun i _ _ wr => ∃ (k : Nat) (v1 : Value), k ≤ l.length ∧ i = .int .i64 k ∧ Hid (Tab wr B b v1 mb (putAll L (l.take k))) ∧ Hid (wr.ownsRow w.heap.size 3 1 (.slice (some ⟨w.heap.size, 0, none⟩) l.length l.length) l.length (ints (nums L (l.take k)) ++ List.replicate (l.length - k) (.int .i64 0))) ∧ Hid (KeptR (TabB b v mb) w wr) ∧ Hid ((∀ k, v1.ownBlock = some k → v.ownBlock = some k ∨ w.heap.size ≤ k) ∧ ¬ TabB b v1 mb w.heap.size) ∧ Hid (TxA wr a l)) (fun i _ _ _ => l.length - (intOf i).toNat)
  case atStart => exact ⟨0, v, Nat.zero_le _, rfl, ht1, hown1, hk1, Lib.hid ⟨fun k hk => .inl hk, fun hb => by have := (hlt.out _ hb).2; omega⟩, ht1'⟩
  case round =>
    clear ht1 hown1 hk1 ht1'
    obtain ⟨k, v1, hk, rfl, hT, hR, hK, hv, hX⟩ := hrel
    by_cases hlk : k < l.length
    · obtain ⟨ga, off, rfl, hc⟩ := hX.out.cells k hlk
      obtain ⟨s, hs⟩ : ∃ s, l.getD k ⟨#[]⟩ = s := ⟨_, rfl⟩
      have hsz := hX.out.size k
      rw [hs] at hc hsz
      have hpl := (putAll_len (l.take k) L).2
      rw [List.length_take, Nat.min_eq_left (by omega)] at hpl
      have hput := Lib.hid (in_Put hT.out s (by unfold maxLen; omega) (by omega))
      have hki : (k : Int) < (l.length : Int) := by omega
      have hk0 : (0 : Int) ≤ (k : Int) := Int.natCast_nonneg _
      have hsl : Hid (putAll L (l.take (k + 1)) = put (putAll L (l.take k)) s ∧ nums L (l.take (k + 1)) = nums L (l.take k) ++ [(putAll L (l.take k)).idxOf s] ∧ (nums L (l.take k)).length = k) := Lib.hid (by
        have e : l.take (k + 1) = l.take k ++ [s] := by
          rw [List.take_succ_eq_append_getElem hlk, ← hs, List.getD_eq_getElem?_getD, List.getElem?_eq_getElem hlk]; rfl
        rw [e]
        exact ⟨putAll_snoc _ _ _, nums_snoc _ _ _, by rw [nums_len, List.length_take]; omega⟩)
      replace hs := Lib.hid hs
      clear hsz hpl
      go_wp2_with (go_at_call 12
                   refine hput.out.mono ?_
                   rintro e w2 ⟨rfl, v2, hT2, hk2, hv2, -⟩
                   have hR2 := Lib.hid (own_keptS hR.out hk2 (fun j hj hb => by cases hj; exact hv.out.2 hb))
                   obtain ⟨u0, q0⟩ : ∃ u, w2.cell? ⟨w.heap.size, k, none⟩ = some u := by
                     rw [hR2.out.cellAt k (by omega)]
                     exact ⟨_, List.getElem?_eq_getElem (by rw [hR2.out.1]; omega)⟩
                   have f0 := own_frozenI hR2.out k
                   have hT2' := Lib.hid hT2
                   have hk2' := Lib.hid (hK.out.tab hv.out.1 hk2)
                   have hv2' := Lib.hid hv2
                   have hX2 := Lib.hid (ht.out.kept hk2'.out hap.out)
                   clear hT2 hk2 hv2)
      have hge := hlt.out b (.inl rfl)
      have hst := own_putI (j := k) (u := .int .i64 ((putAll L (l.take k)).idxOf s : Nat)) hR2.out
      rw [show l.length - k = (l.length - (k + 1)) + 1 by omega, set_ints _ _ _ _ hsl.out.2.2, ← hsl.out.2.1] at hst
      have hR3 := Lib.hid hst
      have hne2 : ¬ TabB b v2 mb w.heap.size := fun hb => by
        rcases hb with hb | hb | hb
        · exact hv.out.2 (.inl hb)
        · exact hv.out.2 (.inr (.inl hb))
        · rcases hv2'.out _ hb with h1 | h1
          · exact hv.out.2 (.inr (.inr h1))
          · have h2 := (own_lt hR.out w.heap.size rfl).2
            omega
      have hT3 := Lib.hid (hT2'.out.kept (S := (· = w.heap.size)) ((KeptR.refl _ w2).set (i := k) (u := .int .i64 ((putAll L (l.take k)).idxOf s : Nat)) (.inl rfl)) (fun j hj e => hne2 (e ▸ hj)))
      have hk3 := Lib.hid (hk2'.out.set (g := w.heap.size) (i := k) (u := .int .i64 ((putAll L (l.take k)).idxOf s : Nat)) (.inr (Nat.le_refl _)))
      have hX3 := Lib.hid (ht.out.kept hk3.out hap.out)
      have hv3 : Hid ((∀ k, v2.ownBlock = some k → v.ownBlock = some k ∨ w.heap.size ≤ k) ∧ ¬ TabB b v2 mb w.heap.size) := Lib.hid ⟨fun j hj => by
        rcases hv2'.out j hj with h1 | h1
        · exact hv.out.1 j h1
        · exact .inr (Nat.le_trans hK.out.size h1), hne2⟩
      clear hst hge hne2
      go_wp2_with fail
      go_roundw
      case rel => exact ⟨k + 1, v2, by omega, by go_num, by rw [hsl.out.1]; exact hT3, hR3, hk3, hv3, hX3⟩
      case measure => simp [intOf]; omega
    · have hke : k = l.length := by omega
      have hki : ¬ ((k : Int) < (l.length : Int)) := by omega
      rw [hke, List.take_length] at hT hR
      go_wp2_with fail
      go_ret2
      refine ⟨w.heap.size, l.length, v1, rfl, Nat.le_refl _, hv.out.2, ?_, hT.out, hK.out, hv.out.1⟩
      have := hR.out
      rw [Nat.sub_self, List.replicate_zero, List.append_nil] at this
      exact this
end
end Go.Proofs.Ytacjelpkmafkpaa
