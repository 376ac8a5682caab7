/- Parse: ParseBlanks, plain: blanks behind lines; and the gap. -/
import Derived.Test.YtmjincocmhadeaaPfC
import Derived.Test.YtmjincocmhadeaaPfD
namespace Go.Proofs.Ytmjincocmhadeaa
open Go.RowKit Lx
namespace Lx
def nlF (c : UInt8) : Bool := decide (bi c ≠ 10)
/-- a gap of blanks out of any text -/
def gapL (s : Bs) : Bs := 37 :: 32 :: (s.filter nlF ++ [10, 9, 32, 13])
theorem gap_blank (s x : Bs) : skipN false (gapL s ++ x) = (gapL s).length + skipN false x := by
  have key : ∀ (l y : Bs), (∀ c ∈ l, bi c ≠ 10) → skipN true (l ++ y) = l.length + skipN true y := by
    intro l y
    induction l with
    | nil => intro _; simp
    | cons c r ih =>
      intro h
      have hc := h c (List.mem_cons_self)
      rw [List.cons_append]
      simp only [skipN]
      rw [show (!(bi c == 10)) = true from by simp [hc], ih fun d hd => h d (List.mem_cons_of_mem _ hd), List.length_cons]
      omega
  have hf : ∀ c ∈ s.filter nlF, bi c ≠ 10 := fun c hc => by
    have := (List.mem_filter.1 hc).2
    unfold nlF at this
    simpa using this
  have h32 : skipN true (32 :: (s.filter nlF ++ [10, 9, 32, 13]) ++ x) = 1 + ((s.filter nlF).length + skipN true ([10, 9, 32, 13] ++ x)) := by
    rw [List.cons_append]
    show 1 + skipN (!(bi 32 == 10)) _ = _
    rw [show (!(bi 32 == 10)) = true from rfl, List.append_assoc, key _ _ hf]
  have h4 : skipN true ([10, 9, 32, 13] ++ x) = 4 + skipN false x := by
    show 1 + skipN (!(bi 10 == 10)) (9 :: 32 :: 13 :: x) = _
    rw [show (!(bi 10 == 10)) = false from rfl]
    have e1 : skipN false (9 :: 32 :: 13 :: x) = 1 + skipN false (32 :: 13 :: x) := by simp only [skipN]; rfl
    have e2 : skipN false (32 :: 13 :: x) = 1 + skipN false (13 :: x) := by simp only [skipN]; rfl
    have e3 : skipN false (13 :: x) = 1 + skipN false x := by simp only [skipN]; rfl
    rw [e1, e2, e3]; omega
  have h0 : skipN false (gapL s ++ x) = 1 + skipN true (32 :: (s.filter nlF ++ [10, 9, 32, 13]) ++ x) := by
    show skipN false (37 :: (32 :: (s.filter nlF ++ [10, 9, 32, 13]) ++ x)) = _
    simp only [skipN]; rfl
  rw [h0, h32, h4]
  unfold gapL
  rw [List.length_cons, List.length_cons, List.length_append]
  show _ = (s.filter nlF).length + 4 + 1 + 1 + _
  omega
theorem Wid.app {l m l' m' : Bs} (h : Wid l m) (h' : Wid l' m') : Wid (l ++ l') (m ++ m') := by
  induction h with
  | nil => exact h'
  | byte c l m _ ih => exact .byte c _ _ ih
  | gap g l m hg _ ih =>
    have := Wid.gap g _ _ hg ih
    rw [← List.append_assoc] at this
    exact this
theorem Wid.same : ∀ l : Bs, Wid l l
  | [] => .nil
  | c :: r => .byte c _ _ (Wid.same r)
end Lx
def gapS (s : ByteArray) : ByteArray := mk (gapL (bl s))
def plN (T : List ByteArray) : Nat → ByteArray
  | 0 => ⟨#[]⟩
  | k + 1 => plN T k ++ T.getD k ⟨#[]⟩ ++ ⟨#[10]⟩
def wdN (T G : List ByteArray) : Nat → ByteArray
  | 0 => ⟨#[]⟩
  | k + 1 => if G.length = 0 then wdN T G k ++ T.getD k ⟨#[]⟩ ++ ⟨#[10]⟩ else wdN T G k ++ T.getD k ⟨#[]⟩ ++ ⟨#[10]⟩ ++ gapS (G.getD (k % G.length) ⟨#[]⟩)
def cntN (T G : List ByteArray) : Nat → Nat
  | 0 => T.length
  | k + 1 => if G.length = 0 then cntN T G k + (T.getD k ⟨#[]⟩).size else cntN T G k + (T.getD k ⟨#[]⟩).size + (G.getD (k % G.length) ⟨#[]⟩).size
theorem bl_app3 (a b : ByteArray) : bl (a ++ b) = bl a ++ bl b := by simp [bl]
theorem size_bl (s : ByteArray) : s.size = (bl s).length := (bl_length s).symm
theorem gapS_size (s : ByteArray) : (gapS s).size ≤ s.size + 6 := by
  rw [size_bl, size_bl s]
  unfold gapS
  rw [bl_mk]
  unfold gapL
  have := List.length_filter_le nlF (bl s)
  simp only [List.length_cons, List.length_append, List.length_nil]
  omega
theorem wid_N (T G : List ByteArray) : ∀ k, Wid (bl (plN T k)) (bl (wdN T G k))
  | 0 => .nil
  | k + 1 => by
    have ih := wid_N T G k
    unfold plN wdN
    have h10 : bl ⟨#[10]⟩ = [10] := rfl
    by_cases h : G.length = 0
    · rw [if_pos h, bl_app3, bl_app3, bl_app3, bl_app3]
      exact (ih.app (Wid.same _)).app (Wid.same _)
    · rw [if_neg h, bl_app3, bl_app3, bl_app3, bl_app3, bl_app3, List.append_assoc (bl (wdN T G k) ++ _)]
      refine (ih.app (Wid.same _)).app ?_
      rw [h10]
      have hg : bl (gapS (G.getD (k % G.length) ⟨#[]⟩)) = gapL (bl (G.getD (k % G.length) ⟨#[]⟩)) := bl_mk _
      rw [hg]
      have := Wid.gap (gapL (bl (G.getD (k % G.length) ⟨#[]⟩))) [] [] (fun x => gap_blank _ x) .nil
      rw [List.append_nil] at this
      exact this
theorem app_size (a b : ByteArray) : (a ++ b).size = a.size + b.size := by
  rw [size_bl, size_bl a, size_bl b, bl_app3, List.length_append]
theorem pl_size (T G : List ByteArray) : ∀ k, (plN T k).size + T.length ≤ cntN T G k + k ∧ (wdN T G k).size + T.length ≤ cntN T G k + 7 * k
  | 0 => ⟨by show 0 + _ ≤ _; simp [cntN], by show 0 + _ ≤ _; simp [cntN]⟩
  | k + 1 => by
    have ⟨i1, i2⟩ := pl_size T G k
    have h10 : (⟨#[10]⟩ : ByteArray).size = 1 := rfl
    unfold plN wdN cntN
    by_cases h : G.length = 0
    · rw [if_pos h, if_pos h, app_size, app_size, app_size, app_size, h10]
      constructor <;> omega
    · have := gapS_size (G.getD (k % G.length) ⟨#[]⟩)
      rw [if_neg h, if_neg h, app_size, app_size, app_size, app_size, app_size, h10]
      constructor <;> omega
theorem pl_le (T G : List ByteArray) : ∀ k, (bl (plN T k)).length ≤ (bl (wdN T G k)).length
  | 0 => Nat.le_refl _
  | k + 1 => by
    have ih := pl_le T G k
    rw [← size_bl, ← size_bl] at ih ⊢
    unfold plN wdN
    by_cases h : G.length = 0
    · rw [if_pos h, app_size, app_size, app_size, app_size]; omega
    · rw [if_neg h, app_size, app_size, app_size, app_size, app_size]; omega
/-- texts in memory -/
structure TxA (w : World) (a : Option Addr) (l : List ByteArray) : Prop where
  len : l.length ≤ 140737488355328
  cells : ∀ i, i < l.length → ∃ b off, a = some ⟨b, off, none⟩ ∧ w.cell? ⟨b, off + i, none⟩ = some (.string (l.getD i ⟨#[]⟩))
  size : ∀ i, (l.getD i ⟨#[]⟩).size ≤ 140737488355328
theorem TxA.below {w w' : World} {a : Option Addr} {l : List ByteArray} (h : TxA w a l) (hb : Below w.heap.size w w') : TxA w' a l :=
  ⟨h.len, fun i hi => let ⟨b, off, ha, hc⟩ := h.cells i hi; ⟨b, off, ha, cell_below hb rfl hc⟩, h.size⟩
theorem filter_take (s : ByteArray) (k : Nat) (h : k < s.size) : ((bl s).take (k + 1)).filter nlF = ((bl s).take k).filter nlF ++ (if bat s k = 10 then [] else [(bl s).getD k 0]) := by
  have h' : k < (bl s).length := by rw [bl_length]; exact h
  rw [List.take_succ_eq_append_getElem h', List.filter_append]
  have hb : bat s k = bi (bl s)[k] := by unfold bat; rw [List.getD_eq_getElem?_getD, List.getElem?_eq_getElem h']; rfl
  have hg : (bl s).getD k 0 = (bl s)[k] := by rw [List.getD_eq_getElem?_getD, List.getElem?_eq_getElem h']; rfl
  rw [hb, hg]
  congr 1
  generalize (bl s)[k] = c
  by_cases h10 : bi c = 10
  · rw [if_pos h10, List.filter_cons, if_neg (by simp [nlF, h10])]; rfl
  · rw [if_neg h10, List.filter_cons, if_pos (by simp [nlF, h10])]; rfl
set_option maxHeartbeats 1000000 in
set_option maxRecDepth 100000 in
theorem w8_gap (s : ByteArray) (w : World) (hs : s.size ≤ 140737488355328) : Calls Try.prog 20 #[.string s] w fun e w' => e = .returned (.string (gapS s)) ∧ Drawn w w' := by
  go_enter Try.func20, Try.ntmps20
  go_wp2_with fail
  go_loopw [3, 4] (fun o i wr => ∃ k : Nat, k ≤ s.size ∧ i = .int .i64 k ∧ o = .string (mk (37 :: 32 :: ((bl s).take k).filter nlF)) ∧ Hid (Drawn w wr)) (fun _ i _ => s.size - (intOf i).toNat)
  case atStart => exact ⟨0, Nat.zero_le _, rfl, rfl, Lib.hid ⟨0, rfl⟩⟩
  case round =>
    obtain ⟨k, hk, rfl, rfl, hd⟩ := hrel
    by_cases hlt : k < s.size
    · have hidx := fun w => run_index_str (P := Try.prog) Try.underlying9 s k hlt w
      have hft := filter_take s k hlt
      by_cases h10 : bat s k = 10
      · rw [if_pos h10, List.append_nil] at hft
        replace hft := Lib.hid hft
        rw [h10] at hidx
        clear h10
        go_wp2_with fail
        go_roundw
        case rel => exact ⟨k + 1, by omega, by go_num, by rw [hft.out], hd⟩
        case measure => simp [intOf]; omega
      · rw [if_neg h10] at hft
        replace hft := Lib.hid hft
        have hne : (bat s k == 10) = false := by rw [beq_eq_false_iff_ne]; exact h10
        have hex : Hid (s.extract k (k + 1) = mk [(bl s).getD k 0]) := Lib.hid (by
          rw [extract_mk']
          have h' : k < (bl s).length := by rw [bl_length]; exact hlt
          rw [List.getD_eq_getElem?_getD, List.getElem?_eq_getElem h', List.drop_eq_getElem_cons h']
          simp)
        have hsz : (mk (37 :: 32 :: ((bl s).take k).filter nlF)).size ≤ k + 2 := by
          rw [size_bl, bl_mk, List.length_cons, List.length_cons]
          have h1 := List.length_filter_le nlF ((bl s).take k)
          rw [List.length_take] at h1; omega
        have hrel2 : Hid (mk (37 :: 32 :: ((bl s).take k).filter nlF) ++ s.extract k (k + 1) = mk (37 :: 32 :: ((bl s).take (k + 1)).filter nlF)) := Lib.hid (by
          rw [hex.out, hft.out]
          apply bl_inj
          rw [bl_app3, bl_mk, bl_mk, bl_mk]; rfl)
        clear h10 hft hex
        generalize bat s k = c at hidx hne
        generalize mk (37 :: 32 :: ((bl s).take k).filter nlF) = o at hsz hrel2
        have hq : ¬ 9223372036854775807 < o.size + (min (k + 1) s.size - k) := by omega
        go_wp2_with fail
        go_roundw
        case rel => exact ⟨k + 1, by omega, by go_num, by rw [hrel2.out], hd⟩
        case measure => simp [intOf]; omega
    · have hke : k = s.size := by omega
      subst hke
      have ht : (bl s).take s.size = bl s := by rw [List.take_of_length_le]; rw [bl_length]; exact Nat.le_refl _
      rw [ht]
      clear ht
      have hsz : (mk (37 :: 32 :: (bl s).filter nlF)).size ≤ s.size + 2 := by
        rw [size_bl, bl_mk, List.length_cons, List.length_cons, size_bl s]
        have h1 := List.length_filter_le nlF (bl s)
        omega
      have hG : Hid (mk (37 :: 32 :: (bl s).filter nlF) ++ ⟨#[10, 9, 32, 13]⟩ = gapS s) := Lib.hid (by
        apply bl_inj
        unfold gapS gapL
        rw [bl_app3, bl_mk, bl_mk]; rfl)
      generalize mk (37 :: 32 :: (bl s).filter nlF) = o at hsz hG
      have hq : ¬ 9223372036854775807 < o.size + 4 := by omega
      go_wp2_with fail
      go_ret
      exact ⟨by rw [← hG.out]; rfl, hd.out⟩
end Go.Proofs.Ytmjincocmhadeaa
