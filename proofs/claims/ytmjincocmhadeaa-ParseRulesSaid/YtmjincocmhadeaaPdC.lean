/- Parse: the law's words: begins, term, atom, literal. -/
import Derived.Test.YtmjincocmhadeaaPdB
import Derived.Test.YtmjincocmhadeaaPmI
namespace Go.Proofs.Ytmjincocmhadeaa
open Go.RowKit Lx
theorem goes_extract {s x : ByteArray} {a : Nat} (h : goesOn (bl s) a (bl x)) : s.extract a (a + x.size) = x ∧ a + x.size ≤ s.size := by
  obtain ⟨h1, h2⟩ := h
  rw [bl_length, bl_length] at h2
  refine ⟨?_, h2⟩
  rw [extract_mk', show a + x.size - a = x.size from by omega, ← bl_length, h1, mk_bl]
theorem w8_begins (s x : ByteArray) (a : Nat) (w : World) (h : goesOn (bl s) a (bl x)) (hs : s.size ≤ 4194304) :
    Calls Try.prog 22 #[.string s, .int .i64 (a : Int), .string x] w fun e w' => e = .returned (.bool true) ∧ w = w' := by
  obtain ⟨he, hle⟩ := goes_extract h
  have h0 : (0 : Int) ≤ (a : Int) := by omega
  have h1 : (a : Int) + (x.size : Int) ≤ (s.size : Int) := by omega
  have h2 : a ≤ a + x.size := by omega
  clear h
  go_enter Try.func22, Try.ntmps22
  go_wp2_with fail
  go_ret
  exact ⟨rfl, rfl⟩
theorem w8_term (t : Bool × ByteArray) (w : World) (h : okTerm t) :
    Calls Try.prog 43 #[.agg #[.bool t.1, .string t.2]] w fun e w' => e = .returned (.bool true) ∧ Below w.heap.size w w' := by
  obtain ⟨v, x⟩ := t
  unfold okTerm at h
  dsimp only at h ⊢
  cases v with
  | true =>
    rw [if_pos rfl] at h
    have hv := fun w => r8_Variable x w h
    clear h
    go_enter Try.func43, Try.ntmps43
    go_wp2_with (go_at_call 60; refine (hv _).mono ?_; rintro e w' ⟨rfl, rfl⟩)
    go_ret
    exact ⟨rfl, (Below.refl _ _).al _⟩
  | false =>
    rw [if_neg (by decide)] at h
    have hx : (x.size : Int) ≤ 1024 := by omega
    have hx2 : decide (x.size ≤ 1024) = true := decide_eq_true h
    go_enter Try.func43, Try.ntmps43
    go_wp2_with fail
    go_ret
    exact ⟨rfl, (Below.refl _ _).al _⟩
/-- a row of terms in memory -/
theorem term_cells {w : World} {lo : Nat} {va : Option Addr} {vc : Nat} {l : List (Bool × ByteArray)} (h : w.ownsRow lo 64 2 (.slice va l.length vc) l.length (flatTT l)) (j : Nat) (hj : j < l.length) :
    ∃ g, va = some ⟨g, 0, none⟩ ∧ w.cell? ⟨g, j * 2, none⟩ = some (.bool (l[j]).1) ∧ w.cell? ⟨g, j * 2 + 1, none⟩ = some (.string (l[j]).2) := by
  obtain ⟨g, c, e, -⟩ := own_shape h (by omega)
  injection e with e1 e2 e3
  subst e1 e3
  have hf := fun o ho => flat_get (fun x : Bool × ByteArray => [Value.bool x.1, .string x.2]) 2 (fun _ => rfl) l j o ho
  refine ⟨g, rfl, ?_, ?_⟩
  · have := own_at h (j * 2 + 0) (.bool (l[j]).1) (by
      show (l.flatMap _)[_]? = _
      rw [hf 0 (by decide), List.getElem?_eq_getElem hj]; rfl)
    exact this
  · exact own_at h (j * 2 + 1) (.string (l[j]).2) (by
      show (l.flatMap _)[_]? = _
      rw [hf 1 (by decide), List.getElem?_eq_getElem hj]; rfl)
set_option maxHeartbeats 1000000 in
set_option maxRecDepth 100000 in
theorem w8_atom (p : ByteArray) (l : List (Bool × ByteArray)) (va : Option Addr) (vc lo : Nat) (w : World) (hown : w.ownsRow lo 64 2 (.slice va l.length vc) l.length (flatTT l)) (h : okAtom p l) :
    Calls Try.prog 23 #[.agg #[.string p, .slice va l.length vc]] w fun e w' => e = .returned (.bool true) ∧ Below w.heap.size w w' := by
  obtain ⟨hp, hl, ht⟩ := h
  have hn := fun w => r8_Name p w hp
  have hl16 : ¬ 16 < l.length := by omega
  replace ht := Lib.hid ht
  replace hown := Lib.hid hown
  have hb1 : Hid (Below w.heap.size w (w.alloc (.cells #[.string p, .slice va l.length vc] 26))) := Lib.hid ((Below.refl _ _).al _)
  have hr1 := Lib.hid (heap_alloc_new w (.cells #[.string p, .slice va l.length vc] 26))
  go_enter Try.func23, Try.ntmps23
  go_wp2_with (go_at_call 21; refine (hn _).mono ?_; rintro e w' ⟨rfl, rfl⟩)
  go_loopw [3] (fun i wr => ∃ j : Nat, j ≤ l.length ∧ i = .int .i64 j ∧ Hid (Below (w.alloc (.cells #[.string p, .slice va l.length vc] 26)).heap.size (w.alloc (.cells #[.string p, .slice va l.length vc] 26)) wr)) (fun i _ => l.length - (intOf i).toNat)
  case atStart => exact ⟨0, Nat.zero_le _, rfl, Lib.hid (Below.refl _ _)⟩
  case round =>
    obtain ⟨j, hj, rfl, hbr⟩ := hrel
    have k1 : wr.cell? ⟨w.heap.size, 1, none⟩ = some (.slice va l.length vc) := cell_below hbr.out rfl ((cell_of_row _ _ _ _ _ _ hr1.out).trans rfl)
    by_cases hlt : j < l.length
    · have hji : (j : Int) < (l.length : Int) := by omega
      obtain ⟨g, rfl, t1, t2⟩ := term_cells hown.out j hlt
      have t1' := cell_below hbr.out rfl (cell_below hb1.out rfl t1)
      have t2' := cell_below hbr.out rfl (cell_below hb1.out rfl t2)
      have hct := fun w => w8_term l[j] w (ht.out _ (List.getElem_mem hlt))
      clear t1 t2
      generalize l[j] = tj at hct t1' t2'
      go_wp2_with (go_at_call 43; refine (hct _).mono ?_; rintro e w2 ⟨rfl, hb2⟩; have hb3 := Lib.hid (hbr.out.trans (hb2.mono hbr.out.size)); clear hb2)
      exact ⟨⟨j + 1, by omega, by go_num, hb3⟩, by simp [intOf]; omega⟩
    · have hji : (l.length : Int) ≤ (j : Int) := by omega
      go_wp2_with fail
      go_ret
      exact ⟨rfl, hb1.out.trans (hbr.out.mono hb1.out.size)⟩
end Go.Proofs.Ytmjincocmhadeaa
