/- Parse: the document's reader in memory; its small functions. -/
import Derived.Test.YtmjincocmhadeaaDoorPmN
import Derived.Deep.QuietTactic
import Derived.BigQuiet
import Derived.Deep.RegionHeld3
set_option maxHeartbeats 8000000
set_option maxRecDepth 100000
namespace Go.Proofs.YtmjincocmhadeaaDoor
open Go.RowKit Lx
/-- a reader: its text, its place, whether it has stopped -/
structure Rd (w : World) (b : Nat) (s : ByteArray) (p : Int) (d : Bool) : Prop where
  blk : w.heap[b]? = some (.cells #[.string s,.int .i64 p,.bool d] 73)
  le0 : 0 ≤ p
  le : p ≤ s.size
  len : s.size ≤ 4194304
namespace Lx
def posI : Except Int Nat → Int
  | .ok p => p
  | .error e => e
def badB : Except Int Nat → Bool
  | .ok _ => false
  | .error _ => true
end Lx
/-- a reader after what it has told -/
def Rs (w : World) (b : Nat) (s : ByteArray) (S : Except Int Nat) : Prop := Rd w b s (posI S) (badB S)
section
variable {w w' : World} {b : Nat} {s : ByteArray} {p : Int} {d : Bool}
theorem Rd.cells (h : Rd w b s p d) : w.cell? ⟨b,0,none⟩ = some (.string s) ∧ w.cell? ⟨b,1,none⟩ = some (.int .i64 p) ∧ w.cell? ⟨b,2,none⟩ = some (.bool d) ∧ w.frozen? ⟨b,1,none⟩ = false ∧ w.frozen? ⟨b,2,none⟩ = false := by
 have := h.blk;exact ⟨by simp [World.cell?,this],by simp [World.cell?,this],by simp [World.cell?,this],by simp [World.frozen?,this],by simp [World.frozen?,this]⟩
theorem Rd.drawn (h : Rd w b s p d) (hd : Drawn w w') : Rd w' b s p d := by
 obtain ⟨n,rfl⟩ := hd;exact ⟨by rw [show (w.drewN n).heap = w.heap from rfl];exact h.blk,h.le0,h.le,h.len⟩
theorem Rd.below (h : Rd w b s p d) (hb : Below w.heap.size w w') : Rd w' b s p d :=
  ⟨(hb.block _ (Array.getElem?_eq_some_iff.1 h.blk).1).trans h.blk,h.le0,h.le,h.len⟩
theorem Rd.lt (h : Rd w b s p d) : b < w.heap.size := (Array.getElem?_eq_some_iff.1 h.blk).1
theorem Rd.move (h : Rd w b s p d) (q : Int) (hq0 : 0 ≤ q) (hq : q ≤ s.size) : Rd (w.setCell ⟨b,1,none⟩ (.int .i64 q)) b s q d :=
  ⟨Go.heap_setCell_same w b 1 _ _ _ h.blk,hq0,hq,h.len⟩
theorem Rd.spoil (h : Rd w b s p d) : Rd (w.setCell ⟨b,2,none⟩ (.bool true)) b s p true :=
  ⟨Go.heap_setCell_same w b 2 _ _ _ h.blk,h.le0,h.le,h.len⟩
end
theorem re_end {w : World} {b : Nat} {s : ByteArray} {p : Int} {d : Bool} (h : Rd w b s p d) :
    Calls Tryd.prog 23 #[.pointer (some ⟨b,0,none⟩)] w fun e w' => e = .returned (.bool (decide ((s.size : Int) ≤ p))) ∧ Drawn w w' := by
 obtain ⟨c0,c1,c2,-⟩ := h.cells;go_enter Tryd.func23,Tryd.ntmps23;go_wp2_with fail;go_quiet (fail);have hd2 : Hid (Drawn w (w.drewN nq)) := Lh ⟨nq,rfl⟩;generalize w.drewN nq = w2 at hd2 ⊢;go_wp2_with fail;go_ret;exact ⟨ret_bool (by first | rfl | (rw [Bool.eq_iff_iff];simp)),hd2.out⟩
theorem re_stop {w : World} {b : Nat} {s : ByteArray} {p : Int} (h : Rd w b s p false) (q : Int) (hq0 : 0 ≤ q) (hq : q ≤ s.size) :
    Calls Tryd.prog 40 #[.pointer (some ⟨b,0,none⟩),.int .i64 q] w fun e w' => e = .returned (.tuple #[]) ∧ Rd w' b s q true ∧ Mvd b w w' := by
 obtain ⟨c0,c1,c2,c3,c4⟩ := h.cells;go_enter Tryd.func40,Tryd.ntmps40;go_wp2_with fail;go_end0;exact ⟨rfl,(h.spoil.move q hq0 hq),((Mvd.refl b w).set _ _).set _ _⟩
/-- the byte that is peeked at -/
def pe (s : ByteArray) (p : Int) : Int := if p < s.size then bat s p.toNat else 0
theorem pk_bat (s : ByteArray) (p : Nat) : pk (bl s) p = if p < s.size then bat s p else -1 := by
 unfold pk bat
 by_cases h : p < s.size
 · have h' : p < (bl s).length := by rw [bl_length];exact h
   rw [if_pos h,List.getD_eq_getElem?_getD,List.getElem?_eq_getElem h'];rfl
 · have h' : (bl s).length ≤ p := by rw [bl_length];omega
   rw [if_neg h,List.getElem?_eq_none h']
theorem pe_in (s : ByteArray) (p : Nat) (h : p < s.size) : pe s p = pk (bl s) p := by
 rw [pk_bat,if_pos h];unfold pe;rw [if_pos (by omega)];rfl
theorem pe_out (s : ByteArray) (p : Nat) (h : ¬ p < s.size) : pe s p = 0 ∧ pk (bl s) p = -1 := by
 rw [pk_bat,if_neg h];unfold pe;rw [if_neg (by omega)];exact ⟨rfl,rfl⟩
/-- a byte that is no end and no 0 is peeked at where it stands -/
theorem pe_eq (s : ByteArray) (p : Nat) (c : Int) (hc : 0 < c) : pe s p = c ↔ pk (bl s) p = c := by
 by_cases h : p < s.size
 · rw [pe_in s p h]
 · obtain ⟨h1,h2⟩ := pe_out s p h;rw [h1,h2];constructor <;> intro h <;> omega
theorem re_peek {w : World} {b : Nat} {s : ByteArray} {p : Int} {d : Bool} (h : Rd w b s p d) :
    Calls Tryd.prog 38 #[.pointer (some ⟨b,0,none⟩)] w fun e w' => e = .returned (.int .u8 (pe s p)) ∧ Drawn w w' := by
 have hen := re_end h;obtain ⟨n,rfl⟩ : ∃ n : Nat,p = n := ⟨p.toNat,by have := h.le0;omega⟩
 by_cases hp : n < s.size
 · rw [show decide ((s.size : Int) ≤ (n : Int)) = false from decide_eq_false (by omega)] at hen;have hpe : Hid (pe s n = bat s n) := Lh (if_pos (by omega));have hidx := fun w => run_index_str (P := Tryd.prog) Tryd.underlying9 s n hp w;go_enter Tryd.func38,Tryd.ntmps38
   go_wp2_with (go_at_call 23;refine hen.mono ?_;rintro e w1 ⟨rfl,hd1⟩;have hr1 := h.drawn hd1;obtain ⟨c0,c1,c2,-⟩ := hr1.cells;replace hd1 := Lh hd1)
   go_quiet (fail);have hd2 : Hid (Drawn w (w1.drewN nq)) := Lh (hd1.out.step nq);generalize w1.drewN nq = w2 at hd2 ⊢;go_wp2_with fail;go_ret;exact ⟨by rw [hpe.out];rfl,hd2.out⟩
 · rw [show decide ((s.size : Int) ≤ (n : Int)) = true from decide_eq_true (by omega)] at hen;have hpe : Hid (pe s n = 0) := Lh (if_neg (by omega));go_enter Tryd.func38,Tryd.ntmps38
   go_wp2_with (go_at_call 23;refine hen.mono ?_;rintro e w1 ⟨rfl,hd1⟩;replace hd1 := Lh hd1)
   go_ret;exact ⟨by rw [hpe.out];rfl,hd1.out⟩
theorem r8_blank (c : Int) (w : World) : Calls Tryd.prog 37 #[.int .u8 c] w fun e w' => e = .returned (.bool (blankB c)) ∧ w = w' := by
 go_enter Tryd.func37,Tryd.ntmps37;go_wp2
 all_goals go_ret
 all_goals exact ⟨ret_bool (by unfold blankB;rw [Bool.eq_iff_iff];simp <;> omega),rfl⟩
/-- what a function of the reader tells: R, what the plain one tells -/
def RePost (b : Nat) (s : ByteArray) (w0 : World) {α : Type} (V : World → Value → α → Prop) (R : Except Int (α × Nat)) (e : Ending) (w' : World) : Prop :=
  ∃ v x,e = .returned v ∧ V w' v x ∧ (∀ y,R = .ok y → x = y.1) ∧ Rs w' b s (R.map (·.2)) ∧ Mvd b w0 w'
def VStr (_ : World) (v : Value) (x : Bs) : Prop := v = .string (mk x)
end Go.Proofs.YtmjincocmhadeaaDoor
/- Parse: the document's reader: skip, wordly, sign. -/
namespace Go.Proofs.YtmjincocmhadeaaDoor
open Go.RowKit Lx
theorem Rs.ok {w : World} {b : Nat} {s : ByteArray} {p : Nat} (h : Rd w b s (p : Int) false) : Rs w b s (.ok p) := h
theorem Rs.err {w : World} {b : Nat} {s : ByteArray} {p : Int} (h : Rd w b s p true) : Rs w b s (.error p) := h
/-- a reader's place -/
def placeOf (w : World) (b : Nat) : Nat := match w.cell? ⟨b,1,none⟩ with
  | some v => (intOf v).toNat
  | none => 0
theorem placeOf_rd {w : World} {b : Nat} {s : ByteArray} {p : Nat} {d : Bool} (h : Rd w b s (p : Int) d) : placeOf w b = p := by
 unfold placeOf;rw [h.cells.2.1];simp [intOf]
theorem rskip_at (s : ByteArray) (q : Nat) : rSkip (bl s) q = q + skipN false ((bl s).drop q) := rfl
theorem re_skip_bad {w : World} {b : Nat} {s : ByteArray} {p : Int} (h : Rd w b s p true) :
    Calls Tryd.prog 22 #[.pointer (some ⟨b,0,none⟩)] w fun e w' => e = .returned (.tuple #[]) ∧ w = w' := by
 obtain ⟨c0,c1,c2,-⟩ := h.cells;go_enter Tryd.func22,Tryd.ntmps22;go_wp2_with fail
 go_loopw [] (fun wr => w = wr) (fun _ => 0)
 case atStart => rfl
 case round =>
  subst hrel;go_wp2_with fail;go_end0;exact ⟨rfl,rfl⟩
theorem re_skip_ok {w : World} {b : Nat} {s : ByteArray} {p : Nat} (h : Rd w b s (p : Int) false) :
    Calls Tryd.prog 22 #[.pointer (some ⟨b,0,none⟩)] w fun e w' => e = .returned (.tuple #[]) ∧ Rd w' b s (rSkip (bl s) p : Nat) false ∧ Mvd b w w' := by
 have hlen := h.len;go_enter Tryd.func22,Tryd.ntmps22;go_wp2_with fail
 go_loopw [] (fun wr => ∃ q : Nat,Hid (Rd wr b s (q : Int) false) ∧ Hid (rSkip (bl s) q = rSkip (bl s) p) ∧ Hid (Mvd b w wr)) (fun wr => s.size - placeOf wr b)
 case atStart => exact ⟨p,Lh h,Lh rfl,Lh (Mvd.refl _ _)⟩
 case round =>
  obtain ⟨q,hr,hq,hm⟩ := hrel;have hme := Lh (placeOf_rd hr.out);obtain ⟨c0,c1,c2,-⟩ := hr.out.cells;have hen := re_end hr.out;have hpk := fun w h => re_peek (w := w) (b := b) (s := s) (p := (q : Int)) (d := false) h
  by_cases hlt : q < s.size
  · rw [show decide ((s.size : Int) ≤ (q : Int)) = false from decide_eq_false (by omega)] at hen;rw [show pe s (q : Int) = bat s q from if_pos (by omega)] at hpk;have hstep := Lh fun (w : World) (h : Rd w b s (q : Int) false) => h.move ((q : Int) + 1) (by omega) (by omega)
    have hb37 : bat s q = 37 → rSkip (bl s) q = q + skipN true ((bl s).drop q) := fun h37 => by
     rw [rskip_at,skip_37 s q hlt h37,skip_rem s q hlt,h37];rfl
    by_cases hbl : blankB (bat s q) = true
    · have hn : Hid (rSkip (bl s) (q + 1) = rSkip (bl s) q) := Lh (by
        have h1 : bat s q = 32 ∨ bat s q = 9 ∨ bat s q = 10 ∨ bat s q = 13 := by simpa [blankB] using hbl
        rw [rskip_at,rskip_at,skip_blank s q hlt (by omega) h1];omega)
      have hbk := fun w => r8_blank (bat s q) w;rw [hbl] at hbk;clear hbl hb37;generalize bat s q = c at hpk hbk
      go_wp2_with (first
        | (go_at_call 23;refine hen.mono ?_;rintro e w1 ⟨rfl,hd1⟩;have hr1 := hr.out.drawn hd1;replace hd1 := Lh hd1;clear hen)
        | (go_at_call 38;refine (hpk _ hr1).mono ?_;rintro e w2 ⟨rfl,hd2⟩;have hr2 := hr1.drawn hd2;have hd3 := Lh (hd1.out.trans hd2);obtain ⟨e0,e1,e2,e3,e4⟩ := hr2.cells)
        | (go_at_call 37;refine (hbk _).mono ?_;rintro e w' ⟨rfl,rfl⟩))
      have hr3 := Lh (hstep.out _ hr2);have hm3 := Lh ((hm.out.trans (Mvd.of (hd3.out.below _))).trans ((Mvd.refl b w2).set 1 (.int .i64 ((q : Int) + 1))));go_roundw
      case rel => exact ⟨q + 1,hr3,Lh (hn.out.trans hq.out),hm3⟩
      case measure =>
       have h2 : Rd (w2.setCell ⟨b,1,none⟩ (.int .i64 ((q : Int) + 1))) b s ((q + 1 : Nat) : Int) false := hr3.out;rw [placeOf_rd h2,hme.out];omega
    · have hbk := fun w => r8_blank (bat s q) w;rw [show blankB (bat s q) = false from by rw [Bool.eq_false_iff];exact hbl] at hbk
      by_cases h37 : bat s q = 37
      · have hb := hb37 h37;rw [h37] at hpk hbk;clear hb37 hbl
        go_wp2_with (first
          | (go_at_call 23;refine hen.mono ?_;rintro e w1 ⟨rfl,hd1⟩;have hr1 := hr.out.drawn hd1;replace hd1 := Lh hd1;clear hen)
          | (go_at_call 38;have hg := hd3;refine (hpk _ hr2).mono ?_;rintro e w3 ⟨rfl,hd4⟩;have hr3 := hr2.drawn hd4;have hd5 := Lh (hd3.out.trans hd4);clear hg)
          | (go_at_call 38;refine (hpk _ hr1).mono ?_;rintro e w2 ⟨rfl,hd2⟩;have hr2 := hr1.drawn hd2;have hd3 := Lh (hd1.out.trans hd2))
          | (go_at_call 37;refine (hbk _).mono ?_;rintro e w' ⟨rfl,rfl⟩))
        have hm3 := Lh (hm.out.trans (Mvd.of (hd5.out.below _)));replace hr3 := Lh hr3;clear hr1 hr2 hr hm hd1 hd3 hd5 hpk hbk hstep c0 c1 c2
        go_loopw [] (fun wi => ∃ j : Nat,q ≤ j ∧ Hid (Rd wi b s (j : Int) false) ∧ Hid (j + skipN true ((bl s).drop j) = rSkip (bl s) q) ∧ Hid (Mvd b w wi)) (fun wi => s.size - placeOf wi b)
        case atStart => exact ⟨q,Nat.le_refl _,hr3,Lh hb.symm,hm3⟩
        case round =>
         clear hr3 hm3;obtain ⟨j,hqj,hr,hj,hm⟩ := hrel;have hmj := Lh (placeOf_rd hr.out);have hen := re_end hr.out;have hpk := fun w h => re_peek (w := w) (b := b) (s := s) (p := (j : Int)) (d := false) h
         by_cases hlj : j < s.size
         · rw [show decide ((s.size : Int) ≤ (j : Int)) = false from decide_eq_false (by omega)] at hen;rw [show pe s (j : Int) = bat s j from if_pos (by omega)] at hpk;have hstep := Lh fun (w : World) (h : Rd w b s (j : Int) false) => h.move ((j : Int) + 1) (by omega) (by omega)
           by_cases h10 : bat s j = 10
           · have hT : Hid (rSkip (bl s) j = rSkip (bl s) q) := Lh (by
               rw [← hj.out,skip_rem s j hlj,h10,rskip_at,skip_blank s j hlj (by rw [h10];decide) (.inr (.inr (.inl h10)))];rfl)
             have hlt2 : q < j := by
              rcases Nat.lt_or_ge q j with h | h
              · exact h
              · have : q = j := by omega
                subst this;rw [h37] at h10;cases h10
             rw [h10] at hpk;clear h10 hj
             go_wp2_with (first
               | (go_at_call 23;refine hen.mono ?_;rintro e w1 ⟨rfl,hd1⟩;have hr1 := hr.out.drawn hd1;replace hd1 := Lh hd1;clear hen)
               | (go_at_call 38;refine (hpk _ hr1).mono ?_;rintro e w2 ⟨rfl,hd2⟩;have hr2 := hr1.drawn hd2;have hd3 := Lh (hd1.out.trans hd2)))
             have hm5 := Lh (hm.out.trans (Mvd.of (hd3.out.below _)));go_roundw
             case rel => exact ⟨j,Lh hr2,Lh (hT.out.trans hq.out),hm5⟩
             case measure => rw [placeOf_rd hr2,hme.out];omega
           · have hne : (bat s j == 10) = false := by rw [beq_eq_false_iff_ne];exact h10
             have hT : Hid (j + 1 + skipN true ((bl s).drop (j + 1)) = rSkip (bl s) q) := Lh (by
              rw [← hj.out,skip_rem s j hlj,hne];show _ = j + (1 + skipN true _);omega)
             clear h10 hj;generalize bat s j = c at hpk hne
             go_wp2_with (first
               | (go_at_call 23;refine hen.mono ?_;rintro e w1 ⟨rfl,hd1⟩;have hr1 := hr.out.drawn hd1;replace hd1 := Lh hd1;clear hen)
               | (go_at_call 38;refine (hpk _ hr1).mono ?_;rintro e w2 ⟨rfl,hd2⟩;have hr2 := hr1.drawn hd2;have hd3 := Lh (hd1.out.trans hd2);obtain ⟨e0,e1,e2,e3,e4⟩ := hr2.cells))
             have hr3 := Lh (hstep.out _ hr2);have hm3 := Lh ((hm.out.trans (Mvd.of (hd3.out.below _))).trans ((Mvd.refl b w2).set 1 (.int .i64 ((j : Int) + 1))));go_roundw
             case rel => exact ⟨j + 1,by omega,hr3,hT,hm3⟩
             case measure =>
              have h2 : Rd (w2.setCell ⟨b,1,none⟩ (.int .i64 ((j : Int) + 1))) b s ((j + 1 : Nat) : Int) false := hr3.out;rw [placeOf_rd h2,hmj.out];omega
         · rw [show decide ((s.size : Int) ≤ (j : Int)) = true from decide_eq_true (by omega)] at hen
           have hT : Hid (rSkip (bl s) j = rSkip (bl s) q) := Lh (by
            rw [← hj.out,skip_end s true j (by omega),rskip_at,skip_end s false j (by omega)])
           clear hj hpk
           go_wp2_with (first
             | (go_at_call 23;refine hen.mono ?_;rintro e w1 ⟨rfl,hd1⟩;have hr1 := hr.out.drawn hd1;have hm1 := Lh (hm.out.trans (Mvd.of (hd1.below _)));clear hen))
           go_roundw
           case rel => exact ⟨j,Lh hr1,Lh (hT.out.trans hq.out),hm1⟩
           case measure => rw [placeOf_rd hr1,hme.out];omega
      · have hq2 : Hid (rSkip (bl s) p = q) := Lh (by
          rw [← hq.out,rskip_at,skip_stop s q hlt h37 (by simpa [blankB] using hbl)];rfl)
        have hne : (bat s q == 37) = false := by rw [beq_eq_false_iff_ne];exact h37
        clear hb37 hbl h37 hq;generalize bat s q = c at hpk hbk hne
        go_wp2_with (first
          | (go_at_call 23;refine hen.mono ?_;rintro e w1 ⟨rfl,hd1⟩;have hr1 := hr.out.drawn hd1;replace hd1 := Lh hd1;clear hen)
          | (go_at_call 38;have hg := hd3;refine (hpk _ hr2).mono ?_;rintro e w3 ⟨rfl,hd4⟩;have hr3 := hr2.drawn hd4;have hd5 := Lh (hd3.out.trans hd4);clear hg)
          | (go_at_call 38;refine (hpk _ hr1).mono ?_;rintro e w2 ⟨rfl,hd2⟩;have hr2 := hr1.drawn hd2;have hd3 := Lh (hd1.out.trans hd2))
          | (go_at_call 37;refine (hbk _).mono ?_;rintro e w' ⟨rfl,rfl⟩))
        refine bodyPost_ret (results_none (by kernel_rfl) _ _ _) rfl ?_;exact ⟨rfl,by rw [hq2.out];exact hr3,hm.out.trans (Mvd.of (hd5.out.below _))⟩
  · rw [show decide ((s.size : Int) ≤ (q : Int)) = true from decide_eq_true (by omega)] at hen;have hq2 : Hid (rSkip (bl s) p = q) := Lh (by rw [← hq.out,rskip_at,skip_end s false q (by omega)];rfl);clear hq hpk
    go_wp2_with (first
      | (go_at_call 23;refine hen.mono ?_;rintro e w1 ⟨rfl,hd1⟩;have hr1 := hr.out.drawn hd1;have hm1 := Lh (hm.out.trans (Mvd.of (hd1.below _)));clear hen))
    go_end0;exact ⟨rfl,by rw [hq2.out];exact hr1,hm1.out⟩
theorem re_skip {w : World} {b : Nat} {s : ByteArray} {S : Except Int Nat} (h : Rs w b s S) :
    Calls Tryd.prog 22 #[.pointer (some ⟨b,0,none⟩)] w fun e w' => e = .returned (.tuple #[]) ∧ Rs w' b s (S.map (rSkip (bl s))) ∧ Mvd b w w' := by
 cases S with
 | error x => exact (re_skip_bad h).mono fun e w' ⟨h1,h2⟩ => ⟨h1,h2 ▸ h,h2 ▸ Mvd.refl _ _⟩
 | ok p => exact re_skip_ok h
end Go.Proofs.YtmjincocmhadeaaDoor
/- Parse: the document's reader: wordly, run, digits, sign. -/
namespace Go.Proofs.YtmjincocmhadeaaDoor
open Go.RowKit Lx
theorem re_wordly {w : World} {b : Nat} {s : ByteArray} {p : Nat} (h : Rd w b s (p : Int) false) :
    Calls Tryd.prog 57 #[.pointer (some ⟨b,0,none⟩)] w fun e w' => e = .returned (.bool (wordlyI (pk (bl s) p))) ∧ Drawn w w' := by
 have hen := fun w h => re_end (w := w) (b := b) (s := s) (p := (p : Int)) (d := false) h;have hpk := fun w h => re_peek (w := w) (b := b) (s := s) (p := (p : Int)) (d := false) h;have hdc : Hid (Drawn w w) := Lh (Drawn.refl w)
 by_cases hlt : p < s.size
 · rw [show decide ((s.size : Int) ≤ (p : Int)) = false from decide_eq_false (by omega)] at hen;rw [pe_in s p hlt] at hpk;generalize pk (bl s) p = c at hpk ⊢;go_enter Tryd.func57,Tryd.ntmps57
   go_wp2_with (first
     | (go_at_call 23;refine (hen _ (h.drawn hdc.out)).mono ?_;rintro e w1 ⟨rfl,hd1⟩;replace hdc := Lh (hdc.out.trans hd1);clear hd1)
     | (go_at_call 38;refine (hpk _ (h.drawn hdc.out)).mono ?_;rintro e w1 ⟨rfl,hd1⟩;replace hdc := Lh (hdc.out.trans hd1);clear hd1)
     | (go_at_call 39;refine (r8_small _ _).mono ?_;rintro e w' ⟨rfl,rfl⟩)
     | (go_at_call 71;refine (r8_great _ _).mono ?_;rintro e w' ⟨rfl,rfl⟩)
     | (go_at_call 72;refine (r8_digit _ _).mono ?_;rintro e w' ⟨rfl,rfl⟩))
   all_goals go_ret
   all_goals exact ⟨ret_bool (by simp_all [wordlyI]),hdc.out⟩
 · rw [show decide ((s.size : Int) ≤ (p : Int)) = true from decide_eq_true (by omega)] at hen;rw [(pe_out s p hlt).2];clear hpk;go_enter Tryd.func57,Tryd.ntmps57
   go_wp2_with (first
     | (go_at_call 23;refine (hen _ (h.drawn hdc.out)).mono ?_;rintro e w1 ⟨rfl,hd1⟩;replace hdc := Lh (hdc.out.trans hd1);clear hd1))
   all_goals go_ret
   all_goals exact ⟨rfl,hdc.out⟩
theorem re_sign_bad {w : World} {b : Nat} {s : ByteArray} {p : Int} (c : Int) (h : Rd w b s p true) :
    Calls Tryd.prog 44 #[.pointer (some ⟨b,0,none⟩),.int .u8 c] w fun e w' => e = .returned (.tuple #[]) ∧ w = w' := by
 obtain ⟨c0,c1,c2,-⟩ := h.cells;go_enter Tryd.func44,Tryd.ntmps44;go_wp2_with fail;refine bodyPost_ret (results_none (by kernel_rfl) _ _ _) rfl ?_;exact ⟨rfl,rfl⟩
theorem re_sign_ok {w : World} {b : Nat} {s : ByteArray} {p : Nat} (c : Int) (hc : 0 < c) (h : Rd w b s (p : Int) false) :
    Calls Tryd.prog 44 #[.pointer (some ⟨b,0,none⟩),.int .u8 c] w fun e w' => e = .returned (.tuple #[]) ∧ Rs w' b s (rSign c (bl s) p) ∧ Mvd b w w' := by
 have hen := fun w h => re_end (w := w) (b := b) (s := s) (p := (p : Int)) (d := false) h;have hpk := fun w h => re_peek (w := w) (b := b) (s := s) (p := (p : Int)) (d := false) h;have hlen := h.len;have hle := h.le;have hdc : Hid (Drawn w w) := Lh (Drawn.refl w);have hst := fun w h => re_stop (w := w) (b := b) (s := s) (p := (p : Int)) h (p : Int) (by omega) hle
 by_cases hlt : p < s.size
 · rw [show decide ((s.size : Int) ≤ (p : Int)) = false from decide_eq_false (by omega)] at hen;rw [pe_in s p hlt] at hpk;have hstep := Lh fun (w : World) (h : Rd w b s (p : Int) false) => h.move ((p : Int) + 1) (by omega) (by omega);obtain ⟨a0,a1,a2,-⟩ := h.cells
   by_cases he : pk (bl s) p = c
   · have hR : Hid (rSign c (bl s) p = .ok (p + 1)) := Lh (by unfold rSign;rw [if_pos he]);rw [he] at hpk;clear he hst;go_enter Tryd.func44,Tryd.ntmps44
     go_wp2_with (first
       | (go_at_call 23;refine (hen _ (h.drawn hdc.out)).mono ?_;rintro e w1 ⟨rfl,hd1⟩;replace hdc := Lh (hdc.out.trans hd1);clear hd1)
       | (go_at_call 38;refine (hpk _ (h.drawn hdc.out)).mono ?_;rintro e w1 ⟨rfl,hd1⟩;replace hdc := Lh (hdc.out.trans hd1);have hr1 := h.drawn hdc.out;obtain ⟨e0,e1,e2,e3,e4⟩ := hr1.cells;clear hd1))
     go_end0;rw [hR.out];exact ⟨rfl,hstep.out _ hr1,(Mvd.of (hdc.out.below _)).trans ((Mvd.refl b _).set 1 _)⟩
   · have hR : Hid (rSign c (bl s) p = .error p) := Lh (by unfold rSign;rw [if_neg he]);have hne : (pk (bl s) p == c) = false := by rw [beq_eq_false_iff_ne];exact he
     clear he;generalize pk (bl s) p = x at hpk hne;go_enter Tryd.func44,Tryd.ntmps44
     go_wp2_with (first
       | (go_at_call 23;refine (hen _ (h.drawn hdc.out)).mono ?_;rintro e w1 ⟨rfl,hd1⟩;replace hdc := Lh (hdc.out.trans hd1);clear hd1)
       | (go_at_call 38;refine (hpk _ (h.drawn hdc.out)).mono ?_;rintro e w1 ⟨rfl,hd1⟩;replace hdc := Lh (hdc.out.trans hd1);have hr1 := h.drawn hdc.out;obtain ⟨e0,e1,e2,e3,e4⟩ := hr1.cells;clear hd1)
       | (go_at_call 40;refine (hst _ hr1).mono ?_;rintro e w2 ⟨rfl,hr2,hm2⟩;replace hr2 := Lh hr2;replace hm2 := Lh ((Mvd.of (hdc.out.below _)).trans hm2)))
     refine bodyPost_ret (results_none (by kernel_rfl) _ _ _) rfl ?_;rw [hR.out];exact ⟨rfl,hr2.out,hm2.out⟩
 · rw [show decide ((s.size : Int) ≤ (p : Int)) = true from decide_eq_true (by omega)] at hen;have hR : Hid (rSign c (bl s) p = .error p) := Lh (by unfold rSign;rw [if_neg (by rw [(pe_out s p hlt).2];omega)]);obtain ⟨a0,a1,a2,-⟩ := h.cells;clear hpk;go_enter Tryd.func44,Tryd.ntmps44
   go_wp2_with (first
     | (go_at_call 23;refine (hen _ (h.drawn hdc.out)).mono ?_;rintro e w1 ⟨rfl,hd1⟩;replace hdc := Lh (hdc.out.trans hd1);have hr1 := h.drawn hdc.out;obtain ⟨e0,e1,e2,e3,e4⟩ := hr1.cells;clear hd1)
     | (go_at_call 40;refine (hst _ hr1).mono ?_;rintro e w2 ⟨rfl,hr2,hm2⟩;replace hr2 := Lh hr2;replace hm2 := Lh ((Mvd.of (hdc.out.below _)).trans hm2)))
   refine bodyPost_ret (results_none (by kernel_rfl) _ _ _) rfl ?_;rw [hR.out];exact ⟨rfl,hr2.out,hm2.out⟩
theorem re_sign {w : World} {b : Nat} {s : ByteArray} {S : Except Int Nat} (c : Int) (hc : 0 < c) (h : Rs w b s S) :
    Calls Tryd.prog 44 #[.pointer (some ⟨b,0,none⟩),.int .u8 c] w fun e w' => e = .returned (.tuple #[]) ∧ Rs w' b s (S.bind (rSign c (bl s))) ∧ Mvd b w w' := by
 cases S with
 | error x => exact (re_sign_bad c h).mono fun e w' ⟨h1,h2⟩ => ⟨h1,h2 ▸ h,h2 ▸ Mvd.refl _ _⟩
 | ok p => exact re_sign_ok c hc h
/-! ### run and digits -/
theorem let_at {s : ByteArray} {p k : Nat} (h : k < letN ((bl s).drop p)) : p + k < s.size ∧ letterB (pk (bl s) (p + k)) = true := by
 have h1 := letN_le ((bl s).drop p);rw [List.length_drop,bl_length] at h1;have h2 : p + k < s.size := by omega
 refine ⟨h2,?_⟩
 have h3 : ((bl s).drop p).take (letN ((bl s).drop p)) = ((bl s).drop p).takeWhile (fun c => letterB (bi c)) := by
  have hp := List.takeWhile_prefix (p := fun c => letterB (bi c)) (l := (bl s).drop p);exact (List.prefix_iff_eq_take.1 hp).symm
 have hl : p + k < (bl s).length := by rw [bl_length];exact h2
 rw [pk_get hl]
 have h4 : (bl s)[p + k] ∈ ((bl s).drop p).takeWhile (fun c => letterB (bi c)) := by
  rw [← h3];have hk : k < (((bl s).drop p).take (letN ((bl s).drop p))).length := by rw [List.length_take,List.length_drop,bl_length];omega
  have := List.getElem_mem hk;rw [List.getElem_take,List.getElem_drop] at this;exact this
 have := List.all_eq_true.1 (List.all_takeWhile (p := fun c => letterB (bi c)) (l := (bl s).drop p)) _ h4;exact this
theorem run_stop (f : UInt8 → Bool) : ∀ (l : Bs) (c : UInt8),l[(l.takeWhile f).length]? = some c → f c = false
  | [],c,h => by simp at h
  | x :: r,c,h => by
    rw [List.takeWhile_cons] at h
    by_cases hx : f x = true
    · rw [if_pos hx,List.length_cons,List.getElem?_cons_succ] at h;exact run_stop f r c h
    · rw [if_neg hx] at h;simp at h;subst h
      simpa using hx
theorem let_end {s : ByteArray} {p : Nat} : letterB (pk (bl s) (p + letN ((bl s).drop p))) = false := by
 unfold pk
 cases h : (bl s)[p + letN ((bl s).drop p)]? with
 | none => rfl
 | some c =>
  rw [← List.getElem?_drop] at h;exact run_stop _ _ c h
theorem dig_at {s : ByteArray} {p k : Nat} (h : k < digN ((bl s).drop p)) : p + k < s.size ∧ digitB (pk (bl s) (p + k)) = true := by
 have h1 := digN_le ((bl s).drop p);rw [List.length_drop,bl_length] at h1;have h2 : p + k < s.size := by omega
 refine ⟨h2,?_⟩
 have h3 : ((bl s).drop p).take (digN ((bl s).drop p)) = ((bl s).drop p).takeWhile (fun c => digitB (bi c)) := by
  have hp := List.takeWhile_prefix (p := fun c => digitB (bi c)) (l := (bl s).drop p);exact (List.prefix_iff_eq_take.1 hp).symm
 have hl : p + k < (bl s).length := by rw [bl_length];exact h2
 rw [pk_get hl]
 have h4 : (bl s)[p + k] ∈ ((bl s).drop p).takeWhile (fun c => digitB (bi c)) := by
  rw [← h3];have hk : k < (((bl s).drop p).take (digN ((bl s).drop p))).length := by rw [List.length_take,List.length_drop,bl_length];omega
  have := List.getElem_mem hk;rw [List.getElem_take,List.getElem_drop] at this;exact this
 have := List.all_eq_true.1 (List.all_takeWhile (p := fun c => digitB (bi c)) (l := (bl s).drop p)) _ h4;exact this
theorem dig_end {s : ByteArray} {p : Nat} : digitB (pk (bl s) (p + digN ((bl s).drop p))) = false := by
 unfold pk
 cases h : (bl s)[p + digN ((bl s).drop p)]? with
 | none => rfl
 | some c =>
  rw [← List.getElem?_drop] at h;exact run_stop _ _ c h
end Go.Proofs.YtmjincocmhadeaaDoor
/- Parse: the document's reader: run, digits. (gen_ped.py) -/
namespace Go.Proofs.YtmjincocmhadeaaDoor
open Go.RowKit Lx
theorem re_run {w : World} {b : Nat} {s : ByteArray} {p : Nat} (h : Rd w b s (p : Int) false) :
    Calls Tryd.prog 41 #[.pointer (some ⟨b,0,none⟩)] w (RePost b s w VStr (rRun (bl s) p)) := by
 have hlen := h.len;have hle := h.le;have hmax := letN_le ((bl s).drop p);rw [List.length_drop,bl_length] at hmax;obtain ⟨c0,c1,c2,-⟩ := h.cells;go_enter Tryd.func41,Tryd.ntmps41;go_wp2_with fail;clear c0 c1 c2
 go_loopw [] (fun wr => ∃ q : Nat,p ≤ q ∧ q - p ≤ letN ((bl s).drop p) ∧ q - p ≤ 64 ∧ Hid (Rd wr b s (q : Int) false) ∧ Hid (Mvd b w wr)) (fun wr => s.size - placeOf wr b)
 case atStart => exact ⟨p,Nat.le_refl _,by omega,by omega,Lh h,Lh (Mvd.refl _ _)⟩
 case round =>
  obtain ⟨q,hpq,hql,hq64,hr,hm⟩ := hrel;have hmq := Lh (placeOf_rd hr.out);obtain ⟨c0,c1,c2,-⟩ := hr.out.cells;have hen := fun w h => re_end (w := w) (b := b) (s := s) (p := (q : Int)) (d := false) h;have hpk := fun w h => re_peek (w := w) (b := b) (s := s) (p := (q : Int)) (d := false) h;have hdc : Hid (Drawn wr wr) := Lh (Drawn.refl wr)
  have hqs : (q : Int) ≤ s.size := hr.out.le;have hst := fun w h => re_stop (w := w) (b := b) (s := s) (p := (q : Int)) h (q : Int) (by omega) hqs
  by_cases hlt : q - p < letN ((bl s).drop p)
  · obtain ⟨hsz,hlet⟩ := let_at hlt;rw [show p + (q - p) = q from by omega] at hsz hlet;rw [show decide ((s.size : Int) ≤ (q : Int)) = false from decide_eq_false (by omega)] at hen;rw [pe_in s q hsz] at hpk;have htest := fun w => r8_goes (pk (bl s) q) w;rw [hlet] at htest;clear hlet;generalize pk (bl s) q = c at hpk htest
    by_cases h64 : q - p = 64
    · have hR : Hid (rRun (bl s) p = .error ((p + 64 : Nat) : Int)) := Lh (by unfold rRun;rw [if_neg (by omega)]);have hc64 : ((q : Int) - (p : Int) == 64) = true := by rw [beq_iff_eq];omega
      have hqe : Hid (q = p + 64) := Lh (by omega);clear hql hmax
      go_wp2_with (first
          | (go_at_call 23;refine (hen _ (hr.out.drawn hdc.out)).mono ?_;rintro e w1 ⟨rfl,hd1⟩;replace hdc := Lh (hdc.out.trans hd1);have hr1 := hr.out.drawn hdc.out;obtain ⟨e0,e1,e2,e3,e4⟩ := hr1.cells;clear hd1)
          | (go_at_call 38;refine (hpk _ (hr.out.drawn hdc.out)).mono ?_;rintro e w1 ⟨rfl,hd1⟩;replace hdc := Lh (hdc.out.trans hd1);have hr1 := hr.out.drawn hdc.out;obtain ⟨e0,e1,e2,e3,e4⟩ := hr1.cells;clear hd1)
          | (go_at_call 56;refine (htest _).mono ?_;rintro e w' ⟨rfl,rfl⟩)
          | (go_at_call 40;refine (hst _ hr1).mono ?_;rintro e w2 ⟨rfl,hr2,hm2⟩;replace hr2 := Lh hr2;replace hm2 := Lh (hm.out.trans ((Mvd.of (hdc.out.below _)).trans hm2))))
      go_ret;rw [hR.out];refine ⟨_,[],rfl,rfl,fun y h => (by cases h),?_,hm2.out⟩;show Rd _ _ _ ((p + 64 : Nat) : Int) true;rw [← hqe.out];exact hr2.out
    · have hc64 : ((q : Int) - (p : Int) == 64) = false := by rw [beq_eq_false_iff_ne];omega
      have hstep := Lh fun (w : World) (h : Rd w b s (q : Int) false) => h.move ((q : Int) + 1) (by omega) (by omega)
      go_wp2_with (first
          | (go_at_call 23;refine (hen _ (hr.out.drawn hdc.out)).mono ?_;rintro e w1 ⟨rfl,hd1⟩;replace hdc := Lh (hdc.out.trans hd1);have hr1 := hr.out.drawn hdc.out;obtain ⟨e0,e1,e2,e3,e4⟩ := hr1.cells;clear hd1)
          | (go_at_call 38;refine (hpk _ (hr.out.drawn hdc.out)).mono ?_;rintro e w1 ⟨rfl,hd1⟩;replace hdc := Lh (hdc.out.trans hd1);have hr1 := hr.out.drawn hdc.out;obtain ⟨e0,e1,e2,e3,e4⟩ := hr1.cells;clear hd1)
          | (go_at_call 56;refine (htest _).mono ?_;rintro e w' ⟨rfl,rfl⟩))
      have hr3 := Lh (hstep.out _ hr1);have hm3 := Lh ((hm.out.trans (Mvd.of (hdc.out.below _))).trans ((Mvd.refl b _).set 1 (.int .i64 ((q : Int) + 1))));go_roundw
      case rel => exact ⟨q + 1,by omega,by omega,by omega,hr3,hm3⟩
      case measure =>
       have h2 : Rd _ b s ((q + 1 : Nat) : Int) false := hr3.out;rw [placeOf_rd h2,hmq.out];omega
  · have hqe : q - p = letN ((bl s).drop p) := by omega
    have hno := @let_end s p;rw [← hqe,show p + (q - p) = q from by omega] at hno;clear hst
    by_cases hsz : q < s.size
    · rw [show decide ((s.size : Int) ≤ (q : Int)) = false from decide_eq_false (by omega)] at hen;rw [pe_in s q hsz] at hpk;have htest := fun w => r8_goes (pk (bl s) q) w;rw [hno] at htest;clear hno;generalize pk (bl s) q = c at hpk htest;have hq0 : (0 : Int) ≤ (p : Int) := by omega
      have hq1 : (p : Int) ≤ (q : Int) := by omega
      go_wp2_with (first
            | (go_at_call 23;refine (hen _ (hr.out.drawn hdc.out)).mono ?_;rintro e w1 ⟨rfl,hd1⟩;replace hdc := Lh (hdc.out.trans hd1);have hr1 := hr.out.drawn hdc.out;obtain ⟨e0,e1,e2,e3,e4⟩ := hr1.cells;clear hd1)
            | (go_at_call 38;refine (hpk _ (hr.out.drawn hdc.out)).mono ?_;rintro e w1 ⟨rfl,hd1⟩;replace hdc := Lh (hdc.out.trans hd1);have hr1 := hr.out.drawn hdc.out;obtain ⟨e0,e1,e2,e3,e4⟩ := hr1.cells;clear hd1)
            | (go_at_call 56;refine (htest _).mono ?_;rintro e w' ⟨rfl,rfl⟩))
      go_quiet (fail);have hd2 := Lh (hdc.out.step nq);have hr2 := Lh (hr.out.drawn hd2.out);generalize World.drewN _ nq = w2 at hd2 hr2 ⊢;go_wp2_with fail;go_ret;have hR : rRun (bl s) p = .ok (((bl s).drop p).take (letN ((bl s).drop p)),q) := by unfold rRun;rw [if_pos (by omega),show p + letN ((bl s).drop p) = q from by omega]
      have hex : s.extract p q = mk (((bl s).drop p).take (letN ((bl s).drop p))) := by rw [extract_mk',hqe]
      rw [hR];refine ⟨_,((bl s).drop p).take (letN ((bl s).drop p)),rfl,?_,fun y h => (by injection h with h;rw [← h]),hr2.out,hm.out.trans (Mvd.of (hd2.out.below _))⟩;show _ = Value.string _;rw [← hex];rfl
    · rw [show decide ((s.size : Int) ≤ (q : Int)) = true from decide_eq_true (by omega)] at hen;have hq0 : (0 : Int) ≤ (p : Int) := by omega
      have hq1 : (p : Int) ≤ (q : Int) := by omega
      clear hpk hno
      go_wp2_with (first
            | (go_at_call 23;refine (hen _ (hr.out.drawn hdc.out)).mono ?_;rintro e w1 ⟨rfl,hd1⟩;replace hdc := Lh (hdc.out.trans hd1);have hr1 := hr.out.drawn hdc.out;obtain ⟨e0,e1,e2,e3,e4⟩ := hr1.cells;clear hd1))
      go_quiet (fail);have hd2 := Lh (hdc.out.step nq);have hr2 := Lh (hr.out.drawn hd2.out);generalize World.drewN _ nq = w2 at hd2 hr2 ⊢;go_wp2_with fail;go_ret;have hR : rRun (bl s) p = .ok (((bl s).drop p).take (letN ((bl s).drop p)),q) := by unfold rRun;rw [if_pos (by omega),show p + letN ((bl s).drop p) = q from by omega]
      have hex : s.extract p q = mk (((bl s).drop p).take (letN ((bl s).drop p))) := by rw [extract_mk',hqe]
      rw [hR];refine ⟨_,((bl s).drop p).take (letN ((bl s).drop p)),rfl,?_,fun y h => (by injection h with h;rw [← h]),hr2.out,hm.out.trans (Mvd.of (hd2.out.below _))⟩;show _ = Value.string _;rw [← hex];rfl
theorem re_digits {w : World} {b : Nat} {s : ByteArray} {p : Nat} (h : Rd w b s (p : Int) false) :
    Calls Tryd.prog 74 #[.pointer (some ⟨b,0,none⟩)] w (RePost b s w VStr (rDigits (bl s) p)) := by
 have hlen := h.len;have hle := h.le;have hmax := digN_le ((bl s).drop p);rw [List.length_drop,bl_length] at hmax;obtain ⟨c0,c1,c2,-⟩ := h.cells;go_enter Tryd.func74,Tryd.ntmps74;go_wp2_with fail;clear c0 c1 c2
 go_loopw [] (fun wr => ∃ q : Nat,p ≤ q ∧ q - p ≤ digN ((bl s).drop p) ∧ q - p ≤ 64 ∧ Hid (Rd wr b s (q : Int) false) ∧ Hid (Mvd b w wr)) (fun wr => s.size - placeOf wr b)
 case atStart => exact ⟨p,Nat.le_refl _,by omega,by omega,Lh h,Lh (Mvd.refl _ _)⟩
 case round =>
  obtain ⟨q,hpq,hql,hq64,hr,hm⟩ := hrel;have hmq := Lh (placeOf_rd hr.out);obtain ⟨c0,c1,c2,-⟩ := hr.out.cells;have hen := fun w h => re_end (w := w) (b := b) (s := s) (p := (q : Int)) (d := false) h;have hpk := fun w h => re_peek (w := w) (b := b) (s := s) (p := (q : Int)) (d := false) h;have hdc : Hid (Drawn wr wr) := Lh (Drawn.refl wr)
  have hqs : (q : Int) ≤ s.size := hr.out.le;have hst := fun w h => re_stop (w := w) (b := b) (s := s) (p := (q : Int)) h (q : Int) (by omega) hqs
  by_cases hlt : q - p < digN ((bl s).drop p)
  · obtain ⟨hsz,hlet⟩ := dig_at hlt;rw [show p + (q - p) = q from by omega] at hsz hlet;rw [show decide ((s.size : Int) ≤ (q : Int)) = false from decide_eq_false (by omega)] at hen;rw [pe_in s q hsz] at hpk;have htest := fun w => r8_digit (pk (bl s) q) w;rw [hlet] at htest;clear hlet;generalize pk (bl s) q = c at hpk htest
    by_cases h64 : q - p = 64
    · have hR : Hid (rDigits (bl s) p = .error ((p + 64 : Nat) : Int)) := Lh (by unfold rDigits;rw [if_neg (by omega)]);have hc64 : ((q : Int) - (p : Int) == 64) = true := by rw [beq_iff_eq];omega
      have hqe : Hid (q = p + 64) := Lh (by omega);clear hql hmax
      go_wp2_with (first
          | (go_at_call 23;refine (hen _ (hr.out.drawn hdc.out)).mono ?_;rintro e w1 ⟨rfl,hd1⟩;replace hdc := Lh (hdc.out.trans hd1);have hr1 := hr.out.drawn hdc.out;obtain ⟨e0,e1,e2,e3,e4⟩ := hr1.cells;clear hd1)
          | (go_at_call 38;refine (hpk _ (hr.out.drawn hdc.out)).mono ?_;rintro e w1 ⟨rfl,hd1⟩;replace hdc := Lh (hdc.out.trans hd1);have hr1 := hr.out.drawn hdc.out;obtain ⟨e0,e1,e2,e3,e4⟩ := hr1.cells;clear hd1)
          | (go_at_call 72;refine (htest _).mono ?_;rintro e w' ⟨rfl,rfl⟩)
          | (go_at_call 40;refine (hst _ hr1).mono ?_;rintro e w2 ⟨rfl,hr2,hm2⟩;replace hr2 := Lh hr2;replace hm2 := Lh (hm.out.trans ((Mvd.of (hdc.out.below _)).trans hm2))))
      go_ret;rw [hR.out];refine ⟨_,[],rfl,rfl,fun y h => (by cases h),?_,hm2.out⟩;show Rd _ _ _ ((p + 64 : Nat) : Int) true;rw [← hqe.out];exact hr2.out
    · have hc64 : ((q : Int) - (p : Int) == 64) = false := by rw [beq_eq_false_iff_ne];omega
      have hstep := Lh fun (w : World) (h : Rd w b s (q : Int) false) => h.move ((q : Int) + 1) (by omega) (by omega)
      go_wp2_with (first
          | (go_at_call 23;refine (hen _ (hr.out.drawn hdc.out)).mono ?_;rintro e w1 ⟨rfl,hd1⟩;replace hdc := Lh (hdc.out.trans hd1);have hr1 := hr.out.drawn hdc.out;obtain ⟨e0,e1,e2,e3,e4⟩ := hr1.cells;clear hd1)
          | (go_at_call 38;refine (hpk _ (hr.out.drawn hdc.out)).mono ?_;rintro e w1 ⟨rfl,hd1⟩;replace hdc := Lh (hdc.out.trans hd1);have hr1 := hr.out.drawn hdc.out;obtain ⟨e0,e1,e2,e3,e4⟩ := hr1.cells;clear hd1)
          | (go_at_call 72;refine (htest _).mono ?_;rintro e w' ⟨rfl,rfl⟩))
      have hr3 := Lh (hstep.out _ hr1);have hm3 := Lh ((hm.out.trans (Mvd.of (hdc.out.below _))).trans ((Mvd.refl b _).set 1 (.int .i64 ((q : Int) + 1))));go_roundw
      case rel => exact ⟨q + 1,by omega,by omega,by omega,hr3,hm3⟩
      case measure =>
       have h2 : Rd _ b s ((q + 1 : Nat) : Int) false := hr3.out;rw [placeOf_rd h2,hmq.out];omega
  · have hqe : q - p = digN ((bl s).drop p) := by omega
    have hno := @dig_end s p;rw [← hqe,show p + (q - p) = q from by omega] at hno;clear hst
    by_cases hsz : q < s.size
    · rw [show decide ((s.size : Int) ≤ (q : Int)) = false from decide_eq_false (by omega)] at hen;rw [pe_in s q hsz] at hpk;have htest := fun w => r8_digit (pk (bl s) q) w;rw [hno] at htest;clear hno;have hq0 : (0 : Int) ≤ (p : Int) := by omega
      have hq1 : (p : Int) ≤ (q : Int) := by omega
      generalize hcc : pk (bl s) q = c at hpk htest;clear hcc;have hwo := fun w h => re_wordly (w := w) (b := b) (s := s) (p := q) h
      cases hw : wordlyI (pk (bl s) q) with
      | true =>
       have hwl := Lh hw;clear hw;have hst := fun w h => re_stop (w := w) (b := b) (s := s) (p := (q : Int)) h (q : Int) (by omega) hqs;rw [hwl.out] at hwo
       go_wp2_with (first
             | (go_at_call 23;refine (hen _ (hr.out.drawn hdc.out)).mono ?_;rintro e w1 ⟨rfl,hd1⟩;replace hdc := Lh (hdc.out.trans hd1);have hr1 := hr.out.drawn hdc.out;obtain ⟨e0,e1,e2,e3,e4⟩ := hr1.cells;clear hd1)
             | (go_at_call 38;refine (hpk _ (hr.out.drawn hdc.out)).mono ?_;rintro e w1 ⟨rfl,hd1⟩;replace hdc := Lh (hdc.out.trans hd1);have hr1 := hr.out.drawn hdc.out;obtain ⟨e0,e1,e2,e3,e4⟩ := hr1.cells;clear hd1)
             | (go_at_call 72;refine (htest _).mono ?_;rintro e w' ⟨rfl,rfl⟩)
             | (go_at_call 57;refine (hwo _ (hr.out.drawn hdc.out)).mono ?_;rintro e w1 ⟨rfl,hd1⟩;replace hdc := Lh (hdc.out.trans hd1);have hr1 := hr.out.drawn hdc.out;obtain ⟨e0,e1,e2,e3,e4⟩ := hr1.cells;clear hd1)
             | (go_at_call 40;refine (hst _ hr1).mono ?_;rintro e w2 ⟨rfl,hr2,hm2⟩;replace hr2 := Lh hr2;replace hm2 := Lh (hm.out.trans ((Mvd.of (hdc.out.below _)).trans hm2))))
       go_ret;have hR : rDigits (bl s) p = .error (q : Int) := by unfold rDigits;rw [if_pos (by omega),show p + digN ((bl s).drop p) = q from by omega,hwl.out];rfl
       rw [hR];exact ⟨_,[],rfl,rfl,fun y h => (by cases h),hr2.out,hm2.out⟩
      | false =>
       have hwl := Lh hw;clear hw;rw [hwl.out] at hwo
       go_wp2_with (first
             | (go_at_call 23;refine (hen _ (hr.out.drawn hdc.out)).mono ?_;rintro e w1 ⟨rfl,hd1⟩;replace hdc := Lh (hdc.out.trans hd1);have hr1 := hr.out.drawn hdc.out;obtain ⟨e0,e1,e2,e3,e4⟩ := hr1.cells;clear hd1)
             | (go_at_call 38;refine (hpk _ (hr.out.drawn hdc.out)).mono ?_;rintro e w1 ⟨rfl,hd1⟩;replace hdc := Lh (hdc.out.trans hd1);have hr1 := hr.out.drawn hdc.out;obtain ⟨e0,e1,e2,e3,e4⟩ := hr1.cells;clear hd1)
             | (go_at_call 72;refine (htest _).mono ?_;rintro e w' ⟨rfl,rfl⟩)
             | (go_at_call 57;refine (hwo _ (hr.out.drawn hdc.out)).mono ?_;rintro e w1 ⟨rfl,hd1⟩;replace hdc := Lh (hdc.out.trans hd1);have hr1 := hr.out.drawn hdc.out;obtain ⟨e0,e1,e2,e3,e4⟩ := hr1.cells;clear hd1))
       go_quiet (fail);have hd2 := Lh (hdc.out.step nq);have hr2 := Lh (hr.out.drawn hd2.out);generalize World.drewN _ nq = w2 at hd2 hr2 ⊢;go_wp2_with fail;go_ret;have hR : rDigits (bl s) p = .ok (((bl s).drop p).take (digN ((bl s).drop p)),q) := by unfold rDigits;rw [if_pos (by omega),show p + digN ((bl s).drop p) = q from by omega,hwl.out];rfl
       have hex : s.extract p q = mk (((bl s).drop p).take (digN ((bl s).drop p))) := by rw [extract_mk',hqe]
       rw [hR];refine ⟨_,((bl s).drop p).take (digN ((bl s).drop p)),rfl,?_,fun y h => (by injection h with h;rw [← h]),hr2.out,hm.out.trans (Mvd.of (hd2.out.below _))⟩;show _ = Value.string _;rw [← hex];rfl
    · rw [show decide ((s.size : Int) ≤ (q : Int)) = true from decide_eq_true (by omega)] at hen;have hq0 : (0 : Int) ≤ (p : Int) := by omega
      have hq1 : (p : Int) ≤ (q : Int) := by omega
      clear hpk hno;have hwo := fun w h => re_wordly (w := w) (b := b) (s := s) (p := q) h
      cases hw : wordlyI (pk (bl s) q) with
      | true =>
       have hwl := Lh hw;clear hw;have hst := fun w h => re_stop (w := w) (b := b) (s := s) (p := (q : Int)) h (q : Int) (by omega) hqs;rw [hwl.out] at hwo
       go_wp2_with (first
             | (go_at_call 23;refine (hen _ (hr.out.drawn hdc.out)).mono ?_;rintro e w1 ⟨rfl,hd1⟩;replace hdc := Lh (hdc.out.trans hd1);have hr1 := hr.out.drawn hdc.out;obtain ⟨e0,e1,e2,e3,e4⟩ := hr1.cells;clear hd1)
             | (go_at_call 57;refine (hwo _ (hr.out.drawn hdc.out)).mono ?_;rintro e w1 ⟨rfl,hd1⟩;replace hdc := Lh (hdc.out.trans hd1);have hr1 := hr.out.drawn hdc.out;obtain ⟨e0,e1,e2,e3,e4⟩ := hr1.cells;clear hd1)
             | (go_at_call 40;refine (hst _ hr1).mono ?_;rintro e w2 ⟨rfl,hr2,hm2⟩;replace hr2 := Lh hr2;replace hm2 := Lh (hm.out.trans ((Mvd.of (hdc.out.below _)).trans hm2))))
       go_ret;have hR : rDigits (bl s) p = .error (q : Int) := by unfold rDigits;rw [if_pos (by omega),show p + digN ((bl s).drop p) = q from by omega,hwl.out];rfl
       rw [hR];exact ⟨_,[],rfl,rfl,fun y h => (by cases h),hr2.out,hm2.out⟩
      | false =>
       have hwl := Lh hw;clear hw;rw [hwl.out] at hwo
       go_wp2_with (first
             | (go_at_call 23;refine (hen _ (hr.out.drawn hdc.out)).mono ?_;rintro e w1 ⟨rfl,hd1⟩;replace hdc := Lh (hdc.out.trans hd1);have hr1 := hr.out.drawn hdc.out;obtain ⟨e0,e1,e2,e3,e4⟩ := hr1.cells;clear hd1)
             | (go_at_call 57;refine (hwo _ (hr.out.drawn hdc.out)).mono ?_;rintro e w1 ⟨rfl,hd1⟩;replace hdc := Lh (hdc.out.trans hd1);have hr1 := hr.out.drawn hdc.out;obtain ⟨e0,e1,e2,e3,e4⟩ := hr1.cells;clear hd1))
       go_quiet (fail);have hd2 := Lh (hdc.out.step nq);have hr2 := Lh (hr.out.drawn hd2.out);generalize World.drewN _ nq = w2 at hd2 hr2 ⊢;go_wp2_with fail;go_ret;have hR : rDigits (bl s) p = .ok (((bl s).drop p).take (digN ((bl s).drop p)),q) := by unfold rDigits;rw [if_pos (by omega),show p + digN ((bl s).drop p) = q from by omega,hwl.out];rfl
       have hex : s.extract p q = mk (((bl s).drop p).take (digN ((bl s).drop p))) := by rw [extract_mk',hqe]
       rw [hR];refine ⟨_,((bl s).drop p).take (digN ((bl s).drop p)),rfl,?_,fun y h => (by injection h with h;rw [← h]),hr2.out,hm.out.trans (Mvd.of (hd2.out.below _))⟩;show _ = Value.string _;rw [← hex];rfl
end Go.Proofs.YtmjincocmhadeaaDoor
