/- TupleLeast: the reference's Least; rows of rows; a book of two lists. -/
import Derived.Test.YtgndogoaenlchaaDoorProg
import Derived.Test.YtgndogoaenlchaaDoorBase
import Derived.Test.YtgndogoaenlchaaDoorKit
import Derived.Test.YtgndogoaenlchaaDoorCmp
import Derived.Test.YtgndogoaenlchaaDoorLend
import Derived.Test.YtgndogoaenlchaaDoorLeast
import Derived.Test.YtgndogoaenlchaaDoorFam
import Derived.Test.YtgndogoaenlchaaDoorBook
import Derived.Test.YtgndogoaenlchaaDoorBookA
import Derived.Test.YtgndogoaenlchaaDoorBook3
import Derived.Test.YtgndogoaenlchaaDoorKeys
import Derived.Test.YtgndogoaenlchaaDoorLawKeys
namespace Go.Proofs.YtgndogoaenlchaaDoor
open Go.RowKit

theorem IRows.below {w w' : World} {a : Option Addr} {cap : Nat} {rs : List IRow} (h : IRows w a cap rs) (hb : Below w.heap.size w w') : IRows w' a cap rs :=
  ⟨h.len, h.cap, fun i hi => by obtain ⟨b, off, e, hc⟩ := h.at_ i hi; exact ⟨b, off, e, cell_below hb rfl hc⟩, fun i hi => (h.row i hi).below hb, h.nil⟩

def leastO (rs : List IRow) : List Int := match rs with | [] => [] | r :: t => leastF r.zs t
def leastB (rs : List IRow) : Bool := !rs.isEmpty
theorem leastO_pos (rs : List IRow) (h : 0 < rs.length) : leastO rs = leastF (rth rs 0).zs (rs.drop 1) ∧ leastB rs = true := by
  cases rs with
  | nil => cases h
  | cons r t => exact ⟨rfl, rfl⟩
theorem leastF_zs : ∀ (l1 l2 : List IRow) (b : List Int), l1.map IRow.zs = l2.map IRow.zs → leastF b l1 = leastF b l2
  | [], [], _, _ => rfl
  | [], _ :: _, _, h => by simp at h
  | _ :: _, [], _, h => by simp at h
  | x :: r, y :: s, b, h => by
    simp only [List.map_cons, List.cons.injEq] at h
    show leastF (if cmpL x.zs b < 0 then x.zs else b) r = leastF (if cmpL y.zs b < 0 then y.zs else b) s
    rw [h.1]
    exact leastF_zs r s _ h.2
theorem leastO_zs (l1 l2 : List IRow) (h : l1.map IRow.zs = l2.map IRow.zs) : leastO l1 = leastO l2 ∧ leastB l1 = leastB l2 := by
  cases l1 with
  | nil => cases l2 with
    | nil => exact ⟨rfl, rfl⟩
    | cons y s => simp at h
  | cons x r => cases l2 with
    | nil => simp at h
    | cons y s =>
      simp only [List.map_cons, List.cons.injEq] at h
      refine ⟨?_, rfl⟩
      show leastF x.zs r = leastF y.zs s
      rw [h.1]; exact leastF_zs r s _ h.2
theorem leastF_mem : ∀ (l : List IRow) (b : List Int), leastF b l = b ∨ ∃ i, i < l.length ∧ leastF b l = (rth l i).zs
  | [], b => .inl rfl
  | x :: r, b => by
    have h := leastF_mem r (if cmpL x.zs b < 0 then x.zs else b)
    have e : leastF b (x :: r) = leastF (if cmpL x.zs b < 0 then x.zs else b) r := rfl
    rw [e]
    rcases h with h | ⟨i, hi, h⟩
    · rw [h]; split
      · exact .inr ⟨0, by simp, rfl⟩
      · exact .inl rfl
    · exact .inr ⟨i + 1, by simp; omega, by rw [h]; simp [rth]⟩
theorem leastO_mem (rs : List IRow) : leastO rs = [] ∨ ∃ i, i < rs.length ∧ leastO rs = (rth rs i).zs := by
  cases rs with
  | nil => exact .inl rfl
  | cons x r =>
    right
    rcases leastF_mem r x.zs with h | ⟨i, hi, h⟩
    · exact ⟨0, by simp, h⟩
    · exact ⟨i + 1, by simp; omega, by show leastF x.zs r = _; rw [h]; simp [rth]⟩
theorem leastO_ints {w : World} {a : Option Addr} {cap : Nat} {rs : List IRow} (h : IRows w a cap rs) : (leastO rs).length ≤ 17592186044200 ∧ ∀ i, i < (leastO rs).length → IntKind.i64.wrap (nth (leastO rs) i) = nth (leastO rs) i := by
  rcases leastO_mem rs with e | ⟨i, hi, e⟩
  · rw [e]; exact ⟨by simp, fun i hi => by simp at hi⟩
  · rw [e]; exact ⟨(h.row i hi).len, (h.row i hi).wf⟩

def LsPost (M : List Int) (bb : Bool) (w : World) (e : Ending) (w' : World) : Prop :=
  ∃ a k, e = .returned (.tuple #[.slice a M.length k, .bool bb]) ∧ w'.ownsRow w.heap.size 3 1 (.slice a M.length k) M.length (M.map (Value.int .i64)) ∧ Below w.heap.size w w'

theorem least_all (b off : Nat) (cap n : Nat) (rs : List IRow) (M : List Int) (bb : Bool) (w : World) (hr : IRows w (some ⟨b, off, none⟩) cap rs) (hn : rs.length = n) (hm : cap ≤ maxLen) (hM : leastO rs = M) (hB : leastB rs = bb) :
    Calls Tryd.prog 8 #[.slice (some ⟨b, off, none⟩) n cap] w (LsPost M bb w) := by
  subst hn hM hB
  rcases Nat.eq_zero_or_pos rs.length with h0 | h0
  · obtain rfl : rs = [] := List.length_eq_zero_iff.1 h0
    refine (least_nil _ cap w).mono ?_
    rintro e w' ⟨rfl, rfl⟩
    exact ⟨none, 0, rfl, World.ownsRow_nil _ _ _ _, Below.refl _ _⟩
  · refine (least_any b off cap rs w hr h0 hm).mono ?_
    rintro e w' ⟨v, rfl, h1, h2⟩
    obtain ⟨e1, e2⟩ := leastO_pos rs h0
    rw [← e1] at h1
    obtain ⟨a, k, rfl, _⟩ := own_slice1 h1
    exact ⟨a, k, by rw [e2], h1, h2⟩

set_option maxHeartbeats 1000000 in
theorem rleast_nil (a : Option Addr) (cap : Nat) (w : World) :
    Calls Tryd.prog 9 #[.slice a 0 cap] w fun e w' => e = .returned (.tuple #[.slice none 0 0, .bool false]) ∧ w = w' := by
  go_enter Tryd.func9, Tryd.ntmps9
  go_wp2
  go_ret2
  exact ⟨rfl, rfl⟩

set_option maxHeartbeats 2000000 in
theorem rleast_pos (b off : Nat) (cap : Nat) (rs : List IRow) (w : World) (hr : IRows w (some ⟨b, off, none⟩) cap rs) (hpos : 0 < rs.length) :
    Calls Tryd.prog 9 #[.slice (some ⟨b, off, none⟩) rs.length cap] w (LsPost (leastF (rth rs 0).zs (rs.drop 1)) true w) := by
  have hl := hr.len
  obtain ⟨i0, hi, hz0, hz1, hz2⟩ := info_parts infoInt
  have g1 : ((rs.length : Int) == 0) = false := beq_eq_false_iff_ne.2 (by omega)
  have hcells : Hid (∀ i, i < rs.length → w.cell? ⟨b, off + i, none⟩ = some (.slice (rth rs i).a (rth rs i).zs.length (rth rs i).cap)) := fun i hi => by
    obtain ⟨b', off', e, h⟩ := hr.at_ i hi
    injection e with e; injection e with e1 e2
    subst e1 e2
    exact h
  have hcell0 := hcells.out 0 hpos
  rw [Nat.add_zero] at hcell0
  have hrow := Lib.hid hr.row
  have hnil := Lib.hid hr.nil
  go_enter Tryd.func9, Tryd.ntmps9
  go_wp2_with fail
  go_loopw [4, 5] (fun s4 s5 wr => ∃ (j k : Nat), 1 ≤ j ∧ j ≤ rs.length ∧ k < rs.length ∧ s5 = .int .i64 j ∧ s4 = .slice (rth rs k).a (rth rs k).zs.length (rth rs k).cap ∧ Hid (leastF (rth rs k).zs (rs.drop j) = leastF (rth rs 0).zs (rs.drop 1)) ∧ Drawn w wr) (fun _ s5 _ => rs.length - (intOf s5).toNat)
  case atStart => exact ⟨1, 0, by omega, by omega, by omega, rfl, rfl, rfl, Drawn.refl _⟩
  case round =>
    obtain ⟨j, k, hj1, hj, hk, rfl, rfl, he, hd⟩ := hrel
    have hbel : Below w.heap.size w wr := hd.below _
    by_cases hlt : j < rs.length
    · have hcell := cell_below hbel rfl (hcells.out j hlt)
      have hrj := (hrow.out j hlt).below hbel
      have hrk := (hrow.out k hk).below hbel
      have hcmp := Lib.hid (rcmp (rth rs j).a (rth rs k).a (rth rs j).cap (rth rs k).cap (rth rs j).zs (rth rs k).zs wr hrj hrk)
      have he2 := he.out
      rw [drop_rth rs j hlt] at he2
      clear hrj hrk hbel
      replace hd := Lib.hid hd
      by_cases hc0 : cmpL (rth rs j).zs (rth rs k).zs < 0
      · have h6 : Hid (leastF (rth rs j).zs (rs.drop (j + 1)) = leastF (rth rs 0).zs (rs.drop 1)) := by
          rw [← he2]; show _ = leastF (if _ then _ else _) _; rw [if_pos hc0]
        clear he2 he
        go_wp2_with fail
        refine hcmp.out.mono ?_
        rintro e w' ⟨rfl, hd2⟩
        obtain ⟨n2, rfl⟩ := hd2
        have hcell2 : (wr.drewN n2).cell? ⟨b, off + j, none⟩ = some (.slice (rth rs j).a (rth rs j).zs.length (rth rs j).cap) := hcell
        go_wp2
        go_roundw
        case rel => exact ⟨j + 1, j, by omega, by omega, by omega, by go_num, rfl, h6, by (repeat (refine Drawn.step ?_ _)); exact hd.out⟩
        case measure => simp [intOf]; omega
      · have h6 : Hid (leastF (rth rs k).zs (rs.drop (j + 1)) = leastF (rth rs 0).zs (rs.drop 1)) := by
          rw [← he2]; show _ = leastF (if _ then _ else _) _; rw [if_neg hc0]
        clear he2 he
        go_wp2_with fail
        refine hcmp.out.mono ?_
        rintro e w' ⟨rfl, hd2⟩
        obtain ⟨n2, rfl⟩ := hd2
        go_wp2
        go_roundw
        case rel => exact ⟨j + 1, k, by omega, by omega, by omega, by go_num, rfl, h6, by (repeat (refine Drawn.step ?_ _)); exact hd.out⟩
        case measure => simp [intOf]; omega
    · have h6 : Hid (leastF (rth rs 0).zs (rs.drop 1) = (rth rs k).zs) := by
        rw [← he.out, List.drop_of_length_le (by omega)]; rfl
      have hrk := (hrow.out k hk).below hbel
      have hnk := hnil.out k hk
      have hn0 : Hid ((rth rs k).a = none → (rth rs k).zs.length = 0 ∧ (rth rs k).cap = 0) := fun h => by obtain ⟨h1, h2⟩ := hnk h; exact ⟨by rw [h1]; rfl, h2⟩
      clear he hnk
      have hb63 : Hid (0 + (rth rs k).zs.length ≤ maxLen) := by have := hrk.len; show _ ≤ maxLen; unfold maxLen; omega
      have hby : Hid ((0 + (rth rs k).zs.length) * 8 ≤ 140737488355328) := by have := hrk.len; show _ ≤ 140737488355328; omega
      replace hbel := Lib.hid hbel
      go_wp2_with (first
        | (at_builtin; refine wpList_append_src _ rfl (.tmp 29) (.tmp 30) 23 rfl wr.heap.size 3 i0 (.int .i64 0) 1 8 Tryd.underlying23 hi hz0 hz1 hz2 rfl (by decide) _ 0 [] rfl ?c0 (rth rs k).a (rth rs k).zs.length (rth rs k).cap ((rth rs k).zs.map (Value.int .i64)) rfl hn0.out (by rw [List.length_map, Nat.mul_one]) ?c2 (ints_one _ _) hb63.out hby.out ?c6 ?_))
      case c0 => exact World.ownsRow_lit wr _ 0 (Nat.le_refl _) (by unfold maxLen; omega) (by simp)
      case c2 => exact (hrk.below ((Below.refl _ _).alloc (Nat.le_refl _) _)).news
      case c6 => simp
      intro v1 w1 hown1 hgrow1 hv1
      have hb1 : Below wr.heap.size wr w1 := ((Below.refl _ _).alloc (Nat.le_refl _) _).grown hgrow1 (by simp) (by intro k hk; simp [Value.ownBlock] at hk; omega)
      have hown2 : w1.ownsRow wr.heap.size 3 1 v1 (rth rs k).zs.length ((rth rs k).zs.map (Value.int .i64)) := by simpa using hown1
      obtain ⟨va, vc, rfl, _⟩ := own_slice1 hown2
      have hfin : Hid (LsPost (leastF (rth rs 0).zs (rs.drop 1)) true w (.returned (.tuple #[.slice va (rth rs k).zs.length vc, .bool true])) w1) := by
        refine ⟨va, vc, by rw [h6.out], ?_, hbel.out.trans (hb1.mono hbel.out.size)⟩
        rw [h6.out]; exact own_lower hown2 hbel.out.size
      clear hown1 hgrow1 hv1 hb1 hown2
      go_wp2
      go_ret2
      exact hfin.out

theorem rleast_all (a : Option Addr) (cap n : Nat) (rs : List IRow) (M : List Int) (bb : Bool) (w : World) (hr : IRows w a cap rs) (hn : rs.length = n) (hM : leastO rs = M) (hB : leastB rs = bb) :
    Calls Tryd.prog 9 #[.slice a n cap] w (LsPost M bb w) := by
  subst hn hM hB
  rcases Nat.eq_zero_or_pos rs.length with h0 | h0
  · obtain rfl : rs = [] := List.length_eq_zero_iff.1 h0
    refine (rleast_nil _ cap w).mono ?_
    rintro e w' ⟨rfl, rfl⟩
    exact ⟨none, 0, rfl, World.ownsRow_nil _ _ _ _, Below.refl _ _⟩
  · obtain ⟨b, off, rfl, _⟩ := hr.at_ 0 h0
    obtain ⟨e1, e2⟩ := leastO_pos rs h0
    rw [e1, e2]
    exact rleast_pos b off cap rs w hr h0

def pick2 {α} (x y : α) (j : Nat) : α := match j with | 0 => x | _ => y
def rows2 (x y : SL) : Rows3 := ⟨fun j => (pick2 x y j).a, fun j => (pick2 x y j).n, fun j => (pick2 x y j).c⟩
def xs2 (x y : SL) (j : Nat) : List Int := (pick2 x y j).xs
theorem rows2_V (x y : SL) (j : Nat) : (rows2 x y).V j = (pick2 x y j).v := rfl
theorem bk2_in {w w' : World} {base BB s1 : Nat} {x y : SL} (hx : w.ownsRow base 3 1 x.v x.n (x.xs.map (Value.int .i64))) (hy : w.ownsRow base 3 1 y.v y.n (y.xs.map (Value.int .i64)))
    (hxb : ∀ b, x.v.ownBlock = some b → b < s1) (hyb : ∀ b, y.v.ownBlock = some b → s1 ≤ b ∧ b < BB) (hs : s1 ≤ BB) (hBB : BB < w.heap.size) (hbase : base ≤ BB)
    (hn : x.n ≤ 17592186044000 ∧ y.n ≤ 17592186044000) {e : Ending} (hp : BkPost BB 2 [x.v, y.v] w e w') :
    e = .returned (.tuple #[]) ∧ KeptR (· = BB) w w' ∧ ∃ G cN, BkIn w' base BB G 2 cN (rows2 x y) (xs2 x y) ∧ w'.cell? ⟨BB, 0, none⟩ = some (.slice none 0 0) ∧ w'.cell? ⟨BB, 2, none⟩ = some (.slice none 0 0) := by
  obtain ⟨he, G, cN, hown, hbk, hk⟩ := hp
  have hG := own_lt hown G rfl
  have blk : ∀ j, j < 2 → ∀ b, (pick2 x y j).v.ownBlock = some b → b < BB := by
    intro j hj b hb
    match j, hj with
    | 0, _ => have := hxb b hb; omega
    | 1, _ => exact (hyb b hb).2
  refine ⟨he, hk, G, cN, ⟨by decide, by have := hk.size; omega, cell_of_row _ _ _ _ _ _ hbk, fun j hj => ?_, fun j hj => ?_, fun j hj => ?_, fun j hj b hb => ⟨?_, ?_, fun j' hj' hne => ?_⟩⟩, cell_of_row _ _ _ _ _ _ hbk, cell_of_row _ _ _ _ _ _ hbk⟩
  · rw [hown.cellAt j (by omega), rows2_V]
    match j, hj with
    | 0, _ => rfl
    | 1, _ => rfl
  · refine own_keptR ?_ hk (fun b hb => ?_)
    · match j, hj with
      | 0, _ => exact hx
      | 1, _ => exact hy
    · have := blk j hj b hb; omega
  · match j, hj with
    | 0, _ => exact hn.1
    | 1, _ => exact hn.2
  · have := blk j hj b hb; omega
  · have := blk j hj b hb; omega
  · intro hb'
    rw [rows2_V] at hb hb'
    match j, j', hj, hj' with
    | 0, 1, _, _ => have := hxb b hb; have := hyb b hb'; omega
    | 1, 0, _, _ => have := hyb b hb; have := hxb b hb'; omega
    | 0, 0, _, _ => exact hne rfl
    | 1, 1, _, _ => exact hne rfl

end Go.Proofs.YtgndogoaenlchaaDoor
