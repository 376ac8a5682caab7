/- Normal: put's inner function: a row of terms, each turned by a function. -/
import Derived.Test.YtoklbofobcloaaaDoorNmH
import Derived.Shelf.Abstract
namespace Go.Proofs.YtoklbofobcloaaaDoor
open Go.RowKit Go.Sort
theorem cellT_len (x : Tm) : (cellT x).length = 2 := rfl
theorem flatT_snoc (l : List Tm) (x : Tm) : flatT (l ++ [x]) = flatT l ++ cellT x := by simp [flatT]
/-- an owned row of terms -/
structure TRow (w : World) (base : Nat) (v : Value) (l : List Tm) : Prop where
  own : w.ownsRow base 33 2 v l.length (flatT l)
  len : l.length ≤ 1048576
  size : ∀ x ∈ l, x.2.size ≤ 1048576
theorem TRow.nil (w : World) (base : Nat) : TRow w base (.slice none 0 0) [] := ⟨World.ownsRow_nil _ _ _ _, Nat.zero_le _, fun x hx => by cases hx⟩
theorem TRow.below {w w' : World} {base : Nat} {v : Value} {l : List Tm} (h : TRow w base v l) (hb : Below w.heap.size w w') : TRow w' base v l := ⟨own_below h.own hb, h.len, h.size⟩
theorem TRow.form {w : World} {base : Nat} {v : Value} {l : List Tm} (h : TRow w base v l) : ∃ a c, v = .slice a l.length c ∧ Terms w a l ∧ ∀ p, a = some p → base ≤ p.block ∧ p.block < w.heap.size ∧ p.off = 0 := by
  rcases h.own.2 with ⟨rfl, h0⟩ | ⟨g, cap, cur, rfl, hb, hg, hc, hm, hcz, hx⟩
  · have : l = [] := List.eq_nil_of_length_eq_zero h0
    subst this
    exact ⟨none, 0, rfl, ⟨by simp, fun j x hj => (by cases hj), fun x hx => by cases hx⟩, fun p hp => by cases hp⟩
  · refine ⟨_, _, rfl, flat_terms (r := []) h.len h.size fun j u hj => ?_, fun p hp => by cases hp; exact ⟨hb, (Array.getElem?_eq_some_iff.1 hg).1, rfl⟩⟩
    rw [List.append_nil] at hj
    have := h.own.cells (g := g) rfl j u hj
    rw [addr_add, Nat.zero_add] at this
    exact this
/-- what a function of terms does when it is called: it turns a term, and leaves what was there -/
def TurnsT (g : Nat) (cb : Array Value) (F : Tm → Tm) (l : List Tm) (w : World) : Prop :=
  ∀ W x, x ∈ l → Below w.heap.size w W → Calls Tryd.prog g (#[.agg #[.bool x.1, .string x.2]] ++ cb) W fun e w' => e = .returned (.agg #[.bool (F x).1, .string (F x).2]) ∧ Below W.heap.size W w'
theorem TurnsT.below {g : Nat} {cb : Array Value} {F : Tm → Tm} {l : List Tm} {w w' : World} (h : TurnsT g cb F l w) (hb : Below w.heap.size w w') : TurnsT g cb F l w' := fun W x hx hW => h W x hx (hb.trans (hW.mono hb.size))
theorem TurnsT.sub {g : Nat} {cb : Array Value} {F : Tm → Tm} {l l' : List Tm} {w : World} (h : TurnsT g cb F l w) (hl : ∀ x ∈ l', x ∈ l) : TurnsT g cb F l' w := fun W x hx hW => h W x (hl x hx) hW
set_option maxHeartbeats 2000000 in
set_option maxRecDepth 100000 in
theorem nm_args {g : Nat} {cb : Array Value} {F : Tm → Tm} (eg : Enters Tryd.prog g) (bf : Nat) (a : Option Addr) (l : List Tm) (c : Nat) (w : World) (ht : Terms w a l) (hF : TurnsT g cb F l w) (hz : ∀ x ∈ l, (F x).2.size ≤ 1048576) (hbf : w.cell? ⟨bf, 0, none⟩ = some (.func (.func g) #[] cb)) :
    Calls Tryd.prog 63 #[.slice a l.length c, .pointer (some ⟨bf, 0, none⟩)] w fun e w' => ∃ v, e = .returned v ∧ TRow w' w.heap.size v (l.map F) ∧ Below w.heap.size w w' := by
  obtain ⟨ib, hib, hz0, hz1, hz2⟩ := info_parts pr_infoTerm
  have hlen := ht.len
  replace eg : ∀ args w, (callFunc g args).run Tryd.prog w = .ok (.enter g args) w := eg
  go_enter Tryd.func63, Tryd.ntmps63
  go_wp2
  go_loopw [9, 4, 6] (fun i v _ wr => ∃ k : Nat, k ≤ l.length ∧ i = .int .i64 k ∧ Hid (wr.ownsRow w.heap.size 33 2 v k (flatT ((l.map F).take k))) ∧ Hid (Below w.heap.size w wr)) (fun i _ _ _ => l.length - (intOf i).toNat)
  case atStart => exact ⟨0, Nat.zero_le _, rfl, Lib.hid (World.ownsRow_nil _ _ _ _), Lib.hid (Below.refl _ _)⟩
  case round =>
    obtain ⟨k, hk, rfl, hown, hb⟩ := hrel
    by_cases hlt : k < l.length
    · obtain ⟨x, e1⟩ : ∃ x, l[k]? = some x := ⟨_, List.getElem?_eq_getElem hlt⟩
      have hmem : x ∈ l := List.mem_of_getElem? e1
      obtain ⟨p, rfl, hc1, hc2⟩ := (ht.below hb.out).cells k _ e1
      have hf := fun W hW => hF W x hmem hW
      have hzx := hz x hmem
      have hsn : flatT ((l.map F).take (k + 1)) = flatT ((l.map F).take k) ++ cellT (F x) := by
        have hlt2 : k < (l.map F).length := by rw [List.length_map]; exact hlt
        rw [List.take_succ_eq_append_getElem hlt2, flatT_snoc, List.getElem_map]
        rw [List.getElem?_eq_getElem hlt] at e1
        injection e1 with e1
        rw [e1]
      obtain ⟨xv, xs⟩ := x
      dsimp only at hc1 hc2 hf
      obtain ⟨⟨yv, ys⟩, hy⟩ : ∃ y, F (xv, xs) = y := ⟨_, rfl⟩
      rw [hy] at hsn hf hzx
      dsimp only at hf hzx
      have hbf2 := cell_below hb.out rfl hbf
      have hbf3 : (wr.alloc (.cells #[.bool xv, .string xs] 33)).cell? ⟨bf, 0, none⟩ = some (.func (.func g) #[] cb) := cell_below ((Below.refl _ _).al _) rfl hbf2
      have hq0 : (0 : Int) ≤ (k : Int) := Int.natCast_nonneg _
      have hq1 : (k : Int) < (l.length : Int) := by omega
      obtain ⟨va, vc, rfl, hva⟩ := own_slice hown.out
      replace hsn := Lib.hid hsn
      replace hf := Lib.hid hf
      have h63 : Hid (k + 1 ≤ maxLen) := Lib.hid (by unfold maxLen; omega)
      have h64 : Hid ((k + 1) * 24 ≤ 140737488355328) := Lib.hid (by omega)
      clear e1 hmem hva hy hbf2
      go_wp2_with (first
        | (go_at_fn g; refine (hf.out _ (hb.out.al _)).mono ?_; rintro e w2 ⟨rfl, hb20⟩; have hown2 := Lib.hid (own_below (hown.out.alloc _) hb20); have hb2 := Lib.hid ((hb.out.al _).trans (hb20.mono (hb.out.al _).size)); clear hb20)
        | (at_builtin; refine wpList_append_any rfl (.tmp 13) (.tmp 17) 22 rfl w.heap.size 33 ib (.agg #[.bool false, .string ⟨#[]⟩]) 2 24 Tryd.underlying22 hib hz0 hz1 hz2 rfl (by decide) _ k (flatT ((l.map F).take k)) rfl (hown2.out.alloc _) (some ⟨w2.heap.size, 0, none⟩) 1 1 (cellT (yv, ys)) rfl rfl (fun j u hj => ⟨_, rfl, own_cells_row rfl rfl j u hj⟩) (flatT_one [(yv, ys)]) h63.out h64.out (by have := hb2.out.size; rw [World.size_alloc]; omega) ?_))
      intro v3 w3 hown3 hgr3 hnil3 hat3
      have hb3 := Lib.hid ((hb2.out.al _).grown hgr3 (by have := hb2.out.size; rw [World.size_alloc]; omega) (own_ge hown.out))
      replace hown3 : Hid (w3.ownsRow w.heap.size 33 2 v3 (k + 1) (flatT ((l.map F).take (k + 1)))) := Lib.hid (by rw [hsn.out]; exact hown3)
      clear hgr3 hnil3 hat3
      go_wp2
      go_roundw
      case rel => exact ⟨k + 1, by omega, by go_num, hown3, hb3⟩
      case measure => simp [intOf]; omega
    · have hke : k = l.length := by omega
      subst hke
      rw [List.take_of_length_le (by rw [List.length_map]; omega)] at hown
      go_wp2
      go_ret
      refine ⟨_, rfl, ⟨by rw [List.length_map]; exact hown.out, by rw [List.length_map]; exact hlen, fun x hx => ?_⟩, hb.out⟩
      obtain ⟨y, hy, rfl⟩ := List.mem_map.1 hx
      exact hz y hy
end Go.Proofs.YtoklbofobcloaaaDoor
