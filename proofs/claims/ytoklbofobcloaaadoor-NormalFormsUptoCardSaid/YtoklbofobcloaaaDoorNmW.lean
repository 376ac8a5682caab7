/- Normal: neighbours that are alike: plain; the closure that compares. -/
import Derived.Test.YtoklbofobcloaaaDoorNmV
namespace Go.Proofs.YtoklbofobcloaaaDoor
open Go.RowKit Go.Sort Go.Shelf
attribute [local go_sem ↓] Go.wp_at_zero Go.wp_at_succ
section
variable {κ β : Type} [DecidableEq κ]
/-- the first of each run of one key -/
def runK (f : β → κ) : Option κ → List β → List β
  | _, [] => []
  | p, y :: l => if some (f y) = p then runK f p l else y :: runK f (some (f y)) l
def compK (f : β → κ) (l : List β) : List β := runK f none l
theorem runK_snoc (f : β → κ) (z : β) : ∀ (l : List β) (p : Option κ), runK f p (l ++ [z]) = runK f p l ++ (if some (f z) = (l.getLast?.map f).or p then [] else [z])
  | [], p => by
    by_cases h : some (f z) = p <;> simp [runK, h]
  | y :: l, p => by
    rw [List.cons_append, runK, runK]
    have hl : ((y :: l).getLast?.map f).or p = ((l.getLast?.map f).or (some (f y))).or p := by
      cases l with
      | nil => simp
      | cons x l => simp [List.getLast?_cons]
    by_cases h : some (f y) = p
    · rw [if_pos h, if_pos h, runK_snoc f z l p, hl, ← h]
      cases l.getLast? <;> simp
    · rw [if_neg h, if_neg h, runK_snoc f z l (some (f y)), hl, List.cons_append]
      cases l.getLast? <;> simp
theorem compK_snoc (f : β → κ) (l : List β) (z : β) : compK f (l ++ [z]) = compK f l ++ (if l.getLast?.map f = some (f z) then [] else [z]) := by
  unfold compK
  rw [runK_snoc]
  simp [eq_comm]
theorem runK_sub (f : β → κ) : ∀ (l : List β) (p : Option κ), (runK f p l).Sublist l
  | [], _ => List.Sublist.refl _
  | y :: l, p => by
    unfold runK
    split
    · exact (runK_sub f l p).cons _
    · exact (runK_sub f l _).cons_cons _
theorem compK_sub (f : β → κ) (l : List β) : (compK f l).Sublist l := runK_sub f l none
theorem runK_map (f : β → κ) : ∀ (l : List β) (p : Option κ), (runK f p l).map f = runK id p (l.map f)
  | [], _ => rfl
  | y :: l, p => by
    rw [List.map_cons, runK, runK]
    simp only [id_eq]
    by_cases h : some (f y) = p
    · rw [if_pos h, if_pos h]; exact runK_map f l p
    · rw [if_neg h, if_neg h, List.map_cons, runK_map f l]
theorem runK_once : ∀ (l : List κ) (x : κ), x :: runK id (some x) l = once (x :: l)
  | [], _ => rfl
  | y :: l, x => by
    unfold once runK
    simp only [id_eq]
    by_cases h : x = y
    · subst h
      rw [if_pos rfl, if_pos rfl]; exact runK_once l x
    · rw [if_neg (fun e => h (by injection e with e; exact e.symm)), if_neg h, runK_once l y]
theorem compK_once (f : β → κ) (l : List β) : (compK f l).map f = once (l.map f) := by
  unfold compK
  rw [runK_map]
  cases l with
  | nil => rfl
  | cons y l =>
    rw [List.map_cons, runK, if_neg (by simp)]
    exact runK_once _ _
theorem compK_len (f : β → κ) (l : List β) : (compK f l).length ≤ l.length := (compK_sub f l).length_le
/-- what a row holds while it is compacted: the first m of l have been gone over -/
def compD (f : β → κ) (l : List β) (m : Nat) : List β := compK f (l.take m) ++ l.drop (compK f (l.take m)).length
theorem compD_len (f : β → κ) (l : List β) (m : Nat) : (compD f l m).length = l.length := by
  have h := compK_len f (l.take m)
  rw [List.length_take] at h
  unfold compD
  rw [List.length_append, List.length_drop]; omega
theorem last_take {l : List β} {m : Nat} {x : β} (h : l[m]? = some x) : (l.take (m + 1)).getLast? = some x := by
  rw [List.take_add_one, h]; simp
/-- one more that is like the one ahead -/
theorem compK_same (f : β → κ) {l : List β} {m : Nat} {x y : β} (hx : l[m]? = some x) (hy : l[m + 1]? = some y) (h : f x = f y) : compK f (l.take (m + 2)) = compK f (l.take (m + 1)) := by
  rw [show l.take (m + 2) = l.take (m + 1) ++ [y] from by rw [List.take_add_one, hy]; rfl, compK_snoc, last_take hx, if_pos (by simp [h]), List.append_nil]
theorem compK_new (f : β → κ) {l : List β} {m : Nat} {x y : β} (hx : l[m]? = some x) (hy : l[m + 1]? = some y) (h : f x ≠ f y) : compK f (l.take (m + 2)) = compK f (l.take (m + 1)) ++ [y] := by
  rw [show l.take (m + 2) = l.take (m + 1) ++ [y] from by rw [List.take_add_one, hy]; rfl, compK_snoc, last_take hx, if_neg (by simpa using h)]
theorem compD_new (f : β → κ) {l : List β} {m : Nat} {x y : β} (hx : l[m]? = some x) (hy : l[m + 1]? = some y) (h : f x ≠ f y) : compD f l (m + 2) = (compD f l (m + 1)).set (compK f (l.take (m + 1))).length y := by
  have hlt := (List.getElem?_eq_some_iff.1 hy).1
  have hle := compK_len f (l.take (m + 1))
  rw [List.length_take] at hle
  unfold compD
  rw [compK_new f hx hy h, List.length_append, List.append_assoc, List.set_append_right _ _ (Nat.le_refl _), Nat.sub_self]
  have hd : (compK f (l.take (m + 1))).length < l.length := by omega
  rw [List.drop_eq_getElem_cons hd]
  rfl
theorem compD_at (f : β → κ) {l : List β} {m j : Nat} {x : β} (hx : l[j]? = some x) (hj : (compK f (l.take m)).length ≤ j) : (compD f l m)[j]? = some x := by
  unfold compD
  rw [List.getElem?_append_right hj, List.getElem?_drop, show (compK f (l.take m)).length + (j - (compK f (l.take m)).length) = j from by omega]
  exact hx
theorem compD_all (f : β → κ) {l : List β} {m : Nat} (h : compK f (l.take m) = l.take m) : compD f l m = l := by
  unfold compD
  rw [h, List.length_take]
  rcases Nat.le_total m l.length with h2 | h2
  · rw [Nat.min_eq_left h2, List.take_append_drop]
  · rw [List.take_of_length_le h2, Nat.min_eq_right h2, List.drop_length, List.append_nil]
theorem compD_mem (f : β → κ) {l : List β} {m : Nat} {x : β} (h : x ∈ compD f l m) : x ∈ l := by
  rcases List.mem_append.1 h with h | h
  · exact List.mem_of_mem_take ((compK_sub f _).subset h)
  · exact List.mem_of_mem_drop h
end
set_option maxHeartbeats 4000000 in
set_option maxRecDepth 100000 in
theorem nm_Body2 (x y : Lit) (a a' : Option Addr) (c c' : Nat) (w : World) (h1 : Terms w a x.a) (h2 : Terms w a' y.a) :
    Calls Tryd.prog 45 #[.agg (litV x a c), .agg (litV y a' c')] w fun e w' => e = .returned (.bool (decide (x = y))) ∧ Grw w w' := by
  have hc := fun w h1 h2 => nm_Compare x y a a' c c' w h1 h2
  have hd : decide (x = y) = (cmpL x y == 0) := by
    rw [Bool.eq_iff_iff, decide_eq_true_iff, beq_iff_eq]; exact (cmpL_ord.eq x y).symm
  rw [hd]
  generalize cmpL x y = z at hc
  obtain ⟨xk, xp, xa, ⟨xlv, xlt⟩, ⟨xrv, xrt⟩⟩ := x
  obtain ⟨yk, yp, ya, ⟨ylv, ylt⟩, ⟨yrv, yrt⟩⟩ := y
  unfold litV at hc ⊢
  dsimp only at h1 h2 hc ⊢
  go_enter Tryd.func45, Tryd.ntmps45
  go_wp2_with (go_at_call 25; go_loud (refine (hc _ (h1.below (((Below.refl _ _).al _).al _)) (h2.below (((Below.refl _ _).al _).al _))).mono ?_); rintro e w2 ⟨rfl, hg⟩; replace hg := Lib.hid hg)
  go_ret
  exact ⟨rfl, (grw_box2 _ _ _).trans hg.out⟩
end Go.Proofs.YtoklbofobcloaaaDoor
