/- Normal: orders of texts, terms, lists, literals and rules; rising lists. Plain. -/
import Derived.Test.YtoklbofobcloaaaDoorNmB
import Derived.Sort.LotA
import Derived.Shelf.SlSortCmp.Insertion
namespace Go.Proofs.YtoklbofobcloaaaDoor
open Go.RowKit Go.Sort
/-- an order told by -1, 0, 1 -/
structure Ordr {α : Type} (f : α → α → Int) : Prop where
  three : ∀ a b, f a b = -1 ∨ f a b = 0 ∨ f a b = 1
  eq : ∀ a b, f a b = 0 ↔ a = b
  anti : ∀ a b, f b a = - f a b
  trans : ∀ a b c, f a b = -1 → f b c = -1 → f a c = -1
def thn (c d : Int) : Int := if c = 0 then d else c
def cmpN (a b : Int) : Int := if a < b then -1 else if b < a then 1 else 0
theorem cmpN_ord : Ordr cmpN where
  three a b := by
    unfold cmpN
    split
    · simp
    · split <;> simp
  eq a b := by
    unfold cmpN
    split
    · omega
    · split <;> omega
  anti a b := by
    unfold cmpN
    by_cases h1 : a < b
    · rw [if_pos h1, if_neg (by omega), if_pos h1]; rfl
    · by_cases h2 : b < a
      · rw [if_pos h2, if_neg h1, if_pos h2]
      · rw [if_neg h1, if_neg h2, if_neg h2, if_neg h1]; rfl
  trans a b c h1 h2 := by
    unfold cmpN at *
    have e1 : a < b := by
      split at h1
      · assumption
      · split at h1 <;> omega
    have e2 : b < c := by
      split at h2
      · assumption
      · split at h2 <;> omega
    rw [if_pos (by omega)]
def lessB (a b : ByteArray) : Bool := ltStr a.data.toList b.data.toList
def cmpS (a b : ByteArray) : Int := if lessB a b then -1 else if lessB b a then 1 else 0
theorem ba_ext {a b : ByteArray} (h : a.data.toList = b.data.toList) : a = b := by
  cases a; cases b
  simp at h
  rw [h]
theorem lessB_irrefl (a : ByteArray) : lessB a a = false := swo_ltStr.irrefl _
theorem lessB_eq {a b : ByteArray} (h1 : lessB a b = false) (h2 : lessB b a = false) : a = b := by
  refine ba_ext ?_
  simp only [lessB, ltStr, decide_eq_false_iff_not, List.not_lt] at h1 h2
  exact List.le_antisymm h2 h1
theorem lessB_asymm {a b : ByteArray} (h : lessB a b = true) : lessB b a = false := by
  cases h2 : lessB b a
  · rfl
  · have := swo_ltStr.trans _ _ _ h h2
    rw [show ltStr a.data.toList a.data.toList = false from swo_ltStr.irrefl _] at this
    cases this
theorem cmpS_ord : Ordr cmpS where
  three a b := by
    unfold cmpS
    split
    · simp
    · split <;> simp
  eq a b := by
    unfold cmpS
    constructor
    · intro h
      split at h
      · cases h
      · split at h
        · cases h
        · rename_i h1 h2; exact lessB_eq (by simpa using h1) (by simpa using h2)
    · rintro rfl; simp [lessB_irrefl]
  anti a b := by
    unfold cmpS
    cases h1 : lessB a b with
    | true => rw [lessB_asymm h1]; simp
    | false => cases h2 : lessB b a <;> simp
  trans a b c h1 h2 := by
    unfold cmpS at *
    have e1 : lessB a b = true := by
      split at h1
      · assumption
      · split at h1 <;> cases h1
    have e2 : lessB b c = true := by
      split at h2
      · assumption
      · split at h2 <;> cases h2
    have : lessB a c = true := swo_ltStr.trans _ _ _ e1 e2
    rw [if_pos this]
/-- a constant ahead of a variable -/
def cmpB (a b : Bool) : Int := if a = b then 0 else if b then -1 else 1
theorem cmpB_ord : Ordr cmpB where
  three a b := by cases a <;> cases b <;> simp [cmpB]
  eq a b := by cases a <;> cases b <;> simp [cmpB]
  anti a b := by cases a <;> cases b <;> simp [cmpB]
  trans a b c := by cases a <;> cases b <;> cases c <;> simp [cmpB]
theorem Ordr.pair {α β γ : Type} {f : β → β → Int} {g : γ → γ → Int} (hf : Ordr f) (hg : Ordr g) (p : α → β) (q : α → γ) (hi : ∀ a b, p a = p b → q a = q b → a = b) : Ordr fun a b => thn (f (p a) (p b)) (g (q a) (q b)) where
  three a b := by
    unfold thn
    split
    · exact hg.three _ _
    · exact hf.three _ _
  eq a b := by
    unfold thn
    constructor
    · intro h
      split at h
      · rename_i h1; exact hi _ _ ((hf.eq _ _).1 h1) ((hg.eq _ _).1 h)
      · contradiction
    · rintro rfl; rw [if_pos ((hf.eq _ _).2 rfl)]; exact (hg.eq _ _).2 rfl
  anti a b := by
    unfold thn
    have h1 := hf.anti (p a) (p b)
    by_cases h : f (p a) (p b) = 0
    · rw [if_pos h, if_pos (by rw [h1, h]; rfl)]; exact hg.anti _ _
    · rw [if_neg h, if_neg (by rw [h1]; omega)]; exact h1
  trans a b c h1 h2 := by
    unfold thn at *
    by_cases ha : f (p a) (p b) = 0
    · rw [if_pos ha] at h1
      have ea := (hf.eq _ _).1 ha
      by_cases hb : f (p b) (p c) = 0
      · rw [if_pos hb] at h2
        rw [if_pos (by rw [ea]; exact hb)]
        exact hg.trans _ _ _ h1 h2
      · rw [if_neg hb] at h2
        rw [if_neg (by rw [ea]; exact hb), ea]; exact h2
    · rw [if_neg ha] at h1
      by_cases hb : f (p b) (p c) = 0
      · have eb := (hf.eq _ _).1 hb
        rw [← eb, if_neg ha]; exact h1
      · rw [if_neg hb] at h2
        have := hf.trans _ _ _ h1 h2
        rw [if_neg (by omega)]; exact this
/-- lists, by the first things that differ -/
def cmpF {α : Type} (f : α → α → Int) : List α → List α → Int
  | [], [] => 0
  | [], _ :: _ => -1
  | _ :: _, [] => 1
  | x :: l, y :: m => thn (f x y) (cmpF f l m)
theorem cmpF_ord {α : Type} {f : α → α → Int} (hf : Ordr f) : Ordr (cmpF f) where
  three a := by
    induction a with
    | nil => intro b; cases b <;> simp [cmpF]
    | cons x l ih =>
      intro b
      cases b with
      | nil => simp [cmpF]
      | cons y m =>
        unfold cmpF thn
        split
        · exact ih _
        · exact hf.three _ _
  eq a := by
    induction a with
    | nil => intro b; cases b <;> simp [cmpF]
    | cons x l ih =>
      intro b
      cases b with
      | nil => simp [cmpF]
      | cons y m =>
        unfold cmpF thn
        constructor
        · intro h
          split at h
          · rename_i h1; rw [(hf.eq _ _).1 h1, (ih _).1 h]
          · contradiction
        · intro h
          injection h with h1 h2
          rw [if_pos ((hf.eq _ _).2 h1)]; exact (ih _).2 h2
  anti a := by
    induction a with
    | nil => intro b; cases b <;> simp [cmpF]
    | cons x l ih =>
      intro b
      cases b with
      | nil => simp [cmpF]
      | cons y m =>
        unfold cmpF thn
        have h1 := hf.anti x y
        by_cases h : f x y = 0
        · rw [if_pos h, if_pos (by rw [h1, h]; rfl)]; exact ih _
        · rw [if_neg h, if_neg (by rw [h1]; omega)]; exact h1
  trans a := by
    induction a with
    | nil =>
      intro b c h1 h2
      cases b with
      | nil => simp [cmpF] at h1
      | cons y m =>
        cases c with
        | nil => simp [cmpF] at h2
        | cons z n => rfl
    | cons x l ih =>
      intro b c h1 h2
      cases b with
      | nil => simp [cmpF] at h1
      | cons y m =>
        cases c with
        | nil => simp [cmpF] at h2
        | cons z n =>
          replace h1 : thn (f x y) (cmpF f l m) = -1 := h1
          replace h2 : thn (f y z) (cmpF f m n) = -1 := h2
          show thn (f x z) (cmpF f l n) = -1
          unfold thn at *
          by_cases ha : f x y = 0
          · rw [if_pos ha] at h1
            have ea := (hf.eq _ _).1 ha
            subst ea
            by_cases hb : f x z = 0
            · rw [if_pos hb] at h2
              rw [if_pos hb]
              exact ih _ _ h1 h2
            · rw [if_neg hb] at h2
              rw [if_neg hb]; exact h2
          · rw [if_neg ha] at h1
            by_cases hb : f y z = 0
            · have eb := (hf.eq _ _).1 hb
              subst eb
              rw [if_neg ha]; exact h1
            · rw [if_neg hb] at h2
              have := hf.trans _ _ _ h1 h2
              rw [if_neg (by omega)]; exact this
/-- the shorter list ahead -/
def cmpLs {α : Type} (f : α → α → Int) (l m : List α) : Int := thn (cmpN l.length m.length) (cmpF f l m)
theorem cmpLs_ord {α : Type} {f : α → α → Int} (hf : Ordr f) : Ordr (cmpLs f) :=
  cmpN_ord.pair (cmpF_ord hf) (fun l : List α => (l.length : Int)) id fun _ _ _ h => h
abbrev Tm := Bool × ByteArray
def cmpT (a b : Tm) : Int := thn (cmpB a.1 b.1) (cmpS a.2 b.2)
theorem cmpT_ord : Ordr cmpT := cmpB_ord.pair cmpS_ord (fun a : Tm => a.1) (fun a : Tm => a.2) fun _ _ => Prod.ext
def cmpA (a b : ByteArray × List Tm) : Int := thn (cmpS a.1 b.1) (cmpLs cmpT a.2 b.2)
theorem cmpA_ord : Ordr cmpA := cmpS_ord.pair (cmpLs_ord cmpT_ord) (fun a : ByteArray × List Tm => a.1) (fun a : ByteArray × List Tm => a.2) fun _ _ => Prod.ext
def cmpL (x y : Lit) : Int := thn (cmpN x.k y.k) (thn (cmpA (x.p, x.a) (y.p, y.a)) (thn (cmpT x.l y.l) (cmpT x.r y.r)))
theorem cmpL_ord : Ordr cmpL := by
  have h1 := cmpT_ord.pair cmpT_ord (fun x : Tm × Tm => x.1) (fun x : Tm × Tm => x.2) fun _ _ => Prod.ext
  have h2 := cmpA_ord.pair h1 (fun x : (ByteArray × List Tm) × (Tm × Tm) => x.1) (fun x : (ByteArray × List Tm) × (Tm × Tm) => x.2) fun _ _ => Prod.ext
  have h3 := cmpN_ord.pair h2 (fun x : Lit => x.k) (fun x : Lit => ((x.p, x.a), (x.l, x.r))) fun a b e1 e2 => by
    obtain ⟨k, p, l, t, r⟩ := a
    obtain ⟨k', p', l', t', r'⟩ := b
    simp at e1 e2
    obtain ⟨⟨rfl, rfl⟩, rfl, rfl⟩ := e2
    subst e1
    rfl
  exact h3
def cmpR (x y : Rul) : Int := thn (cmpA (x.h, x.a) (y.h, y.a)) (cmpLs cmpL x.b y.b)
theorem cmpR_ord : Ordr cmpR :=
  cmpA_ord.pair (cmpLs_ord cmpL_ord) (fun x : Rul => (x.h, x.a)) (fun x : Rul => x.b) fun a b e1 e2 => by
    obtain ⟨h, l, t⟩ := a
    obtain ⟨h', l', t'⟩ := b
    simp at e1 e2
    obtain ⟨rfl, rfl⟩ := e1
    subst e2
    rfl
/-! ### rising lists -/
theorem Ordr.self {α : Type} {f : α → α → Int} (h : Ordr f) (a : α) : f a a = 0 := (h.eq a a).2 rfl
theorem Ordr.swo {α : Type} {f : α → α → Int} (h : Ordr f) : SWO (ltOf f) where
  irrefl x := by simp [ltOf, h.self]
  trans x y z h1 h2 := by
    simp only [ltOf, decide_eq_true_eq] at *
    have e1 : f x y = -1 := by rcases h.three x y with h | h | h <;> omega
    have e2 : f y z = -1 := by rcases h.three y z with h | h | h <;> omega
    have := h.trans _ _ _ e1 e2
    omega
  ntrans x y z h1 h2 := by
    simp only [ltOf, decide_eq_false_iff_not] at *
    intro h3
    have e3 : f x z = -1 := by rcases h.three x z with h | h | h <;> omega
    by_cases e : f x y = 0
    · rw [← (h.eq _ _).1 e] at h2; omega
    · have e1 : f y x = -1 := by have := h.anti x y; rcases h.three x y with h | h | h <;> omega
      have := h.trans _ _ _ e1 e3
      omega
theorem swo_map {α β : Type} {f : α → α → Int} (h : SWO (ltOf f)) (p : β → α) : SWO (ltOf fun x y => f (p x) (p y)) :=
  ⟨fun x => h.irrefl (p x), fun x y z => h.trans (p x) (p y) (p z), fun x y z => h.ntrans (p x) (p y) (p z)⟩
def rise {α : Type} (f : α → α → Int) (l : List α) : Prop := l.Pairwise fun a b => f a b = -1
theorem rise_unique {α : Type} {f : α → α → Int} (hf : Ordr f) : ∀ {l m : List α}, rise f l → rise f m → (∀ x, x ∈ l ↔ x ∈ m) → l = m
  | [], [], _, _, _ => rfl
  | [], y :: m, _, _, h => absurd ((h y).2 (List.mem_cons_self ..)) (by simp)
  | x :: l, [], _, _, h => absurd ((h x).1 (List.mem_cons_self ..)) (by simp)
  | x :: l, y :: m, h1, h2, h => by
    unfold rise at h1 h2
    rw [List.pairwise_cons] at h1 h2
    have hxy : x = y := by
      rcases List.mem_cons.1 ((h x).1 (List.mem_cons_self ..)) with e | e
      · exact e
      · rcases List.mem_cons.1 ((h y).2 (List.mem_cons_self ..)) with e2 | e2
        · exact e2.symm
        · have a1 := h2.1 x e
          have a2 := h1.1 y e2
          have := hf.anti x y
          omega
    subst hxy
    have hn1 : x ∉ l := fun e => by have := h1.1 x e; rw [hf.self] at this; omega
    have hn2 : x ∉ m := fun e => by have := h2.1 x e; rw [hf.self] at this; omega
    rw [rise_unique hf (l := l) (m := m) h1.2 h2.2 fun z => ?_]
    constructor
    · intro hz
      rcases List.mem_cons.1 ((h z).1 (List.mem_cons_of_mem _ hz)) with e | e
      · exact absurd (e ▸ hz) hn1
      · exact e
    · intro hz
      rcases List.mem_cons.1 ((h z).2 (List.mem_cons_of_mem _ hz)) with e | e
      · exact absurd (e ▸ hz) hn2
      · exact e
/-- neighbours that are alike: one of them -/
def once {α : Type} [DecidableEq α] : List α → List α
  | [] => []
  | [x] => [x]
  | x :: y :: l => if x = y then once (y :: l) else x :: once (y :: l)
theorem mem_once {α : Type} [DecidableEq α] : ∀ (l : List α) (z : α), z ∈ once l ↔ z ∈ l
  | [], _ => Iff.rfl
  | [_], _ => Iff.rfl
  | x :: y :: l, z => by
    have ih := mem_once (y :: l) z
    unfold once
    split
    · rename_i e
      subst e
      rw [ih]; simp
    · rw [List.mem_cons, ih, List.mem_cons (b := x)]
theorem rise_once {α : Type} [DecidableEq α] {f : α → α → Int} (hf : Ordr f) : ∀ (l : List α), l.Pairwise (fun a b => f a b ≤ 0) → rise f (once l)
  | [], _ => List.Pairwise.nil
  | [_], _ => List.pairwise_singleton _ _
  | x :: y :: l, h => by
    have h' := List.pairwise_cons.1 h
    have ih := rise_once hf (y :: l) h'.2
    unfold once
    split
    · exact ih
    · rename_i hne
      refine List.Pairwise.cons (fun z hz => ?_) ih
      have hz' := (mem_once (y :: l) z).1 hz
      have h1 := h'.1 z hz'
      have hxy : f x y = -1 := by
        have := h'.1 y (List.mem_cons_self ..)
        have h0 : f x y ≠ 0 := fun e => hne ((hf.eq _ _).1 e)
        rcases hf.three x y with h | h | h <;> omega
      rcases List.mem_cons.1 hz' with e | e
      · rw [e]; exact hxy
      · have h2 := (List.pairwise_cons.1 h'.2).1 z e
        by_cases e0 : f y z = 0
        · rw [← (hf.eq _ _).1 e0]; exact hxy
        · have : f y z = -1 := by rcases hf.three y z with h | h | h <;> omega
          exact hf.trans _ _ _ hxy this
end Go.Proofs.YtoklbofobcloaaaDoor
