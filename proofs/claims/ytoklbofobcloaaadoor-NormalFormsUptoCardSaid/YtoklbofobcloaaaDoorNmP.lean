/- Normal: variables, terms put, bodies in order. Plain. -/
import Derived.Test.YtoklbofobcloaaaDoorNmC
namespace Go.Proofs.YtoklbofobcloaaaDoor
open Go.RowKit Go.Sort
/-! ### a list with its doubles taken out, rising -/
def insL {α : Type} (f : α → α → Int) (x : α) : List α → List α
  | [] => [x]
  | y :: l => if f y x = -1 then y :: insL f x l else if f y x = 0 then y :: l else x :: y :: l
def setL {α : Type} (f : α → α → Int) (l : List α) : List α := l.foldl (fun acc x => insL f x acc) []
theorem mem_insL {α : Type} {f : α → α → Int} (hf : Ordr f) (x : α) : ∀ (l : List α) (z : α), z ∈ insL f x l ↔ z = x ∨ z ∈ l
  | [], z => by simp [insL]
  | y :: l, z => by
    unfold insL
    split
    · rw [List.mem_cons, mem_insL hf x l z, List.mem_cons]
      constructor
      · rintro (h | h | h)
        · exact .inr (.inl h)
        · exact .inl h
        · exact .inr (.inr h)
      · rintro (h | h | h)
        · exact .inr (.inl h)
        · exact .inl h
        · exact .inr (.inr h)
    · split
      · rename_i h0
        rw [(hf.eq _ _).1 h0]
        simp
      · simp
theorem rise_insL {α : Type} {f : α → α → Int} (hf : Ordr f) (x : α) : ∀ (l : List α), rise f l → rise f (insL f x l)
  | [], _ => List.pairwise_singleton _ _
  | y :: l, h => by
    have h' := List.pairwise_cons.1 h
    unfold insL
    split
    · rename_i h1
      refine List.Pairwise.cons (fun z hz => ?_) (rise_insL hf x l h'.2)
      rcases (mem_insL hf x l z).1 hz with e | e
      · rw [e]; exact h1
      · exact h'.1 z e
    · split
      · exact h
      · rename_i h1 h0
        have hx : f x y = -1 := by have := hf.anti x y; rcases hf.three y x with e | e | e <;> omega
        refine List.Pairwise.cons (fun z hz => ?_) h
        rcases List.mem_cons.1 hz with e | e
        · rw [e]; exact hx
        · exact hf.trans _ _ _ hx (h'.1 z e)
theorem setL_snoc {α : Type} (f : α → α → Int) (l : List α) (x : α) : setL f (l ++ [x]) = insL f x (setL f l) := by simp [setL]
theorem rise_foldl {α : Type} {f : α → α → Int} (hf : Ordr f) : ∀ (l acc : List α), rise f acc → rise f (l.foldl (fun acc x => insL f x acc) acc)
  | [], _, h => h
  | x :: l, acc, h => rise_foldl hf l _ (rise_insL hf x acc h)
theorem rise_setL {α : Type} {f : α → α → Int} (hf : Ordr f) (l : List α) : rise f (setL f l) := rise_foldl hf l [] List.Pairwise.nil
theorem mem_foldl {α : Type} {f : α → α → Int} (hf : Ordr f) : ∀ (l acc : List α) (z : α), z ∈ l.foldl (fun acc x => insL f x acc) acc ↔ z ∈ acc ∨ z ∈ l
  | [], _, z => by simp
  | x :: l, acc, z => by
    rw [List.foldl_cons, mem_foldl hf l, mem_insL hf, List.mem_cons]
    constructor
    · rintro ((h | h) | h)
      · exact .inr (.inl h)
      · exact .inl h
      · exact .inr (.inr h)
    · rintro (h | h | h)
      · exact .inl (.inr h)
      · exact .inl (.inl h)
      · exact .inr h
theorem mem_setL {α : Type} {f : α → α → Int} (hf : Ordr f) (l : List α) (z : α) : z ∈ setL f l ↔ z ∈ l := by
  unfold setL; rw [mem_foldl hf]; simp
theorem setL_unique {α : Type} {f : α → α → Int} (hf : Ordr f) {l m : List α} (hm : rise f m) (h : ∀ z, z ∈ m ↔ z ∈ l) : setL f l = m :=
  rise_unique hf (rise_setL hf l) hm fun z => (mem_setL hf l z).trans (h z).symm
theorem setL_rise {α : Type} {f : α → α → Int} (hf : Ordr f) {l : List α} (h : rise f l) : setL f l = l := setL_unique hf h fun _ => Iff.rfl
theorem setL_congr {α : Type} {f : α → α → Int} (hf : Ordr f) {l m : List α} (h : ∀ z, z ∈ l ↔ z ∈ m) : setL f l = setL f m :=
  setL_unique hf (rise_setL hf m) fun z => (mem_setL hf m z).trans (h z).symm
theorem insL_len {α : Type} (f : α → α → Int) (x : α) : ∀ l : List α, (insL f x l).length ≤ l.length + 1
  | [] => Nat.le_refl _
  | y :: l => by
    unfold insL
    split
    · rw [List.length_cons, List.length_cons]; exact Nat.succ_le_succ (insL_len f x l)
    · split <;> simp
theorem setL_len {α : Type} (f : α → α → Int) (l : List α) : (setL f l).length ≤ l.length := by
  have : ∀ (l acc : List α), (l.foldl (fun acc x => insL f x acc) acc).length ≤ acc.length + l.length := by
    intro l
    induction l with
    | nil => intro acc; simp
    | cons x l ih => intro acc; rw [List.foldl_cons, List.length_cons]; have := ih (insL f x acc); have := insL_len f x acc; omega
  have := this l []
  simpa [setL] using this
/-- what comes of sorting and taking neighbours that are alike together -/
theorem once_sorted {α : Type} [DecidableEq α] {f : α → α → Int} (hf : Ordr f) {l m : List α} (hp : ∀ z, z ∈ m ↔ z ∈ l) (hs : m.Pairwise fun a b => f a b ≤ 0) : once m = setL f l :=
  (setL_unique hf (rise_once hf m hs) fun z => (mem_once m z).trans (hp z)).symm
/-! ### terms -/
instance : LawfulBEq ByteArray where
  eq_of_beq {a b} h := by
    obtain ⟨x⟩ := a
    obtain ⟨y⟩ := b
    have : (x == y) = true := h
    rw [eq_of_beq this]
  rfl {a} := by
    obtain ⟨x⟩ := a
    show (x == x) = true
    simp
def everyL (x : Lit) : List Tm := x.a ++ [x.l, x.r]
def everyR (r : Rul) : List Tm := r.a ++ r.b.flatMap everyL
def addV (l : List ByteArray) (t : Tm) : List ByteArray := if t.1 = true ∧ t.2 ∉ l then l ++ [t.2] else l
def varsOf (l : List Tm) : List ByteArray := l.foldl addV []
def varsR (r : Rul) : List ByteArray := varsOf (everyR r)
theorem mem_addV (l : List ByteArray) (t : Tm) (v : ByteArray) : v ∈ addV l t ↔ v ∈ l ∨ (t.1 = true ∧ v = t.2) := by
  unfold addV
  split
  · rename_i h
    simp [h.1]
  · rename_i h
    constructor
    · exact .inl
    · rintro (h2 | ⟨h1, rfl⟩)
      · exact h2
      · by_cases h3 : t.2 ∈ l
        · exact h3
        · exact absurd ⟨h1, h3⟩ h
theorem nodup_addV {l : List ByteArray} (t : Tm) (h : l.Nodup) : (addV l t).Nodup := by
  unfold addV
  split
  · rename_i h2
    rw [List.nodup_append]
    exact ⟨h, by simp, fun a ha b hb => by simp at hb; rintro rfl; exact h2.2 (hb ▸ ha)⟩
  · exact h
theorem mem_foldV : ∀ (l : List Tm) (acc : List ByteArray) (v : ByteArray), v ∈ l.foldl addV acc ↔ v ∈ acc ∨ (true, v) ∈ l
  | [], _, _ => by simp
  | t :: l, acc, v => by
    rw [List.foldl_cons, mem_foldV l, mem_addV, List.mem_cons]
    obtain ⟨b, s⟩ := t
    cases b <;> simp [or_assoc]
theorem mem_varsOf (l : List Tm) (v : ByteArray) : v ∈ varsOf l ↔ (true, v) ∈ l := by
  unfold varsOf; rw [mem_foldV]; simp
theorem nodup_foldV : ∀ (l : List Tm) (acc : List ByteArray), acc.Nodup → (l.foldl addV acc).Nodup
  | [], _, h => h
  | t :: l, _, h => nodup_foldV l _ (nodup_addV t h)
theorem nodup_varsOf (l : List Tm) : (varsOf l).Nodup := nodup_foldV l [] List.nodup_nil
theorem varsOf_snoc (l : List Tm) (t : Tm) : varsOf (l ++ [t]) = addV (varsOf l) t := by simp [varsOf]
theorem addV_len (l : List ByteArray) (t : Tm) : (addV l t).length ≤ l.length + 1 := by unfold addV; split <;> simp
theorem varsOf_len (l : List Tm) : (varsOf l).length ≤ l.length := by
  have : ∀ (l : List Tm) (acc : List ByteArray), (l.foldl addV acc).length ≤ acc.length + l.length := by
    intro l
    induction l with
    | nil => intro acc; simp
    | cons x l ih => intro acc; rw [List.foldl_cons, List.length_cons]; have := ih (addV acc x); have := addV_len acc x; omega
  have := this l []
  simpa [varsOf] using this
def mapL (F : Tm → Tm) (x : Lit) : Lit := ⟨x.k, x.p, x.a.map F, F x.l, F x.r⟩
def mapR (F : Tm → Tm) (r : Rul) : Rul := ⟨r.h, r.a.map F, r.b.map (mapL F)⟩
theorem mapL_id (x : Lit) : mapL (fun t => t) x = x := by simp [mapL]
theorem mapR_id (r : Rul) : mapR (fun t => t) r = r := by
  unfold mapR
  rw [show (mapL fun t => t) = id from funext mapL_id]
  simp
/-- a term put: names and what stands for them -/
def find1 (names : List ByteArray) (terms : List Tm) (s : ByteArray) : Option Tm :=
  match names, terms with
  | [], _ => none
  | n :: ns, ts => if n = s then ts.head? else find1 ns ts.tail s
def one1 (names : List ByteArray) (terms : List Tm) (t : Tm) : Tm := if t.1 = true then (find1 names terms t.2).getD t else t
def putR (names : List ByteArray) (terms : List Tm) (r : Rul) : Rul := mapR (one1 names terms) r
/-- a number, to the base 10 -/
def decB (n : Nat) : List UInt8 := if h : n < 10 then [UInt8.ofNat (48 + n)] else decB (n / 10) ++ decB (n % 10)
termination_by n
decreasing_by all_goals omega
def vName (i : Nat) : ByteArray := ⟨(86 :: decB i).toArray⟩
def vTerms (n : Nat) : List Tm := (List.range n).map fun i => (true, vName i)
def renR (r : Rul) : Rul := putR (varsR r) (vTerms (varsR r).length) r
def turnL (x : Lit) : Lit := if x.k = 3 ∧ cmpT x.r x.l = -1 then ⟨x.k, x.p, x.a, x.r, x.l⟩ else x
def bodyR (r : Rul) : Rul := ⟨r.h, r.a, setL cmpL (r.b.map turnL)⟩
def ruleR (r : Rul) : Rul := renR (bodyR r)
/-- a rule that may be asked about -/
def numR (r : Rul) : Nat := r.a.length + (r.b.map fun x => x.a.length).sum
end Go.Proofs.YtoklbofobcloaaaDoor
