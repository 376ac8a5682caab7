/- tokens compared; the reference's Same at one list. -/
import Derived.Test.YtefgipoegnacjaaProg
import Derived.Test.YtefgipoegnacjaaBase
import Derived.Test.YtefgipoegnacjaaLexX
namespace Go.Proofs.Ytefgipoegnacjaa
open Go.RowKit Lx

def tokB (t u : Tok) : Bool := t.kind == u.kind && decide (t.text = u.text) && decide (t.at_ = u.at_) && decide (t.end_ = u.end_)
theorem tokB_iff (t u : Tok) : tokB t u = true ↔ t = u := by
  cases t; cases u; unfold tokB; simp; constructor
  · rintro ⟨⟨⟨rfl, rfl⟩, rfl⟩, rfl⟩; exact ⟨rfl, rfl, rfl, rfl⟩
  · rintro ⟨rfl, rfl, rfl, rfl⟩; exact ⟨⟨⟨rfl, rfl⟩, rfl⟩, rfl⟩
theorem tokB_self (t : Tok) : tokB t t = true := (tokB_iff t t).2 rfl
/-- a token's cells, written out -/
abbrev tv (k : Int) (l : Bs) (a b : Int) : Value := .agg #[.int .i64 k, .string (mk l), .int .i64 a, .int .i64 b]
theorem run_eqI_tok (t u : Tok) (w : World) : (Op.equalIn 10000 25 (tv t.kind t.text t.at_ t.end_) (tv u.kind u.text u.at_ u.end_)).run Try.prog w = .ok (tokB t u) w := by
  have e : ((mk t.text).toList = (mk u.text).toList) ↔ t.text = u.text := by rw [toList_bl, toList_bl, bl_mk, bl_mk]
  simp [go_sem, Try.underlying25, run_equalIn_agg, e]
  unfold tokB
  by_cases h1 : t.kind = u.kind
  · by_cases h2 : t.text = u.text
    · by_cases h3 : t.at_ = u.at_
      · by_cases h4 : t.end_ = u.end_
        · simp [h1, h2, h3, h4]
        · have : ¬ (t.end_ : Int) = u.end_ := by omega
          simp [h1, h2, h3, h4, this]
      · have : ¬ (t.at_ : Int) = u.at_ := by omega
        simp [h1, h2, h3, this]
    · simp [h1, h2]
  · simp [h1]
theorem run_eql_tok (t u : Tok) (w : World) : (binOp .eql 25 (tv t.kind t.text t.at_ t.end_) (tv u.kind u.text u.at_ u.end_)).run Try.prog w = .ok (.bool (tokB t u)) w := by
  rw [run_eql_struct, run_eqI_tok]; rfl
theorem run_neq_tok (t u : Tok) (w : World) : (binOp .neq 25 (tv t.kind t.text t.at_ t.end_) (tv u.kind u.text u.at_ u.end_)).run Try.prog w = .ok (.bool (!tokB t u)) w := by
  rw [run_neq_struct, run_eqI_tok]; rfl
theorem run_neq_self (t : Tok) (w : World) : (binOp .neq 25 (tv t.kind t.text t.at_ t.end_) (tv t.kind t.text t.at_ t.end_)).run Try.prog w = .ok (.bool false) w := by
  rw [run_neq_tok, tokB_self]; rfl

/-- a slice that reads as these tokens -/
structure TokRow (w : World) (a : Option Addr) (l : List Tok) : Prop where
  at_ : ∀ i (h : i < l.length), ∃ g, a = some ⟨g, 0, none⟩ ∧ w.cell? ⟨g, i * 4, none⟩ = some (.int .i64 l[i].kind) ∧ w.cell? ⟨g, i * 4 + 1, none⟩ = some (.string (mk l[i].text)) ∧
    w.cell? ⟨g, i * 4 + 2, none⟩ = some (.int .i64 l[i].at_) ∧ w.cell? ⟨g, i * 4 + 3, none⟩ = some (.int .i64 l[i].end_)
theorem tcells_get (l : List Tok) (i k : Nat) (h : i < l.length) (hk : k < 4) : (tcells l)[i * 4 + k]? = (tcs l[i])[k]? := by
  induction l generalizing i with
  | nil => simp at h
  | cons t r ih =>
    have e : tcells (t :: r) = tcs t ++ tcells r := by simp [tcells]
    have h4 : (tcs t).length = 4 := rfl
    cases i with
    | zero => rw [e, List.getElem?_append_left (by omega)]; simp
    | succ i =>
      rw [e, List.getElem?_append_right (by omega), h4, show (i + 1) * 4 + k - 4 = i * 4 + k from by omega, ih i (by simpa using h)]; rfl
theorem TokRow.own {w : World} {base : Nat} {a : Option Addr} {n c : Nat} {l : List Tok} (h : w.ownsRow base 25 4 (.slice a n c) n (tcells l)) : n = l.length ∧ TokRow w a l := by
  have hn : n = l.length := by have := h.1; rw [tcells_length] at this; omega
  refine ⟨hn, ⟨fun i hi => ?_⟩⟩
  obtain ⟨g, cap, hv, _⟩ := own_shape h (by omega)
  injection hv with hv _ _
  subst hv
  have e : ∀ k, k < 4 → w.cell? ⟨g, i * 4 + k, none⟩ = (tcs l[i])[k]? := fun k hk => by
    rw [h.cellAt _ (by omega), tcells_get l i k hi hk]
  exact ⟨g, rfl, e 0 (by omega), e 1 (by omega), e 2 (by omega), e 3 (by omega)⟩
theorem TokRow.below {w w' : World} {a : Option Addr} {l : List Tok} (h : TokRow w a l) (hb : Below w.heap.size w w') : TokRow w' a l :=
  ⟨fun i hi => let ⟨g, e, h0, h1, h2, h3⟩ := h.at_ i hi; ⟨g, e, cell_below hb rfl h0, cell_below hb rfl h1, cell_below hb rfl h2, cell_below hb rfl h3⟩⟩

set_option maxHeartbeats 2000000 in
theorem rx_Same (a b : Option Addr) (c d : Nat) (l : List Tok) (w : World) (ha : TokRow w a l) (hb : TokRow w b l) (hl : l.length ≤ 17592186044416) :
    Calls Try.prog 12 #[.slice a l.length c, .slice b l.length d] w fun e w' => e = .returned (.bool true) ∧ Drawn w w' := by
  obtain ⟨n, hn⟩ : ∃ n, n = l.length := ⟨_, rfl⟩
  rw [← hn] at hl ⊢
  replace hn := Lib.hid hn
  go_enter Try.func12, Try.ntmps12
  go_wp2
  go_loopw [5] (fun i wr => ∃ k : Nat, k ≤ n ∧ i = .int .i64 k ∧ Drawn w wr) (fun i _ => n - (intOf i).toNat)
  case atStart => exact ⟨0, Nat.zero_le _, rfl, Drawn.refl _⟩
  case round =>
    obtain ⟨k, hk, rfl, ⟨nd, rfl⟩⟩ := hrel
    by_cases hlt : k < n
    · obtain ⟨g, rfl, p0, p1, p2, p3⟩ := ha.at_ k (by rw [← hn.out]; exact hlt)
      obtain ⟨g', rfl, q0, q1, q2, q3⟩ := hb.at_ k (by rw [← hn.out]; exact hlt)
      have hq := run_neq_self (l[k]'(by rw [← hn.out]; exact hlt))
      generalize l[k]'(by rw [← hn.out]; exact hlt) = t at p0 p1 p2 p3 q0 q1 q2 q3 hq
      go_wp2
      go_quiet (fail)
      go_wp2
      go_roundw
      case rel => exact ⟨k + 1, by omega, by go_num, by (repeat (refine Drawn.step ?_ _)); exact Drawn.refl _⟩
      case measure => simp [intOf]; omega
    · go_wp2
      go_ret
      exact ⟨rfl, ⟨nd, rfl⟩⟩

end Go.Proofs.Ytefgipoegnacjaa
