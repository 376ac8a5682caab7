/- Quote and Show read back, plain. -/
import Derived.Test.YtefgipoegnacjaaLexW
import Derived.Test.YtefgipoegnacjaaLexY
import Derived.Test.YtefgipoegnacjaaQuote
import Derived.Test.YtefgipoegnacjaaShow
namespace Go.Proofs.Ytefgipoegnacjaa.Lx

theorem bi_inj {c d : UInt8} (h : bi c = bi d) : c = d := by
  unfold bi at h
  exact UInt8.toNat_inj.1 (by omega)
theorem half_hex (n : Int) (h0 : 0 ≤ n) (h1 : n < 16) : halfI (bi (byteI (hexI n))) = n := by
  have hr := hexI_range n h0 h1
  have : bi (byteI (hexI n)) = hexI n := by
    unfold bi byteI
    rw [UInt8.toNat_ofNat']; omega
  rw [this]
  unfold hexI halfI
  split
  · rw [if_pos (by omega)]; omega
  · rw [if_neg (by omega), if_pos (by omega)]; omega
theorem quo_34_nil (n : Nat) : quo [34] n = ([], 1, true) := quo_34 34 [] n rfl

theorem quo_back : ∀ (l : Bs) (n : Nat), n + l.length ≤ 1024 → quo (l.flatMap escL ++ [34]) n = (l, (l.flatMap escL).length + 1, true)
  | [], n, _ => quo_34_nil n
  | c :: r, n, h => by
    have hn : ¬ n = 1024 := by rw [List.length_cons] at h; omega
    have ih := quo_back r (n + 1) (by rw [List.length_cons] at h; omega)
    have h92 : bi 92 = 92 := rfl
    rw [List.flatMap_cons, List.append_assoc]
    by_cases h1 : bi c = 34 ∨ bi c = 92
    · rw [esc_a c h1]
      show quo (92 :: c :: (r.flatMap escL ++ [34])) n = _
      rw [quo_92 _ _ _ h92 hn]
      simp only [quoS]
      rw [if_pos h1, ih]; simp
    by_cases h2 : bi c = 10
    · rw [esc_n c h2]
      show quo (92 :: 110 :: (r.flatMap escL ++ [34])) n = _
      rw [quo_92 _ _ _ h92 hn]
      simp only [quoS]
      rw [if_neg (by decide), if_pos (by decide), ih, show c = 10 from bi_inj (by rw [h2]; rfl)]; simp
    by_cases h3 : bi c = 9
    · rw [esc_t c h3]
      show quo (92 :: 116 :: (r.flatMap escL ++ [34])) n = _
      rw [quo_92 _ _ _ h92 hn]
      simp only [quoS]
      rw [if_neg (by decide), if_neg (by decide), if_pos (by decide), ih, show c = 9 from bi_inj (by rw [h3]; rfl)]; simp
    by_cases h4 : 32 ≤ bi c ∧ bi c ≤ 126
    · rw [esc_p c h1 h4]
      show quo (c :: (r.flatMap escL ++ [34])) n = _
      rw [quo_chr _ _ _ (by omega) (by omega) (by omega), ih]; simp
    · rw [esc_x c h1 h2 h3 h4]
      show quo (92 :: 120 :: byteI (hexI (bi c / 16)) :: byteI (hexI (bi c % 16)) :: (r.flatMap escL ++ [34])) n = _
      have hr := bi_range c
      have e1 := half_hex (bi c / 16) (by omega) (by omega)
      have e2 := half_hex (bi c % 16) (by omega) (by omega)
      rw [quo_92 _ _ _ h92 hn, quoS_x _ _ _ rfl, quoF_ok _ _ _ _ (bi c / 16) (bi c % 16) e1.symm e2.symm (by omega) (by omega), ih]
      have : UInt8.ofNat (16 * (bi c / 16) + bi c % 16).toNat = c := by
        apply bi_inj
        unfold bi
        rw [UInt8.toNat_ofNat', show 16 * ((c.toNat : Int) / 16) + (c.toNat : Int) % 16 = (c.toNat : Int) from by omega]
        have := c.toNat_lt
        omega
      rw [this]; simp

/-- a text that is one token -/
theorem tokens_one {X : Bs} {t : Tok} (hX : X ≠ []) (hs : skipN false X = 0) (h : nextT X 0 = (t, true)) (he : t.end_ = X.length) : tokens X = ⟨[t], zeroTok, X.length, true⟩ := by
  rw [tokens_tk, tk_more hs List.drop_zero hX h (by simp)]
  rw [he, Nat.add_zero, Nat.sub_zero, List.drop_of_length_le (Nat.le_refl _), tk_end (n := 0) rfl (Nat.zero_le _)]; rfl

theorem quote_back (l : Bs) (h : l.length ≤ 1024) : tokens (quoteL l) = ⟨[⟨4, l, 0, (quoteL l).length⟩], zeroTok, (quoteL l).length, true⟩ := by
  have hq := quo_back l 0 (by omega)
  have hx : nextT (quoteL l) 0 = (⟨4, l, 0, (quoteL l).length⟩, true) := by
    show nextT (34 :: (l.flatMap escL ++ [34])) 0 = _
    rw [next_str _ _ _ rfl, hq]
    simp [quoteL]; omega
  exact tokens_one (by simp [quoteL]) rfl hx rfl

theorem firstOk_cons {c : UInt8} {r : Bs} (h : firstOk (c :: r) = true) : ¬ bi c = 34 ∧ signI (bi c) = none ∧ skipN false (c :: r) = 0 := by
  unfold firstOk firstB digitB greatB smallB at h
  simp at h
  refine ⟨by omega, ?_, ?_⟩
  · unfold signI
    rw [if_neg (by omega), if_neg (by omega), if_neg (by omega), if_neg (by omega), if_neg (by omega), if_neg (by omega), if_neg (by omega)]
  · rw [skipN, if_neg (by omega), if_neg (by unfold blankB; simp; omega)]

theorem word_back (l : Bs) (h : kindI l ≠ 0) (hr : reservedB l = false) : tokens l = ⟨[⟨kindI l, l, 0, l.length⟩], zeroTok, l.length, true⟩ := by
  have hw := (kind_ne l).1 h
  obtain ⟨h1, h2, h3, h4⟩ := hw
  have hwn : wordN l = l.length := by
    rw [wordN_pred, List.take_of_length_le h2]
    have := takeWhile_append_all (wpred (firstB digitB l)) l [] h3
    rw [List.append_nil] at this
    rw [this]; simp
  cases l with
  | nil => simp at h1
  | cons c r =>
    obtain ⟨f1, f2, f3⟩ := firstOk_cons h4
    have hx : nextT (c :: r) 0 = (⟨kindI (c :: r), c :: r, 0, (c :: r).length⟩, true) := by
      rw [next_word c r 0 f1 f2, hwn, List.take_length, if_neg h, hr]; simp
    exact tokens_one (by simp) f3 hx rfl

/-- what a constant's text is as a term -/
theorem show_back (l : Bs) (h : l.length ≤ 1024) : ∃ K : Int, tokens (showL l) = ⟨[⟨K, l, 0, (showL l).length⟩], zeroTok, (showL l).length, true⟩ ∧ (showL l).length ≤ (quoteL l).length ∧
    ((K = 4 ∧ nameB l = false ∧ numberB l = false) ∨ (K = 1 ∧ nameB l = true ∧ numberB l = false) ∨ (K = 3 ∧ nameB l = false ∧ numberB l = true)) := by
  have k1 := kind_name l
  have k3 := kind_number l
  have hlen := escs_len l
  have hql : (quoteL l).length = (l.flatMap escL).length + 2 := by simp [quoteL]
  by_cases h1 : nameB l = true
  · have e1 : kindI l = 1 := by rw [h1] at k1; simpa using k1
    have hr : reservedB l = false := by unfold nameB at h1; simp at h1; exact h1.2.2
    have hs : showL l = l := by unfold showL; rw [h1]; rfl
    have hn : numberB l = false := by rw [← k3, e1]; rfl
    refine ⟨1, ?_, by rw [hs, hql]; omega, .inr (.inl ⟨rfl, h1, hn⟩)⟩
    rw [hs]; have := word_back l (by rw [e1]; decide) hr; rw [e1] at this; exact this
  have h1' : nameB l = false := by simpa using h1
  by_cases h3 : numberB l = true
  · have e3 : kindI l = 3 := by rw [h3] at k3; simpa using k3
    have hr : reservedB l = false := by
      have := number_not h3
      unfold reservedB; simp [this]
    have hs : showL l = l := by unfold showL; rw [h3]; simp
    refine ⟨3, ?_, by rw [hs, hql]; omega, .inr (.inr ⟨rfl, h1', h3⟩)⟩
    rw [hs]; have := word_back l (by rw [e3]; decide) hr; rw [e3] at this; exact this
  have h3' : numberB l = false := by simpa using h3
  have hs : showL l = quoteL l := by unfold showL quR; rw [h1', h3', if_pos h]; simp
  refine ⟨4, ?_, by rw [hs]; exact Nat.le_refl _, .inl ⟨rfl, h1', h3'⟩⟩
  rw [hs]; exact quote_back l h

end Go.Proofs.Ytefgipoegnacjaa.Lx
