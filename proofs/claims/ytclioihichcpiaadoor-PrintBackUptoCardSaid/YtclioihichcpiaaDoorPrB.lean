/- Print: the program's Quote. -/
import Derived.Test.YtclioihichcpiaaDoorPrA
import Derived.Test.YtclioihichcpiaaDoorJoF
import Derived.Deep.RegionWith
import Derived.Deep.RegionLaw
namespace Go.Proofs.YtclioihichcpiaaDoor
open Go.RowKit Go.Shelf Lx
theorem bld_below {T e : TypeId} {B b : Nat} {p : Value} {bs : List Value} {w w' : World} (h : Lib.BuilderAt T e B b p bs w) (hb : Below w.heap.size w w') : Lib.BuilderAt T e B b p bs w' := by
  have hlt := h.lt
  obtain ⟨hB, v, hv, hown, hne⟩ := h
  exact ⟨hB, v, (hb.block _ hlt).trans hv, own_below hown hb, hne⟩
theorem bld_acc {T e : TypeId} {B b : Nat} {p : Value} {s : ByteArray} {k : Nat} {lit bs : List Value} {w : World} (h : Lib.BuilderAt T e B b p bs w) (hk : k < s.size) (he : lit = (escL ((bl s).getD k 0)).map u8v) (hbs : bs = (acc s k).map u8v ++ lit) :
    Lib.BuilderAt T e B b p ((acc s (k + 1)).map u8v) w := by
  rw [acc_succ s k hk, List.map_append, ← he, ← hbs]; exact h
theorem bld_fin {T e : TypeId} {B b : Nat} {p : Value} {s : ByteArray} {k : Nat} {w : World} (h : Lib.BuilderAt T e B b p ((acc s k).map u8v ++ [.int .u8 34]) w) (hk : k = s.size) :
    Lib.BuilderAt T e B b p (Lib.byteCells (quoteL (bl s))) w := by
  have e : Lib.byteCells (quoteL (bl s)) = (acc s k).map u8v ++ [.int .u8 34] := by rw [acc_end, hk, Lib.byteCells, List.map_append]; rfl
  rw [e]; exact h
theorem enc_hex (q : Int) (h0 : 0 ≤ q) (h1 : q < 16) : Utf8.encode (hexI q) = ⟨#[byteI (hexI q)]⟩ := by
  have : q = 0 ∨ q = 1 ∨ q = 2 ∨ q = 3 ∨ q = 4 ∨ q = 5 ∨ q = 6 ∨ q = 7 ∨ q = 8 ∨ q = 9 ∨ q = 10 ∨ q = 11 ∨ q = 12 ∨ q = 13 ∨ q = 14 ∨ q = 15 := by omega
  rcases this with rfl | rfl | rfl | rfl | rfl | rfl | rfl | rfl | rfl | rfl | rfl | rfl | rfl | rfl | rfl | rfl <;> rfl
theorem below_sz {B n : Nat} {a w : World} (h : Below B a w) (hn : n ≤ a.heap.size) : n ≤ w.heap.size := Nat.le_trans hn h.size
set_option maxHeartbeats 1000000 in
set_option maxRecDepth 100000 in
theorem pt_Quote (s : ByteArray) (w : World) (hs : s.size ≤ 1048576) : Calls Tryd.prog 21 #[.string s] w fun e w' => e = .returned (.string (mk (quoteL (bl s)))) ∧ Below w.heap.size w w' := by
  have hcv := fun w => Lib.run_convert_string_bytes (P := Tryd.prog) w 9 65 5 s Tryd.underlying9 Tryd.underlying65 Tryd.underlying5
  obtain ⟨b, hbe⟩ : ∃ b, w.heap.size = b := ⟨_, rfl⟩
  have hB0 : Hid (Lib.IsBuilder 67 5 b b [] (w.alloc (.cells #[.pointer none, .slice none 0 0] 67))) := Lib.hid (.inl ⟨Nat.le_refl _, .slice none 0 0, by rw [← hbe]; exact heap_alloc_new _ _, World.ownsRow_nil _ _ _ _, by simp [Value.ownBlock]⟩)
  have hb0 : Hid (Below b w (w.alloc (.cells #[.pointer none, .slice none 0 0] 67)) ∧ b ≤ (w.alloc (.cells #[.pointer none, .slice none 0 0] 67)).heap.size) := Lib.hid ⟨by rw [← hbe]; exact (Below.refl _ w).al _, by rw [World.size_alloc]; omega⟩
  go_enter Tryd.func21, Tryd.ntmps21
  go_wp2_with (go_at_call 43; refine (bl_byte b b [] 34 _ hB0.out hb0.out.2 (by simp)).mono ?_; rintro e w1 ⟨rfl, hB1, hb1, -⟩; have hb1' := Lib.hid hb1; have hB1' := Lib.hid hB1; clear hb1 hB1)
  have hBW : Hid (Lib.BuilderAt 67 5 b b (.pointer (some ⟨b, 0, none⟩)) ((acc s 0).map u8v) (Lib.bytesWorld w1 5 s)) := Lib.hid (bld_below hB1'.out (below_bytes w1 _ s))
  have hszw1 : b ≤ w1.heap.size := below_sz hb1'.out hb0.out.2
  have hbW : Hid (Below b w (Lib.bytesWorld w1 5 s)) := Lib.hid ((hb0.out.1.trans hb1'.out).trans ((below_bytes w1 _ s).mono hszw1))
  have hW0 := Lib.bytesWorld_at_new w1 5 s
  have hbc : Hid (∀ j, j < s.size → (Lib.bytesCells w1 5 s)[j]? = some (.int .u8 (bat s j))) := by
    intro j hj
    have := Lib.bytesWorld_cell w1 5 s j hj
    rw [cell_of_row _ _ _ _ _ _ hW0] at this
    exact this
  generalize Lib.bytesCells w1 5 s = bc at hW0 hbc
  replace hW0 := Lib.hid hW0
  clear hcv
  generalize Lib.bytesWorld w1 5 s = W at hBW hbW hW0 ⊢
  generalize w1.heap.size = g at hW0 hszw1 ⊢
  go_loopw [5, 10] (fun c i wr => ∃ (k : Nat), k ≤ s.size ∧ i = .int .i64 k ∧ Hid (Lib.BuilderAt 67 5 b b (.pointer (some ⟨b, 0, none⟩)) ((acc s k).map u8v) wr) ∧ Hid (Below b w wr) ∧ Hid (wr.heap[g]? = some (.cells bc 5 (bc.size, bc.size + 1)))) (fun _ i _ => s.size - (intOf i).toNat)
  case atStart => exact ⟨0, Nat.zero_le _, rfl, hBW, hbW, hW0⟩
  case round =>
    obtain ⟨k, hk, rfl, hB, hb, hg⟩ := hrel
    have hal := acc_len s k hk
    have hsz : Hid (b ≤ wr.heap.size) := Lib.hid (below_sz hb.out (by omega))
    by_cases hlt : k < s.size
    · have hidx : wr.cell? ⟨g, k, none⟩ = some (.int .u8 (bat s k)) := by
        rw [cell_of_row _ _ _ _ _ _ hg.out]; exact hbc.out k hlt
      obtain ⟨hr1, hr2⟩ := bat_range s k
      have hl1 : Hid ((List.map u8v (acc s k)).length + 1 ≤ 140737488355328) := Lib.hid (by rw [List.length_map]; omega)
      have hl2 : Hid ((List.map u8v (acc s k)).length + 2 ≤ 140737488355328) := Lib.hid (by rw [List.length_map]; omega)
      by_cases h34 : bat s k = 34 ∨ bat s k = 92
      · have hesc : Hid (([.int .u8 92, (.int .u8 (bat s k))] : List Value) = (escL ((bl s).getD k 0)).map u8v) := Lib.hid (by rw [esc_a ((bl s).getD k 0) h34]; rfl)
        rcases h34 with h34 | h34
        · skip
          have g1 : (bat s k == 34) = true := by rw [beq_iff_eq]; omega
          clear h34
          go_wp2_with (first
            | (go_at_call 43; refine (bl_byte b b _ _ _ (.inr hB2.out) (below_sz hb2.out hsz.out) (by simp; omega)).mono ?_; rintro e w3 ⟨rfl, hB3, hb3, hk3⟩; replace hB3 := Lib.hid hB3; replace hb3 := Lib.hid hb3; have hg3 := Lib.hid (hk3 _ _ _ _ hg2.out (by simp)); clear hk3)
            | (go_at_call 43; refine (bl_byte b b _ 92 _ (.inr hB.out) hsz.out hl1.out).mono ?_; rintro e w2 ⟨rfl, hB2, hb2, hk2⟩; replace hB2 := Lib.hid hB2; replace hb2 := Lib.hid hb2; have hg2 := Lib.hid (hk2 _ _ _ _ hg.out (by simp)); clear hk2))
          go_roundw
          case rel => exact ⟨k + 1, by omega, by go_num, Lib.hid (bld_acc hB3.out hlt hesc.out (by simp)), Lib.hid ((hb.out.trans hb2.out).trans hb3.out), hg3⟩
          case measure => simp [intOf]; omega
        · skip
          have g1 : (bat s k == 34) = false := by rw [beq_eq_false_iff_ne]; omega
          have g2 : (bat s k == 92) = true := by rw [beq_iff_eq]; omega
          clear h34
          go_wp2_with (first
            | (go_at_call 43; refine (bl_byte b b _ _ _ (.inr hB2.out) (below_sz hb2.out hsz.out) (by simp; omega)).mono ?_; rintro e w3 ⟨rfl, hB3, hb3, hk3⟩; replace hB3 := Lib.hid hB3; replace hb3 := Lib.hid hb3; have hg3 := Lib.hid (hk3 _ _ _ _ hg2.out (by simp)); clear hk3)
            | (go_at_call 43; refine (bl_byte b b _ 92 _ (.inr hB.out) hsz.out hl1.out).mono ?_; rintro e w2 ⟨rfl, hB2, hb2, hk2⟩; replace hB2 := Lib.hid hB2; replace hb2 := Lib.hid hb2; have hg2 := Lib.hid (hk2 _ _ _ _ hg.out (by simp)); clear hk2))
          go_roundw
          case rel => exact ⟨k + 1, by omega, by go_num, Lib.hid (bld_acc hB3.out hlt hesc.out (by simp)), Lib.hid ((hb.out.trans hb2.out).trans hb3.out), hg3⟩
          case measure => simp [intOf]; omega
      by_cases h10 : bat s k = 10
      · have hesc : Hid ((Lib.strCells ⟨#[92, 110]⟩ : List Value) = (escL ((bl s).getD k 0)).map u8v) := Lib.hid (by rw [esc_n ((bl s).getD k 0) h10]; rfl)
        have g1 : (bat s k == 34) = false := by rw [beq_eq_false_iff_ne]; omega
        have g2 : (bat s k == 92) = false := by rw [beq_eq_false_iff_ne]; omega
        have g3 : (bat s k == 10) = true := by rw [beq_iff_eq]; omega
        clear h34 h10
        go_wp2_with (go_at_call 26; refine (bl_string b b _ ⟨#[92, 110]⟩ _ (.inr hB.out) hsz.out hl2.out).mono ?_; rintro e w2 ⟨rfl, hB2, hb2, hk2⟩; replace hB2 := Lib.hid hB2; replace hb2 := Lib.hid hb2; have hg2 := Lib.hid (hk2 _ _ _ _ hg.out (by simp)); clear hk2)
        go_roundw
        case rel => exact ⟨k + 1, by omega, by go_num, Lib.hid (bld_acc hB2.out hlt hesc.out rfl), Lib.hid (hb.out.trans hb2.out), hg2⟩
        case measure => simp [intOf]; omega
      by_cases h9 : bat s k = 9
      · have hesc : Hid ((Lib.strCells ⟨#[92, 116]⟩ : List Value) = (escL ((bl s).getD k 0)).map u8v) := Lib.hid (by rw [esc_t ((bl s).getD k 0) h9]; rfl)
        have g1 : (bat s k == 34) = false := by rw [beq_eq_false_iff_ne]; omega
        have g2 : (bat s k == 92) = false := by rw [beq_eq_false_iff_ne]; omega
        have g3 : (bat s k == 10) = false := by rw [beq_eq_false_iff_ne]; omega
        have g4 : (bat s k == 9) = true := by rw [beq_iff_eq]; omega
        clear h34 h10 h9
        go_wp2_with (go_at_call 26; refine (bl_string b b _ ⟨#[92, 116]⟩ _ (.inr hB.out) hsz.out hl2.out).mono ?_; rintro e w2 ⟨rfl, hB2, hb2, hk2⟩; replace hB2 := Lib.hid hB2; replace hb2 := Lib.hid hb2; have hg2 := Lib.hid (hk2 _ _ _ _ hg.out (by simp)); clear hk2)
        go_roundw
        case rel => exact ⟨k + 1, by omega, by go_num, Lib.hid (bld_acc hB2.out hlt hesc.out rfl), Lib.hid (hb.out.trans hb2.out), hg2⟩
        case measure => simp [intOf]; omega
      by_cases hpr : 32 ≤ bat s k ∧ bat s k ≤ 126
      · have hesc : Hid (([.int .u8 (bat s k)] : List Value) = (escL ((bl s).getD k 0)).map u8v) := Lib.hid (by rw [esc_p ((bl s).getD k 0) h34 hpr]; rfl)
        have g1 : (bat s k == 34) = false := by rw [beq_eq_false_iff_ne]; omega
        have g2 : (bat s k == 92) = false := by rw [beq_eq_false_iff_ne]; omega
        have g3 : (bat s k == 10) = false := by rw [beq_eq_false_iff_ne]; omega
        have g4 : (bat s k == 9) = false := by rw [beq_eq_false_iff_ne]; omega
        obtain ⟨hp1, hp2⟩ := hpr
        clear h34 h10 h9
        go_wp2_with (go_at_call 43; refine (bl_byte b b _ _ _ (.inr hB.out) hsz.out hl1.out).mono ?_; rintro e w2 ⟨rfl, hB2, hb2, hk2⟩; replace hB2 := Lib.hid hB2; replace hb2 := Lib.hid hb2; have hg2 := Lib.hid (hk2 _ _ _ _ hg.out (by simp)); clear hk2)
        go_roundw
        case rel => exact ⟨k + 1, by omega, by go_num, Lib.hid (bld_acc hB2.out hlt hesc.out rfl), Lib.hid (hb.out.trans hb2.out), hg2⟩
        case measure => simp [intOf]; omega
      have hesc0 := esc_x ((bl s).getD k 0) h34 h10 h9 hpr
      by_cases h32 : 32 ≤ bat s k
      · have h126 : ¬ bat s k ≤ 126 := by omega
        have g1 : (bat s k == 34) = false := by rw [beq_eq_false_iff_ne]; omega
        have g2 : (bat s k == 92) = false := by rw [beq_eq_false_iff_ne]; omega
        have g3 : (bat s k == 10) = false := by rw [beq_eq_false_iff_ne]; omega
        have g4 : (bat s k == 9) = false := by rw [beq_eq_false_iff_ne]; omega
        have hh1 := hexI_range (bat s k / 16) (by omega) (by omega)
        have hh2 := hexI_range (bat s k % 16) (by omega) (by omega)
        have hx1 := fun w => run_hex (bat s k / 16) (by omega) (by omega) w
        have hx2 := fun w => run_hex (bat s k % 16) (by omega) (by omega) w
        have v1 : IntKind.u8.wrap (bat s k / 16) = bat s k / 16 := by rw [show IntKind.u8.wrap (bat s k / 16) = (bat s k / 16) % 256 from by simp [IntKind.wrap, IntKind.bits, IntKind.signed]]; omega
        have v2 := u8_and15 s k
        have hen1 := enc_hex (bat s k / 16) (by omega) (by omega)
        have hen2 := enc_hex (bat s k % 16) (by omega) (by omega)
        have hesc : Hid ((Lib.strCells (({ data := #[92, 120] } ++ { data := #[byteI (hexI (bat s k / 16))] } ++ { data := #[byteI (hexI (bat s k % 16))] } : ByteArray)) : List Value) = (escL ((bl s).getD k 0)).map u8v) := Lib.hid (by rw [hesc0, Lib.strCells, ByteArray.data_append, ByteArray.data_append]; rfl)
        have hl4 : Hid ((List.map u8v (acc s k)).length + (({ data := #[92, 120] } ++ { data := #[byteI (hexI (bat s k / 16))] } ++ { data := #[byteI (hexI (bat s k % 16))] } : ByteArray)).size ≤ 140737488355328) := Lib.hid (by rw [List.length_map, ByteArray.size_append, ByteArray.size_append]; show (acc s k).length + (2 + 1 + 1) ≤ _; omega)
        clear hesc0 h34 h10 h9 hpr hh1 hh2
        go_wp2_with fail
        go_region_with (go_at_call 26; refine (bl_string b b _ _ _ (.inr hB.out.drew) hsz.out hl4.out).mono ?_; rintro e w2 ⟨rfl, hB2, hb2, hk2⟩; replace hB2 := Lib.hid hB2; replace hb2 := Lib.hid hb2; have hg2 := Lib.hid (hk2 _ _ _ _ (show wr.drew.heap[g]? = _ from hg.out) (by simp)); clear hk2)
        all_goals
          go_wp2_with fail
          go_roundw
          case rel => exact ⟨k + 1, by omega, by go_num, Lib.hid (bld_acc hB2.out hlt hesc.out rfl), Lib.hid ((below_drew hb.out).trans hb2.out), hg2⟩
          case measure => simp [intOf]; omega
      · skip
        have g1 : (bat s k == 34) = false := by rw [beq_eq_false_iff_ne]; omega
        have g2 : (bat s k == 92) = false := by rw [beq_eq_false_iff_ne]; omega
        have g3 : (bat s k == 10) = false := by rw [beq_eq_false_iff_ne]; omega
        have g4 : (bat s k == 9) = false := by rw [beq_eq_false_iff_ne]; omega
        have hh1 := hexI_range (bat s k / 16) (by omega) (by omega)
        have hh2 := hexI_range (bat s k % 16) (by omega) (by omega)
        have hx1 := fun w => run_hex (bat s k / 16) (by omega) (by omega) w
        have hx2 := fun w => run_hex (bat s k % 16) (by omega) (by omega) w
        have v1 : IntKind.u8.wrap (bat s k / 16) = bat s k / 16 := by rw [show IntKind.u8.wrap (bat s k / 16) = (bat s k / 16) % 256 from by simp [IntKind.wrap, IntKind.bits, IntKind.signed]]; omega
        have v2 := u8_and15 s k
        have hen1 := enc_hex (bat s k / 16) (by omega) (by omega)
        have hen2 := enc_hex (bat s k % 16) (by omega) (by omega)
        have hesc : Hid ((Lib.strCells (({ data := #[92, 120] } ++ { data := #[byteI (hexI (bat s k / 16))] } ++ { data := #[byteI (hexI (bat s k % 16))] } : ByteArray)) : List Value) = (escL ((bl s).getD k 0)).map u8v) := Lib.hid (by rw [hesc0, Lib.strCells, ByteArray.data_append, ByteArray.data_append]; rfl)
        have hl4 : Hid ((List.map u8v (acc s k)).length + (({ data := #[92, 120] } ++ { data := #[byteI (hexI (bat s k / 16))] } ++ { data := #[byteI (hexI (bat s k % 16))] } : ByteArray)).size ≤ 140737488355328) := Lib.hid (by rw [List.length_map, ByteArray.size_append, ByteArray.size_append]; show (acc s k).length + (2 + 1 + 1) ≤ _; omega)
        clear hesc0 h34 h10 h9 hpr hh1 hh2
        go_wp2_with fail
        go_region_with (go_at_call 26; refine (bl_string b b _ _ _ (.inr hB.out.drew) hsz.out hl4.out).mono ?_; rintro e w2 ⟨rfl, hB2, hb2, hk2⟩; replace hB2 := Lib.hid hB2; replace hb2 := Lib.hid hb2; have hg2 := Lib.hid (hk2 _ _ _ _ (show wr.drew.heap[g]? = _ from hg.out) (by simp)); clear hk2)
        all_goals
          go_wp2_with fail
          go_roundw
          case rel => exact ⟨k + 1, by omega, by go_num, Lib.hid (bld_acc hB2.out hlt hesc.out rfl), Lib.hid ((below_drew hb.out).trans hb2.out), hg2⟩
          case measure => simp [intOf]; omega
    · have hke : k = s.size := by omega
      have hl1 : Hid ((List.map u8v (acc s k)).length + 1 ≤ 140737488355328) := Lib.hid (by rw [List.length_map]; omega)
      replace hke := Lib.hid hke
      go_wp2_with (first
        | (go_at_call 27; refine (Tryd.Builder_String_any b b (quoteL (bl s)) _ (.inr hB2.out) (below_sz hb2.out hsz.out)).mono ?_; rintro e w3 ⟨rfl, hb3⟩)
        | (go_at_call 43; refine (bl_byte b b _ 34 _ (.inr hB.out) hsz.out hl1.out).mono ?_; rintro e w2 ⟨rfl, hB2, hb2, -⟩; replace hb2 := Lib.hid hb2; replace hB2 := Lib.hid (bld_fin hB2 hke.out)))
      go_ret
      exact ⟨rfl, by rw [hbe]; exact (hb.out.trans hb2.out).trans hb3⟩
end Go.Proofs.YtclioihichcpiaaDoor
