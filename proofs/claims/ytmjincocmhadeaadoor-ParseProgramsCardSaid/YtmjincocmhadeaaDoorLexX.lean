/- lex.Tokens. -/
import Derived.Test.YtmjincocmhadeaaDoorProg
import Derived.Test.YtmjincocmhadeaaDoorBase
import Derived.Test.YtmjincocmhadeaaDoorBytes
import Derived.Test.YtmjincocmhadeaaDoorLexSpec
import Derived.Test.YtmjincocmhadeaaDoorLexA
import Derived.Test.YtmjincocmhadeaaDoorLexG
import Derived.Test.YtmjincocmhadeaaDoorLexH
import Derived.Test.YtmjincocmhadeaaDoorLexN
import Derived.Test.YtmjincocmhadeaaDoorLexW
import Derived.Deep.RegionWith
import Derived.BigRegion
namespace Go.Proofs.YtmjincocmhadeaaDoor
set_option maxHeartbeats 8000000
open Go.RowKit Lx
/-- four results, the second in memory -/
theorem results_cellB4 {P : Program} {fn : Func} {p s u v : Tmp} {ty : TypeId} (h : fn.results = #[.tmp s,.cell p ty,.tmp u,.tmp v]) (tmps : Array Value) (w : World) (g : Nat) (t : TypeId) (cs : Array Value) (fr : Nat × Nat) (d : TypeDesc)
    (hp : tmps.getD p undef = .pointer (some ⟨g,0,none⟩)) (hg : w.heap[g]? = some (.cells cs t fr)) (hu : P.underlying ty = some d)
    (hd : (match d,hu with | .struct _,_ => true | .array _ _,_ => true | _,_ => false) = true) (hi : (P.info? ty).map (fun x => x.size) = some cs.size) (x a b : Value) (hx : tmps.getD s undef = x) (ha : tmps.getD u undef = a) (hb : tmps.getD v undef = b) :
    (results fn tmps).run P w = .ok (.tuple #[x,.agg cs,a,b]) w := by
 have hl := run_loadVar_row (P := P) w g t ty cs fr d hg hu hd hi;subst ha hb hx;have hp2 : tmps[p]?.getD undef = .pointer (some ⟨g,0,none⟩) := by simpa using hp
 simp only [results,h];simp [hp2,asAddr,hl]
/-- a token's cells, as values -/
def tcs (t : Tok) : List Value := [.int .i64 t.kind,.string (mk t.text),.int .i64 t.at_,.int .i64 t.end_]
def tcells (l : List Tok) : List Value := l.flatMap tcs
theorem tcells_length (l : List Tok) : (tcells l).length = l.length * 4 := by
 induction l with
 | nil => rfl
 | cons t r ih => unfold tcells at *;rw [List.flatMap_cons,List.length_append,ih];simp [tcs];omega
theorem tcells_snoc (l : List Tok) (t : Tok) : tcells (l ++ [t]) = tcells l ++ tcs t := by simp [tcells]
theorem tcs_one (t : Tok) : ∀ u ∈ tcs t,u.oneCell' = true := by
 intro u hu;simp [tcs] at hu;rcases hu with rfl | rfl | rfl | rfl <;> rfl
theorem infoTok : (Tryd.prog.info? 67).map (fun i => (i.zero,i.size,i.bytes)) = some (some (.agg (tokCs 0 [] 0 0)),4,40) := by kernel_rfl
theorem own_cells_row {w : World} {us : List Value} {cs : Array Value} {e : TypeId} {b : Nat} (hb : w.heap.size = b) (h : cs = us.toArray) : ∀ j x,us[j]? = some x → (w.alloc (.cells cs e)).cell? ((⟨b,0,none⟩ : Addr).add j) = some x := by
 subst h hb;intro j x hx;rw [addr_add,Nat.zero_add,cell_of_row _ _ _ _ _ (0,0) (heap_alloc_new w _)]
 simpa using hx
theorem own_grown' {w wr w2 : World} {et : TypeId} {size : Nat} {v : Value} {n : Nat} {xs : List Value} {ob : Obj} (h : wr.ownsRow w.heap.size et size v n xs) (hb : Below w.heap.size w wr) (hg : (wr.alloc ob).grownBy w2 v.ownBlock) : Below w.heap.size w w2 :=
  (hb.al ob).grown hg (by have := hb.size;simp;omega) (own_ge h)
/-- what Tokens answers: the list a row of its own -/
def TPost (R : Res) (w : World) (e : Ending) (w' : World) : Prop :=
  ∃ v : Value,e = .returned (.tuple #[v,.agg (tokC R.open_),.int .i64 R.far,.int .i64 (if R.ok then 0 else 11)]) ∧ w'.ownsRow w.heap.size 67 4 v R.toks.length (tcells R.toks) ∧ Below w.heap.size w w'
theorem TPost.of {R : Res} {w w' : World} {done : List Tok} {o : Tok} {far : Nat} {ok : Bool} {v : Value} {cs : Array Value} {f n : Int} (h : R = glue done ⟨[],o,far,ok⟩) (hc : cs = tokC o) (hf : f = (far : Int)) (hn : n = if ok then 0 else 11)
    (hown : w'.ownsRow w.heap.size 67 4 v done.length (tcells done)) (hb : Below w.heap.size w w') : TPost R w (.returned (.tuple #[v,.agg cs,.int .i64 f,.int .i64 n])) w' := by
 subst h hc hf hn;exact ⟨v,rfl,by simpa [glue] using hown,hb⟩
theorem next_kinds {l : Bs} {a : Nat} {t : Tok} {wh : Bool} (hl : l ≠ []) (h : nextT l a = (t,wh)) :
    (t = zeroTok ∧ wh = false) ∨ (t.kind ≠ 0 ∧ isWordB t.kind = false ∧ decide (0 < t.kind) = true ∧ ((decide (t.kind < 8) = true ∧ (t.kind != 4) = false) ∨ decide (t.kind < 8) = false)) ∨
    (t.kind ≠ 0 ∧ wh = true ∧ isWordB t.kind = true ∧ decide (0 < t.kind) = true ∧ decide (t.kind < 8) = true ∧ (t.kind != 4) = true) := by
 have hf := next_facts hl h
 by_cases h0 : t.kind = 0
 · left;refine ⟨hf.zero h0,?_⟩
   cases wh with
   | false => rfl
   | true => exact absurd h0 (hf.whole rfl)
 right;have hx := Next.of l a hl;rw [h] at hx
 have hpos : 0 < t.kind := by
  generalize hy : (t,wh) = y at hx
  cases hx with
  | str c r h34 => injection hy with h1 h2;subst h1;show (0 : Int) < 4;decide
  | sign1 c r k h34 hs hk => injection hy with h1 h2;subst h1;show 0 < k;omega
  | sign2 c x r k h34 hs hk => injection hy with h1 h2;subst h1;show 0 < k;omega
  | half c r k d h34 hs hk hd => injection hy with h1 h2;subst h1;show 0 < k;omega
  | no c r h34 hs hk => injection hy with h1 h2;subst h1;exact absurd rfl h0
  | word c r h34 hsg hk =>
   injection hy with h1 h2;subst h1;have := kind_isWord _ hk;unfold isWordB at this;simp at this;show 0 < kindI _;omega
 by_cases hw : isWordB t.kind = true
 · right
   have hwh : wh = true := by
    cases wh with
    | true => rfl
    | false => rw [hf.notword rfl] at hw;cases hw
   have hw' := hw;unfold isWordB at hw';simp at hw';exact ⟨h0,hwh,hw,by simpa using hpos,by simp;omega,by rw [bne_iff_ne];exact hw'.2.2⟩
 · left;have hw2 : isWordB t.kind = false := by simpa using hw
   refine ⟨h0,hw2,by simpa using hpos,?_⟩;unfold isWordB at hw2;simp at hw2
   by_cases h8 : t.kind < 8
   · left;have : t.kind = 4 := hw2 (by omega) (by omega);rw [this];decide
   · right;simpa using h8
theorem glue_at {R : Res} {s : ByteArray} {done : List Tok} {e p : Nat} {j : Bool} (h0' : R = glue done (tk ((bl s).drop e) e j)) (hp : p = blankP s e) (he : e ≤ s.size) :
    p ≤ s.size ∧ e ≤ p ∧ (p = s.size → R = glue done ⟨[],zeroTok,s.size,true⟩) ∧ (p < s.size → (bl s).drop p ≠ [] ∧
      (∀ t,nextT ((bl s).drop p) p = (t,true) → (isWordB t.kind && j && p == e) = true → R = glue done ⟨[],zeroTok,p,false⟩) ∧
      (∀ t,nextT ((bl s).drop p) p = (t,false) → R = glue done ⟨[],t,if t.kind = 0 then p else t.end_,false⟩) ∧
      (∀ t,nextT ((bl s).drop p) p = (t,true) → (isWordB t.kind && j && p == e) = false → R = glue (done ++ [t]) (tk ((bl s).drop t.end_) t.end_ (isWordB t.kind)) ∧ p < t.end_ ∧ t.end_ ≤ s.size)) := by
 have hb := blankP_le s e he;rw [← hp] at hb;obtain ⟨n,hn⟩ : ∃ n,n = skipN false ((bl s).drop e) := ⟨_,rfl⟩;have hpn : p = e + n := by rw [hp,hn];rfl
 have hd : ((bl s).drop e).drop n = (bl s).drop p := by rw [List.drop_drop,hpn]
 have hl : ((bl s).drop e).length = s.size - e := by rw [List.length_drop,bl_length]
 refine ⟨hb.2,hb.1,fun h => ?_,fun h => ⟨?_,?_,?_,?_⟩⟩
 · rw [tk_end hn.symm (by omega)] at h0';rw [h0',show e + n = s.size from by omega]
 · intro h2;have := congrArg List.length h2;rw [List.length_drop,bl_length] at this;simp at this;omega
 · intro t hx hj;simp only [Bool.and_eq_true,beq_iff_eq] at hj;obtain ⟨⟨hw,rfl⟩,rfl⟩ := hj;have hn0 : n = 0 := by omega
   rw [tk_joint (by rw [← hn,hn0]) (by intro h2;have := congrArg List.length h2;rw [List.length_drop,bl_length] at this;simp at this;omega) hx hw] at h0';exact h0'
 · intro t hx;have h1 : (bl s).drop p ≠ [] := by intro h2;have := congrArg List.length h2;rw [List.length_drop,bl_length] at this;simp at this;omega
   rw [tk_open hn.symm hd h1 (by rw [← hpn];exact hx),← hpn] at h0';exact h0'
 · intro t hx hj;have h1 : (bl s).drop p ≠ [] := by intro h2;have := congrArg List.length h2;rw [List.length_drop,bl_length] at this;simp at this;omega
   have hf := next_facts h1 hx;have hlo := hf.lo (hf.whole rfl);have hhi := hf.hi (hf.whole rfl);rw [List.length_drop,bl_length] at hhi;have hj2 : (isWordB t.kind && j && n == 0) = false := by rw [← hj];congr 1;rw [Bool.eq_iff_iff];simp;omega
   rw [tk_more hn.symm hd h1 (by rw [← hpn];exact hx) hj2,← hpn,List.drop_drop,show p + (t.end_ - p) = t.end_ from by omega,glue_more] at h0';exact ⟨h0',hlo,by omega⟩
theorem own_start (W : World) (b : Nat) (hb : W.heap.size = b) : (W.alloc (.cells #[] 67)).ownsRow W.heap.size 67 4 (.slice (some ⟨b,0,none⟩) 0 0) 0 (tcells []) := by
 subst hb;exact World.ownsRow_lit W #[] 0 (Nat.le_refl _) (by unfold maxLen;omega) (by simp)
theorem own_other {w w' : World} {base base' k : Nat} {e : TypeId} {size : Nat} {v : Value} {n : Nat} {xs : List Value} (h : w.ownsRow base e size v n xs) (hg : w.grownBy w' (some k)) (hk : k < base) (hb : base' ≤ base) : w'.ownsRow base' e size v n xs := by
 refine ⟨h.1,?_⟩;rcases h.2 with hn | ⟨g,cap,cur,rfl,hg1,hh,r⟩
 · exact .inl hn
 · refine .inr ⟨g,cap,cur,rfl,by omega,?_,r⟩;rw [hg.block g (Array.getElem?_eq_some_iff.1 hh).1 (by intro h2;injection h2 with h2;omega)];exact hh
theorem below_drew {B : Nat} {a w : World} (h : Below B a w) : Below B a w.drew := below_drewN h 1
theorem set4_heap {w : World} {g : Nat} {T : TypeId} (hg : w.heap[g]? = some (.cells (tokCs 0 [] 0 0) T)) (a b c d : Value) :
    ((((w.setCell ⟨g,0,none⟩ a).setCell ⟨g,1,none⟩ b).setCell ⟨g,2,none⟩ c).setCell ⟨g,3,none⟩ d).heap[g]? = some (.cells #[a,b,c,d] T) :=
  heap_setCell_same _ _ 3 _ _ d (heap_setCell_same _ _ 2 _ _ c (heap_setCell_same _ _ 1 _ _ b (heap_setCell_same _ _ 0 _ _ a hg)))
theorem own_set {w : World} {base g i : Nat} {e : TypeId} {size : Nat} {v u : Value} {n : Nat} {xs : List Value} (h : w.ownsRow base e size v n xs) (hk : g < base) : (w.setCell ⟨g,i,none⟩ u).ownsRow base e size v n xs := by
 refine ⟨h.1,?_⟩;rcases h.2 with hn | ⟨k,cap,cur,rfl,hg1,hh,r⟩
 · exact .inl hn
 · exact .inr ⟨k,cap,cur,rfl,hg1,by rw [heap_setCell_other _ _ _ _ (by show k ≠ g;omega)];exact hh,r⟩
theorem own_base {w : World} {base base' : Nat} {e : TypeId} {size : Nat} {v : Value} {n : Nat} {xs : List Value} (h : w.ownsRow base e size v n xs) (hb : base' ≤ base) : w.ownsRow base' e size v n xs := by
 refine ⟨h.1,?_⟩;rcases h.2 with hn | ⟨k,cap,cur,rfl,hg1,r⟩
 · exact .inl hn
 · exact .inr ⟨k,cap,cur,rfl,by omega,r⟩
theorem set4_own {w : World} {base base' g : Nat} {e : TypeId} {size : Nat} {v : Value} {n : Nat} {xs : List Value} (h : w.ownsRow base e size v n xs) (hk : g < base) (hb : base' ≤ base) (a b c d : Value) :
    ((((w.setCell ⟨g,0,none⟩ a).setCell ⟨g,1,none⟩ b).setCell ⟨g,2,none⟩ c).setCell ⟨g,3,none⟩ d).ownsRow base' e size v n xs :=
  own_base (own_set (own_set (own_set (own_set h hk) hk) hk) hk) hb
theorem set4_below {w0 w : World} {g : Nat} (h : Below w0.heap.size w0 w) (hg : w0.heap.size ≤ g) (a b c d : Value) :
    Below w0.heap.size w0 ((((w.setCell ⟨g,0,none⟩ a).setCell ⟨g,1,none⟩ b).setCell ⟨g,2,none⟩ c).setCell ⟨g,3,none⟩ d) :=
  (((h.setCell hg _).setCell hg _).setCell hg _).setCell hg _
/-- a token's four cells -/
theorem row_cells {w : World} {g : Nat} {t : Tok} {e : TypeId} (h : w.heap[g]? = some (.cells (tokC t) e)) :
    w.cell? ⟨g,0,none⟩ = some (.int .i64 t.kind) ∧ w.cell? ⟨g,1,none⟩ = some (.string (mk t.text)) ∧ w.cell? ⟨g,2,none⟩ = some (.int .i64 t.at_) ∧ w.cell? ⟨g,3,none⟩ = some (.int .i64 t.end_) :=
  ⟨cell_of_row _ _ _ _ _ _ h,cell_of_row _ _ _ _ _ _ h,cell_of_row _ _ _ _ _ _ h,cell_of_row _ _ _ _ _ _ h⟩
theorem lx_Tokens (s : ByteArray) (w : World) (hs : s.size ≤ 4194304) :
    Calls Tryd.prog 34 #[.string s] w (TPost (tokens (bl s)) w) := by
 obtain ⟨it,hit,hz0,hz1,hz2⟩ := info_parts infoTok;obtain ⟨R,hR⟩ : ∃ R,R = tokens (bl s) := ⟨_,rfl⟩;have hR0 : Hid (R = glue [] (tk ((bl s).drop 0) 0 false)) := hR;rw [← hR];clear hR;have hW : Hid ((w.alloc (.cells #[.int .i64 0,.string ⟨#[]⟩,.int .i64 0,.int .i64 0] 67)).heap[w.heap.size]? = some (.cells (tokCs 0 [] 0 0) 67)) := heap_alloc_new _ _
 have hWb : Below w.heap.size w (w.alloc (.cells #[.int .i64 0,.string ⟨#[]⟩,.int .i64 0,.int .i64 0] 67)) := (Below.refl _ _).al _;have hWs : w.heap.size < (w.alloc (.cells #[.int .i64 0,.string ⟨#[]⟩,.int .i64 0,.int .i64 0] 67)).heap.size := by simp
 have hWz : Hid ((w.alloc (.cells #[.int .i64 0,.string ⟨#[]⟩,.int .i64 0,.int .i64 0] 67)).heap.size = w.heap.size + 1) := World.size_alloc _ _;go_enter Tryd.func34,Tryd.ntmps34
 go_wp2_with (go_at_call 54;refine (lx_blank _ _ _ hs (by omega) (by omega)).mono ?_;rintro e w' ⟨rfl,rfl⟩)
 generalize w.alloc (.cells #[.int .i64 0,.string ⟨#[]⟩,.int .i64 0,.int .i64 0] 67) = W at hW hWb hWs hWz ⊢
 go_loopw [6,7,8] (fun l jv at_ wr => ∃ (e p : Nat) (j : Bool) (done : List Tok) (J : Int),e ≤ s.size ∧ at_ = .int .i64 p ∧ jv = .int .i64 J ∧ done.length ≤ e ∧
     Hid (p = blankP s e) ∧ Hid (J = if j then (e : Int) else -1) ∧ Hid (R = glue done (tk ((bl s).drop e) e j)) ∧ Hid (wr.ownsRow W.heap.size 67 4 l done.length (tcells done)) ∧ Hid (Below W.heap.size W wr))
   (fun _ _ at_ _ => s.size - (intOf at_).toNat)
 case atStart => exact ⟨0,_,false,[],-1,by omega,rfl,rfl,Nat.le_refl _,rfl,rfl,hR0,own_start W _ hWz.out,(Below.refl _ _).al _⟩
 case round =>
  obtain ⟨e,p,j,done,J,he,rfl,rfl,hdone,hp,hJ,hRd,hown0,hb0⟩ := hrel;obtain ⟨va,vc,rfl,hva⟩ := own_slice hown0.out;clear hva;obtain ⟨g1,g2,g3,g4⟩ := glue_at hRd.out hp.out he;have hcell : Hid (wr.heap[w.heap.size]? = some (.cells (tokCs 0 [] 0 0) 67)) := (hb0.out.block _ hWs).trans hW.out;have hbw : Hid (Below w.heap.size w wr) := hWb.trans (hb0.out.mono (by omega))
  by_cases hlt : p < s.size
  · obtain ⟨t,wh,hx⟩ : ∃ t wh,nextT ((bl s).drop p) p = (t,wh) := ⟨_,_,rfl⟩;obtain ⟨h1,gj,go,gm⟩ := g4 hlt;have hks := next_kinds h1 hx;replace hx := Lh hx;replace gj := Lh gj;replace go := Lh go;replace gm := Lh gm;clear h1 g3 g4 hRd hp;go_wp2_with fail;refine (lx_next s p _ hs hlt).mono ?_;rintro e2 w2 ⟨he2,hb2⟩;rw [hx.out] at he2;subst he2
    have hs2 : wr.heap.size ≤ w2.heap.size := hb2.size;have hbw2 : Hid (Below w.heap.size w w2) := hbw.out.trans (hb2.mono hbw.out.size);have hbW2 : Hid (Below W.heap.size W w2) := hb0.out.trans (hb2.mono hb0.out.size);have hown2 : Hid (w2.ownsRow W.heap.size 67 4 (.slice va done.length vc) done.length (tcells done)) := own_below hown0.out hb2;clear hb2 hown0 hb0 hbw hcell
    go_wp2_with (refine wpList_store_rowA rfl 67 (.tmp 9) (.tmp 32) rfl w2.heap.size (tokC t) rfl rfl 67 (tokCs 0 [] 0 0) (heap_alloc_new _ _) sizeTok rfl (tokCs_one _ _ _ _) ?_)
    intro w3 hg3 hgr hsz;have hb23 : Below w2.heap.size w2 w3 := ((Below.refl _ _).al _).grown hgr (by simp) (by intro k hk;injection hk with hk;omega);have hs3 : w2.heap.size < w3.heap.size := by have h := hsz.out;first | omega | (simp at h;omega)
    have hbw3 : Hid (Below w.heap.size w w3) := hbw2.out.trans (hb23.mono hbw2.out.size);have hbW3 : Hid (Below W.heap.size W w3) := hbW2.out.trans (hb23.mono hbW2.out.size);have hown3 : Hid (w3.ownsRow W.heap.size 67 4 (.slice va done.length vc) done.length (tcells done)) := own_below hown2.out hb23
    have hcell : Hid (w3.heap[w.heap.size]? = some (.cells (tokCs 0 [] 0 0) 67)) := (hbW3.out.block _ hWs).trans hW.out;have hsw : w.heap.size < w2.heap.size := by have := hbW2.out.size;omega
    clear hgr hsz hb23 hown2 hbw2 hbW2;obtain ⟨k0,k1,k2,k3⟩ := row_cells hg3.out;obtain ⟨c0,c1,c2,c3⟩ := row_cells (t := zeroTok) hcell.out;have z0 : w3.frozen? ⟨w.heap.size,0,none⟩ = false := frozen_of_row _ _ _ _ _ hcell.out;have z1 : w3.frozen? ⟨w.heap.size,1,none⟩ = false := frozen_of_row _ _ _ _ _ hcell.out
    have z2 : w3.frozen? ⟨w.heap.size,2,none⟩ = false := frozen_of_row _ _ _ _ _ hcell.out;have z3 : w3.frozen? ⟨w.heap.size,3,none⟩ = false := frozen_of_row _ _ _ _ _ hcell.out;rcases hks with ⟨rfl,rfl⟩ | ⟨hk,hw,q1,q2⟩ | ⟨hk,rfl,hw,q1,q2,q3⟩
    · have hRf := Lh (go.out _ hx.out);replace k0 : w3.cell? ⟨w2.heap.size,0,none⟩ = some (.int .i64 0) := k0;replace k1 : w3.cell? ⟨w2.heap.size,1,none⟩ = some (.string ⟨#[]⟩) := k1;replace k2 : w3.cell? ⟨w2.heap.size,2,none⟩ = some (.int .i64 0) := k2;replace k3 : w3.cell? ⟨w2.heap.size,3,none⟩ = some (.int .i64 0) := k3;clear hx gj go gm;go_wp2_with fail
      go_region_with (fail)
      go_wp2_with fail;refine bodyPost_ret (v := .tuple #[.slice va done.length vc,.agg (tokCs 0 [] 0 0),.int .i64 p,.int .i64 11]) ?_ rfl (TPost.of hRf.out rfl rfl rfl (set4_own hown3.out hWs (Nat.le_of_lt hWs) _ _ _ _) (below_drew (set4_below hbw3.out (Nat.le_refl _) _ _ _ _)))
      apply results_cellB4 (p := 3) (s := 2) (u := 4) (v := 5) (ty := 67) (g := w.heap.size) (t := 67) (fr := (0,0)) (hu := Tryd.underlying67)
      · rfl
      · rfl
      · exact set4_heap hcell.out _ _ _ _
      · rfl
      · exact sizeTok
      · rfl
      · rfl
      · rfl
    · have hk0 : (t.kind == 0) = false := by rw [beq_eq_false_iff_ne];exact hk
      cases wh with
      | false =>
       have hRf := go.out _ hx.out;rw [if_neg hk] at hRf;replace hRf := Lh hRf;clear hx gj go gm hk hw;rcases q2 with ⟨q2,q3⟩ | q2
       all_goals
         go_wp2_with fail
         go_region_with (fail)
         all_goals
           go_wp2_with fail;refine bodyPost_ret (v := .tuple #[.slice va done.length vc,.agg (tokC t),.int .i64 t.end_,.int .i64 11]) ?_ rfl (TPost.of hRf.out rfl rfl rfl (set4_own hown3.out hWs (Nat.le_of_lt hWs) _ _ _ _) (below_drew (set4_below hbw3.out (Nat.le_refl _) _ _ _ _)))
           apply results_cellB4 (p := 3) (s := 2) (u := 4) (v := 5) (ty := 67) (g := w.heap.size) (t := 67) (fr := (0,0)) (hu := Tryd.underlying67)
           · rfl
           · rfl
           · exact set4_heap hcell.out _ _ _ _
           · rfl
           · exact sizeTok
           · rfl
           · rfl
           · rfl
      | true =>
       clear hJ;have hw' : Hid (isWordB t.kind = false) := hw;rcases q2 with ⟨q2,q3⟩ | q2
       all_goals
         obtain ⟨hR2,hlo,hhi⟩ := gm.out _ hx.out (by rw [hw];rfl);replace hR2 := Lh hR2;have h63 : Hid (done.length + 1 ≤ maxLen) := by show done.length + 1 ≤ maxLen;unfold maxLen;omega
         have h64 : Hid ((done.length + 1) * 40 ≤ 140737488355328) := by show (done.length + 1) * 40 ≤ 140737488355328;omega
         clear hx gj go gm hk hw c0 c1 c2 c3 z0 z1 z2 z3 hcell
         go_wp2_with (first
           | (at_builtin;refine wpList_append_own _ rfl (.tmp 71) (.tmp 73) 64 rfl W.heap.size 67 it (.agg (tokCs 0 [] 0 0)) 4 40 Tryd.underlying64 hit hz0 hz1 hz2 rfl (by decide) _ done.length _ rfl (hown3.out.alloc _) ⟨w3.heap.size,0,none⟩ 1 1 (tcs t) rfl rfl (own_cells_row rfl rfl) (tcs_one t) h63.out h64.out (by rw [World.size_alloc];have := hbW3.out.size;omega) ?_))
         intro v2 w4 hown4 hgrow4 hv2;have hb4 : Hid (Below W.heap.size W w4) := own_grown' hown3.out hbW3.out hgrow4;obtain ⟨g,cap,rfl,hg0,hg1,hcap,hcm⟩ := own_shape hown4 (by omega)
         have hown5 : Hid (w4.ownsRow W.heap.size 67 4 (.slice (some ⟨g,0,none⟩) (done.length + 1) cap) (done ++ [t]).length (tcells (done ++ [t]))) := by
          show World.ownsRow _ _ _ _ _ _ _;rw [tcells_snoc,List.length_append];exact hown4
         have e3 : w4.cell? ⟨g,done.length * 4 + 3,none⟩ = some (.int .i64 t.end_) := by
          rw [hown4.cellAt _ (by omega),List.getElem?_append_right (by rw [tcells_length];omega),tcells_length,show done.length * 4 + 3 - done.length * 4 = 3 from by omega];rfl
         clear hown4 hgrow4 hv2 hown3 hbW3 hbw3 k0 k1 k2 k3 hg0 hg1 hcm;go_wp2_with fail;refine (lx_blank s _ w4 hs (by omega) (by omega)).mono ?_;rintro e5 w5 ⟨rfl,rfl⟩;have hbl := blankP_le s t.end_ hhi;go_wp2_with fail;go_roundw
         case rel => exact ⟨t.end_,_,isWordB t.kind,done ++ [t],-1,hhi,rfl,rfl,by rw [List.length_append];simp;omega,by show blankP s (t.end_ : Int).toNat = _;rw [Int.toNat_natCast],by show _ = _;rw [hw'.out];rfl,hR2,hown5,hb4⟩
         case measure => simp [intOf];omega
    · have hk0 : (t.kind == 0) = false := by rw [beq_eq_false_iff_ne];exact hk
      by_cases hj : (isWordB t.kind && j && p == e) = true
      · have hRf := Lh (gj.out _ hx.out hj)
        have hJe : (J == (p : Int)) = true := by
         simp only [Bool.and_eq_true,beq_iff_eq] at hj;rw [beq_iff_eq,hJ.out,if_pos hj.1.2,hj.2]
        clear hx gj go gm hk hw hj hJ
        go_wp2_with (refine wpList_store_rowA rfl 67 (.tmp 3) (.tmp 54) rfl w.heap.size (tokCs 0 [] 0 0) rfl rfl 67 (tokCs 0 [] 0 0) hcell.out sizeTok rfl (tokCs_one _ _ _ _) ?_)
        intro w4 hg4 hgr hsz;have hb4 : Below w.heap.size w w4 := hbw3.out.grown hgr hbw3.out.size (by intro k hk;injection hk with hk;omega);have hown4 := own_other hown3.out hgr hWs (Nat.le_of_lt hWs);clear hgr hsz;go_wp2_with fail
        refine bodyPost_ret (v := .tuple #[.slice va done.length vc,.agg (tokCs 0 [] 0 0),.int .i64 p,.int .i64 11]) ?_ rfl (TPost.of hRf.out rfl rfl rfl hown4 hb4);exact results_cellB4 rfl _ _ w.heap.size 67 _ (0,0) _ rfl hg4.out Tryd.underlying67 rfl sizeTok _ _ _ rfl rfl rfl
      · have hj2 : Hid ((isWordB t.kind && j && p == e) = false) := Lh (by simpa using hj)
        have hJe : (J == (p : Int)) = false := by
         rw [beq_eq_false_iff_ne,hJ.out];intro h
         apply hj
         rw [hw]
         cases j with
         | false => rw [if_neg (by decide)] at h;omega
         | true => rw [if_pos rfl] at h;simp;omega
        have hw' : Hid (isWordB t.kind = true) := hw;clear hj hw hJ;obtain ⟨hR2,hlo,hhi⟩ := gm.out _ hx.out hj2.out;replace hR2 := Lh hR2;have h63 : Hid (done.length + 1 ≤ maxLen) := by show done.length + 1 ≤ maxLen;unfold maxLen;omega
        have h64 : Hid ((done.length + 1) * 40 ≤ 140737488355328) := by show (done.length + 1) * 40 ≤ 140737488355328;omega
        clear hx gj go gm hk c0 c1 c2 c3 z0 z1 z2 z3 hcell
        go_wp2_with (first
          | (at_builtin;refine wpList_append_own _ rfl (.tmp 71) (.tmp 73) 64 rfl W.heap.size 67 it (.agg (tokCs 0 [] 0 0)) 4 40 Tryd.underlying64 hit hz0 hz1 hz2 rfl (by decide) _ done.length _ rfl (hown3.out.alloc _) ⟨w3.heap.size,0,none⟩ 1 1 (tcs t) rfl rfl (own_cells_row rfl rfl) (tcs_one t) h63.out h64.out (by rw [World.size_alloc];have := hbW3.out.size;omega) ?_))
        intro v2 w4 hown4 hgrow4 hv2;have hb4 : Hid (Below W.heap.size W w4) := own_grown' hown3.out hbW3.out hgrow4;obtain ⟨g,cap,rfl,hg0,hg1,hcap,hcm⟩ := own_shape hown4 (by omega)
        have hown5 : Hid (w4.ownsRow W.heap.size 67 4 (.slice (some ⟨g,0,none⟩) (done.length + 1) cap) (done ++ [t]).length (tcells (done ++ [t]))) := by
         show World.ownsRow _ _ _ _ _ _ _;rw [tcells_snoc,List.length_append];exact hown4
        have e3 : w4.cell? ⟨g,done.length * 4 + 3,none⟩ = some (.int .i64 t.end_) := by
         rw [hown4.cellAt _ (by omega),List.getElem?_append_right (by rw [tcells_length];omega),tcells_length,show done.length * 4 + 3 - done.length * 4 = 3 from by omega];rfl
        clear hown4 hgrow4 hv2 hown3 hbW3 hbw3 k0 k1 k2 k3 hg0 hg1 hcm;go_wp2_with fail;refine (lx_blank s _ w4 hs (by omega) (by omega)).mono ?_;rintro e5 w5 ⟨rfl,rfl⟩;have hbl := blankP_le s t.end_ hhi;go_wp2_with fail;go_roundw
        case rel => exact ⟨t.end_,_,isWordB t.kind,done ++ [t],t.end_,hhi,rfl,rfl,by rw [List.length_append];simp;omega,by show blankP s (t.end_ : Int).toNat = _;rw [Int.toNat_natCast],by show _ = _;rw [hw'.out];rfl,hR2,hown5,hb4⟩
        case measure => simp [intOf];omega
  · have hRf := Lh (g3 (by omega));clear g3 g4 hRd hp hJ
    go_wp2_with (refine wpList_store_rowA rfl 67 (.tmp 3) (.tmp 76) rfl w.heap.size (tokCs 0 [] 0 0) rfl rfl 67 (tokCs 0 [] 0 0) hcell.out sizeTok rfl (tokCs_one _ _ _ _) ?_)
    intro w2 hg2 hgr hsz;have hb2 : Below w.heap.size w w2 := hbw.out.grown hgr hbw.out.size (by intro k hk;injection hk with hk;omega);have hown2 := own_other hown0.out hgr hWs (Nat.le_of_lt hWs);clear hgr hsz;go_wp2_with fail;refine bodyPost_ret (v := .tuple #[.slice va done.length vc,.agg (tokCs 0 [] 0 0),.int .i64 s.size,.int .i64 0]) ?_ rfl (TPost.of hRf.out rfl rfl rfl hown2 hb2)
    exact results_cellB4 rfl _ _ w.heap.size 67 _ (0,0) _ rfl hg2.out Tryd.underlying67 rfl sizeTok _ _ _ rfl rfl rfl
end Go.Proofs.YtmjincocmhadeaaDoor
