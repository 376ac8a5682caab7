/- The kit: alike terms, literals, rules and programs are found alike. (gen_kta.py) -/
import Derived.Test.YtmjincocmhadeaaDoorPmD
import Derived.Deep.QuietTactic
import Derived.BigQuiet
import Derived.Deep.RegionHeld3
namespace Go.Proofs.YtmjincocmhadeaaDoor
set_option maxHeartbeats 4000000
set_option maxRecDepth 100000
open Go.RowKit Lx
/-- a row in memory, read alone -/
structure RT (w : World) (a : Option Addr) (l : List (Bool × ByteArray)) : Prop where
  len : l.length ≤ 9223372036854775807
  cells : ∀ j x,l[j]? = some x → ∃ p,a = some p ∧ w.cell? (p.add (j * 2)) = some (.bool (x.1)) ∧ w.cell? ⟨(p.add (j * 2)).block,(p.add (j * 2)).off + 1,none⟩ = some (.string (x.2))
theorem RT.below {w w' : World} {a : Option Addr} {l : List (Bool × ByteArray)} (h : RT w a l) (hb : Below w.heap.size w w') : RT w' a l :=
  ⟨h.len,fun j x hj => by
    obtain ⟨p,hp,h0,h1⟩ := h.cells j x hj;exact ⟨p,hp,cell_below hb rfl h0,cell_below hb rfl h1⟩⟩
theorem RT.new {w : World} {a : Option Addr} {l : List (Bool × ByteArray)} (h : RT w a l) (ob : Obj) : RT (w.alloc ob) a l := h.below ((Below.refl _ _).al _)
theorem RT.nil (w : World) (a : Option Addr) : RT w a [] := ⟨Nat.zero_le _,fun j x hj => by cases hj⟩
/-- a row in memory, read alone -/
structure RL (w : World) (a : Option Addr) (l : List (PLit)) : Prop where
  len : l.length ≤ 9223372036854775807
  cells : ∀ j x,l[j]? = some x → ∃ p ad cap,a = some p ∧ w.cell? (p.add (j * 7)) = some (.int .i64 (x.k)) ∧ w.cell? ⟨(p.add (j * 7)).block,(p.add (j * 7)).off + 1,none⟩ = some (.string (x.p)) ∧ w.cell? ⟨(p.add (j * 7)).block,(p.add (j * 7)).off + 2,none⟩ = some (.slice ad x.a.length cap) ∧ w.cell? ⟨(p.add (j * 7)).block,(p.add (j * 7)).off + 3,none⟩ = some (.bool (x.l.1)) ∧ w.cell? ⟨(p.add (j * 7)).block,(p.add (j * 7)).off + 4,none⟩ = some (.string (x.l.2)) ∧ w.cell? ⟨(p.add (j * 7)).block,(p.add (j * 7)).off + 5,none⟩ = some (.bool (x.r.1)) ∧ w.cell? ⟨(p.add (j * 7)).block,(p.add (j * 7)).off + 6,none⟩ = some (.string (x.r.2)) ∧ RT w ad x.a
theorem RL.below {w w' : World} {a : Option Addr} {l : List (PLit)} (h : RL w a l) (hb : Below w.heap.size w w') : RL w' a l :=
  ⟨h.len,fun j x hj => by
    obtain ⟨p,ad,cap,hp,h0,h1,h2,h3,h4,h5,h6,t0⟩ := h.cells j x hj;exact ⟨p,ad,cap,hp,cell_below hb rfl h0,cell_below hb rfl h1,cell_below hb rfl h2,cell_below hb rfl h3,cell_below hb rfl h4,cell_below hb rfl h5,cell_below hb rfl h6,t0.below hb⟩⟩
theorem RL.new {w : World} {a : Option Addr} {l : List (PLit)} (h : RL w a l) (ob : Obj) : RL (w.alloc ob) a l := h.below ((Below.refl _ _).al _)
theorem RL.nil (w : World) (a : Option Addr) : RL w a [] := ⟨Nat.zero_le _,fun j x hj => by cases hj⟩
/-- a row in memory, read alone -/
structure RR (w : World) (a : Option Addr) (l : List (PRule)) : Prop where
  len : l.length ≤ 9223372036854775807
  cells : ∀ j x,l[j]? = some x → ∃ p ad cap bd bcap,a = some p ∧ w.cell? (p.add (j * 3)) = some (.string (x.p)) ∧ w.cell? ⟨(p.add (j * 3)).block,(p.add (j * 3)).off + 1,none⟩ = some (.slice ad x.a.length cap) ∧ w.cell? ⟨(p.add (j * 3)).block,(p.add (j * 3)).off + 2,none⟩ = some (.slice bd x.b.length bcap) ∧ RT w ad x.a ∧ RL w bd x.b
theorem RR.below {w w' : World} {a : Option Addr} {l : List (PRule)} (h : RR w a l) (hb : Below w.heap.size w w') : RR w' a l :=
  ⟨h.len,fun j x hj => by
    obtain ⟨p,ad,cap,bd,bcap,hp,h0,h1,h2,t0,t1⟩ := h.cells j x hj;exact ⟨p,ad,cap,bd,bcap,hp,cell_below hb rfl h0,cell_below hb rfl h1,cell_below hb rfl h2,t0.below hb,t1.below hb⟩⟩
theorem RR.new {w : World} {a : Option Addr} {l : List (PRule)} (h : RR w a l) (ob : Obj) : RR (w.alloc ob) a l := h.below ((Below.refl _ _).al _)
theorem RR.nil (w : World) (a : Option Addr) : RR w a [] := ⟨Nat.zero_le _,fun j x hj => by cases hj⟩
/-- a row in memory, read alone -/
structure RI (w : World) (a : Option Addr) (l : List (ByteArray × Int × ByteArray)) : Prop where
  len : l.length ≤ 9223372036854775807
  cells : ∀ j x,l[j]? = some x → ∃ p,a = some p ∧ w.cell? (p.add (j * 3)) = some (.string (x.1)) ∧ w.cell? ⟨(p.add (j * 3)).block,(p.add (j * 3)).off + 1,none⟩ = some (.int .i64 (x.2.1)) ∧ w.cell? ⟨(p.add (j * 3)).block,(p.add (j * 3)).off + 2,none⟩ = some (.string (x.2.2))
theorem RI.below {w w' : World} {a : Option Addr} {l : List (ByteArray × Int × ByteArray)} (h : RI w a l) (hb : Below w.heap.size w w') : RI w' a l :=
  ⟨h.len,fun j x hj => by
    obtain ⟨p,hp,h0,h1,h2⟩ := h.cells j x hj;exact ⟨p,hp,cell_below hb rfl h0,cell_below hb rfl h1,cell_below hb rfl h2⟩⟩
theorem RI.new {w : World} {a : Option Addr} {l : List (ByteArray × Int × ByteArray)} (h : RI w a l) (ob : Obj) : RI (w.alloc ob) a l := h.below ((Below.refl _ _).al _)
theorem RI.nil (w : World) (a : Option Addr) : RI w a [] := ⟨Nat.zero_le _,fun j x hj => by cases hj⟩
/-- a row in memory, read alone -/
structure RO (w : World) (a : Option Addr) (l : List (ByteArray × Int)) : Prop where
  len : l.length ≤ 9223372036854775807
  cells : ∀ j x,l[j]? = some x → ∃ p,a = some p ∧ w.cell? (p.add (j * 2)) = some (.string (x.1)) ∧ w.cell? ⟨(p.add (j * 2)).block,(p.add (j * 2)).off + 1,none⟩ = some (.int .i64 (x.2))
theorem RO.below {w w' : World} {a : Option Addr} {l : List (ByteArray × Int)} (h : RO w a l) (hb : Below w.heap.size w w') : RO w' a l :=
  ⟨h.len,fun j x hj => by
    obtain ⟨p,hp,h0,h1⟩ := h.cells j x hj;exact ⟨p,hp,cell_below hb rfl h0,cell_below hb rfl h1⟩⟩
theorem RO.new {w : World} {a : Option Addr} {l : List (ByteArray × Int)} (h : RO w a l) (ob : Obj) : RO (w.alloc ob) a l := h.below ((Below.refl _ _).al _)
theorem RO.nil (w : World) (a : Option Addr) : RO w a [] := ⟨Nat.zero_le _,fun j x hj => by cases hj⟩
theorem kt_terms (a a' : Option Addr) (l : List (Bool × ByteArray)) (cap cap' : Nat) (w : World) (h1 : RT w a l) (h2 : RT w a' l) :
    Calls Tryd.prog 63 #[.slice a l.length cap,.slice a' l.length cap'] w fun e w' => e = .returned (.bool true) ∧ Below w.heap.size w w' := by
 have hlen := h1.len;go_enter Tryd.func63,Tryd.ntmps63;go_wp2_with fail
 go_loopw [5] (fun i wr => ∃ (k : Nat),k ≤ l.length ∧ i = .int .i64 k ∧ Hid (Below w.heap.size w wr)) (fun i _ => l.length - (intOf i).toNat)
 case atStart => exact ⟨0,Nat.zero_le _,rfl,Lh (Below.refl _ _)⟩
 case round =>
  obtain ⟨k,hk,rfl,hb⟩ := hrel
  by_cases hlt : k < l.length
  · obtain ⟨p,rfl,hc1,hc2⟩ := (h1.below hb.out).cells k l[k] (List.getElem?_eq_getElem hlt);obtain ⟨q,rfl,hd1,hd2⟩ := (h2.below hb.out).cells k l[k] (List.getElem?_eq_getElem hlt);generalize l[k] = x at hc1 hc2 hd1 hd2;obtain ⟨xv,xs⟩ := x;dsimp only at hc1 hc2 hd1 hd2;have hq0 : (0 : Int) ≤ (k : Int) := Int.natCast_nonneg _;have hq1 : (k : Int) < (l.length : Int) := by omega
    go_wp2_with fail;go_quiet (fail);have hb2 := Lh (hb.out.drewN nq);generalize wr.drewN nq = wq at hb2 ⊢;go_wp2_with fail;go_roundw
    case rel => exact ⟨k + 1,by omega,by go_num,hb2⟩
    case measure => simp [intOf];omega
  · have hke : k = l.length := by omega
    subst hke;go_wp2_with fail;go_ret;exact ⟨rfl,hb.out⟩
theorem kt_second (w : World) (o1 o2 : Obj) : ((w.alloc o1).alloc o2).heap[w.heap.size + 1]? = some o2 := by
 have := heap_alloc_new (w.alloc o1) o2;rw [World.size_alloc] at this;exact this
theorem kt_cells {w w1 : World} {o o2 : Obj} (hb : Below ((w.alloc o).alloc o2).heap.size ((w.alloc o).alloc o2) w1) : Below w.heap.size w w1 := (((Below.refl _ _).al _).al _).trans (hb.mono (by rw [World.size_alloc,World.size_alloc];omega))
theorem kt_two {w w1 : World} {o o2 : Obj} (hb : Below ((w.alloc o).alloc o2).heap.size ((w.alloc o).alloc o2) w1) : Below w.heap.size w w1 ∧ w1.heap[w.heap.size]? = some o ∧ w1.heap[w.heap.size + 1]? = some o2 := by
 refine ⟨kt_cells hb,(hb.block _ (by rw [World.size_alloc,World.size_alloc];omega)).trans (by rw [heap_alloc_old];exact heap_alloc_new _ _;rw [World.size_alloc];omega),(hb.block _ (by rw [World.size_alloc,World.size_alloc];omega)).trans (kt_second _ _ _)⟩
theorem kt_atom (p : ByteArray) (a a' : Option Addr) (l : List (Bool × ByteArray)) (cap cap' : Nat) (w : World) (h1 : RT w a l) (h2 : RT w a' l) :
    Calls Tryd.prog 48 #[.agg #[.string p,.slice a l.length cap],.agg #[.string p,.slice a' l.length cap']] w fun e w' => e = .returned (.bool true) ∧ Below w.heap.size w w' := by
 have hs := fun w h1 h2 => kt_terms a a' l cap cap' w h1 h2;go_enter Tryd.func48,Tryd.ntmps48
 go_wp2_with (go_at_call 63;refine (hs _ ((h1.new _).new _) ((h2.new _).new _)).mono ?_;rintro e w1 ⟨rfl,hb1⟩;replace hb1 := Lh hb1)
 go_ret;exact ⟨rfl,kt_cells hb1.out⟩
/-- a literal's cells -/
abbrev litW (x : PLit) (a : Option Addr) (c : Nat) : Array Value := #[.int .i64 x.k,.string x.p,.slice a x.a.length c,.bool x.l.1,.string x.l.2,.bool x.r.1,.string x.r.2]
theorem kt_lit (x : PLit) (a a' : Option Addr) (cap cap' : Nat) (w : World) (h1 : RT w a x.a) (h2 : RT w a' x.a) :
    Calls Tryd.prog 49 #[.agg (litW x a cap),.agg (litW x a' cap')] w fun e w' => e = .returned (.bool true) ∧ Below w.heap.size w w' := by
 have hs := fun w h1 h2 => kt_atom x.p a a' x.a cap cap' w h1 h2;obtain ⟨k,p,l,⟨lv,lt⟩,⟨rv,rt⟩⟩ := x;unfold litW;dsimp only at h1 h2 hs ⊢;go_enter Tryd.func49,Tryd.ntmps49
 go_wp2_with (go_at_call 48;refine (hs _ ((h1.new _).new _) ((h2.new _).new _)).mono ?_;rintro e w1 ⟨rfl,hb1⟩;replace hb1 := Lh hb1)
 go_ret;exact ⟨rfl,kt_cells hb1.out⟩
theorem kt_rows {w w1 : World} {a b c x y z : Value} {t u : TypeId} (hb : Below ((w.alloc (.cells #[a,b,c] t)).alloc (.cells #[x,y,z] u)).heap.size ((w.alloc (.cells #[a,b,c] t)).alloc (.cells #[x,y,z] u)) w1) :
    (w1.cell? ⟨w.heap.size,0,none⟩ = some a ∧ w1.cell? ⟨w.heap.size,1,none⟩ = some b ∧ w1.cell? ⟨w.heap.size,2,none⟩ = some c) ∧ w1.cell? ⟨w.heap.size + 1,0,none⟩ = some x ∧ w1.cell? ⟨w.heap.size + 1,1,none⟩ = some y ∧ w1.cell? ⟨w.heap.size + 1,2,none⟩ = some z := by
 obtain ⟨_,h1,h2⟩ := kt_two hb;exact ⟨⟨by simp [World.cell?,h1],by simp [World.cell?,h1],by simp [World.cell?,h1]⟩,by simp [World.cell?,h2],by simp [World.cell?,h2],by simp [World.cell?,h2]⟩
theorem kt_rule (hp : ByteArray) (l : List (Bool × ByteArray)) (b : List PLit) (a a' ba ba' : Option Addr) (cap cap' bc bc2 : Nat) (w : World) (h1 : RT w a l) (h2 : RT w a' l) (h3 : RL w ba b) (h4 : RL w ba' b) :
    Calls Tryd.prog 25 #[.agg #[.string hp,.slice a l.length cap,.slice ba b.length bc],.agg #[.string hp,.slice a' l.length cap',.slice ba' b.length bc2]] w fun e w' => e = .returned (.bool true) ∧ Below w.heap.size w w' := by
 have hs := fun w h1 h2 => kt_atom hp a a' l cap cap' w h1 h2;have hlen := h3.len;go_enter Tryd.func25,Tryd.ntmps25
 go_wp2_with (go_at_call 48;refine (hs _ ((h1.new _).new _) ((h2.new _).new _)).mono ?_;rintro e w1 ⟨rfl,hb1⟩;obtain ⟨⟨z0,z1,z2⟩,y0,y1,y2⟩ := kt_rows hb1;replace hb1 := Lh hb1)
 have hB := Lh (kt_cells hb1.out);have hlow : Hid (∀ wr,Below w1.heap.size w1 wr → Below w.heap.size w wr) := Lh fun wr h => hB.out.trans (h.mono hB.out.size)
 go_loopw [5] (fun i wr => ∃ (k : Nat),k ≤ b.length ∧ i = .int .i64 k ∧ Hid (Below w1.heap.size w1 wr)) (fun i _ => b.length - (intOf i).toNat)
 case atStart => exact ⟨0,Nat.zero_le _,rfl,Lh (Below.refl _ _)⟩
 case round =>
  obtain ⟨k,hk,rfl,hbw⟩ := hrel;have x2 := cell_below hbw.out rfl z2;have v2 := cell_below hbw.out rfl y2
  by_cases hlt : k < b.length
  · obtain ⟨q,ad,adc,rfl,hd1,hd2,hd3,hd4,hd5,hd6,hd7,hat⟩ := (h3.below (hlow.out _ hbw.out)).cells k b[k] (List.getElem?_eq_getElem hlt);obtain ⟨q2,ad2,ad2c,rfl,he1,he2,he3,he4,he5,he6,he7,hat2⟩ := (h4.below (hlow.out _ hbw.out)).cells k b[k] (List.getElem?_eq_getElem hlt);have hsl := kt_lit b[k] ad ad2 adc ad2c
    generalize b[k] = x at hd1 hd2 hd3 hd4 hd5 hd6 hd7 hat he1 he2 he3 he4 he5 he6 he7 hat2 hsl;obtain ⟨xk,xp,xa,⟨xlv,xlt⟩,⟨xrv,xrt⟩⟩ := x;unfold litW at hsl;dsimp only at hd1 hd2 hd3 hd4 hd5 hd6 hd7 hat he1 he2 he3 he4 he5 he6 he7 hat2 hsl
    have hkeep : ∀ w',Below wr.heap.size wr w' → w'.cell? ⟨w.heap.size,2,none⟩ = some (.slice (some q) b.length bc) ∧ w'.cell? ⟨w.heap.size + 1,2,none⟩ = some (.slice (some q2) b.length bc2) ∧ w'.cell? (q.add (k * 7)) = some (.int .i64 xk) ∧ w'.cell? ⟨(q.add (k * 7)).block,(q.add (k * 7)).off + 1,none⟩ = some (.string xp) ∧ w'.cell? ⟨(q.add (k * 7)).block,(q.add (k * 7)).off + 2,none⟩ = some (.slice ad xa.length adc) ∧ w'.cell? ⟨(q.add (k * 7)).block,(q.add (k * 7)).off + 3,none⟩ = some (.bool xlv) ∧ w'.cell? ⟨(q.add (k * 7)).block,(q.add (k * 7)).off + 4,none⟩ = some (.string xlt) ∧ w'.cell? ⟨(q.add (k * 7)).block,(q.add (k * 7)).off + 5,none⟩ = some (.bool xrv) ∧ w'.cell? ⟨(q.add (k * 7)).block,(q.add (k * 7)).off + 6,none⟩ = some (.string xrt) ∧ w'.cell? (q2.add (k * 7)) = some (.int .i64 xk) ∧ w'.cell? ⟨(q2.add (k * 7)).block,(q2.add (k * 7)).off + 1,none⟩ = some (.string xp) ∧ w'.cell? ⟨(q2.add (k * 7)).block,(q2.add (k * 7)).off + 2,none⟩ = some (.slice ad2 xa.length ad2c) ∧ w'.cell? ⟨(q2.add (k * 7)).block,(q2.add (k * 7)).off + 3,none⟩ = some (.bool xlv) ∧ w'.cell? ⟨(q2.add (k * 7)).block,(q2.add (k * 7)).off + 4,none⟩ = some (.string xlt) ∧ w'.cell? ⟨(q2.add (k * 7)).block,(q2.add (k * 7)).off + 5,none⟩ = some (.bool xrv) ∧ w'.cell? ⟨(q2.add (k * 7)).block,(q2.add (k * 7)).off + 6,none⟩ = some (.string xrt) := fun w' hb =>
     ⟨cell_below hb rfl x2,cell_below hb rfl v2,cell_below hb rfl hd1,cell_below hb rfl hd2,cell_below hb rfl hd3,cell_below hb rfl hd4,cell_below hb rfl hd5,cell_below hb rfl hd6,cell_below hb rfl hd7,cell_below hb rfl he1,cell_below hb rfl he2,cell_below hb rfl he3,cell_below hb rfl he4,cell_below hb rfl he5,cell_below hb rfl he6,cell_below hb rfl he7⟩
    replace hkeep := Lh hkeep;replace hat := Lh hat;replace hat2 := Lh hat2;have hq0 : (0 : Int) ≤ (k : Int) := Int.natCast_nonneg _;have hq1 : (k : Int) < (b.length : Int) := by omega
    go_wp2_with fail
    go_region_held3 (fun w' => w'.cell? ⟨w.heap.size,2,none⟩ = some (.slice (some q) b.length bc) ∧ w'.cell? ⟨w.heap.size + 1,2,none⟩ = some (.slice (some q2) b.length bc2) ∧ w'.cell? (q.add (k * 7)) = some (.int .i64 xk) ∧ w'.cell? ⟨(q.add (k * 7)).block,(q.add (k * 7)).off + 1,none⟩ = some (.string xp) ∧ w'.cell? ⟨(q.add (k * 7)).block,(q.add (k * 7)).off + 2,none⟩ = some (.slice ad xa.length adc) ∧ w'.cell? ⟨(q.add (k * 7)).block,(q.add (k * 7)).off + 3,none⟩ = some (.bool xlv) ∧ w'.cell? ⟨(q.add (k * 7)).block,(q.add (k * 7)).off + 4,none⟩ = some (.string xlt) ∧ w'.cell? ⟨(q.add (k * 7)).block,(q.add (k * 7)).off + 5,none⟩ = some (.bool xrv) ∧ w'.cell? ⟨(q.add (k * 7)).block,(q.add (k * 7)).off + 6,none⟩ = some (.string xrt) ∧ w'.cell? (q2.add (k * 7)) = some (.int .i64 xk) ∧ w'.cell? ⟨(q2.add (k * 7)).block,(q2.add (k * 7)).off + 1,none⟩ = some (.string xp) ∧ w'.cell? ⟨(q2.add (k * 7)).block,(q2.add (k * 7)).off + 2,none⟩ = some (.slice ad2 xa.length ad2c) ∧ w'.cell? ⟨(q2.add (k * 7)).block,(q2.add (k * 7)).off + 3,none⟩ = some (.bool xlv) ∧ w'.cell? ⟨(q2.add (k * 7)).block,(q2.add (k * 7)).off + 4,none⟩ = some (.string xlt) ∧ w'.cell? ⟨(q2.add (k * 7)).block,(q2.add (k * 7)).off + 5,none⟩ = some (.bool xrv) ∧ w'.cell? ⟨(q2.add (k * 7)).block,(q2.add (k * 7)).off + 6,none⟩ = some (.string xrt))
      (first
        | exact hkeep.out _ (Below.refl _ _).drew
        | exact hkeep.out _ hb2.out)
      (first
        | (go_at_call 49;refine (hsl _ (hat.out.below (Below.refl _ _).drew) (hat2.out.below (Below.refl _ _).drew)).mono ?_;rintro e w2 ⟨rfl,hb20⟩
           have hb2 := Lh ((Below.refl wr.heap.size wr).drew.trans hb20);clear hb20))
    have hb3 := Lh (hbw.out.trans (hb2.out.mono hbw.out.size));go_wp2_with fail;go_roundw
    case rel => exact ⟨k + 1,by omega,by go_num,hb3⟩
    case measure => simp [intOf];omega
  · have hke : k = b.length := by omega
    subst hke;go_wp2_with fail;go_ret;exact ⟨rfl,hlow.out _ hbw.out⟩
theorem kt_program (A : List (ByteArray × Int × ByteArray)) (B : List (ByteArray × Int)) (C : List PRule) (a0 a1 a2 b0 b1 b2 : Option Addr) (c0 c1 c2 d0 d1 d2 : Nat) (w : World)
    (hA : RI w a0 A) (hA' : RI w b0 A) (hB : RO w a1 B) (hB' : RO w b1 B) (hC : RR w a2 C) (hC' : RR w b2 C) :
    Calls Tryd.prog 8 #[.agg #[.slice a0 A.length c0,.slice a1 B.length c1,.slice a2 C.length c2],.agg #[.slice b0 A.length d0,.slice b1 B.length d1,.slice b2 C.length d2]] w fun e w' => e = .returned (.bool true) ∧ Below w.heap.size w w' := by
 have hlA := hA.len;have hlB := hB.len;have hlC := hC.len;go_enter Tryd.func8,Tryd.ntmps8;go_wp2_with fail;have hn : ∃ w1 : World,w1 = (w.alloc (.cells #[.slice a0 A.length c0,.slice a1 B.length c1,.slice a2 C.length c2] 28)).alloc (.cells #[.slice b0 A.length d0,.slice b1 B.length d1,.slice b2 C.length d2] 28) := ⟨_,rfl⟩;obtain ⟨w1,hw1⟩ := hn
 obtain ⟨hB1,g1,g2⟩ := @kt_two w w1 (.cells #[.slice a0 A.length c0,.slice a1 B.length c1,.slice a2 C.length c2] 28) (.cells #[.slice b0 A.length d0,.slice b1 B.length d1,.slice b2 C.length d2] 28) (by rw [hw1];exact Below.refl _ _);rw [← hw1];clear hw1;have x0 := (cell_of_row _ _ 0 _ _ _ g1).trans rfl;have x1 := (cell_of_row _ _ 1 _ _ _ g1).trans rfl
 have x2 := (cell_of_row _ _ 2 _ _ _ g1).trans rfl;have v0 := (cell_of_row _ _ 0 _ _ _ g2).trans rfl;have v1 := (cell_of_row _ _ 1 _ _ _ g2).trans rfl;have v2 := (cell_of_row _ _ 2 _ _ _ g2).trans rfl;clear g1 g2;have hlow : Hid (∀ wr,Below w1.heap.size w1 wr → Below w.heap.size w wr) := Lh fun wr h => hB1.trans (h.mono hB1.size);clear hB1
 have hk6 : Hid (∀ wr,Below w1.heap.size w1 wr → wr.cell? ⟨w.heap.size,0,none⟩ = some (.slice a0 A.length c0) ∧ wr.cell? ⟨w.heap.size + 1,0,none⟩ = some (.slice b0 A.length d0) ∧ wr.cell? ⟨w.heap.size,1,none⟩ = some (.slice a1 B.length c1) ∧ wr.cell? ⟨w.heap.size + 1,1,none⟩ = some (.slice b1 B.length d1) ∧ wr.cell? ⟨w.heap.size,2,none⟩ = some (.slice a2 C.length c2) ∧ wr.cell? ⟨w.heap.size + 1,2,none⟩ = some (.slice b2 C.length d2)) := Lh fun wr h => ⟨cell_below h rfl x0,cell_below h rfl v0,cell_below h rfl x1,cell_below h rfl v1,cell_below h rfl x2,cell_below h rfl v2⟩
 have hb0 : Hid (Below w1.heap.size w1 w1) := Lh (Below.refl _ _)
 go_loopw [5] (fun i wr => ∃ (k : Nat),k ≤ A.length ∧ i = .int .i64 k ∧ Hid (Below w1.heap.size w1 wr)) (fun i _ => A.length - (intOf i).toNat)
 case atStart => exact ⟨0,Nat.zero_le _,rfl,hb0⟩
 case round =>
  clear hb0;obtain ⟨k,hk,rfl,hbw⟩ := hrel;obtain ⟨z0,y0,z1,y1,z2,y2⟩ := hk6.out _ hbw.out
  by_cases hlt : k < A.length
  · obtain ⟨p,rfl,hd0,hd1,hd2⟩ := (hA.below (hlow.out _ hbw.out)).cells k A[k] (List.getElem?_eq_getElem hlt);obtain ⟨q,rfl,he0,he1,he2⟩ := (hA'.below (hlow.out _ hbw.out)).cells k A[k] (List.getElem?_eq_getElem hlt);generalize A[k] = x at hd0 hd1 hd2 he0 he1 he2;obtain ⟨xp,xn,xf⟩ := x;dsimp only at hd0 hd1 hd2 he0 he1 he2;have hq0 : (0 : Int) ≤ (k : Int) := Int.natCast_nonneg _
    have hq1 : (k : Int) < (A.length : Int) := by omega
    go_wp2_with fail;go_quiet (fail);have hb2 := Lh (hbw.out.drewN nq);generalize wr.drewN nq = wq at hb2 ⊢;go_wp2_with fail;go_roundw
    case rel => exact ⟨k + 1,by omega,by go_num,hb2⟩
    case measure => simp [intOf];omega
  · have hke : k = A.length := by omega
    subst hke;have hb0 := hbw;clear hlt hk hbw;go_wp2_with fail;clear z0 z1 z2 y0 y1 y2
    go_loopw [6] (fun i wr => ∃ (k : Nat),k ≤ B.length ∧ i = .int .i64 k ∧ Hid (Below w1.heap.size w1 wr)) (fun i _ => B.length - (intOf i).toNat)
    case atStart => exact ⟨0,Nat.zero_le _,rfl,hb0⟩
    case round =>
     clear hb0;obtain ⟨k,hk,rfl,hbw⟩ := hrel;obtain ⟨z0,y0,z1,y1,z2,y2⟩ := hk6.out _ hbw.out
     by_cases hlt : k < B.length
     · obtain ⟨p,rfl,hd0,hd1⟩ := (hB.below (hlow.out _ hbw.out)).cells k B[k] (List.getElem?_eq_getElem hlt);obtain ⟨q,rfl,he0,he1⟩ := (hB'.below (hlow.out _ hbw.out)).cells k B[k] (List.getElem?_eq_getElem hlt);generalize B[k] = x at hd0 hd1 he0 he1;obtain ⟨xp,xn⟩ := x;dsimp only at hd0 hd1 he0 he1;have hq0 : (0 : Int) ≤ (k : Int) := Int.natCast_nonneg _
       have hq1 : (k : Int) < (B.length : Int) := by omega
       go_wp2_with fail;go_quiet (fail);have hb2 := Lh (hbw.out.drewN nq);generalize wr.drewN nq = wq at hb2 ⊢;go_wp2_with fail;go_roundw
       case rel => exact ⟨k + 1,by omega,by go_num,hb2⟩
       case measure => simp [intOf];omega
     · have hke : k = B.length := by omega
       subst hke;have hb0 := hbw;clear hlt hk hbw;go_wp2_with fail;clear z0 z1 z2 y0 y1 y2
       go_loopw [7] (fun i wr => ∃ (k : Nat),k ≤ C.length ∧ i = .int .i64 k ∧ Hid (Below w1.heap.size w1 wr)) (fun i _ => C.length - (intOf i).toNat)
       case atStart => exact ⟨0,Nat.zero_le _,rfl,hb0⟩
       case round =>
        clear hb0;obtain ⟨k,hk,rfl,hbw⟩ := hrel;obtain ⟨z0,y0,z1,y1,z2,y2⟩ := hk6.out _ hbw.out
        by_cases hlt : k < C.length
        · obtain ⟨p,ad,adc,bd,bdc,rfl,hd0,hd1,hd2,t1,t2⟩ := (hC.below (hlow.out _ hbw.out)).cells k C[k] (List.getElem?_eq_getElem hlt);obtain ⟨q,ad2,adc2,bd2,bdc2,rfl,he0,he1,he2,u1,u2⟩ := (hC'.below (hlow.out _ hbw.out)).cells k C[k] (List.getElem?_eq_getElem hlt);generalize C[k] = x at hd0 hd1 hd2 t1 t2 he0 he1 he2 u1 u2;obtain ⟨xp,xa,xb⟩ := x
          dsimp only at hd0 hd1 hd2 t1 t2 he0 he1 he2 u1 u2;have hkr := fun w h1 h2 h3 h4 => kt_rule xp xa xb ad ad2 bd bd2 adc adc2 bdc bdc2 w h1 h2 h3 h4
          have hkeep : ∀ w',Below wr.heap.size wr w' → w'.cell? ⟨w.heap.size,2,none⟩ = some (.slice (some p) C.length c2) ∧ w'.cell? ⟨w.heap.size + 1,2,none⟩ = some (.slice (some q) C.length d2) ∧ w'.cell? (p.add (k * 3)) = some (.string xp) ∧ w'.cell? ⟨(p.add (k * 3)).block,(p.add (k * 3)).off + 1,none⟩ = some (.slice ad xa.length adc) ∧ w'.cell? ⟨(p.add (k * 3)).block,(p.add (k * 3)).off + 2,none⟩ = some (.slice bd xb.length bdc) ∧ w'.cell? (q.add (k * 3)) = some (.string xp) ∧ w'.cell? ⟨(q.add (k * 3)).block,(q.add (k * 3)).off + 1,none⟩ = some (.slice ad2 xa.length adc2) ∧ w'.cell? ⟨(q.add (k * 3)).block,(q.add (k * 3)).off + 2,none⟩ = some (.slice bd2 xb.length bdc2) := fun w' hb =>
           ⟨cell_below hb rfl z2,cell_below hb rfl y2,cell_below hb rfl hd0,cell_below hb rfl hd1,cell_below hb rfl hd2,cell_below hb rfl he0,cell_below hb rfl he1,cell_below hb rfl he2⟩
          replace hkeep := Lh hkeep;replace t1 := Lh t1;replace t2 := Lh t2;have t3 := Lh u1;have t4 := Lh u2;clear u1 u2;have hq0 : (0 : Int) ≤ (k : Int) := Int.natCast_nonneg _;have hq1 : (k : Int) < (C.length : Int) := by omega
          go_wp2_with fail
          go_region_held3 (fun w' => w'.cell? ⟨w.heap.size,2,none⟩ = some (.slice (some p) C.length c2) ∧ w'.cell? ⟨w.heap.size + 1,2,none⟩ = some (.slice (some q) C.length d2) ∧ w'.cell? (p.add (k * 3)) = some (.string xp) ∧ w'.cell? ⟨(p.add (k * 3)).block,(p.add (k * 3)).off + 1,none⟩ = some (.slice ad xa.length adc) ∧ w'.cell? ⟨(p.add (k * 3)).block,(p.add (k * 3)).off + 2,none⟩ = some (.slice bd xb.length bdc) ∧ w'.cell? (q.add (k * 3)) = some (.string xp) ∧ w'.cell? ⟨(q.add (k * 3)).block,(q.add (k * 3)).off + 1,none⟩ = some (.slice ad2 xa.length adc2) ∧ w'.cell? ⟨(q.add (k * 3)).block,(q.add (k * 3)).off + 2,none⟩ = some (.slice bd2 xb.length bdc2))
            (first
              | exact hkeep.out _ (Below.refl _ _).drew
              | exact hkeep.out _ hb2.out)
            (first
              | (go_at_call 25;refine (hkr _ (t1.out.below (Below.refl _ _).drew) (t3.out.below (Below.refl _ _).drew) (t2.out.below (Below.refl _ _).drew) (t4.out.below (Below.refl _ _).drew)).mono ?_;rintro e w2 ⟨rfl,hb20⟩
                 have hb2 := Lh ((Below.refl wr.heap.size wr).drew.trans hb20);clear hb20))
          have hb3 := Lh (hbw.out.trans (hb2.out.mono hbw.out.size));go_wp2_with fail;go_roundw
          case rel => exact ⟨k + 1,by omega,by go_num,hb3⟩
          case measure => simp [intOf];omega
        · have hke : k = C.length := by omega
          subst hke;go_wp2_with fail;go_ret;exact ⟨rfl,hlow.out _ hbw.out⟩
end Go.Proofs.YtmjincocmhadeaaDoor
