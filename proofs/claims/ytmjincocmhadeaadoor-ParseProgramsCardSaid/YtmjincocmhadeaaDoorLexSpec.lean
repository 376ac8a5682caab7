/- What a text's tokens are, as plain functions on lists of bytes. No program in sight. -/
namespace Go.Proofs.YtmjincocmhadeaaDoor.Lx
abbrev Bs := List UInt8
def smallB (c : Int) : Bool := decide (97 ≤ c ∧ c ≤ 122)
def greatB (c : Int) : Bool := decide (65 ≤ c ∧ c ≤ 90)
def digitB (c : Int) : Bool := decide (48 ≤ c ∧ c ≤ 57)
def letterB (c : Int) : Bool := decide ((97 ≤ c ∧ c ≤ 122) ∨ (65 ≤ c ∧ c ≤ 90) ∨ (48 ≤ c ∧ c ≤ 57) ∨ c = 95)
def blankB (c : Int) : Bool := decide (c = 32 ∨ c = 9 ∨ c = 10 ∨ c = 13)
/-- the value of a digit of two, -1: none -/
def halfI (c : Int) : Int := if 48 ≤ c ∧ c ≤ 57 then c - 48 else if 97 ≤ c ∧ c ≤ 102 then c - 97 + 10 else -1
/-- a byte as a number -/
def bi (c : UInt8) : Int := (c.toNat : Int)
def allB (p : Int → Bool) (l : Bs) : Bool := l.all fun c => p (bi c)
def firstB (p : Int → Bool) : Bs → Bool
  | [] => false
  | c :: _ => p (bi c)
def sInput : Bs := [105,110,112,117,116]
def sOutput : Bs := [111,117,116,112,117,116]
def sNot : Bs := [110,111,116]
def reservedB (l : Bs) : Bool := l == sInput || l == sOutput || l == sNot
/-- 1 to 64 bytes that may stand in a word -/
def writtenB (l : Bs) : Bool := allB letterB l && decide (1 ≤ l.length ∧ l.length ≤ 64)
def numberB (l : Bs) : Bool := allB digitB l && decide (1 ≤ l.length ∧ l.length ≤ 64)
def variableB (l : Bs) : Bool := writtenB l && firstB greatB l
def nameB (l : Bs) : Bool := writtenB l && (firstB smallB l && !reservedB l)
/-- the kind of a word; 0: it is none -/
def kindI (l : Bs) : Int :=
  if l = sInput then 5 else if l = sOutput then 6 else if l = sNot then 7
  else if numberB l then 3 else if variableB l then 2 else if nameB l then 1 else 0
/-- how many bytes of blanks and remarks -/
def skipN : Bool → Bs → Nat
  | _,[] => 0
  | true,c :: r => 1 + skipN (!(bi c == 10)) r
  | false,c :: r => if bi c = 37 then 1 + skipN true r else if blankB (bi c) then 1 + skipN false r else 0
/-- a string behind its first quote: the bytes, how far it goes, is it whole; n: how many bytes there are already -/
def quo : Bs → Nat → Bs × Nat × Bool
  | [],_ => ([],0,false)
  | c :: r,n =>
    if bi c = 34 then ([],1,true)
    else if n = 1024 ∨ bi c < 32 ∨ 126 < bi c then ([],0,false)
    else if bi c = 92 then
      match r with
      | [] => ([],1,false)
      | d :: r2 =>
        if bi d = 34 ∨ bi d = 92 then let (b,k,ok) := quo r2 (n + 1);(d :: b,k + 2,ok)
        else if bi d = 110 then let (b,k,ok) := quo r2 (n + 1);(10 :: b,k + 2,ok)
        else if bi d = 116 then let (b,k,ok) := quo r2 (n + 1);(9 :: b,k + 2,ok)
        else if bi d = 120 then
          match r2 with
          | [] => ([],2,false)
          | h1 :: r3 =>
            if halfI (bi h1) < 0 then ([],2,false)
            else match r3 with
              | [] => ([],3,false)
              | h2 :: r4 =>
                if halfI (bi h2) < 0 then ([],3,false)
                else let (b,k,ok) := quo r4 (n + 1);(UInt8.ofNat (16 * halfI (bi h1) + halfI (bi h2)).toNat :: b,k + 4,ok)
        else ([],1,false)
    else let (b,k,ok) := quo r (n + 1);(c :: b,k + 1,ok)
structure Tok where
  kind : Int
  text : Bs
  at_ : Nat
  end_ : Nat
def zeroTok : Tok := ⟨0,[],0,0⟩
instance : Inhabited Tok := ⟨zeroTok⟩
/-- a sign: its kind, how many bytes it wants, its second byte -/
def signI (c : Int) : Option (Int × Nat × Int) :=
  if c = 40 then some (8,1,0) else if c = 41 then some (9,1,0) else if c = 44 then some (10,1,0) else if c = 46 then some (11,1,0)
  else if c = 47 then some (12,1,0) else if c = 58 then some (13,2,45) else if c = 33 then some (14,2,61) else none
/-- the length of the longest word -/
def wordN (l : Bs) : Nat :=
  ((l.take 64).takeWhile fun c => letterB (bi c) && (!firstB digitB l || digitB (bi c))).length
/-- the token at the place at, of the text l from there on, and is it whole -/
def nextT (l : Bs) (at_ : Nat) : Tok × Bool :=
  match l with
  | [] => (zeroTok,false)
  | c :: r =>
    if bi c = 34 then
      let (b,k,ok) := quo r 0
      (⟨4,if ok then b else [],at_,at_ + 1 + k⟩,ok)
    else match signI (bi c) with
      | some (k,1,_) => (⟨k,[],at_,at_ + 1⟩,true)
      | some (k,_,d) => if firstB (fun x => decide (x = d)) r then (⟨k,[],at_,at_ + 2⟩,true) else (⟨k,[],at_,at_ + 1⟩,false)
      | none =>
        let w := l.take (wordN l)
        if kindI w = 0 then (zeroTok,false)
        else (⟨kindI w,if reservedB w then [] else w,at_,at_ + wordN l⟩,true)
def isWordB (k : Int) : Bool := decide (1 ≤ k ∧ k ≤ 7 ∧ k ≠ 4)
structure Res where
  toks : List Tok
  open_ : Tok
  far : Nat
  ok : Bool
/-- the tokens from the place at on; joint: a word ends just there -/
def toks : Nat → Bs → Nat → Bool → Res
  | 0,_,at_,_ => ⟨[],zeroTok,at_,true⟩
  | f + 1,l,at0,joint =>
    let n := skipN false l
    let l1 := l.drop n
    let at1 := at0 + n
    if l1 = [] then ⟨[],zeroTok,at1,true⟩
    else
      let (t,whole) := nextT l1 at1
      if isWordB t.kind && joint && n == 0 then ⟨[],zeroTok,at1,false⟩
      else if !whole then ⟨[],t,if t.kind = 0 then at1 else t.end_,false⟩
      else
        let r := toks f (l1.drop (t.end_ - at1)) t.end_ (isWordB t.kind)
        { r with toks := t :: r.toks }
def tokens (l : Bs) : Res := toks (l.length + 1) l 0 false
end Go.Proofs.YtmjincocmhadeaaDoor.Lx
