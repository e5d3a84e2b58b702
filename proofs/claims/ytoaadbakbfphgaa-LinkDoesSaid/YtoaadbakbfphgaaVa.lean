/- Typed values: an interpreter whose slices hold typed elements, in passing style; every operation on data is a field of 'Prims', so that a text can be printed of what a function comes to. Definitions alone. -/
import Derived.Test.YtoaadbakbfphgaaKc
namespace Go.PI
open Go

inductive Ty where
  | int (k : IntKind)
  | bool
  | str
  | sl (f : Nat) (t : Ty)
  | unit
  | pair (a b : Ty)
  | agg (t : Ty)
  | tup (t : Ty)
  | rp (t : Ty)
  | ptr (loc off : Nat)
  | nilp
  | nilf
  | nili
  | undef
  | fn (g : Nat) (a b : Ty)
  deriving DecidableEq

@[reducible] def Ty.den : Ty → Type
  | .int _ => Int
  | .bool => Bool
  | .str => ByteArray
  | .sl _ t => List t.den
  | .unit => Unit
  | .pair a b => a.den × b.den
  | .agg t => t.den
  | .tup t => t.den
  | .rp t => t.den
  | .ptr _ _ => Unit
  | .nilp => Unit
  | .nilf => Unit
  | .nili => Unit
  | .undef => Unit
  | .fn _ a b => a.den × b.den

def Ty.width : Ty → Nat
  | .unit => 0
  | .pair a b => a.width + b.width
  | _ => 1

def Ty.dflt : (t : Ty) → t.den
  | .int _ => (0 : Int)
  | .bool => false
  | .str => (⟨#[]⟩ : ByteArray)
  | .sl _ _ => []
  | .unit => ()
  | .pair a b => (a.dflt, b.dflt)
  | .agg t => t.dflt
  | .tup t => t.dflt
  | .rp t => t.dflt
  | .ptr _ _ => ()
  | .nilp => ()
  | .nilf => ()
  | .nili => ()
  | .undef => ()
  | .fn _ a b => (a.dflt, b.dflt)

/-- No pointer to a box from n on. -/
def Ty.low (n : Nat) : Ty → Bool
  | .ptr loc _ => decide (loc < n)
  | .sl _ t => t.low n
  | .pair a b => a.low n && b.low n
  | .agg t => t.low n
  | .tup t => t.low n
  | .rp t => t.low n
  | .fn _ a b => a.low n && b.low n
  | _ => true

inductive V where
  | int (k : IntKind) (n : Int)
  | bool (b : Bool)
  | str (s : ByteArray)
  | sl (f : Nat) (t : Ty) (l : List t.den)
  | agg (l : List V)
  | tup (l : List V)
  | rp (l : List V)
  | ptr (loc off : Nat)
  | nilp
  | nilf
  | nili
  | unk
  | undef
  | fn (g : Nat) (first cap : List V)
  | bor (p : Pl)
  | ea (p : Pl) (n i off : Nat)

/-- Typed data as values; back. -/
def vals : (t : Ty) → t.den → List V
  | .int k, n => [.int k n]
  | .bool, b => [.bool b]
  | .str, s => [.str s]
  | .sl f t, l => [.sl f t l]
  | .unit, _ => []
  | .pair a b, x => vals a x.1 ++ vals b x.2
  | .agg t, x => [.agg (vals t x)]
  | .tup t, x => [.tup (vals t x)]
  | .rp t, x => [.rp (vals t x)]
  | .ptr l o, _ => [.ptr l o]
  | .nilp, _ => [.nilp]
  | .nilf, _ => [.nilf]
  | .nili, _ => [.nili]
  | .undef, _ => [.undef]
  | .fn g a b, x => [.fn g (vals a x.1) (vals b x.2)]

def ofVals : (t : Ty) → List V → Option (t.den × List V)
  | .int k, l => match l with
    | .int k' n :: r => if k' = k then some (n, r) else none
    | _ => none
  | .bool, l => match l with
    | .bool b :: r => some (b, r)
    | _ => none
  | .str, l => match l with
    | .str b :: r => some (b, r)
    | _ => none
  | .sl f t, l => match l with
    | .sl f' t' l' :: r => if h : t' = t then (if f' = f then some ((h ▸ l' : List t.den), r) else none) else none
    | _ => none
  | .unit, l => some ((), l)
  | .pair a b, l => match ofVals a l with
    | some (x, r) => match ofVals b r with
      | some (y, r) => some ((x, y), r)
      | none => none
    | none => none
  | .agg t, l => match l with
    | .agg c :: r => match ofVals t c with
      | some (x, []) => some (x, r)
      | _ => none
    | _ => none
  | .tup t, l => match l with
    | .tup c :: r => match ofVals t c with
      | some (x, []) => some (x, r)
      | _ => none
    | _ => none
  | .rp t, l => match l with
    | .rp c :: r => match ofVals t c with
      | some (x, []) => some (x, r)
      | _ => none
    | _ => none
  | .ptr loc off, l => match l with
    | .ptr loc' off' :: r => if loc' = loc ∧ off' = off then some ((), r) else none
    | _ => none
  | .nilp, l => match l with
    | .nilp :: r => some ((), r)
    | _ => none
  | .nilf, l => match l with
    | .nilf :: r => some ((), r)
    | _ => none
  | .nili, l => match l with
    | .nili :: r => some ((), r)
    | _ => none
  | .undef, l => match l with
    | .undef :: r => some ((), r)
    | _ => none
  | .fn g a b, l => match l with
    | .fn g' x y :: r => if g' = g then
        match ofVals a x with
        | some (x, []) => match ofVals b y with
          | some (y, []) => some ((x, y), r)
          | _ => none
        | _ => none
      else none
    | _ => none

/-- One value, of a list that is one long. -/
def ofVal (t : Ty) (l : List V) : Option t.den :=
  match ofVals t l with
  | some (x, []) => some x
  | _ => none

/-- What is done with data. -/
structure Prims where
  wrap : IntKind → Int → Int
  add : Int → Int → Int
  sub : Int → Int → Int
  mul : Int → Int → Int
  quo : Int → Int → Int
  rem : Int → Int → Int
  bits : BinOp → IntKind → Int → Int → Int
  shl : IntKind → Int → Int → Int
  shr : IntKind → Int → Int → Int
  eq : Int → Int → Bool
  lt : Int → Int → Bool
  le : Int → Int → Bool
  min : Int → Int → Int
  max : Int → Int → Int
  not : Bool → Bool
  and : Bool → Bool → Bool
  beq : Bool → Bool → Bool
  eqS : ByteArray → ByteArray → Bool
  eqB : ByteArray → ByteArray → Bool
  ltS : ByteArray → ByteArray → Bool
  leS : ByteArray → ByteArray → Bool
  fitS : ByteArray → ByteArray → Bool
  cat : ByteArray → ByteArray → ByteArray
  size : ByteArray → Int
  inS : ByteArray → Int → Bool
  atS : ByteArray → Int → Int
  bnd : Int → Int → Int → Bool
  ext : ByteArray → Int → Int → ByteArray
  toStr : List Int → ByteArray
  ofStr : ByteArray → List Int
  nat : Int → Nat
  len : {α : Type} → List α → Int
  inb : {α : Type} → List α → Int → Bool
  ltN : {α : Type} → Nat → List α → Bool
  nth : {α : Type} → α → List α → Nat → α
  setN : {α : Type} → List α → Nat → α → List α
  app : {α : Type} → List α → List α → List α
  fits : {α : Type} → List α → List α → Nat → Bool
  mkOk : Int → Int → Nat → Bool
  repl : {α : Type} → Int → α → List α
  take : {α : Type} → List α → Int → List α
  drop : {α : Type} → List α → Int → List α
  emp : {α : Type} → List α → Bool
  both : {β : Type} → Option β → Option β → Option β
  loop : {σ β : Type} → Nat → (σ → Option (σ ⊕ β)) → σ → Option β

def loopT {σ β : Type} : Nat → (σ → Option (σ ⊕ β)) → σ → Option β
  | 0, _, _ => none
  | k + 1, f, s => match f s with
    | some (.inl s') => loopT k f s'
    | some (.inr b) => some b
    | none => none

def strOf (l : List Int) : ByteArray := ⟨(l.map fun n => UInt8.ofNat n.toNat).toArray⟩
def bytesOf (s : ByteArray) : List Int := s.data.toList.map fun b => (b.toNat : Int)

open Classical in
/-- Rounds, as many as it takes. -/
noncomputable def loopL {σ β : Type} (f : σ → Option (σ ⊕ β)) (s : σ) : Option β :=
  if h : ∃ b n, loopT n f s = some b then some h.choose else none

open Classical in
/-- Two ways that come to the same. -/
noncomputable def bothT {β : Type} (x y : Option β) : Option β := if x = y then x else none

/-- What data really do. -/
noncomputable def std : Prims where
  wrap k n := k.wrap n
  add a b := a + b
  sub a b := a - b
  mul a b := a * b
  quo a b := a.tdiv b
  rem a b := a.tmod b
  bits op k a b := bitsOf op k a b
  shl k a b := k.wrap (a * 2 ^ (Min.min b.toNat k.bits))
  shr k a b := a.fdiv (2 ^ (Min.min b.toNat k.bits))
  eq a b := a == b
  lt a b := decide (a < b)
  le a b := decide (a ≤ b)
  min a b := if b < a then b else a
  max a b := if b > a then b else a
  not b := !b
  and a b := a && b
  beq a b := a == b
  eqS a b := a.toList == b.toList
  eqB a b := a == b
  ltS a b := Op.bytesLess a.toList b.toList
  leS a b := Op.bytesLess a.toList b.toList || a.toList == b.toList
  fitS a b := decide (¬ ((a.size + b.size : Nat) : Int) > IntKind.i64.max)
  cat a b := a ++ b
  size s := s.size
  inS s i := decide (0 ≤ i ∧ i < s.size)
  atS s i := ((s.data.toList.getD i.toNat 0).toNat : Int)
  bnd l h n := decide (0 ≤ l ∧ l ≤ h ∧ h ≤ n)
  ext s l h := s.extract l.toNat h.toNat
  toStr := strOf
  ofStr := bytesOf
  nat i := i.toNat
  len l := l.length
  inb l i := decide (0 ≤ i ∧ i < l.length)
  ltN i l := decide (i < l.length)
  nth d l i := l.getD i d
  setN l i x := l.set i x
  app l m := l ++ m
  fits l m b := decide ((l.length + m.length) * b ≤ room)
  mkOk l c b := decide (0 ≤ l ∧ l ≤ c ∧ c.toNat * b ≤ room)
  repl n x := List.replicate n.toNat x
  take l h := l.take h.toNat
  drop l h := l.drop h.toNat
  emp l := l.isEmpty
  both := bothT
  loop _ f s := loopL f s

/-- A type, with its zero cells as values. -/
inductive TV where
  | int (k : IntKind)
  | bool
  | str
  | sl (bytes ety : Nat) (t : Ty) (zero : List V)
  | st (fs : List (Nat × Nat × Nat)) (zero : List V)
  | arr (len n ty : Nat) (zero : List V)
  | ptr
  | fn
  | ifc
  | other

def TV.agg : TV → Bool
  | .st .. | .arr .. => true
  | _ => false

def TV.zero : TV → Option (List V)
  | .int k => some [.int k 0]
  | .bool => some [.bool false]
  | .str => some [.str ⟨#[]⟩]
  | .sl _ _ t _ => some [.sl 2 t []]
  | .st _ z => some z
  | .arr _ _ _ z => some z
  | .ptr => some [.nilp]
  | .fn => some [.nilf]
  | .ifc => some [.nili]
  | .other => none

def TV.size (t : TV) : Nat := (t.zero.getD []).length

structure VS where
  tm : List V
  bx : List (List V)
  ln : List (Nat × Pl)
  dirty : List Nat
  up : Bool

def V.leaf : V → Nat → V
  | .agg l, j => l.getD j .undef
  | d, 0 => d
  | _, _ + 1 => .undef

def V.setLeaf : V → Nat → V → V
  | .agg l, j, x => .agg (l.set j x)
  | _, 0, x => x
  | d, _ + 1, _ => d

def VS.get (st : VS) (t : Nat) : V := st.tm.getD t .undef
def VS.box (st : VS) (loc : Nat) : List V := st.bx.getD loc []

def VS.at (st : VS) : Pl → V
  | .s t j => (st.get t).leaf j
  | .b loc j => (st.box loc).getD j .undef

def VS.put (base : Nat) (st : VS) (p : Pl) (x : V) : VS :=
  match p with
  | .s t j => { st with tm := st.tm.set t ((st.get t).setLeaf j x) }
  | .b loc j => { st with bx := st.bx.set loc ((st.box loc).set j x), dirty := if loc < base then loc :: st.dirty else st.dirty }

def clearAllV (tm : List V) : List (Nat × Pl) → List V
  | [] => tm
  | (t, _) :: r => clearAllV (tm.set t .undef) r

def VS.forget (st : VS) (c : Pl → Bool) : VS :=
  match st.ln with
  | [] => st
  | ln => { st with tm := clearAllV st.tm (ln.filter fun x => c x.2), ln := ln.filter fun x => !c x.2 }

def VS.set (st : VS) (t : Nat) (d : V) : VS :=
  let st := st.forget (Pl.inSlot t)
  { st with tm := st.tm.set t d, ln := st.ln.filter fun x => x.1 != t }

def VS.setO (st : VS) (t : Option Nat) (d : V) : VS :=
  match t with
  | some t => st.set t d
  | none => st

def VS.down (base : Nat) (st : VS) (p : Pl) : VS :=
  match st.at p with
  | .sl 2 n l => st.put base p (.sl 1 n l)
  | _ => st

def VS.undo (base : Nat) (st : VS) (p : Pl) : VS :=
  match st.at p with
  | .sl _ _ _ => st.put base p .undef
  | _ => st

def leafUseV (base : Nat) (st : VS) (p : Option Pl) : V → Option (V × VS)
  | .sl _ n l =>
    match p with
    | none => some (.sl 0 n l, st)
    | some q => match st.at q with
      | .sl f n l => some (.sl 0 n l, if f = 2 then st.down base q else st)
      | _ => none
  | .bor q =>
    match st.at q with
    | .sl f n l => some (.sl 0 n l, if f = 2 then st.down base q else st)
    | _ => none
  | .undef => none
  | .ea .. => none
  | .rp _ => none
  | .agg _ => none
  | .tup _ => none
  | d => some (d, st)

def leavesUseV (base : Nat) (p : Nat → Option Pl) : Nat → VS → List V → Option (List V × VS)
  | _, st, [] => some ([], st)
  | j, st, d :: r =>
    match leafUseV base st (p j) d with
    | some (x, st) => match leavesUseV base p (j + 1) st r with
      | some (y, st) => some (x :: y, st)
      | none => none
    | none => none

def useV (base : Nat) (st : VS) (t : Option Nat) : V → Option (V × VS)
  | .agg l => (leavesUseV base (fun j => t.map (Pl.s · j)) 0 st l).map fun (l, s) => (.agg l, s)
  | d => leafUseV base st (t.map (Pl.s · 0)) d

def leafTakeV (base : Nat) (st : VS) (p : Option Pl) : V → Option (V × VS)
  | .sl f n l =>
    match p with
    | none => some (.sl f n l, st)
    | some q => match st.at q with
      | .sl f n l => some (.sl f n l, if f = 0 then st else st.undo base q)
      | _ => none
  | .bor q =>
    match st.at q with
    | .sl f n l => some (.sl f n l, if f = 0 then st else st.undo base q)
    | _ => none
  | .undef => none
  | .ea .. => none
  | .rp _ => none
  | .agg _ => none
  | .tup _ => none
  | d => some (d, st)

def leavesTakeV (base : Nat) (p : Nat → Option Pl) : Nat → VS → List V → Option (List V × VS)
  | _, st, [] => some ([], st)
  | j, st, d :: r =>
    match leafTakeV base st (p j) d with
    | some (x, st) => match leavesTakeV base p (j + 1) st r with
      | some (y, st) => some (x :: y, st)
      | none => none
    | none => none

def takeV (base : Nat) (st : VS) (t : Option Nat) : V → Option (V × VS)
  | .agg l => (leavesTakeV base (fun j => t.map (Pl.s · j)) 0 st l).map fun (l, s) => (.agg l, s)
  | d => leafTakeV base st (t.map (Pl.s · 0)) d

def constV (T : Nat → TV) (ty : Nat) : Value → V
  | .int k n => .int k n
  | .bool b => .bool b
  | .string s => .str s
  | .slice none 0 0 => match T ty with
    | .sl _ _ t _ => .sl 2 t []
    | _ => .undef
  | .pointer none => .nilp
  | .nilFunc => .nilf
  | .nilIface => .nili
  | _ => .undef

def fnV : Fn → V
  | .func g => .fn g [] []
  | _ => .undef

def VS.raw (st : VS) (T : Nat → TV) (ty : Nat) : Operand → V
  | .tmp t => st.get t
  | .const v => constV T ty v
  | .func f => .fn f [] []
  | .global _ => .undef

def VS.use (base : Nat) (st : VS) (T : Nat → TV) (ty : Nat) (x : Operand) : Option (V × VS) :=
  useV base st (tmpOf x) (st.raw T ty x)

def VS.take (base : Nat) (st : VS) (T : Nat → TV) (ty : Nat) (x : Operand) : Option (V × VS) :=
  takeV base st (tmpOf x) (st.raw T ty x)

def VS.see (st : VS) (T : Nat → TV) (ty : Nat) (x : Operand) : V :=
  match st.raw T ty x with
  | .bor p => match st.at p with
    | .sl f n l => .sl f n l
    | _ => .undef
  | d => d

def VS.uses (base : Nat) (st : VS) (T : Nat → TV) : List (Operand × Nat) → Option (List V × VS)
  | [] => some ([], st)
  | (x, ty) :: r =>
    match st.use base T ty x with
    | none => none
    | some (d, st1) => match st1.uses base T r with
      | none => none
      | some (ds, st2) => some (d :: ds, st2)

def VS.takes (base : Nat) (st : VS) (T : Nat → TV) : List (Operand × Nat) → Option (List V × VS)
  | [] => some ([], st)
  | (x, ty) :: r =>
    match st.take base T ty x with
    | none => none
    | some (d, st1) => match st1.takes base T r with
      | none => none
      | some (ds, st2) => some (d :: ds, st2)

def V.cells : V → List V
  | .agg l => l
  | d => [d]

def mkV (agg : Bool) (l : List V) : V :=
  if agg then .agg l else l.getD 0 .undef

def borLeafV (p : Pl) : V → V × List Pl
  | .sl 0 n l => (.sl 0 n l, [])
  | .sl _ _ _ => (.bor p, [p])
  | .bor q => (.bor q, [q])
  | .ea .. => (.undef, [])
  | d => (d, [])

def borLeavesV (p : Nat → Pl) : Nat → List V → List V × List Pl
  | _, [] => ([], [])
  | j, d :: r => let x := borLeafV (p j) d; let y := borLeavesV p (j + 1) r; (x.1 :: y.1, x.2 ++ y.2)

def viewLeafV : V → V
  | .sl 0 n l => .sl 0 n l
  | .sl 1 n l => .sl 0 n l
  | .sl _ _ _ => .undef
  | .bor _ => .undef
  | .ea .. => .undef
  | d => d

def ldLeavesV (v : Bool) (p : Nat → Pl) (j : Nat) (l : List V) : List V × List Pl :=
  match v with
  | true => (l.map viewLeafV, [])
  | false => borLeavesV p j l

def borV (t : Nat) : V → V × List Pl
  | .agg l => let x := borLeavesV (Pl.s t) 0 l; (.agg x.1, x.2)
  | .ea p n i off => (.ea p n i off, [p])
  | d => borLeafV (Pl.s t 0) d

mutual
/-- No pointer to a box from n on; none: it can't be told. -/
def V.lowO (n : Nat) : V → Option Bool
  | .ptr loc _ => some (decide (loc < n))
  | .sl _ t _ => if t.low n then some true else none
  | .agg l => lowOL n l
  | .tup l => lowOL n l
  | .rp l => lowOL n l
  | .fn _ a b => match lowOL n a, lowOL n b with
    | some x, some y => some (x && y)
    | _, _ => none
  | .bor (.b loc _) => some (decide (loc < n))
  | .ea (.b loc _) _ _ _ => some (decide (loc < n))
  | _ => some true
def lowOL (n : Nat) : List V → Option Bool
  | [] => some true
  | d :: r => match d.lowO n, lowOL n r with
    | some x, some y => some (x && y)
    | _, _ => none
end

def VS.store (base : Nat) (st : VS) (loc off : Nat) (xs : List V) : Option VS :=
  if off + xs.length ≤ (st.box loc).length then
    match lowOL (loc + 1) xs with
    | some low =>
      let st := st.forget (Pl.inBox loc off xs.length)
      some { st with
        bx := st.bx.set loc ((st.box loc).take off ++ xs ++ (st.box loc).drop (off + xs.length))
        dirty := if loc < base then loc :: st.dirty else st.dirty
        up := st.up || !low }
    | none => none
  else none

def sumK {α β γ : Type} (z : α ⊕ β) (f : α → γ) (g : β → γ) : γ :=
  match z with
  | .inl x => f x
  | .inr y => g y

def optElse {α γ : Type} (x : Option α) (n : γ) (f : α → γ) : γ :=
  match x with
  | none => n
  | some y => f y

section
variable {β : Type}

def optK {α : Type} (x : Option α) (K : α → Option β) : Option β :=
  match x with
  | some a => K a
  | none => none

def whenK (b : Bool) (x : Option β) : Option β :=
  match b with
  | true => x
  | false => none

def splitK (b : Bool) (x y : Option β) : Option β :=
  match b with
  | true => x
  | false => y

/-- One way for each number. -/
def caseK (ρ : Prims) (i : Int) : List Nat → (Nat → Option β) → Option β
  | [], _ => none
  | j :: r, K => splitK (ρ.eq i (Int.ofNat j)) (K j) (caseK ρ i r K)
end

def intV : V → Option Int
  | .int _ n => some n
  | _ => none

/-- An operand's number, if it is a constant. -/
def numC : Operand → Option Int
  | .const (.int _ n) => some n
  | _ => none

def eqLeafV (ρ : Prims) : TV → V → V → Option Bool
  | .int _, .int k a, .int k' b => if k = k' then some (ρ.eq a b) else none
  | .bool, .bool a, .bool b => some (ρ.beq a b)
  | .str, .str a, .str b => some (ρ.eqB a b)
  | .ptr, .nilp, .nilp => some true
  | .ptr, .ptr _ _, .nilp => some false
  | .ptr, .nilp, .ptr _ _ => some false
  | _, _, _ => none

def eqFieldsV (ρ : Prims) (S : Nat → Nat) (E : Nat → List V → List V → Option Bool) : List (Nat × Nat × Nat) → List V → List V → Option Bool
  | [], _, _ => some true
  | (off, _, ft) :: r, x, y =>
    if off + S ft ≤ x.length ∧ off + S ft ≤ y.length then
      match E ft ((x.drop off).take (S ft)) ((y.drop off).take (S ft)), eqFieldsV ρ S E r x y with
      | some a, some b => some (ρ.and a b)
      | _, _ => none
    else none

def eqV (ρ : Prims) (T : Nat → TV) : Nat → Nat → List V → List V → Option Bool
  | 0, _, _, _ => none
  | k + 1, ty, x, y =>
    match T ty with
    | .st fs _ => eqFieldsV ρ (fun t => (T t).size) (eqV ρ T k) fs x y
    | .arr .. => none
    | ti => match x, y with
      | [a], [b] => eqLeafV ρ ti a b
      | _, _ => none

def plainV (T : Nat → TV) : Nat → Nat → Bool
  | 0, _ => false
  | k + 1, ty =>
    match T ty with
    | .st fs _ => fs.all fun f => plainV T k f.2.2
    | .int _ | .bool | .str | .ptr => true
    | _ => false

section
variable {β : Type}

def binV (ρ : Prims) (ti : TV) (op : BinOp) (cy : Option Int) (x y : V) (K : V → Option β) : Option β :=
  match x, y with
  | .int k a, .int k' b =>
    match op with
    | .shl => match cy with
      | some n => if n = b ∧ 0 ≤ n then K (.int k (ρ.shl k a b)) else none
      | none => whenK (ρ.le 0 b) (K (.int k (ρ.shl k a b)))
    | .shr => match cy with
      | some n => if n = b ∧ 0 ≤ n then K (.int k (ρ.shr k a b)) else none
      | none => whenK (ρ.le 0 b) (K (.int k (ρ.shr k a b)))
    | _ => if k = k' then
      match op with
      | .add => K (.int k (ρ.wrap k (ρ.add a b)))
      | .sub => K (.int k (ρ.wrap k (ρ.sub a b)))
      | .mul => K (.int k (ρ.wrap k (ρ.mul a b)))
      | .quo => match cy with
        | some n => if n = b ∧ ¬ n = 0 then K (.int k (ρ.wrap k (ρ.quo a b))) else none
        | none => whenK (ρ.not (ρ.eq b 0)) (K (.int k (ρ.wrap k (ρ.quo a b))))
      | .rem => match cy with
        | some n => if n = b ∧ ¬ n = 0 then K (.int k (ρ.rem a b)) else none
        | none => whenK (ρ.not (ρ.eq b 0)) (K (.int k (ρ.rem a b)))
      | .and | .or | .xor | .andNot => K (.int k (ρ.bits op k a b))
      | .eql => K (.bool (ρ.eq a b))
      | .neq => K (.bool (ρ.not (ρ.eq a b)))
      | .lss => K (.bool (ρ.lt a b))
      | .leq => K (.bool (ρ.le a b))
      | .gtr => K (.bool (ρ.lt b a))
      | .geq => K (.bool (ρ.le b a))
      | _ => none
      else none
  | .str a, .str b =>
    match op with
    | .add => whenK (ρ.fitS a b) (K (.str (ρ.cat a b)))
    | .eql => K (.bool (ρ.eqS a b))
    | .neq => K (.bool (ρ.not (ρ.eqS a b)))
    | .lss => K (.bool (ρ.ltS a b))
    | .leq => K (.bool (ρ.leS a b))
    | .gtr => K (.bool (ρ.not (ρ.leS a b)))
    | .geq => K (.bool (ρ.not (ρ.ltS a b)))
    | _ => none
  | .bool a, .bool b =>
    match ti, op with
    | .bool, .eql => K (.bool (ρ.beq a b))
    | .bool, .neq => K (.bool (ρ.not (ρ.beq a b)))
    | _, _ => none
  | .nilp, .nilp => match ti, op with
    | .ptr, .eql => K (.bool true)
    | .ptr, .neq => K (.bool false)
    | _, _ => none
  | .ptr _ _, .nilp => match ti, op with
    | .ptr, .eql => K (.bool false)
    | .ptr, .neq => K (.bool true)
    | _, _ => none
  | .nilp, .ptr _ _ => match ti, op with
    | .ptr, .eql => K (.bool false)
    | .ptr, .neq => K (.bool true)
    | _, _ => none
  | _, _ => none

def binAV (ρ : Prims) (T : Nat → TV) (ty : Nat) (op : BinOp) (cy : Option Int) (x y : V) (K : V → Option β) : Option β :=
  match x, y with
  | .agg a, .agg b =>
    if plainV T 8 ty = true ∧ (T ty).agg = true then
      match eqV ρ T 8 ty a b, op with
      | some r, .eql => K (.bool r)
      | some r, .neq => K (.bool (ρ.not r))
      | _, _ => none
    else none
  | x, y => binV ρ (T ty) op cy x y K

def boolOpV (op : BinOp) (b : Bool) (K : V → Option β) : Option β :=
  match op with
  | .eql => K (.bool b)
  | .neq => K (.bool (!b))
  | _ => none

/-- Compared with nil. -/
def binNV (ρ : Prims) (ti : TV) (op : BinOp) (c : Nat) (x : V) (K : V → Option β) : Option β :=
  match x, ti, c with
  | .sl _ _ l, .sl .., 0 => match op with
    | .eql => splitK (ρ.emp l) (K .unk) (K (.bool false))
    | .neq => splitK (ρ.emp l) (K .unk) (K (.bool true))
    | _ => none
  | .nilf, .fn, 1 => boolOpV op true K
  | .fn .., .fn, 1 => boolOpV op false K
  | .nili, .ifc, 2 => boolOpV op true K
  | _, _, _ => none

def binOV (ρ : Prims) (T : Nat → TV) (ty : Nat) (op : BinOp) (ox oy : Operand) (x y : V) (K : V → Option β) : Option β :=
  match nilC oy, nilC ox with
  | some c, _ => binNV ρ (T ty) op c x K
  | none, some c => binNV ρ (T ty) op c y K
  | none, none => binAV ρ T ty op (numC oy) x y K

def unV (ρ : Prims) (op : UnOp) (x : V) (K : V → Option β) : Option β :=
  match x, op with
  | .int k n, .neg => K (.int k (ρ.wrap k (ρ.sub 0 n)))
  | .int k n, .xor => K (.int k (ρ.bits .xor k (if k.signed then -1 else k.max) n))
  | .bool b, .not => K (.bool (ρ.not b))
  | .unk, .not => K .unk
  | _, _ => none

def isU8 : Ty → Bool
  | .int .u8 => true
  | _ => false

def byteTV : TV → Bool
  | .int .u8 => true
  | _ => false

def convV (ρ : Prims) (T : Nat → TV) (src dst : Nat) (x : V) (K : V → Option β) : Option β :=
  match T src, T dst, x with
  | .int _, .int k, .int _ n => K (.int k (ρ.wrap k n))
  | .str, .str, .str s => K (.str s)
  | .sl _ ety _ _, .str, .sl _ (.int .u8) l => if byteTV (T ety) then K (.str (ρ.toStr l)) else none
  | .str, .sl _ ety (.int .u8) _, .str s => if byteTV (T ety) then K (.sl 2 (.int .u8) (ρ.ofStr s)) else none
  | _, _, _ => none
end

def fillV (place : Nat → Option (Nat × Nat)) (cells : List V) : List (Nat × V) → Option (List V)
  | [] => some cells
  | (i, v) :: r =>
    match place i with
    | none => none
    | some (off, n) =>
      if v.cells.length = n ∧ off + n ≤ cells.length then fillV place (cells.take off ++ v.cells ++ cells.drop (off + n)) r else none

def fillElsV (t : Ty) (els : List t.den) : List (Nat × V) → Option (List t.den)
  | [] => some els
  | (i, v) :: r => match ofVal t v.cells with
    | some x => if i < els.length then fillElsV t (els.set i x) r else none
    | none => none

def V.isTup : V → Option (List V)
  | .tup l => some l
  | _ => none

def V.isBor : V → Bool
  | .bor _ => true
  | _ => false

/-- What is appended, as elements of a type. -/
def moreV (ρ : Prims) (T : Nat → TV) (t : Ty) (ty : Nat) (d : V) : Option (List t.den) :=
  match T ty, d with
  | .sl .., .sl _ t' l => if h : t' = t then some (h ▸ l) else none
  | .str, .str s => if h : Ty.int .u8 = t then some (h ▸ (ρ.ofStr s : List (Ty.int .u8).den)) else none
  | _, _ => none

/-- Least, greatest. -/
def bestV (g : Int → Int → Int) : V → List V → Option V
  | .int k x, [] => some (.int k x)
  | .int k x, .int k' y :: r => if k = k' then bestV g (.int k (g x y)) r else none
  | _, _ => none

section
variable {β : Type}

def builtinK (ρ : Prims) (T : Nat → TV) (base : Nat) (b : Builtin) (xs : List Operand) (ts : List TypeId) (st : VS) (K : V → List Pl → VS → Option β) : Option β :=
  match b, xs, ts with
  | .len, [x], [t] =>
    match T t, st.see T t x with
    | .sl .., .sl _ _ l => K (.int .i64 (ρ.len l)) [] st
    | .str, .str s => K (.int .i64 (ρ.size s)) [] st
    | _, _ => none
  | .min, x :: r, _ => optK (bestV ρ.min (st.see T 3 x) (r.map (st.see T 3))) fun d => K d [] st
  | .max, x :: r, _ => optK (bestV ρ.max (st.see T 3 x) (r.map (st.see T 3))) fun d => K d [] st
  | .append, [x, y], [t, u] =>
    match T t with
    | .sl bytes _ e _ =>
      match moreV ρ T e u (st.see T u y), st.take base T t x with
      | some m, some (.sl f e' l, s) =>
        if h : e' = e then
          if (f = 1 ∨ f = 2) ∧ 0 < bytes ∧ 0 < e.width then whenK (ρ.fits (h ▸ l : List e.den) m bytes) (K (.sl f e (ρ.app (h ▸ l : List e.den) m)) [] s) else none
        else none
      | _, _ => none
    | _ => none
  | _, _, _ => none
end

/-- A function at some shapes of its arguments and boxes. -/
structure Sig where
  g : Nat
  na : Nat
  pure : Bool
  inT : Ty
  outT : Ty
  dirty : List Nat
  up : Bool

abbrev Sigs := Nat → Sig
abbrev TyC (sig : Sigs) := (j : Nat) → (sig j).inT.den → Option (sig j).outT.den

section
variable {β : Type}

def callK {sig : Sigs} (C : TyC sig) (inst : Nat → Nat) (base g : Nat) (args : List V) (st : VS) (K : V → List Pl → VS → Option β) : Option β :=
  let s := sig (inst g)
  if s.g = g ∧ s.na = args.length then
    match s.pure, lowOL 0 args with
    | true, some true =>
      match ofVal s.inT args with
      | some x => optK (C (inst g) x) fun y => match vals s.outT y with
        | [r] => match r.lowO 0 with
          | some true => K r [] st
          | _ => none
        | _ => none
      | none => none
    | false, some low =>
      match ofVal s.inT (args ++ st.bx.map .agg) with
      | some x => optK (C (inst g) x) fun y => match vals s.outT y with
        | r :: bs =>
          if low = false ∨ st.bx.isEmpty = false ∨ r.lowO 0 = some false then
            let st := st.forget fun p => match p with | .s .. => false | .b loc _ => s.dirty.contains loc
            K r [] { st with bx := bs.map V.cells, dirty := s.dirty.filter (· < base) ++ st.dirty, up := st.up || s.up }
          else none
        | _ => none
      | none => none
    | _, _ => none
  else none

def callVK {sig : Sigs} (ρ : Prims) (C : TyC sig) (T : Nat → TV) (inst : Nat → Nat) (base : Nat) (c : Call) (st : VS) (K : V → List Pl → VS → Option β) : Option β :=
  match c.callee with
  | .builtin b => builtinK ρ T base b c.args.toList c.argTypes.toList st K
  | .value f =>
    match st.see T 0 f with
    | .fn g first cap =>
      match st.uses base T (c.args.toList.zip c.argTypes.toList) with
      | some (ds, s) => if c.args.size = c.argTypes.size then callK C inst base g (first ++ ds ++ cap) s K else none
      | none => none
    | _ => none
  | _ => none

/-- A truth value in a slot: both ways, the slot told. -/
def litK (st : VS) (t : Nat) (b : Bool) (K : Bool → VS → Option β) : Option β :=
  splitK b (K true { st with tm := st.tm.set t (.bool true) }) (K false { st with tm := st.tm.set t (.bool false) })

def boolK (T : Nat → TV) (st : VS) (x : Operand) (K : Bool → VS → Option β) : Option β :=
  match x with
  | .tmp t => match st.get t with
    | .bool b => litK st t b K
    | _ => none
  | x => match st.raw T 0 x with
    | .bool b => splitK b (K true st) (K false st)
    | _ => none

def opVK {sig : Sigs} (ρ : Prims) (C : TyC sig) (T : Nat → TV) (inst : Nat → Nat) (base : Nat) (ds : List Nat) (o : Oper) (st : VS) (K : V → List Pl → VS → Option β) : Option β :=
  match o.op with
  | .move x =>
    match x with
    | .tmp t =>
      match ds.contains t, (st.get t).isTup with
      | true, some l => K (.tup l) [] { st with tm := st.tm.set t .undef }
      | true, none => optK (st.take base T o.type x) fun r => K r.1 [] r.2
      | false, none => K (borV t (st.get t)).1 (borV t (st.get t)).2 st
      | false, some _ => none
    | _ => optK (st.take base T o.type x) fun r => K r.1 [] r.2
  | .assign x =>
    match x with
    | .tmp t =>
      if ds.contains t && !(st.get t).isBor then optK (st.take base T o.type x) fun r => K r.1 [] r.2
      else optK (st.use base T o.type x) fun r => K r.1 [] r.2
    | _ => optK (st.take base T o.type x) fun r => K r.1 [] r.2
  | .pick c a b => boolK T st c fun c st => optK (st.use base T o.type (if c then a else b)) fun r => K r.1 [] r.2
  | .box ty x =>
    match st.take base T ty x with
    | some (d, s) => match lowOL (s.bx.length + 1) d.cells with
      | some low => if d.cells.length = (T ty).size ∧ 0 < (T ty).size then K (.ptr s.bx.length 0) [] { s with bx := s.bx ++ [d.cells], up := s.up || !low } else none
      | none => none
    | none => none
  | .load ty a =>
    match st.see T ty a with
    | .ptr loc off =>
      let n := (T ty).size
      if off + n ≤ (st.box loc).length ∧ 0 < n then
        let b := ldLeavesV (ds.contains viewM) (Pl.b loc) off (((st.box loc).drop off).take n)
        K (mkV (T ty).agg b.1) b.2 st
      else none
    | .rp l => if (T ty).size ≤ l.length ∧ 0 < (T ty).size then K (mkV (T ty).agg (l.take (T ty).size)) [] st else none
    | .ea p n i off =>
      match st.at p with
      | .sl _ t l => if t.width = n ∧ off + (T ty).size ≤ n ∧ 0 < (T ty).size then whenK (ρ.ltN i l) (K (mkV (T ty).agg (((vals t (ρ.nth t.dflt l i)).drop off).take (T ty).size)) [] st) else none
      | _ => none
    | _ => none
  | .fieldAddr s x f =>
    match T s with
    | .st fs _ =>
      match fs[f]? with
      | some (off, n, _) =>
        if n = 0 then none else
        match st.see T 0 x with
        | .ptr loc o => K (.ptr loc (o + off)) [] st
        | .rp l => K (.rp (l.drop off)) [] st
        | .ea p m i o => K (.ea p m i (o + off)) [p] st
        | _ => none
      | none => none
    | _ => none
  | .field ty x f =>
    match T ty, st.use base T ty x with
    | .st fs _, some (.agg l, s) =>
      match fs[f]? with
      | some (off, _, ft) => if 0 < (T ft).size ∧ off + (T ft).size ≤ l.length then K (mkV (T ft).agg ((l.drop off).take (T ft).size)) [] s else none
      | none => none
    | _, _ => none
  | .indexAddr ty x i =>
    match intV (st.see T 3 i), T ty with
    | some i, .sl _ _ e _ =>
      match st.raw T ty x with
      | .bor p =>
        match st.at p with
        | .sl f t l => if t.width = e.width then whenK (ρ.inb l i) (if f = 2 then K (.ea p t.width (ρ.nat i) 0) [p] st else K (.rp (vals t (ρ.nth t.dflt l (ρ.nat i)))) [] st) else none
        | _ => none
      | .sl f u l =>
        match tmpOf x with
        | some t => if u.width = e.width then whenK (ρ.inb l i) (if f = 2 then K (.ea (.s t 0) u.width (ρ.nat i) 0) [.s t 0] st else K (.rp (vals u (ρ.nth u.dflt l (ρ.nat i)))) [] st) else none
        | none => none
      | _ => none
    | some v, .arr len n _ _ =>
      let go (j : Nat) : Option β :=
        match st.see T 0 x with
        | .ptr loc o => K (.ptr loc (o + j * n)) [] st
        | .rp l => K (.rp (l.drop (j * n))) [] st
        | .ea p m h o => K (.ea p m h (o + j * n)) [p] st
        | _ => none
      match numC i with
      | some c => if c = v ∧ 0 ≤ c ∧ c < len then go c.toNat else none
      | none => caseK ρ v (List.range len) go
    | _, _ => none
  | .index ty x i =>
    match intV (st.see T 3 i), T ty, st.see T ty x with
    | some i, .str, .str s => whenK (ρ.inS s i) (K (.int .u8 (ρ.atS s i)) [] st)
    | _, _, _ => none
  | .slice ty x lo hi mx =>
    match T ty with
    | .str =>
      match st.see T ty x, mx with
      | .str s, none =>
        match (match hi with | some h => intV (st.see T 3 h) | none => some (ρ.size s)), (match lo with | some l => intV (st.see T 3 l) | none => some 0) with
        | some h, some l => whenK (ρ.bnd l h (ρ.size s)) (K (.str (ρ.ext s l h)) [] st)
        | _, _ => none
      | _, _ => none
    | .sl _ _ e _ =>
      match st.use base T ty x, mx with
      | some (.sl _ t l, s), none =>
        if t.width = e.width then
          match hi, lo with
          | none, none => K (.sl 0 t l) [] s
          | some h, none => match intV (st.see T 3 h) with
            | some h => whenK (ρ.bnd 0 h (ρ.len l)) (K (.sl 0 t (ρ.take l h)) [] s)
            | none => none
          | none, some lo => match intV (st.see T 3 lo) with
            | some lo => whenK (ρ.bnd lo (ρ.len l) (ρ.len l)) (K (.sl 0 t (ρ.drop l lo)) [] s)
            | none => none
          | some h, some lo => match intV (st.see T 3 h), intV (st.see T 3 lo) with
            | some h, some lo => whenK (ρ.bnd lo h (ρ.len l)) (K (.sl 0 t (ρ.drop (ρ.take l h) lo)) [] s)
            | _, _ => none
        else none
      | _, _ => none
    | _ => none
  | .makeSlice ty len cap =>
    match T ty, intV (st.see T 3 len), intV (st.see T 3 cap) with
    | .sl bytes _ t z, some l, some c => if 0 < bytes then
        match ofVal t z with
        | some z => whenK (ρ.mkOk l c bytes) (K (.sl 2 t (ρ.repl l z)) [] st)
        | none => none
      else none
    | _, _, _ => none
  | .buildSlice ty len parts =>
    match T ty with
    | .sl _ ety t z =>
      match st.uses base T (parts.toList.map fun p => (p.2, ety)) with
      | some (ds, s) =>
        if len * t.width ≤ 16777216 ∧ 0 < t.width then
          match ofVal t z with
          | some z => match fillElsV t (List.replicate len z) ((parts.toList.map (·.1)).zip ds) with
            | some l => K (.sl 2 t l) [] s
            | none => none
          | none => none
        else none
      | none => none
    | _ => none
  | .build ty parts =>
    match T ty with
    | .st fs z =>
      match st.takes base T (parts.toList.map fun p => (p.2, (fs.getD p.1 (0, 0, 0)).2.2)) with
      | some (ds, s) => optK (fillV (fun i => (fs[i]?).map fun f => (f.1, f.2.1)) z ((parts.toList.map (·.1)).zip ds)) fun l => K (.agg l) [] s
      | none => none
    | .arr len n ty z =>
      match st.takes base T (parts.toList.map fun p => (p.2, ty)) with
      | some (ds, s) => optK (fillV (fun i => if i < len then some (i * n, n) else none) z ((parts.toList.map (·.1)).zip ds)) fun l => K (.agg l) [] s
      | none => none
    | _ => none
  | .extract x i =>
    match x with
    | .tmp t =>
      match st.get t with
      | .tup l => match l[i]? with
        | some d => K d [] { st with tm := st.tm.set t (.tup (l.set i .undef)) }
        | none => none
      | _ => none
    | _ => none
  | .makeFunc fn first cap =>
    match fn, st.uses base T (first.toList.map fun x => (x, 0)) with
    | .func g, some (a, s) => match s.uses base T (cap.toList.map fun x => (x, 0)) with
      | some (b, s) => K (.fn g a b) [] s
      | none => none
    | _, _ => none
  | .binOp op ty x y _ => binOV ρ T ty op x y (st.see T ty x) (st.see T ty y) fun d => K d [] st
  | .unOp op ty x => unV ρ op (st.see T ty x) fun d => K d [] st
  | .convert src dst x => convV ρ T src dst (st.see T src x) fun d => K d [] st
  | .nilCheck x =>
    match st.see T 0 x with
    | .ptr loc off => K (.ptr loc off) [] st
    | _ => none
  | .call c => callVK ρ C T inst base c st K
  | _ => none

def opK {sig : Sigs} (ρ : Prims) (C : TyC sig) (T : Nat → TV) (inst : Nat → Nat) (base : Nat) (ds : List Nat) (al : Nat) (o : Oper) (st : VS) (K : VS → Option β) : Option β :=
  match o.op with
  | .store ty a x =>
    match st.see T 0 a with
    | .ptr loc off =>
      match st.take base T ty x with
      | some (d, s) => if d.cells.length = (T ty).size ∧ 0 < (T ty).size then optK (s.store base loc off d.cells) fun s => K (s.setO o.dst .undef) else none
      | none => none
    | .ea p n i off =>
      match st.use base T ty x with
      | some (d, s) =>
        match s.at p, lowOL 0 d.cells with
        | .sl 2 t l, some low =>
          if t.width = n ∧ d.cells.length = (T ty).size ∧ 0 < (T ty).size ∧ off + (T ty).size ≤ n then
            match ofVal t ((vals t (ρ.nth t.dflt l i)).take off ++ d.cells ++ (vals t (ρ.nth t.dflt l i)).drop (off + (T ty).size)) with
            | some e => whenK (ρ.ltN i l) (K ({ s.put base p (.sl 2 t (ρ.setN l i e)) with up := s.up || !low }.setO o.dst .undef))
            | none => none
          else none
        | _, _ => none
      | none => none
    | _ => none
  | .alloc ty => match (T ty).zero, st.bx[al]? with
    | some (x :: z), some [] => K ({ st with bx := st.bx.set al (x :: z) }.setO o.dst (.ptr al 0))
    | _, _ => none
  | _ =>
    opVK ρ C T inst base ds o st fun d ps s =>
      match o.dst with
      | some t => if ps.any (Pl.inSlot t) then none else let s := s.set t d; K { s with ln := ps.map (t, ·) ++ s.ln }
      | none => K s

/-- Is an operation wanted? -/
def wantK (ops : List Oper) (o : Oper) (st : VS) (K : Bool → VS → Option β) : Option β :=
  match o.guard with
  | none => K true st
  | some (j, want) => match (ops[j]?).bind (·.dst) with
    | some t => match st.get t with
      | .bool b => litK st t b fun c st => K (c == want) st
      | .tup [] => K false st
      | _ => none
    | none => K false st

def opsK {sig : Sigs} (ρ : Prims) (C : TyC sig) (T : Nat → TV) (inst : Nat → Nat) (base : Nat) (ops : List Oper) (tk : List Nat) (al : Nat) : List Nat → VS → (VS → Option β) → Option β
  | [], st, K => K st
  | i :: r, st, K =>
    match ops[i]? with
    | none => none
    | some o => wantK ops o st fun w st => match w with
      | true => opK ρ C T inst base (ownOf ops ++ tk) (al + allocsOf (ops.take i)) o st fun st => opsK ρ C T inst base ops tk al r st K
      | false => opsK ρ C T inst base ops tk al r (st.setO o.dst (.tup [])) K
end

def V.nbl : V → Bool
  | .bor _ | .ea .. => false
  | _ => true

def V.nb : V → Bool
  | .agg l => l.all V.nbl
  | d => d.nbl

/-- A call in a region whose order is open: one that sees no box. -/
def pureV (sig : Sigs) (T : Nat → TV) (inst : Nat → Nat) (o : Oper) (st : VS) : Bool :=
  match o.op with
  | .call c => match c.callee with
    | .value f => match st.see T 0 f with
      | .fn g _ _ => (sig (inst g)).pure
      | _ => false
    | _ => true
  | _ => true

def outOkV (T : Nat → TV) (ob : Option (List Nat)) (o : Oper) (st : VS) : Bool :=
  match ob with
  | none => true
  | some l => match o.op with
    | .load ty a => match st.see T ty a with
      | .ptr loc _ => !l.contains loc
      | _ => true
    | .store _ a _ => match st.see T 0 a with
      | .ptr loc _ => l.contains loc
      | _ => true
    | _ => true

section
variable {β : Type}
def opsQK {sig : Sigs} (ρ : Prims) (C : TyC sig) (T : Nat → TV) (inst : Nat → Nat) (base : Nat) (ops : List Oper) (tk : List Nat) (al : Nat) (ob : Option (List Nat)) : List Nat → VS → (VS → Option β) → Option β
  | [], st, K => K st
  | i :: r, st, K =>
    match ops[i]? with
    | none => none
    | some o =>
      if (footR ops o).all (fun t => (st.get t).nb) = true ∧ outOkV T ob o st = true then
        wantK ops o st fun w st => match w with
          | true => if pureV sig T inst o st = true then
              opK ρ C T inst base (ownOf ops ++ tk) (al + allocsOf (ops.take i)) o st fun s => match s.ln with
                | [] => opsQK ρ C T inst base ops tk al ob r s K
                | _ => none
            else none
          | false => opsQK ρ C T inst base ops tk al ob r (st.setO o.dst (.tup [])) K
      else none
end

def VS.chill (base : Nat) (st : VS) (p : Pl) : VS :=
  match (st.down base p).at p with
  | .sl 1 n l => (st.down base p).put base p (.sl 0 n l)
  | _ => st.down base p

def VS.chills (base : Nat) (st : VS) : List Pl → VS
  | [] => st
  | p :: r => (st.chill base p).chills base r

def VS.pls (st : VS) (x : Nat × List Nat) : List Pl :=
  match st.get x.1 with
  | .ptr loc off => match x.2 with
    | [] => (List.range (st.box loc).length).map (Pl.b loc)
    | js => js.map fun j => Pl.b loc (off + j)
  | .agg l => match x.2 with
    | [] => (List.range l.length).map (Pl.s x.1)
    | js => js.map (Pl.s x.1)
  | _ => [.s x.1 0]

def VS.cools (base : Nat) (st : VS) : List Pl → VS
  | [] => st
  | p :: r => (st.down base p).cools base r

def VS.frost (base : Nat) (st : VS) : List (Nat × List Nat) → VS
  | [] => st
  | t :: r => VS.frost base (if t.1 < coolM then st.chills base (st.pls t) else st.cools base (st.pls (t.1 - coolM, t.2))) r

def clearSlotsV : List Nat → List V → List V
  | [], tm => tm
  | t :: r, tm => clearSlotsV r (tm.set t .undef)

def regionEndV (keep : List Nat) (ops : List Oper) (st : VS) : VS :=
  { st with tm := clearSlotsV ((ops.filterMap (·.dst)).filter fun t => !keep.contains t) (clearAllV st.tm st.ln), ln := [] }

def outsOfV (st : VS) : List Nat → Option (List Nat)
  | [] => none
  | l => some (l.filterMap fun t => match st.get t with
    | .ptr loc _ => some loc
    | _ => none)

/-- The shape of a state: how many slots, which are told, the boxes. -/
structure Sh where
  n : Nat
  live : List (Nat × Ty)
  cold : List (Nat × List Nat)
  bx : List Ty
  dirty : List Nat
  up : Bool

def listTy : List Ty → Ty
  | [] => .unit
  | [a] => a
  | a :: r => .pair a (listTy r)

def Sh.ty (sh : Sh) : Ty := listTy (sh.live.map (·.2) ++ sh.bx.map .agg)

def onlyV (live : List Nat) : Nat → List V → List V
  | _, [] => []
  | i, v :: r => (if live.contains i then v else .undef) :: onlyV live (i + 1) r

def cutV (base n : Nat) (low : Bool) (s : VS) : List (List V) :=
  if s.up = false ∧ low = true ∧ base ≤ n then s.bx.take n else s.bx

def packS (base : Nat) (sh : Sh) (st : VS) : Option sh.ty.den :=
  let s := st.frost base sh.cold
  let tm := onlyV (sh.live.map (·.1)) 0 s.tm
  match lowOL sh.bx.length tm with
  | none => none
  | some low =>
    let bx := cutV base sh.bx.length low s
    if s.tm.length = sh.n ∧ bx.length = sh.bx.length ∧ s.ln.isEmpty = true ∧ s.up = sh.up ∧ s.dirty.all (fun x => sh.dirty.contains x) = true then
      ofVal sh.ty (sh.live.map (fun x => tm.getD x.1 .undef) ++ bx.map .agg)
    else none

def findV (t : Nat) : List (Nat × Ty) → List V → V
  | (u, _) :: r, v :: vs => if u = t then v else findV t r vs
  | _, _ => .undef

def unpackS (sh : Sh) (x : sh.ty.den) : VS :=
  let vs := vals sh.ty x
  { tm := (List.range sh.n).map fun t => findV t sh.live vs
    bx := (vs.drop sh.live.length).map V.cells
    ln := [], dirty := sh.dirty, up := sh.up }

/-- What is told from outside of a function: whatever it says. -/
structure VP where
  keep : List Nat
  cold : Nat → List (Nat × List Nat)
  take : Nat → List Nat
  outs : Nat → List Nat
  fin : List (Nat × List Nat)
  inst : Nat → Nat → Nat
  loop : Nat → Option Sh
  join : Nat → Option Sh
  rjoin : Nat → Option Sh

def regionK {sig : Sigs} {β : Type} (ρ : Prims) (C : TyC sig) (T : Nat → TV) (p : VP) (base id : Nat) (ops : Array Oper) (draw : Bool) (st : VS) (K : VS → Option β) : Option β :=
  let s0 : VS := { st.frost base (p.cold id) with bx := (st.frost base (p.cold id)).bx ++ (zeroBoxes ops.toList).map (fun _ => []), ln := [] }
  match draw with
  | false => opsK ρ C T (p.inst id) base ops.toList (p.take id) st.bx.length (List.range ops.size) s0 fun s => K (regionEndV p.keep ops.toList s)
  | true =>
    match openB true (!(p.outs id).isEmpty) (p.take id) ops.toList with
    | true => opsQK ρ C T (p.inst id) base ops.toList (p.take id) st.bx.length (outsOfV st (p.outs id)) (List.range ops.size) s0 fun s => K (regionEndV p.keep ops.toList s)
    | false => none

inductive XE where
  | normal
  | exit (id : Nat)
  | ret

def isUnk : V → Bool
  | .unk => true
  | _ => false

def codeK {sig : Sigs} (ρ : Prims) (C : TyC sig) (T : Nat → TV) (p : VP) (base k : Nat) : Code → (β : Type) → VS → (XE → VS → Option β) → Option β
  | .skip, _, st, K => K .normal st
  | .label _, _, st, K => K .normal st
  | .region id ops draw, _, st, K =>
    match p.rjoin id with
    | none => regionK ρ C T p base id ops draw st fun s => K .normal s
    | some sh => optK (regionK ρ C T p base id ops draw st fun s => packS base sh s) fun x => K .normal (unpackS sh x)
  | .seq a b, β, st, K =>
    match p.join (headId b) with
    | none => codeK ρ C T p base k a β st fun e s => match e with
      | .normal => codeK ρ C T p base k b β s K
      | e => K e s
    | some sh =>
      optK (codeK ρ C T p base k a (sh.ty.den ⊕ β) st fun e s => match e with
        | .normal => (packS base sh s).map .inl
        | e => (K e s).map .inr) fun z => match z with
        | .inl x => codeK ρ C T p base k b β (unpackS sh x) K
        | .inr r => some r
  | .cond c a b, β, st, K =>
    match isUnk (st.see T 0 c) with
    | true => ρ.both (codeK ρ C T p base k a β st K) (codeK ρ C T p base k b β st K)
    | false => boolK T st c fun w st => match w with
      | true => codeK ρ C T p base k a β st K
      | false => codeK ρ C T p base k b β st K
  | .block id c, β, st, K => codeK ρ C T p base k c β st fun e s => match e with
    | .exit id' => if id' = id then K .normal s else K (.exit id') s
    | e => K e s
  | .loop c, β, st, K =>
    match p.loop (headId c) with
    | none => none
    | some sh => optK (packS base sh st) fun x0 =>
      ρ.loop k (fun x => codeK ρ C T p base k c (sh.ty.den ⊕ β) (unpackS sh x) fun e s => match e with
        | .normal => (packS base sh s).map .inl
        | e => (K e s).map .inr) x0
  | .exit id, _, st, K => K (.exit id) st
  | .ret, _, st, K => K .ret st
  | _, _, _, _ => none

def resVV (T : Nat → TV) (base : Nat) (st : VS) : List ResultVar → Option (List V × VS)
  | [] => some ([], st)
  | .tmp t :: r =>
    match st.take base T 0 (.tmp t) with
    | some (d, s) => match resVV T base s r with
      | some (l, s) => some (d :: l, s)
      | none => none
    | none => none
  | .cell a ty :: r =>
    match st.get a with
    | .ptr loc off =>
      let n := (T ty).size
      if off + n ≤ (st.box loc).length ∧ 0 < n then
        match takeV base st none (mkV (T ty).agg (borLeavesV (Pl.b loc) off (((st.box loc).drop off).take n)).1) with
        | some (d, s) => match resVV T base s r with
          | some (l, s) => some (d :: l, s)
          | none => none
        | none => none
      else none
    | _ => none

def tupV : List V → V
  | [d] => d
  | l => .tup l

/-- A function's end. -/
def endK (s : Sig) (T : Nat → TV) (base : Nat) (rs : List ResultVar) (e : XE) (st : VS) : Option s.outT.den :=
  match e with
  | .exit _ => none
  | _ =>
    match resVV T base st rs with
    | some (l, st) =>
      match (tupV l).lowO base with
      | some low =>
        let bx := if low = true ∧ st.up = false then st.bx.take base else st.bx
        let up := if low = true ∧ st.up = false then false else st.up
        if s.up = up ∧ st.dirty.all (fun x => s.dirty.contains x) = true then
          ofVal s.outT (tupV l :: bx.map .agg)
        else none
      | none => none
    | none => none

def bodyV {sig : Sigs} (ρ : Prims) (C : TyC sig) (T : Nat → TV) (p : VP) (fn : Func) (k j : Nat) (x : (sig j).inT.den) : Option (sig j).outT.den :=
  match fn.body with
  | none => none
  | some c =>
    let vs := vals (sig j).inT x
    let bx := (vs.drop (sig j).na).map V.cells
    codeK ρ C T p bx.length k c (sig j).outT.den { tm := vs.take (sig j).na ++ List.replicate (fn.ntmps - (vs.take (sig j).na).length) .undef, bx, ln := [], dirty := [], up := false } fun e s => endK (sig j) T bx.length fn.results.toList e (s.frost bx.length p.fin)

end Go.PI
