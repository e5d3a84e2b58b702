/- A pure interpreter of the translated code: values without memory (slices are lists), variables in numbered boxes. Definitions alone. -/
import Derived.Calls
import Derived.Below
namespace Go.PI
open Go

/-- The numbers that a type's rows tell: its cells, its bytes, its zero cells. -/
structure El where
  cells : Nat
  bytes : Nat
  ty : Nat

/-- A place that holds a slice: leaf j of a slot, of a box. -/
inductive Pl where
  | s (t j : Nat)
  | b (loc j : Nat)
  deriving DecidableEq

/-- A value. 'sl f n l': a slice of elements of n cells each; f = 0: nothing may be done to it; 1: it may be appended to; 2: written, too. -/
inductive D where
  | int (k : IntKind) (n : Int)
  | bool (b : Bool)
  | str (s : ByteArray)
  | sl (f : Nat) (n : Nat) (l : List (List D))
  | agg (l : List D)
  | tup (l : List D)
  | ptr (loc off : Nat)
  | nilp
  | fn (f : Fn) (first cap : List D)
  | nilf
  | iface (t : TypeId) (v : D)
  | nili
  | rp (cells : List D)
  | bor (p : Pl)
  | ea (p : Pl) (n i off : Nat)
  | unk
  | undef

/-- What a type is. -/
inductive TI where
  | int (k : IntKind)
  | bool
  | str
  | sl (e : El) (zero : List D)
  | st (fs : List (Nat × Nat × Nat)) (zero : List D)
  | arr (len n ty : Nat) (zero : List D)
  | ptr
  | fn
  | ifc
  | other

def TI.agg : TI → Bool
  | .st .. | .arr .. => true
  | _ => false

/-- The zero value's cells. -/
def TI.zero : TI → Option (List D)
  | .int k => some [.int k 0]
  | .bool => some [.bool false]
  | .str => some [.str ⟨#[]⟩]
  | .sl e _ => some [.sl 2 e.cells []]
  | .st _ z | .arr _ _ _ z => some z
  | .ptr => some [.nilp]
  | .fn => some [.nilf]
  | .ifc => some [.nili]
  | .other => none

def TI.size (t : TI) : Nat := (t.zero.getD []).length

structure St where
  tm : List D
  bx : List (List D)
  ln : List (Nat × Pl)
  dirty : List Nat
  up : Bool

def D.leaf : D → Nat → D
  | .agg l, j => l.getD j .undef
  | d, 0 => d
  | _, _ + 1 => .undef

def D.setLeaf : D → Nat → D → D
  | .agg l, j, x => .agg (l.set j x)
  | _, 0, x => x
  | d, _ + 1, _ => d

def St.get (st : St) (t : Nat) : D := st.tm.getD t .undef
def St.box (st : St) (loc : Nat) : List D := st.bx.getD loc []

def St.at (st : St) : Pl → D
  | .s t j => (st.get t).leaf j
  | .b loc j => (st.box loc).getD j .undef

/-- A place gets another value; nothing in memory moves. 'base': below it boxes are old. -/
def St.put (base : Nat) (st : St) (p : Pl) (x : D) : St :=
  match p with
  | .s t j => { st with tm := st.tm.set t ((st.get t).setLeaf j x) }
  | .b loc j => { st with bx := st.bx.set loc ((st.box loc).set j x), dirty := if loc < base then loc :: st.dirty else st.dirty }

/-- What is borrowed from a slot, or from a box's cells, is forgotten. -/
def Pl.inSlot (t : Nat) : Pl → Bool
  | .s u _ => u == t
  | .b .. => false

def Pl.inBox (loc off n : Nat) : Pl → Bool
  | .s .. => false
  | .b l j => l == loc && (off ≤ j && j < off + n)

def clearAll (tm : List D) : List (Nat × Pl) → List D
  | [] => tm
  | (t, _) :: r => clearAll (tm.set t .undef) r

def St.forget (st : St) (c : Pl → Bool) : St :=
  match st.ln with
  | [] => st
  | ln => { st with tm := clearAll st.tm (ln.filter fun x => c x.2), ln := ln.filter fun x => !c x.2 }

/-- A slot is written. -/
def St.set (st : St) (t : Nat) (d : D) : St :=
  let st := st.forget (Pl.inSlot t)
  { st with tm := st.tm.set t d, ln := st.ln.filter fun x => x.1 != t }

def St.setO (st : St) (t : Option Nat) (d : D) : St :=
  match t with
  | some t => st.set t d
  | none => st

/-- A place's slice may not be written any more; is given away. -/
def St.down (base : Nat) (st : St) (p : Pl) : St :=
  match st.at p with
  | .sl 2 n l => st.put base p (.sl 1 n l)
  | _ => st

def St.undo (base : Nat) (st : St) (p : Pl) : St :=
  match st.at p with
  | .sl _ _ _ => st.put base p .undef
  | _ => st

/-- A leaf without any right (none: it can't be told). What is borrowed is looked up; what could be written may not be written any more. -/
def leafUse (base : Nat) (st : St) (p : Option Pl) : D → Option (D × St)
  | .sl _ n l =>
    match p with
    | none => some (.sl 0 n l, st)
    | some q => match st.at q with
      | .sl f n l => some (.sl 0 n l, if f = 2 then st.down base q else st)
      | _ => none
  | .bor q =>
    match st.at q with
    | .sl f n l => some (.sl 0 n l, if f = 2 then st.down base q else st)
    | _ => none
  | .undef => none
  | .ea .. => none
  | .rp _ => none
  | .agg _ => none
  | .tup _ => none
  | d => some (d, st)

def leavesUse (base : Nat) (p : Nat → Option Pl) : Nat → St → List D → Option (List D × St)
  | _, st, [] => some ([], st)
  | j, st, d :: r =>
    match leafUse base st (p j) d with
    | some (x, st) => match leavesUse base p (j + 1) st r with
      | some (y, st) => some (x :: y, st)
      | none => none
    | none => none

/-- A value without any right, to be kept. -/
def useD (base : Nat) (st : St) (t : Option Nat) : D → Option (D × St)
  | .agg l => (leavesUse base (fun j => t.map (Pl.s · j)) 0 st l).map fun (l, s) => (.agg l, s)
  | d => leafUse base st (t.map (Pl.s · 0)) d

/-- A leaf with its rights: what it is taken from keeps nothing. -/
def leafTake (base : Nat) (st : St) (p : Option Pl) : D → Option (D × St)
  | .sl f n l =>
    match p with
    | none => some (.sl f n l, st)
    | some q => match st.at q with
      | .sl f n l => some (.sl f n l, if f = 0 then st else st.undo base q)
      | _ => none
  | .bor q =>
    match st.at q with
    | .sl f n l => some (.sl f n l, if f = 0 then st else st.undo base q)
    | _ => none
  | .undef => none
  | .ea .. => none
  | .rp _ => none
  | .agg _ => none
  | .tup _ => none
  | d => some (d, st)

def leavesTake (base : Nat) (p : Nat → Option Pl) : Nat → St → List D → Option (List D × St)
  | _, st, [] => some ([], st)
  | j, st, d :: r =>
    match leafTake base st (p j) d with
    | some (x, st) => match leavesTake base p (j + 1) st r with
      | some (y, st) => some (x :: y, st)
      | none => none
    | none => none

def takeD (base : Nat) (st : St) (t : Option Nat) : D → Option (D × St)
  | .agg l => (leavesTake base (fun j => t.map (Pl.s · j)) 0 st l).map fun (l, s) => (.agg l, s)
  | d => leafTake base st (t.map (Pl.s · 0)) d

/-- A constant, at a type. -/
def constD (T : Nat → TI) (ty : Nat) : Value → D
  | .int k n => .int k n
  | .bool b => .bool b
  | .string s => .str s
  | .slice none 0 0 => match T ty with
    | .sl e _ => .sl 2 e.cells []
    | _ => .undef
  | .pointer none => .nilp
  | .nilFunc => .nilf
  | .nilIface => .nili
  | _ => .undef

/-- What stands in an operand, as it stands. -/
def St.raw (st : St) (T : Nat → TI) (ty : Nat) : Operand → D
  | .tmp t => st.get t
  | .const v => constD T ty v
  | .func f => .fn (.func f) [] []
  | .global _ => .undef

def tmpOf : Operand → Option Nat
  | .tmp t => some t
  | _ => none

/-- An operand's value without rights, to be kept. -/
def St.use (base : Nat) (st : St) (T : Nat → TI) (ty : Nat) (x : Operand) : Option (D × St) :=
  useD base st (tmpOf x) (st.raw T ty x)

/-- An operand's value with its rights. -/
def St.take (base : Nat) (st : St) (T : Nat → TI) (ty : Nat) (x : Operand) : Option (D × St) :=
  takeD base st (tmpOf x) (st.raw T ty x)

/-- An operand's leaf, looked at on the spot: what is borrowed is looked up. -/
def St.see (st : St) (T : Nat → TI) (ty : Nat) (x : Operand) : D :=
  match st.raw T ty x with
  | .bor p => match st.at p with
    | .sl f n l => .sl f n l
    | _ => .undef
  | d => d

def St.uses (base : Nat) (st : St) (T : Nat → TI) : List (Operand × Nat) → Option (List D × St)
  | [] => some ([], st)
  | (x, ty) :: r =>
    match st.use base T ty x with
    | none => none
    | some (d, st1) => match st1.uses base T r with
      | none => none
      | some (ds, st2) => some (d :: ds, st2)

def St.takes (base : Nat) (st : St) (T : Nat → TI) : List (Operand × Nat) → Option (List D × St)
  | [] => some ([], st)
  | (x, ty) :: r =>
    match st.take base T ty x with
    | none => none
    | some (d, st1) => match st1.takes base T r with
      | none => none
      | some (ds, st2) => some (d :: ds, st2)

/-- The cells of a value. -/
def D.cells : D → List D
  | .agg l => l
  | d => [d]

/-- Cells as a value of a type. -/
def mkD (agg : Bool) (l : List D) : D :=
  if agg then .agg l else l.getD 0 .undef

/-- Leaves borrowed from places: those with a right. -/
def borLeaf (p : Pl) : D → D × List Pl
  | .sl 0 n l => (.sl 0 n l, [])
  | .sl _ _ _ => (.bor p, [p])
  | .bor q => (.bor q, [q])
  | .ea .. => (.undef, [])
  | d => (d, [])

def borLeaves (p : Nat → Pl) : Nat → List D → List D × List Pl
  | _, [] => ([], [])
  | j, d :: r => let x := borLeaf (p j) d; let y := borLeaves p (j + 1) r; (x.1 :: y.1, x.2 ++ y.2)

/-- A mark among the slots that an open region takes: what is loaded there from boxes is looked at alone (a slice that may be appended to keeps that right at its place). -/
def viewM : Nat := 1000003

def viewLeaf : D → D
  | .sl 0 n l => .sl 0 n l
  | .sl 1 n l => .sl 0 n l
  | .sl _ _ _ => .undef
  | .bor _ => .undef
  | .ea .. => .undef
  | d => d

def ldLeaves (v : Bool) (p : Nat → Pl) (j : Nat) (l : List D) : List D × List Pl :=
  match v with
  | true => (l.map viewLeaf, [])
  | false => borLeaves p j l

def borD (t : Nat) : D → D × List Pl
  | .agg l => let x := borLeaves (Pl.s t) 0 l; (.agg x.1, x.2)
  | .ea p n i off => (.ea p n i off, [p])
  | d => borLeaf (Pl.s t 0) d

mutual
/-- No pointer to a box from 'n' on. -/
def D.low (n : Nat) : D → Bool
  | .ptr loc _ => decide (loc < n)
  | .sl _ _ l => lowLL n l
  | .agg l => lowL n l
  | .tup l => lowL n l
  | .fn _ a b => lowL n a && lowL n b
  | .iface _ v => v.low n
  | .rp l => lowL n l
  | .bor (.b loc _) => decide (loc < n)
  | .ea (.b loc _) _ _ _ => decide (loc < n)
  | _ => true
def lowL (n : Nat) : List D → Bool
  | [] => true
  | d :: r => d.low n && lowL n r
def lowLL (n : Nat) : List (List D) → Bool
  | [] => true
  | l :: r => lowL n l && lowLL n r
end

/-- Box loc's cells from off on. -/
def St.store (base : Nat) (st : St) (loc off : Nat) (xs : List D) : Option St :=
  if off + xs.length ≤ (st.box loc).length then
    let st := st.forget (Pl.inBox loc off xs.length)
    some { st with
      bx := st.bx.set loc ((st.box loc).take off ++ xs ++ (st.box loc).drop (off + xs.length))
      dirty := if loc < base then loc :: st.dirty else st.dirty
      up := st.up || !lowL (loc + 1) xs }
  else none

def intD : D → Option Int
  | .int _ n => some n
  | _ => none

def boolD : D → Option Bool
  | .bool b => some b
  | _ => none

def eqLeaf : D → D → Option Bool
  | .int k a, .int k' b => if k = k' then some (a == b) else none
  | .bool a, .bool b => some (a == b)
  | .str a, .str b => some (a.toList == b.toList)
  | .nilp, .nilp => some true
  | .ptr _ _, .nilp | .nilp, .ptr _ _ => some false
  | _, _ => none

def eqLeaves : List D → List D → Option Bool
  | [], [] => some true
  | a :: x, b :: y => match eqLeaf a b, eqLeaves x y with
    | some p, some q => some (p && q)
    | _, _ => none
  | _, _ => none

def bitsOf (op : BinOp) (k : IntKind) (x y : Int) : Int :=
  let a := BitVec.ofInt k.bits x
  let b := BitVec.ofInt k.bits y
  match op with
  | .and => k.wrap (a &&& b).toNat
  | .or => k.wrap (a ||| b).toNat
  | .xor => k.wrap (a ^^^ b).toNat
  | _ => k.wrap (a &&& ~~~b).toNat

def binD (ti : TI) (op : BinOp) : D → D → Option D
  | .int k a, .int k' b =>
    match op with
    | .shl => if b < 0 then none else some (.int k (k.wrap (a * 2 ^ (min b.toNat k.bits))))
    | .shr => if b < 0 then none else some (.int k (a.fdiv (2 ^ (min b.toNat k.bits))))
    | _ => if k = k' then
      match op with
      | .add => some (.int k (k.wrap (a + b)))
      | .sub => some (.int k (k.wrap (a - b)))
      | .mul => some (.int k (k.wrap (a * b)))
      | .quo => if b = 0 then none else some (.int k (k.wrap (a.tdiv b)))
      | .rem => if b = 0 then none else some (.int k (a.tmod b))
      | .and | .or | .xor | .andNot => some (.int k (bitsOf op k a b))
      | .eql => some (.bool (a == b))
      | .neq => some (.bool (a != b))
      | .lss => some (.bool (decide (a < b)))
      | .leq => some (.bool (decide (a ≤ b)))
      | .gtr => some (.bool (decide (a > b)))
      | .geq => some (.bool (decide (a ≥ b)))
      | _ => none
      else none
  | .str a, .str b =>
    match op with
    | .add => if ((a.size + b.size : Nat) : Int) > IntKind.i64.max then none else some (.str (a ++ b))
    | .eql => some (.bool (a.toList == b.toList))
    | .neq => some (.bool !(a.toList == b.toList))
    | .lss => some (.bool (Op.bytesLess a.toList b.toList))
    | .leq => some (.bool (Op.bytesLess a.toList b.toList || a.toList == b.toList))
    | .gtr => some (.bool !(Op.bytesLess a.toList b.toList || a.toList == b.toList))
    | .geq => some (.bool !(Op.bytesLess a.toList b.toList))
    | _ => none
  | .bool a, .bool b =>
    match ti, op with
    | .bool, .eql => some (.bool (a == b))
    | .bool, .neq => some (.bool (a != b))
    | _, _ => none
  | x, y =>
    match ti, op with
    | .ptr, .eql => (eqLeaf x y).map .bool
    | .ptr, .neq => (eqLeaf x y).map fun b => .bool !b
    | _, _ => none

/-- Equality of leaves, at a type. -/
def eqLeafT : TI → D → D → Option Bool
  | .int _, .int k a, .int k' b => if k = k' then some (a == b) else none
  | .bool, .bool a, .bool b => some (a == b)
  | .str, .str a, .str b => some (a == b)
  | .ptr, .nilp, .nilp => some true
  | .ptr, .ptr _ _, .nilp => some false
  | .ptr, .nilp, .ptr _ _ => some false
  | _, _, _ => none

def eqFields (S : Nat → Nat) (E : Nat → List D → List D → Option Bool) : List (Nat × Nat × Nat) → List D → List D → Option Bool
  | [], _, _ => some true
  | (off, _, ft) :: r, x, y =>
    if off + S ft ≤ x.length ∧ off + S ft ≤ y.length then
      match E ft ((x.drop off).take (S ft)) ((y.drop off).take (S ft)) with
      | some true => eqFields S E r x y
      | some false => some false
      | none => none
    else none

/-- Equality of values' cells, at a type. -/
def eqD (T : Nat → TI) : Nat → Nat → List D → List D → Option Bool
  | 0, _, _, _ => none
  | k + 1, ty, x, y =>
    match T ty with
    | .st fs _ => eqFields (fun t => (T t).size) (eqD T k) fs x y
    | .arr .. => none
    | ti => match x, y with
      | [a], [b] => eqLeafT ti a b
      | _, _ => none

/-- A type whose values' equality is that of numbers, truth values, strings and pointers with nil. -/
def plainT (T : Nat → TI) : Nat → Nat → Bool
  | 0, _ => false
  | k + 1, ty =>
    match T ty with
    | .st fs _ => fs.all fun f => plainT T k f.2.2
    | .int _ | .bool | .str | .ptr => true
    | _ => false

def boolOp (op : BinOp) (b : Bool) : Option D :=
  match op with
  | .eql => some (.bool b)
  | .neq => some (.bool !b)
  | _ => none

/-- Equality of structs and arrays; all else. -/
def binA (T : Nat → TI) (ty : Nat) (op : BinOp) : D → D → Option D
  | .agg a, .agg b => if plainT T 8 ty = true ∧ (T ty).agg = true then (eqD T 8 ty a b).bind (boolOp op) else none
  | x, y => binD (T ty) op x y

/-- Is an operand the nil of a slice (0), a function (1), an interface (2)? -/
def nilC : Operand → Option Nat
  | .const (.slice none 0 0) => some 0
  | .const .nilFunc => some 1
  | .const .nilIface => some 2
  | _ => none

/-- Compared with nil. -/
def binN (ti : TI) (op : BinOp) (c : Nat) : D → Option D
  | .sl _ _ l => match ti, c with
    | .sl .., 0 => match l with
      | [] => match op with
        | .eql | .neq => some .unk
        | _ => none
      | _ :: _ => boolOp op false
    | _, _ => none
  | .nilf => match ti, c with
    | .fn, 1 => boolOp op true
    | _, _ => none
  | .fn .. => match ti, c with
    | .fn, 1 => boolOp op false
    | _, _ => none
  | .nili => match ti, c with
    | .ifc, 2 => boolOp op true
    | _, _ => none
  | .iface .. => match ti, c with
    | .ifc, 2 => boolOp op false
    | _, _ => none
  | _ => none

def binO (T : Nat → TI) (ty : Nat) (op : BinOp) (cx cy : Option Nat) (x y : D) : Option D :=
  match cy, cx with
  | some c, _ => binN (T ty) op c x
  | none, some c => binN (T ty) op c y
  | none, none => binA T ty op x y

def unD (op : UnOp) : D → Option D
  | .unk =>
    match op with
    | .not => some .unk
    | _ => none
  | .int k n =>
    match op with
    | .neg => some (.int k (k.wrap (0 - n)))
    | .xor => some (.int k (bitsOf .xor k (if k.signed then -1 else k.max) n))
    | _ => none
  | .bool b =>
    match op with
    | .not => some (.bool !b)
    | _ => none
  | _ => none

/-- A string's bytes as a slice's elements; back. -/
def byteElems (s : List UInt8) : List (List D) := s.map fun b => [.int .u8 b.toNat]

def elemsBytes : List (List D) → Option (List UInt8)
  | [] => some []
  | [.int .u8 n] :: r => (elemsBytes r).map (UInt8.ofNat n.toNat :: ·)
  | _ => none

def byteT : TI → Bool
  | .int .u8 => true
  | _ => false

def convD (T : Nat → TI) (src dst : Nat) (x : D) : Option D :=
  match T src, T dst, x with
  | .int _, .int k, .int _ n => some (.int k (k.wrap n))
  | .str, .str, .str s => some (.str s)
  | .sl e _, .str, .sl _ 1 l => if byteT (T e.ty) then (elemsBytes l).map fun b => .str ⟨b.toArray⟩ else none
  | .str, .sl e _, .str s => if byteT (T e.ty) ∧ e.cells = 1 then some (.sl 2 1 (byteElems s.data.toList)) else none
  | _, _, _ => none

/-- Parts put into zero cells. -/
def fillD (place : Nat → Option (Nat × Nat)) (cells : List D) : List (Nat × D) → Option (List D)
  | [] => some cells
  | (i, v) :: r =>
    match place i with
    | none => none
    | some (off, n) =>
      if v.cells.length = n ∧ off + n ≤ cells.length then fillD place (cells.take off ++ v.cells ++ cells.drop (off + n)) r else none

def fillEls (n : Nat) (els : List (List D)) : List (Nat × D) → Option (List (List D))
  | [] => some els
  | (i, v) :: r => if v.cells.length = n ∧ i < els.length then fillEls n (els.set i v.cells) r else none

/-- As many bytes as one slice may have behind an append. -/
def room : Nat := 140737488355328

def D.isTup : D → Option (List D)
  | .tup l => some l
  | _ => none

def D.isBor : D → Bool
  | .bor _ => true
  | _ => false

def zerosD (z : List D) (n : Nat) : List (List D) := List.replicate n z

/-- A slice that is looked at: its elements' width and elements. -/
def seeSl : D → Option (Nat × List (List D))
  | .sl _ n l => some (n, l)
  | _ => none

/-- What is appended: as elements of n cells. -/
def moreOf (T : Nat → TI) (n ty : Nat) (d : D) : Option (List (List D)) :=
  match T ty, d with
  | .sl _ _, .sl _ m l => if m = n then some l else none
  | .str, .str s => if n = 1 then some (byteElems s.data.toList) else none
  | _, _ => none

abbrev Ret := Option (D × List (List D) × List Nat × Bool)

/-- A function's call: number, arguments, boxes; what it answers, the boxes behind it, which old ones it touched. -/
abbrev CallT := Nat → List D → List (List D) → Ret

/-- The least, the greatest of integers. -/
def bestD (g : Int → Int → Bool) : D → List D → Option D
  | .int k x, [] => some (.int k x)
  | .int k x, .int k' y :: r => if k = k' then bestD g (.int k (if g x y then y else x)) r else none
  | _, _ => none

def builtinV (T : Nat → TI) (base : Nat) : Builtin → List Operand → List TypeId → St → Option (D × List Pl × St)
  | .len, [x], [t], st =>
    match T t, st.see T t x with
    | .sl _ _, .sl _ _ l => some (.int .i64 l.length, [], st)
    | .str, .str s => some (.int .i64 s.size, [], st)
    | _, _ => none
  | .min, x :: r, _, st => (bestD (fun x y => decide (y < x)) (st.see T 3 x) (r.map (st.see T 3))).map fun d => (d, [], st)
  | .max, x :: r, _, st => (bestD (fun x y => decide (y > x)) (st.see T 3 x) (r.map (st.see T 3))).map fun d => (d, [], st)
  | .append, [x, y], [t, u], st =>
    match T t with
    | .sl e _ =>
      match moreOf T e.cells u (st.see T u y), st.take base T t x with
      | some m, some (.sl f n l, s) =>
        if (f = 1 ∨ f = 2) ∧ n = e.cells ∧ (l.length + m.length) * e.bytes ≤ room ∧ 0 < e.bytes ∧ 0 < e.cells then some (.sl f e.cells (l ++ m), [], s) else none
      | _, _ => none
    | _ => none
  | _, _, _, _ => none

/-- A function is called. With arguments that lead to no box it sees no box. -/
def callG (C : CallT) (base : Nat) (g : Nat) (args : List D) (s : St) : Option (D × List Pl × St) :=
  match C g args s.bx with
  | some (r, bx, dirty, up) =>
    let s := s.forget fun p => match p with | .s .. => false | .b loc _ => dirty.contains loc
    some (r, [], { s with bx, dirty := dirty.filter (· < base) ++ s.dirty, up := s.up || up })
  | none => none

def callS (C : CallT) (base : Nat) (g : Nat) (args : List D) (s : St) : Option (D × List Pl × St) :=
  match lowL 0 args with
  | true =>
    match C g args [] with
    | some (r, _, _, _) =>
      match r.low 0 with
      | true => some (r, [], s)
      | false => callG C base g args s
    | none => callG C base g args s
  | false => callG C base g args s

def callV (C : CallT) (T : Nat → TI) (base : Nat) (c : Call) (st : St) : Option (D × List Pl × St) :=
  match c.callee with
  | .builtin b => builtinV T base b c.args.toList c.argTypes.toList st
  | .value f =>
    match st.see T 0 f with
    | .fn (.func g) first cap =>
      match st.uses base T (c.args.toList.zip c.argTypes.toList) with
      | some (ds, s) =>
        if c.args.size = c.argTypes.size then callS C base g (first ++ ds ++ cap) s
        else none
      | none => none
    | _ => none
  | _ => none

/-- What an operation's value is, and the state behind it ('ds': this region's own slots). The slots that borrow are told by the places. -/
def opV (C : CallT) (T : Nat → TI) (base : Nat) (ds : List Nat) (o : Oper) (st : St) : Option (D × List Pl × St) :=
  let plain (r : Option D) : Option (D × List Pl × St) := r.map fun d => (d, [], st)
  match o.op with
  | .move x =>
    match x with
    | .tmp t =>
      match ds.contains t, (st.get t).isTup with
      | true, some l => some (.tup l, [], { st with tm := st.tm.set t .undef })
      | true, none => (st.take base T o.type x).map fun (d, s) => (d, [], s)
      | false, none => some ((borD t (st.get t)).1, (borD t (st.get t)).2, st)
      | false, some _ => none
    | _ => (st.take base T o.type x).map fun (d, s) => (d, [], s)
  | .assign x =>
    match x with
    | .tmp t =>
      if ds.contains t && !(st.get t).isBor then (st.take base T o.type x).map fun (d, s) => (d, [], s)
      else (st.use base T o.type x).map fun (d, s) => (d, [], s)
    | _ => (st.take base T o.type x).map fun (d, s) => (d, [], s)
  | .pick c a b =>
    match st.see T 0 c with
    | .bool c => (st.use base T o.type (if c then a else b)).map fun (d, s) => (d, [], s)
    | _ => none
  | .box ty x =>
    match st.take base T ty x with
    | some (d, s) => if d.cells.length = (T ty).size ∧ 0 < (T ty).size then some (.ptr s.bx.length 0, [], { s with bx := s.bx ++ [d.cells], up := s.up || !lowL (s.bx.length + 1) d.cells }) else none
    | none => none
  | .load ty a =>
    match st.see T ty a with
    | .ptr loc off =>
      let n := (T ty).size
      if off + n ≤ (st.box loc).length ∧ 0 < n then
        let b := ldLeaves (ds.contains viewM) (Pl.b loc) off (((st.box loc).drop off).take n)
        some (mkD (T ty).agg b.1, b.2, st)
      else none
    | .rp l => if (T ty).size ≤ l.length ∧ 0 < (T ty).size then some (mkD (T ty).agg (l.take (T ty).size), [], st) else none
    | .ea p n i off =>
      match st.at p with
      | .sl _ m l => if m = n ∧ off + (T ty).size ≤ n ∧ 0 < (T ty).size then (l[i]?).map fun e => (mkD (T ty).agg ((e.drop off).take (T ty).size), [], st) else none
      | _ => none
    | _ => none
  | .fieldAddr s x f =>
    match T s with
    | .st fs _ =>
      match fs[f]? with
      | some (off, n, _) =>
        if n = 0 then none else
        match st.see T 0 x with
        | .ptr loc o => some (.ptr loc (o + off), [], st)
        | .rp l => some (.rp (l.drop off), [], st)
        | .ea p m i o => some (.ea p m i (o + off), [p], st)
        | _ => none
      | none => none
    | _ => none
  | .field ty x f =>
    match T ty, st.use base T ty x with
    | .st fs _, some (.agg l, s) =>
      match fs[f]? with
      | some (off, _, ft) => if 0 < (T ft).size ∧ off + (T ft).size ≤ l.length then some (mkD (T ft).agg ((l.drop off).take (T ft).size), [], s) else none
      | none => none
    | _, _ => none
  | .indexAddr ty x i =>
    match intD (st.see T 3 i), T ty with
    | some i, .sl e _ =>
      match st.raw T ty x with
      | .bor p =>
        match st.at p with
        | .sl f n l => if n = e.cells ∧ 0 ≤ i ∧ i < l.length then (if f = 2 then some (.ea p n i.toNat 0, [p], st) else some (.rp (l.getD i.toNat []), [], st)) else none
        | _ => none
      | .sl f n l =>
        match tmpOf x with
        | some t => if n = e.cells ∧ 0 ≤ i ∧ i < l.length then (if f = 2 then some (.ea (.s t 0) n i.toNat 0, [.s t 0], st) else some (.rp (l.getD i.toNat []), [], st)) else none
        | none => none
      | _ => none
    | some i, .arr len n _ _ =>
      if 0 ≤ i ∧ i < len then
        match st.see T 0 x with
        | .ptr loc o => some (.ptr loc (o + i.toNat * n), [], st)
        | .rp l => some (.rp (l.drop (i.toNat * n)), [], st)
        | .ea p m j o => some (.ea p m j (o + i.toNat * n), [p], st)
        | _ => none
      else none
    | _, _ => none
  | .index ty x i =>
    match intD (st.see T 3 i), T ty, st.see T ty x with
    | some i, .str, .str s => if h : 0 ≤ i ∧ i < s.size then some (.int .u8 (s[i.toNat]'(by omega)).toNat, [], st) else none
    | _, _, _ => none
  | .slice ty x lo hi mx =>
    match T ty with
    | .str =>
      match st.see T ty x, mx with
      | .str s, none =>
        match (match hi with | some h => intD (st.see T 3 h) | none => some s.size), (match lo with | some l => intD (st.see T 3 l) | none => some 0) with
        | some h, some l => if 0 ≤ l ∧ l ≤ h ∧ h ≤ s.size then some (.str (s.extract l.toNat h.toNat), [], st) else none
        | _, _ => none
      | _, _ => none
    | .sl e _ =>
      match st.use base T ty x, mx with
      | some (.sl _ n l, s), none =>
        match (match hi with | some h => intD (st.see T 3 h) | none => some (l.length : Int)), (match lo with | some l => intD (st.see T 3 l) | none => some 0) with
        | some h, some lo => if n = e.cells ∧ 0 ≤ lo ∧ lo ≤ h ∧ h ≤ l.length then some (.sl 0 n ((l.take h.toNat).drop lo.toNat), [], s) else none
        | _, _ => none
      | _, _ => none
    | _ => none
  | .makeSlice ty len cap =>
    match T ty, intD (st.see T 3 len), intD (st.see T 3 cap) with
    | .sl e z, some l, some c => if 0 ≤ l ∧ l ≤ c ∧ c.toNat * e.bytes ≤ room ∧ 0 < e.bytes then some (.sl 2 e.cells (zerosD z l.toNat), [], st) else none
    | _, _, _ => none
  | .buildSlice ty len parts =>
    match T ty with
    | .sl e z =>
      match st.uses base T (parts.toList.map fun p => (p.2, e.ty)) with
      | some (ds, s) =>
      if len * e.cells ≤ 16777216 ∧ 0 < e.cells then
        (fillEls e.cells (zerosD z len) ((parts.toList.map (·.1)).zip ds)).map fun l => (.sl 2 e.cells l, [], s)
      else none
      | none => none
    | _ => none
  | .build ty parts =>
    match T ty with
    | .st fs z =>
      match st.takes base T (parts.toList.map fun p => (p.2, (fs.getD p.1 (0, 0, 0)).2.2)) with
      | some (ds, s) => (fillD (fun i => (fs[i]?).map fun f => (f.1, f.2.1)) z ((parts.toList.map (·.1)).zip ds)).map fun l => (.agg l, [], s)
      | none => none
    | .arr len n ty z =>
      match st.takes base T (parts.toList.map fun p => (p.2, ty)) with
      | some (ds, s) => (fillD (fun i => if i < len then some (i * n, n) else none) z ((parts.toList.map (·.1)).zip ds)).map fun l => (.agg l, [], s)
      | none => none
    | _ => none
  | .extract x i =>
    match x with
    | .tmp t =>
      match st.get t with
      | .tup l => match l[i]? with
        | some d => some (d, [], { st with tm := st.tm.set t (.tup (l.set i .undef)) })
        | none => none
      | _ => none
    | _ => none
  | .makeFunc fn first cap =>
    match st.uses base T (first.toList.map fun x => (x, 0)) with
    | some (a, s) => match s.uses base T (cap.toList.map fun x => (x, 0)) with
      | some (b, s) => some (.fn fn a b, [], s)
      | none => none
    | none => none
  | .binOp op ty x y _ => plain (binO T ty op (nilC x) (nilC y) (st.see T ty x) (st.see T ty y))
  | .unOp op ty x => plain (unD op (st.see T ty x))
  | .convert src dst x => plain (convD T src dst (st.see T src x))
  | .nilCheck x =>
    match st.see T 0 x with
    | .ptr loc off => some (.ptr loc off, [], st)
    | _ => none
  | .call c => callV C T base c st
  | _ => none

/-- One operation that is carried out. 'al': where its new box lies, if it makes an empty one. -/
def opF (C : CallT) (T : Nat → TI) (base : Nat) (ds : List Nat) (al : Nat) (o : Oper) (st : St) : Option St :=
  match o.op with
  | .store ty a x =>
    match st.see T 0 a with
    | .ptr loc off =>
      match st.take base T ty x with
      | some (d, s) => if d.cells.length = (T ty).size ∧ 0 < (T ty).size then (s.store base loc off d.cells).map fun s => s.setO o.dst .undef else none
      | none => none
    | .ea p n i off =>
      match st.use base T ty x with
      | some (d, s) =>
        match s.at p with
        | .sl 2 m l =>
          if m = n ∧ d.cells.length = (T ty).size ∧ 0 < (T ty).size ∧ off + (T ty).size ≤ n ∧ i < l.length then
            some ({ s.put base p (.sl 2 m (l.set i ((l.getD i []).take off ++ d.cells ++ (l.getD i []).drop (off + (T ty).size)))) with up := s.up || !lowL 0 d.cells }.setO o.dst .undef)
          else none
        | _ => none
      | none => none
    | _ => none
  | .alloc ty => match (T ty).zero, st.bx[al]? with
    | some (x :: z), some [] => some ({ st with bx := st.bx.set al (x :: z) }.setO o.dst (.ptr al 0))
    | _, _ => none
  | _ =>
    match opV C T base ds o st with
    | some (d, ps, s) =>
      match o.dst with
      | some t => if ps.any (Pl.inSlot t) then none else let s := s.set t d; some { s with ln := ps.map (t, ·) ++ s.ln }
      | none => some s
    | none => none

/-- Is an operation wanted? -/
def wantedD (ops : List Oper) (o : Oper) (st : St) : Option Bool :=
  match o.guard with
  | none => some true
  | some (j, want) => match (ops[j]?).bind (·.dst) with
    | some t => match st.get t with
      | .bool b => some (b == want)
      | .tup [] => some false
      | _ => none
    | none => some false

/-- The slots that a region's operations write, but for named variables'. -/
def ownOf (ops : List Oper) : List Nat :=
  ops.filterMap fun o => match o.op with
    | .assign _ => none
    | _ => o.dst

/-- How many empty boxes the operations ahead of one make. -/
def allocsOf (ops : List Oper) : Nat := (ops.filter fun o => match o.op with | .alloc _ => true | _ => false).length

def zeroBoxes (ops : List Oper) : List (List D) := List.replicate (allocsOf ops) []

/-- Operations in an order. -/
def opsF (C : CallT) (T : Nat → TI) (base : Nat) (ops : List Oper) (tk : List Nat) (al : Nat) : List Nat → St → Option St
  | [], st => some st
  | i :: r, st =>
    match ops[i]? with
    | none => none
    | some o =>
      match wantedD ops o st with
      | some true =>
        match opF C T base (ownOf ops ++ tk) (al + allocsOf (ops.take i)) o st with
        | some st => opsF C T base ops tk al r st
        | none => none
      | some false => opsF C T base ops tk al r (st.setO o.dst (.tup []))
      | none => none

/-- Regions whose order is open: what an operation looks at, what it may change besides its own slot, what it has to do with boxes. -/
def D.nbl : D → Bool
  | .bor _ | .ea .. => false
  | _ => true

def D.nb : D → Bool
  | .agg l => l.all D.nbl
  | d => d.nbl

def tmpsL (xs : List Operand) : List Nat := xs.filterMap tmpOf

def opRd : Op → List Nat
  | .move x | .assign x | .nilCheck x | .load _ x | .fieldAddr _ x _ | .field _ x _ | .extract x _ | .unOp _ _ x | .convert _ _ x => tmpsL [x]
  | .pick a b c => tmpsL [a, b, c]
  | .indexAddr _ x i | .index _ x i => tmpsL [x, i]
  | .slice _ x lo hi _ => tmpsL (x :: (lo.toList ++ hi.toList))
  | .binOp _ _ x y _ => tmpsL [x, y]
  | .build _ ps => tmpsL (ps.toList.map (·.2))
  | .buildSlice _ _ ps => tmpsL (ps.toList.map (·.2))
  | .makeFunc _ a b => tmpsL (a.toList ++ b.toList)
  | .call c => (match c.callee with | .value f => tmpsL [f] | _ => []) ++ tmpsL c.args.toList
  | .store _ a x => tmpsL [a, x]
  | _ => []

def opWr (ds : List Nat) : Op → List Nat
  | .move x => (tmpsL [x]).filter fun t => ds.contains t
  | .assign x | .field _ x _ | .extract x _ | .slice _ x _ _ _ | .store _ _ x => tmpsL [x]
  | .pick _ a b => tmpsL [a, b]
  | .build _ ps => tmpsL (ps.toList.map (·.2))
  | .buildSlice _ _ ps => tmpsL (ps.toList.map (·.2))
  | .makeFunc _ a b => tmpsL (a.toList ++ b.toList)
  | .call c => match c.callee with
    | .value _ => tmpsL c.args.toList
    | .builtin .append => tmpsL c.args.toList
    | _ => []
  | _ => []

/-- 0: nothing; 1: a call; 2: a load; 3: a new box; 4: a store; else: not here. -/
def opKind : Op → Nat
  | .move _ | .assign _ | .nilCheck _ | .fieldAddr .. | .field .. | .extract .. | .unOp .. | .convert .. | .pick .. | .indexAddr .. | .index .. | .slice .. | .binOp .. | .build .. | .buildSlice .. | .makeFunc .. => 0
  | .call c => match c.callee with
    | .value _ => 1
    | .builtin _ => 0
    | _ => 9
  | .load .. => 2
  | .alloc _ => 3
  | .store .. => 4
  | _ => 9

def guardRd (ops : List Oper) (o : Oper) : List Nat :=
  match o.guard with
  | none => []
  | some (j, _) => ((ops[j]?).bind (·.dst)).toList

def footR (ops : List Oper) (o : Oper) : List Nat := guardRd ops o ++ opRd o.op
def footW (tk : List Nat) (ops : List Oper) (o : Oper) : List Nat := o.dst.toList ++ opWr (ownOf ops ++ tk) o.op

def apartL (a b : List Nat) : Bool := a.all fun t => !b.contains t

/-- May x be carried out ahead of a? ('pc': calls see no boxes.) -/
def kindsApart (pc om : Bool) (a x : Nat) : Bool :=
  (om && a == 2 && x == 4) || a == 0 || x == 0 || (pc && (a == 1 || x == 1)) || ((a == 1 || a == 2) && (x == 1 || x == 2)) || (a == 2 && x == 3)

/-- Parts of the same result. -/
def twoParts (a x : Oper) : Bool :=
  match a.op, x.op with
  | .extract (.tmp t) i, .extract (.tmp u) j => t == u && i != j && a.guard.isNone && x.guard.isNone && a.dst != x.dst && a.dst != some t && x.dst != some t && a.dst.isSome && x.dst.isSome
  | _, _ => false

def freeB (pc om : Bool) (tk : List Nat) (ops : List Oper) (a x : Oper) : Bool :=
  twoParts a x ||
  (kindsApart pc om (opKind a.op) (opKind x.op) && apartL (footW tk ops a) (footR ops x) && apartL (footW tk ops a) (footW tk ops x) && apartL (footW tk ops x) (footR ops a))

def depsOf (o : Oper) : List Nat := (o.after.toList.filter (Region.binds .any)).map (·.on)

/-- The closure, from the first operation on. -/
def waitsAll (ops : List Oper) : List (List Nat) :=
  ops.foldl (fun acc o => acc ++ [((depsOf o).flatMap fun j => j :: acc.getD j []).eraseDups]) []

def openB (pc om : Bool) (tk : List Nat) (ops : List Oper) : Bool :=
  let ws := waitsAll ops
  (List.range ops.length).all fun x =>
    match ops[x]? with
    | some ox => (depsOf ox).all (fun j => decide (j < x)) && decide (opKind ox.op ≤ 4) &&
      (List.range x).all fun a => (ws.getD x []).contains a || (match ops[a]? with | some oa => freeB pc om tk ops oa ox | none => false)
    | none => false

/-- A call that sees no box. -/
def pureCall (C : CallT) (T : Nat → TI) (base : Nat) (o : Oper) (st : St) : Bool :=
  match o.op with
  | .call c => match c.callee with
    | .value f => match st.see T 0 f with
      | .fn (.func g) first cap => match st.uses base T (c.args.toList.zip c.argTypes.toList) with
        | some (ds, _) => lowL 0 (first ++ ds ++ cap) && (match C g (first ++ ds ++ cap) [] with | some (r, _, _, _) => r.low 0 | none => false)
        | none => false
      | _ => false
    | _ => true
  | _ => true

/-- Boxes that are only stored to. -/
def outOk (T : Nat → TI) (ob : Option (List Nat)) (o : Oper) (st : St) : Bool :=
  match ob with
  | none => true
  | some l => match o.op with
    | .load ty a => match st.see T ty a with
      | .ptr loc _ => !l.contains loc
      | _ => true
    | .store _ a _ => match st.see T 0 a with
      | .ptr loc _ => l.contains loc
      | _ => true
    | _ => true

open Classical in
/-- One operation of such a region: it borrows nothing, and none but a store or a new box changes boxes. -/
noncomputable def stepQ (C : CallT) (T : Nat → TI) (base : Nat) (ops : List Oper) (tk : List Nat) (al : Nat) (ob : Option (List Nat)) (pc : Bool) (i : Nat) (st : St) : Option St :=
  match ops[i]? with
  | none => none
  | some o =>
    if (footR ops o).all (fun t => (st.get t).nb) = true ∧ outOk T ob o st = true then
      match wantedD ops o st with
      | some true =>
        if pc = true → pureCall C T base o st = true then
          match opF C T base (ownOf ops ++ tk) (al + allocsOf (ops.take i)) o st with
          | some s => if s.ln = [] ∧ (opKind o.op ≤ 2 → s.bx = st.bx ∧ s.dirty = st.dirty ∧ s.up = st.up) then some s else none
          | none => none
        else none
      | some false => some (st.setO o.dst (.tup []))
      | none => none
    else none

noncomputable def opsQ (C : CallT) (T : Nat → TI) (base : Nat) (ops : List Oper) (tk : List Nat) (al : Nat) (ob : Option (List Nat)) (pc : Bool) : List Nat → St → Option St
  | [], st => some st
  | i :: r, st =>
    match stepQ C T base ops tk al ob pc i st with
    | some st => opsQ C T base ops tk al ob pc r st
    | none => none

/-- A place's slice keeps no right. -/
def St.chill (base : Nat) (st : St) (p : Pl) : St :=
  match (st.down base p).at p with
  | .sl 1 n l => (st.down base p).put base p (.sl 0 n l)
  | _ => st.down base p

def St.chills (base : Nat) (st : St) : List Pl → St
  | [] => st
  | p :: r => (st.chill base p).chills base r

/-- A slot's places; where it leads to a box, the box's; of all of them those that are named, if any is. -/
def St.pls (st : St) (x : Nat × List Nat) : List Pl :=
  match st.get x.1 with
  | .ptr loc off => match x.2 with
    | [] => (List.range (st.box loc).length).map (Pl.b loc)
    | js => js.map fun j => Pl.b loc (off + j)
  | .agg l => match x.2 with
    | [] => (List.range l.length).map (Pl.s x.1)
    | js => js.map (Pl.s x.1)
  | _ => [.s x.1 0]

/-- Slots, and the boxes that slots point at, keep no right. -/
def St.cools (base : Nat) (st : St) : List Pl → St
  | [] => st
  | p :: r => (st.down base p).cools base r

/-- A slot's number with this added: what may be written may be appended to from here on. -/
def coolM : Nat := 500000

def St.frost (base : Nat) (st : St) : List (Nat × List Nat) → St
  | [] => st
  | t :: r => St.frost base (if t.1 < coolM then st.chills base (st.pls t) else st.cools base (st.pls (t.1 - coolM, t.2))) r

/-- Slots that are not kept are cleared. -/
def clearSlots : List Nat → List D → List D
  | [], tm => tm
  | t :: r, tm => clearSlots r (tm.set t .undef)

/-- What is kept of a region's slots; what is cleared ahead of a loop's round: both told from outside, whatever they say. -/
structure Pol where
  keep : Nat → List Nat
  cold : Nat → Nat → List (Nat × List Nat)
  take : Nat → Nat → List Nat
  pure : Nat → Nat → Bool
  outs : Nat → Nat → List Nat
  live : Nat → Nat → List Nat

def regionEnd (keep : List Nat) (ops : List Oper) (st : St) : St :=
  { st with tm := clearSlots ((ops.filterMap (·.dst)).filter fun t => !keep.contains t) (clearAll st.tm st.ln), ln := [] }

/-- The boxes that slots point at. -/
def outsOf (st : St) : List Nat → Option (List Nat)
  | [] => none
  | l => some (l.filterMap fun t => match st.get t with
    | .ptr loc _ => some loc
    | _ => none)

/-- A region. Where the order is open, it is shown elsewhere that every order comes to the same. -/
noncomputable def regionF (C : CallT) (T : Nat → TI) (base : Nat) (keep : List Nat) (fz : List (Nat × List Nat)) (tk : List Nat) (pc : Bool) (os : List Nat) (ops : Array Oper) (draw : Bool) (st : St) : Option St :=
  match draw with
  | false => (opsF C T base ops.toList tk st.bx.length (List.range ops.size) { st.frost base fz with bx := (st.frost base fz).bx ++ zeroBoxes ops.toList, ln := [] }).map (regionEnd keep ops.toList)
  | true => (opsQ C T base ops.toList tk st.bx.length (outsOf st os) pc (List.range ops.size) { st.frost base fz with bx := (st.frost base fz).bx ++ zeroBoxes ops.toList, ln := [] }).map (regionEnd keep ops.toList)

/-- In all regions whose order is open the operations that don't wait for each other don't meet. -/
def openC (pol : Pol) (f : Nat) : Code → Bool
  | .region id ops draw => !draw || openB (pol.pure f id) (!(pol.outs f id).isEmpty) (pol.take f id) ops.toList
  | .seq a b => openC pol f a && openC pol f b
  | .cond _ a b => openC pol f a && openC pol f b
  | .block _ c => openC pol f c
  | .loop c => openC pol f c
  | _ => true

inductive Ex where
  | normal
  | exit (id : Nat)
  | ret
  | fork (s : St)

def Ex.leaves : Ex → Bool
  | .exit _ => false
  | .fork _ => false
  | _ => true

def headId : Code → Nat
  | .region id _ _ => id
  | .seq a _ => headId a
  | .block _ c => headId c
  | .loop c => headId c
  | .scope c => headId c
  | _ => 0

/-- Ahead of a round: what is not needed is cleared, and the boxes that the rounds made are given up (if nothing may lead to them). -/
def roundStart (n : Nat) (cl : List Nat) (st : St) : St :=
  let tm := clearSlots cl st.tm
  if st.up = false ∧ lowL n tm = true then { st with tm, bx := st.bx.take n } else { st with tm }

def loopF (body : St → Option (Ex × St)) (pre : St → St) : Nat → St → Option (Ex × St)
  | 0, _ => none
  | k + 1, st =>
    match body (pre st) with
    | some (.normal, st) => loopF body pre k st
    | some (.fork _, _) => none
    | r => r

open Classical in
/-- One way or the other: they come to the same, or one returns and the other goes on. -/
noncomputable def forkF : Option (Ex × St) → Option (Ex × St) → Option (Ex × St)
  | some (.ret, s), some (.normal, t) => some (.fork s, t)
  | some (.normal, s), some (.ret, t) => some (.fork t, s)
  | x, y => if x = y then x else none

open Classical in
/-- Behind a way that may have returned with s. -/
noncomputable def joinF (s : St) : Option (Ex × St) → Option (Ex × St)
  | some (.ret, t) => if t = s then some (.ret, t) else none
  | some (.normal, t) => some (.fork s, t)
  | _ => none

noncomputable def codeF (C : CallT) (T : Nat → TI) (pol : Pol) (f base k : Nat) : Code → St → Option (Ex × St)
  | .skip, st | .label _, st => some (.normal, st)
  | .region id ops draw, st => (regionF C T base (pol.keep f) (pol.cold f id) (pol.take f id) (pol.pure f id) (pol.outs f id) ops draw st).map fun s => (.normal, s)
  | .seq a b, st =>
    match codeF C T pol f base k a st with
    | some (.normal, st) => codeF C T pol f base k b st
    | some (.fork s, st) => joinF s (codeF C T pol f base k b st)
    | r => r
  | .cond c a b, st =>
    match st.see T 0 c with
    | .bool c => if c then codeF C T pol f base k a st else codeF C T pol f base k b st
    | .unk => forkF (codeF C T pol f base k a st) (codeF C T pol f base k b st)
    | _ => none
  | .block id c, st =>
    match codeF C T pol f base k c st with
    | some (.exit id', st) => if id' = id then some (.normal, st) else some (.exit id', st)
    | r => r
  | .loop c, st => loopF (codeF C T pol f base k c) (roundStart st.bx.length (pol.live f (headId c))) k st
  | .exit id, st => some (.exit id, st)
  | .ret, st => some (.ret, st)
  | _, _ => none

/-- A function's results. -/
def resF (T : Nat → TI) (base : Nat) (st : St) : List ResultVar → Option (List D × St)
  | [] => some ([], st)
  | .tmp t :: r =>
    match st.take base T 0 (.tmp t) with
    | some (d, s) => (resF T base s r).map fun (l, s) => (d :: l, s)
    | none => none
  | .cell a ty :: r =>
    match st.get a with
    | .ptr loc off =>
      let n := (T ty).size
      if off + n ≤ (st.box loc).length ∧ 0 < n then
        match takeD base st none (mkD (T ty).agg (borLeaves (Pl.b loc) off (((st.box loc).drop off).take n)).1) with
        | some (d, s) => (resF T base s r).map fun (l, s) => (d :: l, s)
        | none => none
      else none
    | _ => none

def tupD : List D → D
  | [d] => d
  | l => .tup l

/-- A function's code, its callees given. -/
noncomputable def bodyF (P : Program) (T : Nat → TI) (pol : Pol) (C : CallT) (k f : Nat) (args : List D) (bx : List (List D)) : Ret :=
    match P.funcs[f]? with
    | none => none
    | some fn =>
      match fn.body with
      | none => none
      | some c =>
        if fn.name = "runtime.NumGoroutine" then none else
        if openC pol f c = false then none else
        match codeF C T pol f bx.length k c { tm := args ++ List.replicate (fn.ntmps - args.length) .undef, bx, ln := [], dirty := [], up := false } with
        | some (e, st) =>
          if e.leaves then
            match resF T bx.length st fn.results.toList with
            | some (l, st) =>
              if (tupD l).low bx.length = true ∧ st.up = false then some (tupD l, st.bx.take bx.length, st.dirty, false)
              else some (tupD l, st.bx, st.dirty, st.up)
            | none => none
          else none
        | none => none

/-- Functions to a depth k; 'ovr': those whose answers are told. -/
noncomputable def callF (P : Program) (T : Nat → TI) (pol : Pol) (ovr : CallT) : Nat → CallT
  | 0, _, _, _ => none
  | k + 1, f, args, bx =>
    match ovr f args bx with
    | some r => some r
    | none => bodyF P T pol (callF P T pol ovr k) k f args bx

end Go.PI
