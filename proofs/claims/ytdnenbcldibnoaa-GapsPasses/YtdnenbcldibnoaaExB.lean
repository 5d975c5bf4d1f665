/- What one operation does to a state: functions. Nothing is proved here. -/
import Derived.Test.YtdnenbcldibnoaaExA
import Derived.RangeFuncWrites
import Derived.RangeFuncCalls
import Derived.OrdersIn
import Derived.TacticsIn
namespace Go.Ex
open Go.Own (A Still cellAt Rep Lies)

inductive EK where
  | int (k : IntKind)
  | bool
  | str
  | slice (e : Nat)
  | ptr (e : Nat)
  | struct (fs : List (Nat × Nat))
  | array (n e : Nat)
  | map (k e : Nat)
  | func
  | iface
  | other

/-- What is known of a type: its kind (of a struct: each field's offset and type), cells, bytes, the cells of its zero value, and whether its values are compared cell by cell. -/
structure EI where
  kind : EK
  size : Nat
  bytes : Nat
  zero : Option (List Value)
  eqn : Bool

abbrev ET := Nat → Option EI

def EK.isAgg : EK → Bool
  | .struct _ | .array _ _ => true
  | _ => false

def cV : Value → V
  | .agg cs => .agg (cs.toList.map .lit)
  | v => .lit v

def rdS (t : Nat) : EM V := do
  let x ← rdX (.s t)
  pure x.val

def opV : Operand → EM V
  | .tmp t => rdS t
  | .const v => pure (cV v)
  | .func f => pure (.fn f [])
  | .global _ => efail

def opVs : List Operand → EM (List V)
  | [] => pure []
  | x :: xs => do
    let a ← opV x
    let as' ← opVs xs
    pure (a :: as')

def rdB (b : Nat) : EM Blk := do
  let x ← rdX (.b b)
  match x with
  | .k k => pure k
  | _ => efail
def rdF (f : Nat) : EM Fam := do
  let x ← rdX (.f f)
  match x with
  | .m l => pure l
  | _ => efail
def rdM (b : Nat) : EM (List (Value × V)) := do
  let x ← rdX (.b b)
  match x with
  | .mp es => pure es
  | _ => efail

def isV : V → Option (IntKind × Int)
  | .lit (.int k n) => some (k, n)
  | _ => none

def V.cells : V → List V
  | .agg xs => xs
  | x => [x]
def V.isAgg : V → Bool
  | .agg _ => true
  | _ => false
def ofCells (ag : Bool) (xs : List V) : Option V :=
  if ag = true then some (.agg xs) else match xs with | [x] => some x | _ => none

/-- The value is of this type's form, and its cells can be stored. -/
def fits (i : EI) (x : V) : Bool := i.kind.isAgg == x.isAgg && x.cells.length == i.size && x.cells.all oneV

def smudge (k : Blk) (lo hi : Nat) : Blk := { k with cells := k.cells.mapIdx fun i x => if lo ≤ k.foff + i ∧ k.foff + i < hi then .un else x }

/-- The other blocks of a family forget the cells that are written. -/
def touch (b fam lo hi : Nat) : List Nat → EM Unit
  | [] => pure ()
  | m :: l => do
    if m = b then touch b fam lo hi l else do
      let x ← rdX (.b m)
      match x with
      | .k k =>
        if k.fam = fam ∧ lo < k.foff + k.cells.length ∧ k.foff < hi then do
          wrX (.b m) (.k (smudge k lo hi))
          touch b fam lo hi l
        else touch b fam lo hi l
      | _ => touch b fam lo hi l

def putB (b o : Nat) (xs : List V) : EM Unit := do
  let k ← rdB b
  if o + xs.length ≤ k.cells.length then do
    let l ← rdF k.fam
    touch b k.fam (k.foff + o) (k.foff + o + xs.length) l.l
    wrX (.b b) (.k { k with cells := putL k.cells o xs })
  else efail

mutual
def cellsA : A → Option (List V)
  | .atom v => some [.lit v]
  | .agg fs => cellsAs fs
  | .sl sz t xs => some [.tr (.sl sz t xs)]
  | .sptr x => some [.tr (.sptr x)]
  | _ => none
def cellsAs : List A → Option (List V)
  | [] => some []
  | a :: as' => match cellsA a, cellsAs as' with
    | some xs, some ys => some (xs ++ ys)
    | _, _ => none
end

def loadV (tt : ET) (t : Nat) (x : V) : EM V := do
  let i ← ofO (tt t)
  match x with
  | .ptr b o => do
    let k ← rdB b
    if o + i.size ≤ k.cells.length ∧ (i.kind.isAgg = true ∨ i.size = 1) then ofO (ofCells i.kind.isAgg ((k.cells.drop o).take i.size)) else efail
  | .tr (.sptr y) => do
    let cs ← ofO (cellsA y)
    if cs.length = i.size ∧ (i.kind.isAgg = true ∨ i.size = 1) then ofO (ofCells i.kind.isAgg cs) else efail
  | _ => efail

def storeV (tt : ET) (t : Nat) (x v : V) : EM Unit := do
  let i ← ofO (tt t)
  match x with
  | .ptr b o => if fits i v = true then putB b o v.cells else efail
  | _ => efail

def offOf (tt : ET) (fs : List (Nat × Nat)) (i : Nat) : Option (Nat × Nat) :=
  match fs[i]? with
  | some (off, ft) => (tt ft).map fun j => (off, j.size)
  | none => none

def fieldOff (tt : ET) (t i : Nat) : Option (Nat × Nat) :=
  match tt t with
  | some ⟨.struct fs, _, _, _, _⟩ => offOf tt fs i
  | _ => none

def fieldAddrV (tt : ET) (t i : Nat) (x : V) : Option V :=
  match fieldOff tt t i with
  | some (off, sz) =>
    if sz ≠ 0 then
      match x with
      | .ptr b o => some (.ptr b (o + off))
      | .tr (.sptr (.agg fs)) => if A.sizes (fs.take i) = off then fs[i]?.map fun y => .tr (.sptr y) else none
      | _ => none
    else none
  | none => none

/-- A slice type's elements. -/
def slElem (tt : ET) (t : Nat) : Option (Nat × EI) :=
  match tt t with
  | some ⟨.slice e, _, _, _, _⟩ => (tt e).map fun i => (e, i)
  | _ => none

def elemSize (tt : ET) (t : Nat) : Option Nat := (slElem tt t).map (·.2.size)

/-- An array type's length and elements. -/
def arElem (tt : ET) (t : Nat) : Option (Nat × Nat × EI) :=
  match tt t with
  | some ⟨.array n e, _, _, _, _⟩ => (tt e).map fun i => (n, e, i)
  | _ => none

def mapKE (tt : ET) (t : Nat) : Option (Nat × Nat) :=
  match tt t with
  | some ⟨.map k e, _, _, _, _⟩ => some (k, e)
  | _ => none

def indexAddrV (tt : ET) (t : Nat) (x : V) (j : Int) : Option V :=
  if 0 ≤ j then
    match x with
    | .sl b o z n _ => if elemSize tt t = some z ∧ j.toNat < n then some (.ptr b (o + j.toNat * z)) else none
    | .tr (.sl z _ xs) => if elemSize tt t = some z then xs[j.toNat]?.map fun y => .tr (.sptr y) else none
    | .ptr b o =>
      match arElem tt t with
      | some (n, _, i) => if j.toNat < n then some (.ptr b (o + j.toNat * i.size)) else none
      | none => none
    | _ => none
  else none

def bitsV (op : BinOp) (k : IntKind) (x y : Int) : Option Int :=
  let a := BitVec.ofInt k.bits x
  let b := BitVec.ofInt k.bits y
  match op with
  | .and => some (k.wrap (a &&& b).toNat)
  | .or => some (k.wrap (a ||| b).toNat)
  | .xor => some (k.wrap (a ^^^ b).toNat)
  | .andNot => some (k.wrap (a &&& ~~~b).toNat)
  | _ => none

def intV (op : BinOp) (k : IntKind) (a b : Int) : Option Value :=
  match op with
  | .add => some (.int k (k.wrap (a + b)))
  | .sub => some (.int k (k.wrap (a - b)))
  | .mul => some (.int k (k.wrap (a * b)))
  | .quo => if b = 0 then none else some (.int k (k.wrap (a.tdiv b)))
  | .rem => if b = 0 then none else some (.int k (a.tmod b))
  | .eql => some (.bool (a == b))
  | .neq => some (.bool (a != b))
  | .lss => some (.bool (decide (a < b)))
  | .leq => some (.bool (decide (a ≤ b)))
  | .gtr => some (.bool (decide (a > b)))
  | .geq => some (.bool (decide (a ≥ b)))
  | op => (bitsV op k a b).map (.int k)

def shiftV (op : BinOp) (k : IntKind) (a b : Int) : Option Value :=
  if b < 0 then none else
  match op with
  | .shl => some (.int k (k.wrap (a * 2 ^ (min b.toNat k.bits))))
  | .shr => some (.int k (a.fdiv (2 ^ (min b.toNat k.bits))))
  | _ => none

/-- Cell by cell: integers, bools, strings. -/
def eqVals : List Value → List Value → Option Bool
  | [], [] => some true
  | .int k a :: xs, .int k' b :: ys => if k = k' then (eqVals xs ys).map fun r => (a == b) && r else none
  | .bool a :: xs, .bool b :: ys => (eqVals xs ys).map fun r => (a == b) && r
  | .string a :: xs, .string b :: ys => (eqVals xs ys).map fun r => (a == b) && r
  | _, _ => none

/-- Cells of the kinds of these. -/
def fitZ : List Value → List Value → Bool
  | [], [] => true
  | .int _ _ :: zs, .int _ _ :: vs => fitZ zs vs
  | .bool _ :: zs, .bool _ :: vs => fitZ zs vs
  | .string _ :: zs, .string _ :: vs => fitZ zs vs
  | _, _ => false

def fitE (i : EI) (vs : List Value) : Bool :=
  match i.zero with
  | some z => fitZ z vs
  | none => false

def litsV : List V → Option (List Value)
  | [] => some []
  | .lit v :: xs => (litsV xs).map (v :: ·)
  | _ => none

/-- Whether it is nil; none where that is not known. -/
def nilV : EK → V → Option Bool
  | .slice _, .lit (.slice none _ _) => some true
  | .slice _, .sl _ _ _ _ _ => some false
  | .func, .lit .nilFunc => some true
  | .func, .fn _ _ => some false
  | .func, .yl _ => some false
  | .ptr _, .lit (.pointer none) => some true
  | .ptr _, .ptr _ _ => some false
  | .map _ _, .lit (.map none) => some true
  | .map _ _, .mp _ => some false
  | _, _ => none

def eqlV (tt : ET) (xt : Nat) (x y : V) : Option Bool :=
  match tt xt with
  | some i =>
    match x, y with
    | .lit (.bool a), .lit (.bool b) => match i.kind with | .bool => some (a == b) | _ => none
    | .agg xs, .agg ys =>
      if i.eqn = true ∧ xs.length = i.size ∧ ys.length = i.size then
        match litsV xs, litsV ys with
        | some vs, some us => if fitE i vs = true then eqVals vs us else none
        | _, _ => none
      else none
    | x, y =>
      match nilV i.kind x, nilV i.kind y with
      | some true, some b => some b
      | some a, some true => some a
      | _, _ => none
  | none => none

def binV (tt : ET) (op : BinOp) (xt : Nat) (x y : V) : Option V :=
  match x, y with
  | .lit (.int k a), .lit (.int k' b) =>
    match op with
    | .shl | .shr => (shiftV op k a b).map .lit
    | op => if k = k' then (intV op k a b).map .lit else none
  | .lit (.string a), .lit (.string b) =>
    match op with
    | .eql => some (.lit (.bool (a.toList == b.toList)))
    | .neq => some (.lit (.bool (!(a.toList == b.toList))))
    | _ => none
  | x, y =>
    match op with
    | .eql => (eqlV tt xt x y).map fun r => .lit (.bool r)
    | .neq => (eqlV tt xt x y).map fun r => .lit (.bool (!r))
    | _ => none

def unV (op : UnOp) (x : V) : Option V :=
  match op, x with
  | .not, .lit (.bool b) => some (.lit (.bool (!b)))
  | .neg, .lit (.int k a) => some (.lit (.int k (k.wrap (0 - a))))
  | _, _ => none

def convV (tt : ET) (s t : Nat) (x : V) : Option V :=
  match tt s, tt t, x with
  | some _, some ⟨.int k, _, _, _, _⟩, .lit (.int _ a) => some (.lit (.int k (k.wrap a)))
  | _, _, _ => none

def lenV (tt : ET) (t : Nat) (x : V) : EM V := do
  let i ← ofO (tt t)
  match i.kind, x with
  | .slice _, .sl _ _ _ n _ => pure (.lit (.int .i64 n))
  | .slice _, .lit (.slice _ n _) => pure (.lit (.int .i64 n))
  | .slice _, .tr (.sl _ _ xs) => pure (.lit (.int .i64 xs.length))
  | .str, .lit (.string s) => pure (.lit (.int .i64 s.size))
  | .map _ _, .lit (.map none) => pure (.lit (.int .i64 0))
  | .map _ _, .mp b => do
    let es ← rdM b
    pure (.lit (.int .i64 es.length))
  | _, _ => efail

def capV (tt : ET) (t : Nat) (x : V) : Option V :=
  match tt t, x with
  | some ⟨.slice _, _, _, _, _⟩, .sl _ _ _ _ (some c) => some (.lit (.int .i64 c))
  | some ⟨.slice _, _, _, _, _⟩, .lit (.slice _ _ c) => some (.lit (.int .i64 c))
  | some ⟨.slice _, _, _, _, _⟩, .tr (.sl _ true xs) => some (.lit (.int .i64 xs.length))
  | _, _ => none

def lim : Nat := 16777216

def wrNew (n : Nat) (k : Blk) : EM Unit := do
  wrX (.b n) (.k k)
  wrX (.f n) (.m ⟨n + 1, [n]⟩)

def allocV (tt : ET) (n t : Nat) : EM V := do
  let i ← ofO (tt t)
  let z ← ofO i.zero
  wrNew n ⟨z.map .lit, true, n, 0⟩
  pure (.ptr n 0)

def boxV (n : Nat) (x : V) : EM V :=
  if x.cells.all oneV = true then do
    wrNew n ⟨x.cells, true, n, 0⟩
    pure (.ptr n 0)
  else efail

def makeSliceV (tt : ET) (n t : Nat) (l c : Int) : EM V := do
  let (_, i) ← ofO (slElem tt t)
  let z ← ofO i.zero
  if 0 ≤ l ∧ l ≤ c ∧ c ≤ lim ∧ i.bytes ≤ 4096 then do
    wrNew n ⟨(List.replicate c.toNat (z.map V.lit)).flatten, true, n, 0⟩
    pure (.sl n 0 i.size l.toNat (some c.toNat))
  else efail

def fillL (place : Nat → Option (Nat × Nat)) (cells : List V) : List (Nat × V) → Option (List V)
  | [] => some cells
  | (i, v) :: rest =>
    match place i with
    | none => none
    | some (off, size) => if v.cells.length ≠ size ∨ off + size > cells.length ∨ v.cells.all oneV = false then none else fillL place (putL cells off v.cells) rest

def parts : List (Nat × Operand) → EM (List (Nat × V))
  | [] => pure []
  | (i, x) :: ps => do
    let a ← opV x
    let r ← parts ps
    pure ((i, a) :: r)

def buildV (tt : ET) (t : Nat) (ps : List (Nat × V)) : Option V :=
  match tt t with
  | some i =>
    match i.zero with
    | some z =>
      match i.kind with
      | .struct fs => (fillL (offOf tt fs) (z.map .lit) ps).map .agg
      | .array _ e =>
        match tt e with
        | some ie => (fillL (fun j => some (j * ie.size, ie.size)) (z.map .lit) ps).map .agg
        | none => none
      | _ => none
    | none => none
  | none => none

def buildSliceV (tt : ET) (n t len : Nat) (ps : List (Nat × V)) : EM V := do
  let (_, ie) ← ofO (slElem tt t)
  let z ← ofO ie.zero
  if len * ie.size ≤ lim then do
    let cs ← ofO (fillL (fun j => some (j * ie.size, ie.size)) (List.replicate len (z.map V.lit)).flatten ps)
    wrNew n ⟨cs, true, n, 0⟩
    pure (.sl n 0 ie.size len (some len))
  else efail

/-- The elements of a slice, as cells. -/
def elems (z : Nat) (x : V) : EM (Nat × List V) :=
  match x with
  | .lit (.slice none 0 0) => pure (0, [])
  | .sl b o z' m _ => do
    let k ← rdB b
    if z' = z ∧ o + m * z ≤ k.cells.length then pure (m, (k.cells.drop o).take (m * z)) else efail
  | .tr (.sl z' _ xs) => do
    let cs ← ofO (cellsAs xs)
    if z' = z ∧ cs.length = xs.length * z then pure (xs.length, cs) else efail
  | _ => efail

/-- The call's own copy of elements and more of them. -/
def grow (n : Nat) (z m : Nat) (cs : List V) : EM V := do
  wrNew n ⟨cs, false, n, 0⟩
  pure (.sl n 0 z m none)

/-- Elements behind the end of a slice that the call may not know to have room there. -/
def moveV (n o z l m : Nat) (k : Blk) (ys : List V) : EM V := do
  let fl ← (if k.fam ≤ n then rdF k.fam else efail)
  let _ ← (if fl.top ≤ n + 1 then pure () else efail : EM Unit)
  wrX (.b n) (.k ⟨(k.cells.drop o).take (l * z), false, k.fam, k.foff + o⟩)
  wrX (.f k.fam) (.m ⟨n + 1, n :: fl.l⟩)
  touch n k.fam (k.foff + o + l * z) (k.foff + o + l * z + ys.length) fl.l
  wrX (.b n) (.k ⟨(k.cells.drop o).take (l * z) ++ ys, false, k.fam, k.foff + o⟩)
  pure (.sl n 0 z (l + m) none)

def roomV (c : Option Nat) (q : Nat) : Bool := match c with | some r => decide (q ≤ r) | none => true
def fullV (c : Option Nat) (q : Nat) : Bool := match c with | some r => decide (r < q) | none => false

def appendSl (n z b o l m : Nat) (c : Option Nat) (ys : List V) : EM V := do
  let k ← rdB b
  if o + (l + m) * z ≤ k.cells.length ∧ roomV c (l + m) = true then do
    putB b (o + l * z) ys
    pure (.sl b o z (l + m) c)
  else if o + l * z ≤ k.cells.length ∧ fullV c (l + m) = true then grow n z (l + m) ((k.cells.drop o).take (l * z) ++ ys)
  else if o + l * z ≤ k.cells.length ∧ c = none ∧ k.ex = false then moveV n o z l m k ys
  else efail

def appendV (tt : ET) (n t : Nat) (s x : V) : EM V := do
  let (_, i) ← ofO (slElem tt t)
  if i.bytes ≤ 4096 ∧ 0 < i.size ∧ i.zero.isSome = true then do
    let (m, ys) ← elems i.size x
    match s with
    | .lit (.slice none 0 0) => if m = 0 then pure s else if m ≤ lim then grow n i.size m ys else efail
    | .tr (.sl z true xs) => do
      let cs ← ofO (cellsAs xs)
      if z = i.size ∧ m ≠ 0 ∧ xs.length + m ≤ lim then grow n i.size (xs.length + m) (cs ++ ys) else efail
    | .sl b o z l c => if m = 0 then pure s else if z = i.size ∧ l + m ≤ lim then appendSl n i.size b o l m c ys else efail
    | _ => efail
  else efail

def boundV (dflt : Nat) : Option V → Option Nat
  | none => some dflt
  | some (.lit (.int _ n)) => if 0 ≤ n then some n.toNat else none
  | some _ => none

def opO : Option Operand → EM (Option V)
  | none => pure none
  | some x => do
    let a ← opV x
    pure (some a)

def sliceSl (b o z n : Nat) (c : Option Nat) (lo hi mx : Option V) : Option V :=
  match boundV 0 lo, boundV n hi, mx with
  | some l, some h, none =>
    if l ≤ h ∧ (h ≤ n ∨ fullV c h = false ∧ c ≠ none) then some (.sl b (o + l * z) z (h - l) (c.map (· - l))) else none
  | some l, some h, some m =>
    match boundV 0 (some m), hi with
    | some m, some _ => if l ≤ h ∧ h ≤ m ∧ (m ≤ n ∨ fullV c m = false ∧ c ≠ none) then some (.sl b (o + l * z) z (h - l) (some (m - l))) else none
    | _, _ => none
  | _, _, _ => none

def sliceNil (lo hi mx : Option V) : Option V :=
  match boundV 0 lo, boundV 0 hi, mx with
  | some 0, some 0, none => some (.lit (.slice none 0 0))
  | some 0, some 0, some m => match boundV 0 (some m), hi with | some 0, some _ => some (.lit (.slice none 0 0)) | _, _ => none
  | _, _, _ => none

def sliceV (tt : ET) (t : Nat) (x : V) (lo hi mx : Option V) : Option V :=
  match x with
  | .sl b o z n c => if elemSize tt t = some z then sliceSl b o z n c lo hi mx else none
  | .lit (.slice none 0 0) => if (elemSize tt t).isSome = true then sliceNil lo hi mx else none
  | .ptr b o =>
    match arElem tt t, mx with
    | some (n, _, i), none =>
      match boundV 0 lo, boundV n hi with
      | some l, some h => if l ≤ h ∧ h ≤ n then some (.sl b (o + l * i.size) i.size (h - l) (some (n - l))) else none
      | _, _ => none
    | _, _ => none
  | _ => none

def partV (tt : ET) (t : Nat) (xs : List V) (off : Nat) : Option V :=
  match tt t with
  | some i => if off + i.size ≤ xs.length ∧ (i.kind.isAgg = true ∨ i.size = 1) then ofCells i.kind.isAgg ((xs.drop off).take i.size) else none
  | none => none

def fieldV (tt : ET) (t i : Nat) (x : V) : Option V :=
  match tt t, x with
  | some ⟨.struct fs, _, _, _, _⟩, .agg xs =>
    match fs[i]? with
    | some (off, ft) => partV tt ft xs off
    | none => none
  | _, _ => none

def indexV (tt : ET) (t : Nat) (x : V) (j : Int) : Option V :=
  if 0 ≤ j then
    match x with
    | .agg xs =>
      match arElem tt t with
      | some (n, e, i) => if j.toNat < n then partV tt e xs (j.toNat * i.size) else none
      | none => none
    | .lit (.string s) =>
      match tt t with
      | some ⟨.str, _, _, _, _⟩ => (s[j.toNat]?).map fun b => .lit (.int .u8 b.toNat)
      | _ => none
    | _ => none
  else none

def extractV (x : V) (i : Nat) : Option V :=
  match x with
  | .tup xs => xs[i]?
  | _ => none

def nilCheckV (x : V) : Option V :=
  match x with
  | .ptr b o => some (.ptr b o)
  | .fn f cs => some (.fn f cs)
  | .yl l => some (.yl l)
  | .tr (.sptr y) => some (.tr (.sptr y))
  | _ => none

def minV (mx : Bool) : V → V → Option V
  | .lit (.int k x), .lit (.int _ y) => some (.lit (.int k (if mx = true then (if y > x then y else x) else (if y < x then y else x))))
  | _, _ => none
def minVs (mx : Bool) : V → List V → Option V
  | x, [] => some x
  | x, y :: ys => (minV mx x y).bind fun z => minVs mx z ys

/-! ### Maps -/

def keyOf : V → Option Value
  | .lit (.int k n) => some (.int k n)
  | .lit (.bool b) => some (.bool b)
  | .lit (.string s) => some (.string s)
  | .agg xs => (litsV xs).map fun vs => .agg vs.toArray
  | _ => none

def keyEq : Value → Value → Option Bool
  | .int k a, .int k' b => if k = k' then some (a == b) else none
  | .bool a, .bool b => some (a == b)
  | .string a, .string b => some (a == b)
  | .agg xs, .agg ys => eqVals xs.toList ys.toList
  | _, _ => none

def findM (k : Value) : List (Value × V) → Nat → Option (Option (Nat × V))
  | [], _ => some none
  | e :: es, i =>
    match keyEq k e.1 with
    | some true => some (some (i, e.2))
    | some false => findM k es (i + 1)
    | none => none

/-- Keys of this type are compared as 'keyEq' does. -/
def keyOk (tt : ET) (t : Nat) (k : Value) : Bool :=
  match tt t with
  | some i =>
    match i.kind, k with
    | .int _, .int _ _ => true
    | .bool, .bool _ => true
    | .str, .string _ => true
    | .struct _, .agg xs => i.eqn && xs.size == i.size && fitE i xs.toList
    | .array _ _, .agg xs => i.eqn && xs.size == i.size && fitE i xs.toList
    | _, _ => false
  | none => false

def zeroV (tt : ET) (t : Nat) : Option V :=
  match tt t with
  | some i => i.zero.bind fun z => ofCells i.kind.isAgg (z.map .lit)
  | none => none

def entsV : V → EM (List (Value × V))
  | .lit (.map none) => pure []
  | .mp b => rdM b
  | _ => efail

def lookupV (tt : ET) (t : Nat) (x i : V) (ok : Bool) : EM V := do
  let (kt, et) ← ofO (mapKE tt t)
  let k ← ofO (keyOf i)
  let es ← entsV x
  if keyOk tt kt k = true then do
    let r ← ofO (findM k es 0)
    match r with
    | some (_, v) => pure (if ok = true then .tup [v, .lit (.bool true)] else v)
    | none => do
      let z ← ofO (zeroV tt et)
      pure (if ok = true then .tup [z, .lit (.bool false)] else z)
  else efail

def mapUpdateV (tt : ET) (t : Nat) (x i v : V) : EM Unit := do
  let (kt, _) ← ofO (mapKE tt t)
  let k ← ofO (keyOf i)
  match x with
  | .mp b => do
    let es ← rdM b
    if keyOk tt kt k = true then do
      let r ← ofO (findM k es 0)
      match r with
      | some (j, _) => wrX (.b b) (.mp (es.set j (k, v)))
      | none => wrX (.b b) (.mp (es ++ [(k, v)]))
    else efail
  | _ => efail

def makeMapV (n : Nat) : EM V := do
  wrX (.b n) (.mp [])
  pure (.mp n)

end Go.Ex

namespace Go.Ex
open Go.Own (A Still cellAt Rep Reps Lies)

def EKindOk (P : Program) (t : Nat) : EK → Prop
  | .int k => P.underlying t = some (.int k)
  | .bool => P.underlying t = some .bool
  | .str => P.underlying t = some .string
  | .slice e => P.underlying t = some (.slice e)
  | .ptr e => P.underlying t = some (.pointer e)
  | .struct fs => ∃ fields, P.underlying t = some (.struct fields) ∧ fields.toList.map (fun f => (f.offset, f.type)) = fs ∧ ∀ f ∈ fields.toList, ∃ i, P.info? f.type = some i
  | .array n e => P.underlying t = some (.array n e)
  | .map k e => P.underlying t = some (.map k e)
  | .func => ∃ a b c, P.underlying t = some (.func a b c)
  | .iface => ∃ ms, P.underlying t = some (.interface ms)
  | .other => ∃ d, P.underlying t = some d ∧ (match d with | .struct _ | .array _ _ => false | _ => true) = true

structure EqOk (P : Program) (t : Nat) (i : EI) : Prop where
  guard : P.eqGuardType P.depth t = false
  run : ∀ (vs us : List Value) (r : Bool) (w : World), vs.length = i.size → us.length = i.size → fitE i vs = true → eqVals vs us = some r → (Op.equal t (.agg vs.toArray) (.agg us.toArray)).run P w = .ok r w
  key : ∀ (vs : List Value) (e : Bool) (w : World), vs.length = i.size → (Instr.checkKey e 10000 t (.agg vs.toArray)).run P w = .ok () w

structure EIok (P : Program) (t : Nat) (i : EI) : Prop where
  info : ∃ f, P.info? t = some f ∧ f.size = i.size ∧ f.bytes = i.bytes ∧ ∀ z, i.zero = some z → ∃ v, f.zero = some v ∧ v.cells.toList = z ∧ (∀ u ∈ z, u.oneCell' = true) ∧ z.length = i.size ∧ (if i.kind.isAgg = true then ∃ cs, v = .agg cs else v.oneCell' = true)
  kind : EKindOk P t i.kind
  eqn : i.eqn = true → EqOk P t i

def ETok (P : Program) (tt : ET) : Prop := ∀ t i, tt t = some i → EIok P t i

def Res (P : Program) (C : Ctx) (N n hi : Nat) (o : Oper) (ρ : Pl) (a : Act) (w : World) (Ds : List Nat) (v : V) (st' : St) : Prop :=
  ∃ ρ' w' cv, (execOp a.eval o).run P w = .ok (.value cv) w' ∧ Ext n hi ρ ρ' ∧ Sim C N ρ' st' a w' Ds ∧ VR C.S ρ' v cv

section
variable {P : Program} {tt : ET} {C : Ctx} {N n hi : Nat} {ρ : Pl} {st : St} {a : Act} {w : World} {Ds : List Nat} {o : Oper}

theorem Res.here (h : Sim C N ρ st a w Ds) {v : V} {cv : Value} (hr : (execOp a.eval o).run P w = .ok (.value cv) w) (hv : VR C.S ρ v cv) : Res P C N n hi o ρ a w Ds v st :=
  ⟨ρ, w, cv, hr, Ext.refl _ _ _, h, hv⟩

theorem cV_ok {S : Still} (v : Value) : VR S ρ (cV v) v := by
  cases v <;> simp only [cV, VR]
  rename_i cs
  exact ⟨cs.toList, VRs.lits _, by simp⟩

theorem vlit {S : Still} (v : Value) : VR S ρ (.lit v) v := by simp only [VR]

theorem rdS_ok (h : Sim C N ρ st a w Ds) {t : Nat} {v : V} {R : List Key} {U : Ups} (e : rdS t st = some (v, R, U)) : U = [] ∧ VR C.S ρ v (Act.tv a t) := by
  unfold rdS at e
  obtain ⟨x, R1, U1, R2, U2, h1, h2, rfl, rfl⟩ := bind_some e
  obtain ⟨rfl, rfl, rfl⟩ := rdX_some h1
  obtain ⟨rfl, rfl, rfl⟩ := pure_some h2
  exact ⟨rfl, h.f.slot t⟩

theorem opV_ok (h : Sim C N ρ st a w Ds) {x : Operand} {v : V} {R : List Key} {U : Ups} (e : opV x st = some (v, R, U)) : U = [] ∧ VR C.S ρ v (a.eval x) := by
  cases x with
  | tmp t => exact rdS_ok h e
  | const c => obtain ⟨rfl, rfl, rfl⟩ := pure_some e; exact ⟨rfl, cV_ok c⟩
  | func f =>
    obtain ⟨rfl, rfl, rfl⟩ := pure_some e
    refine ⟨rfl, ?_⟩
    simp only [VR]
    exact ⟨[], by simp [VRs], rfl⟩
  | global g => exact (efail_some (st := st) e).elim

theorem opVs_ok (h : Sim C N ρ st a w Ds) : ∀ {xs : List Operand} {vs : List V} {R : List Key} {U : Ups}, opVs xs st = some (vs, R, U) → U = [] ∧ VRs C.S ρ vs (xs.map a.eval)
  | [], vs, R, U, e => by
    obtain ⟨rfl, rfl, rfl⟩ := pure_some e
    exact ⟨rfl, by simp [VRs]⟩
  | x :: xs, vs, R, U, e => by
    simp only [opVs] at e
    obtain ⟨v, R1, U1, R2, U2, h1, h2, rfl, rfl⟩ := bind_some e
    obtain ⟨rfl, q1⟩ := opV_ok h h1
    obtain ⟨us, R3, U3, R4, U4, h3, h4, rfl, rfl⟩ := bind_some h2
    simp only [applyU] at h3 h4
    obtain ⟨rfl, q2⟩ := opVs_ok h h3
    obtain ⟨rfl, rfl, rfl⟩ := pure_some h4
    refine ⟨rfl, ?_⟩
    simp only [List.map_cons, VRs]
    exact ⟨_, _, rfl, q1, q2⟩

theorem rdB_some {b : Nat} {k : Blk} {R : List Key} {U : Ups} (e : rdB b st = some (k, R, U)) : U = [] ∧ st (.b b) = .k k := by
  unfold rdB at e
  obtain ⟨x, R1, U1, R2, U2, h1, h2, rfl, rfl⟩ := bind_some e
  obtain ⟨rfl, rfl, rfl⟩ := rdX_some h1
  simp only [applyU] at h2
  cases hk : st (.b b) with
  | k k' => simp only [hk] at h2; obtain ⟨rfl, rfl, rfl⟩ := pure_some h2; exact ⟨rfl, rfl⟩
  | _ => simp only [hk] at h2; exact (efail_some h2).elim
theorem rdF_some {f : Nat} {l : Fam} {R : List Key} {U : Ups} (e : rdF f st = some (l, R, U)) : U = [] ∧ st (.f f) = .m l := by
  unfold rdF at e
  obtain ⟨x, R1, U1, R2, U2, h1, h2, rfl, rfl⟩ := bind_some e
  obtain ⟨rfl, rfl, rfl⟩ := rdX_some h1
  simp only [applyU] at h2
  cases hk : st (.f f) with
  | m k' => simp only [hk] at h2; obtain ⟨rfl, rfl, rfl⟩ := pure_some h2; exact ⟨rfl, rfl⟩
  | _ => simp only [hk] at h2; exact (efail_some h2).elim
theorem rdM_some {b : Nat} {k : List (Value × V)} {R : List Key} {U : Ups} (e : rdM b st = some (k, R, U)) : U = [] ∧ st (.b b) = .mp k := by
  unfold rdM at e
  obtain ⟨x, R1, U1, R2, U2, h1, h2, rfl, rfl⟩ := bind_some e
  obtain ⟨rfl, rfl, rfl⟩ := rdX_some h1
  simp only [applyU] at h2
  cases hk : st (.b b) with
  | mp k' => simp only [hk] at h2; obtain ⟨rfl, rfl, rfl⟩ := pure_some h2; exact ⟨rfl, rfl⟩
  | _ => simp only [hk] at h2; exact (efail_some h2).elim

/-! ### Types -/

theorem run_isAgg {t : Nat} {k : EK} (h : EKindOk P t k) (w : World) : (Go.isAgg t).run P w = .ok k.isAgg w := by
  cases k with
  | struct fs => obtain ⟨f, h, _⟩ := h; simp [Go.isAgg, run_underlying h, EK.isAgg]
  | func => obtain ⟨_, _, _, h⟩ := h; simp [Go.isAgg, run_underlying h, EK.isAgg]
  | iface => obtain ⟨_, h⟩ := h; simp [Go.isAgg, run_underlying h, EK.isAgg]
  | other =>
    obtain ⟨d, h, hd⟩ := h
    cases d <;> first | (simp at hd; done) | simp [Go.isAgg, run_underlying h, EK.isAgg]
  | _ => simp only [EKindOk] at h; simp [Go.isAgg, run_underlying h, EK.isAgg]

theorem kind_some {t : Nat} {k : EK} (h : EKindOk P t k) : ∃ d, P.underlying t = some d := by
  cases k <;> simp only [EKindOk] at h <;> first | exact ⟨_, h⟩ | (obtain ⟨_, h, _⟩ := h; exact ⟨_, h⟩) | (obtain ⟨_, _, _, h⟩ := h; exact ⟨_, h⟩) | (obtain ⟨_, h⟩ := h; exact ⟨_, h⟩)

theorem run_sizeOf (hT : ETok P tt) {t : Nat} {i : EI} (h : tt t = some i) (w : World) : (Go.sizeOf t).run P w = .ok i.size w := by
  obtain ⟨f, f1, f2, _⟩ := (hT _ _ h).info
  simp [Go.sizeOf, typeInfo, f1, f2]

theorem cell?_eq (w : World) (b o : Nat) : w.cell? ⟨b, o, none⟩ = cellAt w.heap b o := by
  unfold World.cell? cellAt
  cases w.heap[b]? with
  | none => rfl
  | some x => cases x <;> rfl

theorem ofCells_ok {S : Still} {ag : Bool} {xs : List V} {x : V} (e : ofCells ag xs = some x) {cs : List Value} (h : VRs S ρ xs cs) : VR S ρ x (if ag = true then .agg cs.toArray else cs.headD undef) ∧ (ag = false → cs.length = 1) := by
  unfold ofCells at e
  cases ag with
  | true =>
    simp only [if_true, Option.some.injEq] at e
    subst e
    simp only [if_true, VR]
    exact ⟨⟨cs, h, rfl⟩, by simp⟩
  | false =>
    simp only [Bool.false_eq_true, if_false] at e ⊢
    rcases xs with _ | ⟨y, _ | ⟨z, l⟩⟩
    · cases e
    · simp only [Option.some.injEq] at e
      subst e
      simp only [VRs] at h
      obtain ⟨v, us, rfl, q, rfl⟩ := h
      exact ⟨q, by simp⟩
    · cases e

theorem run_loadV (hT : ETok P tt) {S : Still} {t : Nat} {i : EI} (ht : tt t = some i) {B o : Nat} {cs : List Value} (hl : cs.length = i.size) (hs : ∀ j u, cs[j]? = some u → cellAt w.heap B (o + j) = some u) {xs : List V} {x : V} (hr : VRs S ρ xs cs)
    (hx : ofCells i.kind.isAgg xs = some x) : ∃ v, (loadVar t ⟨B, o, none⟩).run P w = .ok v w ∧ VR S ρ x v := by
  obtain ⟨q1, q2⟩ := ofCells_ok hx hr
  refine ⟨_, ?_, q1⟩
  have hk := run_isAgg (hT t i ht).kind w
  unfold loadVar
  simp only [Sem.run_bind, hk, Result.andThen_ok, Sem.run_ite]
  by_cases hag : i.kind.isAgg = true
  · simp only [hag, if_true]
    have hc := run_loadCells_list (P := P) w ⟨B, o, none⟩ cs (fun j v hj => by rw [Addr.add_lit, cell?_eq]; exact hs j v hj)
    simp only [run_sizeOf hT ht, Result.andThen_ok, ← hl, hc, Sem.run_pure]
  · simp only [hag, if_false, Bool.false_eq_true]
    have h1 := q2 (by simpa using hag)
    rcases cs with _ | ⟨c, _ | ⟨d, l⟩⟩
    · simp at h1
    · have := hs 0 c rfl
      rw [Nat.add_zero] at this
      rw [run_load, cell?_eq, this]
      rfl
    · simp at h1

/-! ### Moves, arithmetic -/

theorem run_intV {op : BinOp} {k : IntKind} {x y : Int} {r : Value} (e : intV op k x y = some r) (xt : Nat) (p q : Operand) (w : World) :
    (do eqGuard op xt p q (.int k x) (.int k y); Go.binOp op xt (.int k x) (.int k y)).run P w = .ok r w := by
  cases op <;> simp only [intV] at e
  all_goals first
    | (simp only [Option.some.injEq] at e; subst e
       simp [eqGuard, Go.binOp, Op.intArith, Op.intCmp]; done)
    | (split at e
       · cases e
       · rename_i h0
         simp only [Option.some.injEq] at e; subst e
         simp [eqGuard, Go.binOp, Op.intDiv, h0]; done)
    | (simp only [bitsV, Option.map_some, Option.some.injEq] at e; subst e
       simp [eqGuard, Go.binOp, Op.intBits]; done)
    | (simp [bitsV] at e; done)

theorem run_shiftV {op : BinOp} {k k' : IntKind} {x y : Int} {r : Value} (e : shiftV op k x y = some r) (hop : op = .shl ∨ op = .shr) (xt : Nat) (p q : Operand) (w : World) :
    (do eqGuard op xt p q (.int k x) (.int k' y); Go.binOp op xt (.int k x) (.int k' y)).run P w = .ok r w := by
  unfold shiftV at e
  split at e
  · cases e
  · rename_i h0
    rcases hop with rfl | rfl
    · simp only [Option.some.injEq] at e; subst e
      simp [eqGuard, Go.binOp, Op.shift, h0]
    · simp only [Option.some.injEq] at e; subst e
      simp [eqGuard, Go.binOp, Op.shift, h0]

theorem run_equal_bool {xt : Nat} (hb : P.underlying xt = some .bool) (x y : Bool) (w : World) : (Op.equal xt (.bool x) (.bool y)).run P w = .ok (x == y) w := by
  have : ∀ d, (Op.equalIn (d + 1) xt (.bool x) (.bool y)).run P w = .ok (x == y) w := by
    intro d
    simp [Op.equalIn, run_underlying hb]
  exact this 9999

theorem run_equal_nil {xt : Nat} {x y : Value} {r : Bool} {w : World} (h : ∀ d, (Op.equalIn (d + 1) xt x y).run P w = .ok r w) : (Op.equal xt x y).run P w = .ok r w := h 9999

theorem litsV_ok {S : Still} : ∀ {xs : List V} {vs us : List Value}, litsV xs = some vs → VRs S ρ xs us → us = vs
  | [], vs, us, e, h => by simp only [litsV, Option.some.injEq] at e; simp only [VRs] at h; rw [h, ← e]
  | x :: xs, vs, us, e, h => by
    cases x with
    | lit v =>
      simp only [litsV, Option.map_eq_some_iff] at e
      obtain ⟨ws, e1, rfl⟩ := e
      simp only [VRs, VR] at h
      obtain ⟨v', us', rfl, rfl, h3⟩ := h
      rw [litsV_ok e1 h3]
    | _ => simp [litsV] at e

theorem nil_some {S : Still} {k : EK} {x : V} {b : Bool} (e : nilV k x = some b) {v : Value} (h : VR S ρ x v) :
    (∃ el, k = .slice el ∧ ((b = true ∧ ∃ n c, v = .slice none n c) ∨ (b = false ∧ ∃ p n c, v = .slice (some p) n c))) ∨
    (k = .func ∧ ((b = true ∧ v = .nilFunc) ∨ (b = false ∧ ∃ f x y, v = .func f x y))) ∨
    (∃ el, k = .ptr el ∧ ((b = true ∧ v = .pointer none) ∨ (b = false ∧ ∃ p, v = .pointer (some p)))) ∨
    (∃ kk el, k = .map kk el ∧ ((b = true ∧ v = .map none) ∨ (b = false ∧ ∃ r, v = .map (some r)))) := by
  unfold nilV at e
  split at e <;> first | (cases e; done) | skip
  all_goals simp only [Option.some.injEq] at e; subst e
  all_goals simp only [VR] at h
  · subst h; exact .inl ⟨_, rfl, .inl ⟨rfl, _, _, rfl⟩⟩
  · obtain ⟨_, _, _, _, rfl, _⟩ := h; exact .inl ⟨_, rfl, .inr ⟨rfl, _, _, _, rfl⟩⟩
  · subst h; exact .inr (.inl ⟨rfl, .inl ⟨rfl, rfl⟩⟩)
  · obtain ⟨_, _, rfl⟩ := h; exact .inr (.inl ⟨rfl, .inr ⟨rfl, _, _, _, rfl⟩⟩)
  · obtain ⟨_, _, rfl⟩ := h; exact .inr (.inl ⟨rfl, .inr ⟨rfl, _, _, _, rfl⟩⟩)
  · subst h; exact .inr (.inr (.inl ⟨_, rfl, .inl ⟨rfl, rfl⟩⟩))
  · obtain ⟨_, _, rfl⟩ := h; exact .inr (.inr (.inl ⟨_, rfl, .inr ⟨rfl, _, rfl⟩⟩))
  · subst h; exact .inr (.inr (.inr ⟨_, _, rfl, .inl ⟨rfl, rfl⟩⟩))
  · obtain ⟨_, _, rfl⟩ := h; exact .inr (.inr (.inr ⟨_, _, rfl, .inr ⟨rfl, _, rfl⟩⟩))

/-- Equality's two forms from 'Op.equal', where the values are neither two structs nor two nil interfaces. -/
theorem run_eql_of {xt : Nat} {x y : Value} {r : Bool} {p q : Operand} {w : World} (hr : (Op.equal xt x y).run P w = .ok r w) (h1 : ∀ op, (eqGuard op xt p q x y).run P w = .ok () w) (h2 : Go.binOp .eql xt x y = (do pure (.bool (← Op.equal xt x y)))) (h3 : Go.binOp .neq xt x y = (do pure (.bool (!(← Op.equal xt x y))))) :
    (do eqGuard .eql xt p q x y; Go.binOp .eql xt x y).run P w = .ok (.bool r) w ∧ (do eqGuard .neq xt p q x y; Go.binOp .neq xt x y).run P w = .ok (.bool (!r)) w := by
  rw [h2, h3]
  constructor <;> simp only [Sem.run_bind, Sem.run_pure, Result.andThen_ok, h1, hr]

theorem eqlV_ok (hT : ETok P tt) {S : Still} {xt : Nat} {x y : V} {r : Bool} (e : eqlV tt xt x y = some r) {u v : Value} (hx : VR S ρ x u) (hy : VR S ρ y v) (p q : Operand) (w : World) :
    (do eqGuard .eql xt p q u v; Go.binOp .eql xt u v).run P w = .ok (.bool r) w ∧ (do eqGuard .neq xt p q u v; Go.binOp .neq xt u v).run P w = .ok (.bool (!r)) w := by
  unfold eqlV at e
  split at e
  · rename_i i ht
    have hi := hT _ _ ht
    split at e
    · -- bools
      rename_i a b
      split at e
      · rename_i hk
        simp only [Option.some.injEq] at e
        have hb : P.underlying xt = some .bool := by have := hi.kind; rw [hk] at this; exact this
        simp only [VR] at hx hy
        subst hx; subst hy; subst e
        exact run_eql_of (run_equal_bool hb _ _ w) (fun op => by cases op <;> rfl) rfl rfl
      · cases e
    · -- aggregates
      rename_i xs ys
      split at e
      · rename_i hc
        obtain ⟨c1, c2, c3⟩ := hc
        split at e
        · rename_i vs us hvs hus
          split at e
          case isFalse => cases e
          rename_i hfit
          simp only [VR] at hx hy
          obtain ⟨vs', g1, rfl⟩ := hx
          obtain ⟨us', g2, rfl⟩ := hy
          have l1 := g1.len
          have l2 := g2.len
          have := litsV_ok hvs g1
          have := litsV_ok hus g2
          subst vs'; subst us'
          have heq := hi.eqn c1
          refine run_eql_of (heq.run _ _ _ w (by omega) (by omega) hfit e) (fun op => ?_) rfl rfl
          cases op <;> first | rfl | skip
          · show (do if !(← program).eqGuardType (← program).depth xt then pure () else _ : Sem Unit).run P w = _
            simp [program, Sem.run, heq.guard]
          · show (do if !(← program).eqGuardType (← program).depth xt then pure () else _ : Sem Unit).run P w = _
            simp [program, Sem.run, heq.guard]
        · cases e
      · cases e
    · -- one of them nil
      have key : ∃ b c, nilV i.kind x = some b ∧ nilV i.kind y = some c ∧ ((b = true ∧ r = c) ∨ (c = true ∧ r = b)) := by
        split at e
        · rename_i b h1 h2
          simp only [Option.some.injEq] at e; subst e
          exact ⟨_, _, h1, h2, .inl ⟨rfl, rfl⟩⟩
        · rename_i b _ h1 h2
          simp only [Option.some.injEq] at e; subst e
          exact ⟨_, _, h1, h2, .inr ⟨rfl, rfl⟩⟩
        · cases e
      obtain ⟨b, c, e1, e2, e3⟩ := key
      have hk := hi.kind
      rcases nil_some e1 hx with ⟨el, hk1, h1⟩ | ⟨hk1, h1⟩ | ⟨el, hk1, h1⟩ | ⟨kk, el, hk1, h1⟩ <;> rcases nil_some e2 hy with ⟨el', hk2, h2⟩ | ⟨hk2, h2⟩ | ⟨el', hk2, h2⟩ | ⟨kk', el', hk2, h2⟩ <;>
        (rw [hk1] at hk2 hk) <;> first | (cases hk2; done) | skip
      · have hk : P.underlying xt = some (.slice el) := hk
        rcases h1 with ⟨rfl, _, _, rfl⟩ | ⟨rfl, _, _, _, rfl⟩ <;> rcases h2 with ⟨rfl, _, _, rfl⟩ | ⟨rfl, _, _, _, rfl⟩ <;> simp at e3 <;> subst e3 <;>
          exact run_eql_of (run_equal_nil (fun d => by simp [Op.equalIn, run_underlying hk])) (fun op => by cases op <;> rfl) rfl rfl
      · obtain ⟨_, _, _, hk⟩ := hk
        rcases h1 with ⟨rfl, rfl⟩ | ⟨rfl, _, _, _, rfl⟩ <;> rcases h2 with ⟨rfl, rfl⟩ | ⟨rfl, _, _, _, rfl⟩ <;> simp at e3 <;> subst e3 <;>
          exact run_eql_of (run_equal_nil (fun d => by simp [Op.equalIn, run_underlying hk])) (fun op => by cases op <;> rfl) rfl rfl
      · have hk : P.underlying xt = some (.pointer el) := hk
        rcases h1 with ⟨rfl, rfl⟩ | ⟨rfl, _, rfl⟩ <;> rcases h2 with ⟨rfl, rfl⟩ | ⟨rfl, _, rfl⟩ <;> simp at e3 <;> subst e3 <;>
          exact run_eql_of (run_equal_nil (fun d => by simp [Op.equalIn, run_underlying hk])) (fun op => by cases op <;> rfl) rfl rfl
      · have hk : P.underlying xt = some (.map kk el) := hk
        rcases h1 with ⟨rfl, rfl⟩ | ⟨rfl, _, rfl⟩ <;> rcases h2 with ⟨rfl, rfl⟩ | ⟨rfl, _, rfl⟩ <;> simp at e3 <;> subst e3 <;>
          exact run_eql_of (run_equal_nil (fun d => by simp [Op.equalIn, run_underlying hk])) (fun op => by cases op <;> rfl) rfl rfl
  · cases e

theorem binV_ok (hT : ETok P tt) {S : Still} {op : BinOp} {xt : Nat} {x y z : V} (e : binV tt op xt x y = some z) {u v : Value} (hx : VR S ρ x u) (hy : VR S ρ y v) (p q : Operand) (w : World) :
    ∃ r, VR S ρ z r ∧ (do eqGuard op xt p q u v; Go.binOp op xt u v).run P w = .ok r w := by
  unfold binV at e
  split at e
  · simp only [VR] at hx hy
    subst hx; subst hy
    split at e
    · obtain ⟨r, e1, rfl⟩ := Option.map_eq_some_iff.1 e
      exact ⟨r, vlit _, run_shiftV e1 (.inl rfl) xt p q w⟩
    · obtain ⟨r, e1, rfl⟩ := Option.map_eq_some_iff.1 e
      exact ⟨r, vlit _, run_shiftV e1 (.inr rfl) xt p q w⟩
    · split at e
      · rename_i hk
        subst hk
        obtain ⟨r, e1, rfl⟩ := Option.map_eq_some_iff.1 e
        exact ⟨r, vlit _, run_intV e1 xt p q w⟩
      · cases e
  · simp only [VR] at hx hy
    subst hx; subst hy
    split at e <;> first | (cases e; done) | skip
    · simp only [Option.some.injEq] at e; subst e
      exact ⟨_, vlit _, by simp [eqGuard, Go.binOp, Op.stringOp]⟩
    · simp only [Option.some.injEq] at e; subst e
      exact ⟨_, vlit _, by simp [eqGuard, Go.binOp, Op.stringOp]⟩
  · split at e <;> first | (cases e; done) | skip
    · obtain ⟨r, e1, rfl⟩ := Option.map_eq_some_iff.1 e
      exact ⟨_, vlit _, (eqlV_ok hT e1 hx hy p q w).1⟩
    · obtain ⟨r, e1, rfl⟩ := Option.map_eq_some_iff.1 e
      exact ⟨_, vlit _, (eqlV_ok hT e1 hx hy p q w).2⟩

theorem unV_ok {S : Still} {op : UnOp} {x z : V} (e : unV op x = some z) {u : Value} (hx : VR S ρ x u) (w : World) : ∃ r, VR S ρ z r ∧ (Op.unary op u).run P w = .ok r w := by
  unfold unV at e
  split at e <;> first | (cases e; done) | skip
  · simp only [Option.some.injEq] at e; subst e
    simp only [VR] at hx; subst hx
    exact ⟨_, vlit _, by simp [Op.unary]⟩
  · simp only [Option.some.injEq] at e; subst e
    simp only [VR] at hx; subst hx
    exact ⟨_, vlit _, by simp [Op.unary, Op.intArith]⟩

theorem convV_ok (hT : ETok P tt) {S : Still} {s t : Nat} {x z : V} (e : convV tt s t x = some z) {u : Value} (hx : VR S ρ x u) (w : World) : ∃ r, VR S ρ z r ∧ (convert s t u).run P w = .ok r w := by
  unfold convV at e
  split at e
  · rename_i is kt _ _ _ _ _ a hs ht
    simp only [Option.some.injEq] at e; subst e
    simp only [VR] at hx; subst hx
    obtain ⟨d, hd⟩ := kind_some (hT _ _ hs).kind
    have hk : P.underlying t = some (.int kt) := (hT _ _ ht).kind
    exact ⟨_, vlit _, by simp [convert, run_underlying hd, run_underlying hk, Conv.intToInt]⟩
  · cases e

/-! ### Loads -/

theorem blk_get {h : HSim C ρ st w} {b : Nat} {k : Blk} (hk : st (.b b) = .k k) : ∃ p arr ty, ρ b = some p ∧ w.heap[p.B]? = some (.cells arr ty (0, 0)) ∧ p.Z = arr.size ∧ p.O + k.cells.length ≤ arr.size ∧ (k.ex = true → p.O + k.cells.length = p.Z) ∧
    ∀ (i : Nat) (x : V), k.cells[i]? = some x → ∃ v, arr[p.O + i]? = some v ∧ CellOk C.S ρ x v := by
  obtain ⟨p, h1, h2⟩ := h.ent b (by rw [hk]; rfl)
  rw [hk] at h2
  obtain ⟨arr, ty, q1, q2, q3, q4, q5⟩ := h2
  exact ⟨p, arr, ty, h1, q1, q2, q3, q4, q5⟩

/-- A part of a block's cells, and what lies there. -/
theorem blk_part (h : HSim C ρ st w) {b : Nat} {k : Blk} (hk : st (.b b) = .k k) {p : Loc} (hp : ρ b = some p) (o m : Nat) (hm : o + m ≤ k.cells.length) :
    ∃ cs : List Value, VRs C.S ρ ((k.cells.drop o).take m) cs ∧ cs.length = m ∧ (∀ u ∈ cs, u.oneCell' = true) ∧ ∀ (j : Nat) (u : Value), cs[j]? = some u → cellAt w.heap p.B (p.O + o + j) = some u := by
  obtain ⟨p', arr, ty, h1, h2, h3, h4, h5, h6⟩ := blk_get (h := h) hk
  rw [hp] at h1; cases h1
  refine ⟨(arr.toList.drop (p.O + o)).take m, ?_, ?_, ?_, ?_⟩
  · refine VRs.of_get ?_ ?_
    · simp only [List.length_take, List.length_drop, Array.length_toList]; omega
    · intro i x hx
      simp only [List.getElem?_take, List.getElem?_drop] at hx ⊢
      split at hx
      · rename_i hi
        obtain ⟨v, g1, g2⟩ := h6 (o + i) x hx
        rw [if_pos hi]
        exact ⟨v, by rw [Array.getElem?_toList]; rw [← Nat.add_assoc] at g1; exact g1, g2.1⟩
      · cases hx
  · simp only [List.length_take, List.length_drop, Array.length_toList]; omega
  · intro u hu
    obtain ⟨i, hi⟩ := List.mem_iff_getElem?.1 hu
    simp only [List.getElem?_take, List.getElem?_drop] at hi
    split at hi
    · rename_i hlt
      obtain ⟨v, g1, g2⟩ := h6 (o + i) k.cells[o + i] (List.getElem?_eq_getElem (by omega))
      rw [Array.getElem?_toList, Nat.add_assoc, g1] at hi
      cases hi
      exact g2.2
    · cases hi
  · intro j u hj
    simp only [List.getElem?_take, List.getElem?_drop] at hj
    split at hj
    · rw [Array.getElem?_toList] at hj
      unfold cellAt
      rw [h2]
      exact hj
    · cases hj

end

mutual
theorem cellsA_ok {S : Still} {ρ : Pl} : ∀ {a : A} {xs : List V} {cs : List Value}, cellsA a = some xs → Rep S a cs → VRs S ρ xs cs
  | .atom v, xs, cs, e, r => by
    simp only [cellsA, Option.some.injEq] at e; subst e
    simp only [Rep] at r
    obtain ⟨rfl, _⟩ := r
    simp [VRs, VR]
  | .fn _ _, xs, cs, e, _ => by simp [cellsA] at e
  | .agg fs, xs, cs, e, r => by
    simp only [cellsA] at e
    simp only [Rep] at r
    exact cellsAs_ok e r
  | .tup _, xs, cs, e, _ => by simp [cellsA] at e
  | .sl sz t ys, xs, cs, e, r => by
    simp only [cellsA, Option.some.injEq] at e; subst e
    have hl := r.len
    simp only [A.size] at hl
    rcases cs with _ | ⟨c, _ | ⟨d, l⟩⟩ <;> simp at hl
    simp only [VRs, VR]
    exact ⟨c, [], rfl, r, rfl⟩
  | .sptr x, xs, cs, e, r => by
    simp only [cellsA, Option.some.injEq] at e; subst e
    have hl := r.len
    simp only [A.size] at hl
    rcases cs with _ | ⟨c, _ | ⟨d, l⟩⟩ <;> simp at hl
    simp only [VRs, VR]
    exact ⟨c, [], rfl, r, rfl⟩
  | .osl _ _ _, xs, cs, e, _ => by simp [cellsA] at e
  | .box _, xs, cs, e, _ => by simp [cellsA] at e
  | .dead _, xs, cs, e, _ => by simp [cellsA] at e
theorem cellsAs_ok {S : Still} {ρ : Pl} : ∀ {as' : List A} {xs : List V} {cs : List Value}, cellsAs as' = some xs → Reps S as' cs → VRs S ρ xs cs
  | [], xs, cs, e, r => by
    simp only [cellsAs, Option.some.injEq] at e; subst e
    simp only [Reps] at r
    simp [VRs, r]
  | b :: bs, xs, cs, e, r => by
    simp only [cellsAs] at e
    split at e
    · rename_i x1 x2 e1 e2
      simp only [Option.some.injEq] at e; subst e
      simp only [Reps] at r
      obtain ⟨c1, c2, rfl, r1, r2⟩ := r
      exact (cellsA_ok e1 r1).append (cellsAs_ok e2 r2)
    · cases e
end

end Go.Ex
