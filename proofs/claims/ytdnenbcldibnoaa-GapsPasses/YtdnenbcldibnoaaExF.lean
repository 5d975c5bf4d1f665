/- The operations without logs: what is run where no order is drawn. Printed by a program of the prover's. -/
import Derived.Test.YtdnenbcldibnoaaExE
namespace Go.Ex
noncomputable section

/-- What is done next is handed over. -/
abbrev DM (α : Type) := (α → S → Option S) → S → Option S
def DM.bind {α β : Type} (m : DM α) (f : α → DM β) : DM β := fun k => m fun a => f a k
def DM.pure {α : Type} (a : α) : DM α := fun k => k a
instance : Monad DM := { pure := DM.pure, bind := DM.bind }

def putW (s : S) : Key → X → S
  | .s t, x => ⟨s.fr.put t x, s.hb, s.hf, s.n, s.ws⟩
  | .b i, x => ⟨s.fr, s.hb.put i x, s.hf, s.n, .b i :: s.ws⟩
  | .f i, x => ⟨s.fr, s.hb, s.hf.put i x, s.n, .f i :: s.ws⟩

def applyW : Ups → S → S
  | [], s => s
  | u :: us, s => applyW us (putW s u.1 u.2)

theorem view_putW (s : S) (k : Key) (x : X) : view (putW s k x) = upd (view s) k x := by
  funext j
  cases k <;> cases j <;> simp [putW, view, upd, Tr.get_put]
theorem view_applyW : ∀ (us : Ups) (s : S), view (applyW us s) = applyU us (view s)
  | [], _ => rfl
  | u :: us, s => by simp only [applyW, applyU]; rw [view_applyW us, view_putW]
theorem applyW_n : ∀ (us : Ups) (s : S), (applyW us s).n = s.n
  | [], _ => rfl
  | u :: us, s => by simp only [applyW]; rw [applyW_n us]; cases u.1 <;> rfl
theorem applyW_append : ∀ (us vs : Ups) (s : S), applyW (us ++ vs) s = applyW vs (applyW us s)
  | [], _, _ => rfl
  | u :: us, vs, s => by simp only [List.cons_append, applyW]; exact applyW_append us vs _
def Key.heap : Key → Bool
  | .s _ => false
  | _ => true
theorem applyW_ws : ∀ (us : Ups) (s : S) (k : Key), k ∈ (applyW us s).ws ↔ (k ∈ us.map (·.1) ∧ k.heap = true) ∨ k ∈ s.ws
  | [], s, k => by simp [applyW]
  | u :: us, s, k => by
    simp only [applyW, List.map_cons, List.mem_cons]
    rw [applyW_ws us]
    have : k ∈ (putW s u.1 u.2).ws ↔ (k = u.1 ∧ k.heap = true) ∨ k ∈ s.ws := by
      cases hu : u.1 with
      | s t =>
        simp only [putW]
        constructor
        · exact .inr
        · rintro (⟨rfl, h⟩ | h)
          · cases h
          · exact h
      | b i =>
        simp only [putW, List.mem_cons]
        constructor
        · rintro (rfl | h)
          · exact .inl ⟨rfl, rfl⟩
          · exact .inr h
        · rintro (⟨h, _⟩ | h)
          · exact .inl h
          · exact .inr h
      | f i =>
        simp only [putW, List.mem_cons]
        constructor
        · rintro (rfl | h)
          · exact .inl ⟨rfl, rfl⟩
          · exact .inr h
        · rintro (⟨h, _⟩ | h)
          · exact .inl h
          · exact .inr h
    rw [this]
    constructor
    · rintro (⟨h1, h2⟩ | ⟨h1, h2⟩ | h)
      · exact .inl ⟨.inr h1, h2⟩
      · exact .inl ⟨.inl h1, h2⟩
      · exact .inr h
    · rintro (⟨h1 | h1, h2⟩ | h)
      · exact .inr (.inl ⟨h1, h2⟩)
      · exact .inl ⟨h1, h2⟩
      · exact .inr (.inr h)

namespace D
def rdX (key : Key) : DM X := fun k s => k (view s key) s
def wrX (key : Key) (x : X) : DM Unit := fun k s => match okK s.n key && okX s.n x with | true => k () (putW s key x) | false => none
def wrSl (t : Nat) (x : V) : DM Unit := fun k s => k () ⟨s.fr.put t (.v x), s.hb, s.hf, s.n, s.ws⟩
def efail {α : Type} : DM α := fun _ _ => none
def ofO {α : Type} (x : Option α) : DM α := fun k s => match x with | some a => k a s | none => none

def rdS (t : Nat) : DM V := do
  let x ← rdX (.s t)
  pure x.val

def opV : Operand → DM V
  | .tmp t => rdS t
  | .const v => pure (cV v)
  | .func f => pure (.fn f [])
  | .global _ => efail

def opVs : List Operand → DM (List V)
  | [] => pure []
  | x :: xs => do
    let a ← opV x
    let as' ← opVs xs
    pure (a :: as')

def rdB (b : Nat) : DM Blk := do
  let x ← rdX (.b b)
  match x with
  | .k k => pure k
  | _ => efail

def rdF (f : Nat) : DM Fam := do
  let x ← rdX (.f f)
  match x with
  | .m l => pure l
  | _ => efail

def rdM (b : Nat) : DM (List (Value × V)) := do
  let x ← rdX (.b b)
  match x with
  | .mp es => pure es
  | _ => efail

def touch (b fam lo hi : Nat) : List Nat → DM Unit
  | [] => pure ()
  | m :: l => do
    if m = b then touch b fam lo hi l else do
      let x ← rdX (.b m)
      match x with
      | .k k =>
        if k.fam = fam ∧ lo < k.foff + k.cells.length ∧ k.foff < hi then do
          wrX (.b m) (.k (smudge k lo hi))
          touch b fam lo hi l
        else touch b fam lo hi l
      | _ => touch b fam lo hi l

def putB (b o : Nat) (xs : List V) : DM Unit := do
  let k ← rdB b
  if o + xs.length ≤ k.cells.length then do
    let l ← rdF k.fam
    touch b k.fam (k.foff + o) (k.foff + o + xs.length) l.l
    wrX (.b b) (.k { k with cells := putL k.cells o xs })
  else efail

def loadV (tt : ET) (t : Nat) (x : V) : DM V := do
  let i ← ofO (tt t)
  match x with
  | .ptr b o => do
    let k ← rdB b
    if o + i.size ≤ k.cells.length ∧ (i.kind.isAgg = true ∨ i.size = 1) then ofO (ofCells i.kind.isAgg ((k.cells.drop o).take i.size)) else efail
  | .tr (.sptr y) => do
    let cs ← ofO (cellsA y)
    if cs.length = i.size ∧ (i.kind.isAgg = true ∨ i.size = 1) then ofO (ofCells i.kind.isAgg cs) else efail
  | _ => efail

def storeV (tt : ET) (t : Nat) (x v : V) : DM Unit := do
  let i ← ofO (tt t)
  match x with
  | .ptr b o => if fits i v = true then putB b o v.cells else efail
  | _ => efail

def lenV (tt : ET) (t : Nat) (x : V) : DM V := do
  let i ← ofO (tt t)
  match i.kind, x with
  | .slice _, .sl _ _ _ n _ => pure (.lit (.int .i64 n))
  | .slice _, .lit (.slice _ n _) => pure (.lit (.int .i64 n))
  | .slice _, .tr (.sl _ _ xs) => pure (.lit (.int .i64 xs.length))
  | .str, .lit (.string s) => pure (.lit (.int .i64 s.size))
  | .map _ _, .lit (.map none) => pure (.lit (.int .i64 0))
  | .map _ _, .mp b => do
    let es ← rdM b
    pure (.lit (.int .i64 es.length))
  | _, _ => efail

def wrNew (n : Nat) (k : Blk) : DM Unit := do
  wrX (.b n) (.k k)
  wrX (.f n) (.m ⟨n + 1, [n]⟩)

def allocV (tt : ET) (n t : Nat) : DM V := do
  let i ← ofO (tt t)
  let z ← ofO i.zero
  wrNew n ⟨z.map .lit, true, n, 0⟩
  pure (.ptr n 0)

def boxV (n : Nat) (x : V) : DM V :=
  if x.cells.all oneV = true then do
    wrNew n ⟨x.cells, true, n, 0⟩
    pure (.ptr n 0)
  else efail

def makeSliceV (tt : ET) (n t : Nat) (l c : Int) : DM V := do
  let (_, i) ← ofO (slElem tt t)
  let z ← ofO i.zero
  if 0 ≤ l ∧ l ≤ c ∧ c ≤ lim ∧ i.bytes ≤ 4096 then do
    wrNew n ⟨(List.replicate c.toNat (z.map V.lit)).flatten, true, n, 0⟩
    pure (.sl n 0 i.size l.toNat (some c.toNat))
  else efail

def parts : List (Nat × Operand) → DM (List (Nat × V))
  | [] => pure []
  | (i, x) :: ps => do
    let a ← opV x
    let r ← parts ps
    pure ((i, a) :: r)

def buildSliceV (tt : ET) (n t len : Nat) (ps : List (Nat × V)) : DM V := do
  let (_, ie) ← ofO (slElem tt t)
  let z ← ofO ie.zero
  if len * ie.size ≤ lim then do
    let cs ← ofO (fillL (fun j => some (j * ie.size, ie.size)) (List.replicate len (z.map V.lit)).flatten ps)
    wrNew n ⟨cs, true, n, 0⟩
    pure (.sl n 0 ie.size len (some len))
  else efail

def elems (z : Nat) (x : V) : DM (Nat × List V) :=
  match x with
  | .lit (.slice none 0 0) => pure (0, [])
  | .sl b o z' m _ => do
    let k ← rdB b
    if z' = z ∧ o + m * z ≤ k.cells.length then pure (m, (k.cells.drop o).take (m * z)) else efail
  | .tr (.sl z' _ xs) => do
    let cs ← ofO (cellsAs xs)
    if z' = z ∧ cs.length = xs.length * z then pure (xs.length, cs) else efail
  | _ => efail

def grow (n : Nat) (z m : Nat) (cs : List V) : DM V := do
  wrNew n ⟨cs, false, n, 0⟩
  pure (.sl n 0 z m none)

def moveV (n o z l m : Nat) (k : Blk) (ys : List V) : DM V := do
  let fl ← (if k.fam ≤ n then rdF k.fam else efail)
  let _ ← (if fl.top ≤ n + 1 then pure () else efail : DM Unit)
  wrX (.b n) (.k ⟨(k.cells.drop o).take (l * z), false, k.fam, k.foff + o⟩)
  wrX (.f k.fam) (.m ⟨n + 1, n :: fl.l⟩)
  touch n k.fam (k.foff + o + l * z) (k.foff + o + l * z + ys.length) fl.l
  wrX (.b n) (.k ⟨(k.cells.drop o).take (l * z) ++ ys, false, k.fam, k.foff + o⟩)
  pure (.sl n 0 z (l + m) none)

def appendSl (n z b o l m : Nat) (c : Option Nat) (ys : List V) : DM V := do
  let k ← rdB b
  if o + (l + m) * z ≤ k.cells.length ∧ roomV c (l + m) = true then do
    putB b (o + l * z) ys
    pure (.sl b o z (l + m) c)
  else if o + l * z ≤ k.cells.length ∧ fullV c (l + m) = true then grow n z (l + m) ((k.cells.drop o).take (l * z) ++ ys)
  else if o + l * z ≤ k.cells.length ∧ c = none ∧ k.ex = false then moveV n o z l m k ys
  else efail

def appendV (tt : ET) (n t : Nat) (s x : V) : DM V := do
  let (_, i) ← ofO (slElem tt t)
  if i.bytes ≤ 4096 ∧ 0 < i.size ∧ i.zero.isSome = true then do
    let (m, ys) ← elems i.size x
    match s with
    | .lit (.slice none 0 0) => if m = 0 then pure s else if m ≤ lim then grow n i.size m ys else efail
    | .tr (.sl z true xs) => do
      let cs ← ofO (cellsAs xs)
      if z = i.size ∧ m ≠ 0 ∧ xs.length + m ≤ lim then grow n i.size (xs.length + m) (cs ++ ys) else efail
    | .sl b o z l c => if m = 0 then pure s else if z = i.size ∧ l + m ≤ lim then appendSl n i.size b o l m c ys else efail
    | _ => efail
  else efail

def opO : Option Operand → DM (Option V)
  | none => pure none
  | some x => do
    let a ← opV x
    pure (some a)

def entsV : V → DM (List (Value × V))
  | .lit (.map none) => pure []
  | .mp b => rdM b
  | _ => efail

def lookupV (tt : ET) (t : Nat) (x i : V) (ok : Bool) : DM V := do
  let (kt, et) ← ofO (mapKE tt t)
  let k ← ofO (keyOf i)
  let es ← entsV x
  if keyOk tt kt k = true then do
    let r ← ofO (findM k es 0)
    match r with
    | some (_, v) => pure (if ok = true then .tup [v, .lit (.bool true)] else v)
    | none => do
      let z ← ofO (zeroV tt et)
      pure (if ok = true then .tup [z, .lit (.bool false)] else z)
  else efail

def mapUpdateV (tt : ET) (t : Nat) (x i v : V) : DM Unit := do
  let (kt, _) ← ofO (mapKE tt t)
  let k ← ofO (keyOf i)
  match x with
  | .mp b => do
    let es ← rdM b
    if keyOk tt kt k = true then do
      let r ← ofO (findM k es 0)
      match r with
      | some (j, _) => wrX (.b b) (.mp (es.set j (k, v)))
      | none => wrX (.b b) (.mp (es ++ [(k, v)]))
    else efail
  | _ => efail

def makeMapV (n : Nat) : DM V := do
  wrX (.b n) (.mp [])
  pure (.mp n)

def one (m : DM V) : DM (Option V) := do
  let v ← m
  pure (some v)

def pickV (c x y : Operand) : DM V := do
  let b ← opV c
  match b with
  | .lit (.bool true) => opV x
  | .lit (.bool false) => opV y
  | _ => efail

def callB (tt : ET) (n : Nat) (b : Builtin) (args : List Operand) (tys : List Nat) : DM (Option V) :=
  match b, args, tys with
  | .len, [x], [t] => do
    let v ← opV x
    one (lenV tt t v)
  | .cap, [x], [t] => do
    let v ← opV x
    one (ofO (capV tt t v))
  | .append, [s, x], [t, t'] => if t = t' then do
      let sv ← opV s
      let xv ← opV x
      one (appendV tt n t sv xv)
    else efail
  | .min, x :: xs, _ => do
    let v ← opV x
    let vs ← opVs xs
    one (ofO (minVs false v vs))
  | .max, x :: xs, _ => do
    let v ← opV x
    let vs ← opVs xs
    one (ofO (minVs true v vs))
  | _, _, _ => efail

abbrev pvBinOp (tt : ET) (op : BinOp) (xt : Nat) (x y : Operand) : DM (Option V) := do
  let a ← opV x
  let b ← opV y
  one (ofO (binV tt op xt a b))

abbrev pvUnOp (op : UnOp) (x : Operand) : DM (Option V) := do
  let a ← opV x
  one (ofO (unV op a))

abbrev pvConvert (tt : ET) (s t : Nat) (x : Operand) : DM (Option V) := do
  let a ← opV x
  one (ofO (convV tt s t a))

abbrev pvExtract (x : Operand) (i : Nat) : DM (Option V) := do
  let a ← opV x
  one (ofO (extractV a i))

abbrev pvNilCheck (x : Operand) : DM (Option V) := do
  let a ← opV x
  one (ofO (nilCheckV a))

abbrev pvLoad (tt : ET) (t : Nat) (x : Operand) : DM (Option V) := do
  let a ← opV x
  one (loadV tt t a)

abbrev pvStore (tt : ET) (t : Nat) (x v : Operand) : DM (Option V) := do
  let a ← opV x
  let b ← opV v
  let _ ← storeV tt t a b
  pure none

abbrev pvFieldAddr (tt : ET) (t : Nat) (x : Operand) (i : Nat) : DM (Option V) := do
  let a ← opV x
  one (ofO (fieldAddrV tt t i a))

abbrev pvIndexAddr (tt : ET) (t : Nat) (x i : Operand) : DM (Option V) := do
  let a ← opV x
  let b ← opV i
  let (_, j) ← ofO (isV b)
  one (ofO (indexAddrV tt t a j))

abbrev pvBox (n : Nat) (x : Operand) : DM (Option V) := do
  let a ← opV x
  one (boxV n a)

abbrev pvBuild (tt : ET) (t : Nat) (ps : Array (Nat × Operand)) : DM (Option V) := do
  let qs ← parts ps.toList
  one (ofO (buildV tt t qs))

abbrev pvBuildSlice (tt : ET) (n t len : Nat) (ps : Array (Nat × Operand)) : DM (Option V) := do
  let qs ← parts ps.toList
  one (buildSliceV tt n t len qs)

abbrev pvMakeSlice (tt : ET) (n t : Nat) (l c : Operand) : DM (Option V) := do
  let a ← opV l
  let b ← opV c
  let (_, x) ← ofO (isV a)
  let (_, y) ← ofO (isV b)
  one (makeSliceV tt n t x y)

abbrev pvMakeFunc (f : Nat) (caps : Array Operand) : DM (Option V) := do
  let vs ← opVs caps.toList
  pure (some (.fn f vs))

abbrev pvMakeMap (tt : ET) (n t : Nat) (x : Operand) : DM (Option V) := do
  let a ← opV x
  let _ ← ofO (isV a)
  let _ ← ofO (mapKE tt t)
  one (makeMapV n)

abbrev pvSlice (tt : ET) (t : Nat) (x : Operand) (lo hi mx : Option Operand) : DM (Option V) := do
  let a ← opV x
  let l ← opO lo
  let h ← opO hi
  let m ← opO mx
  one (ofO (sliceV tt t a l h m))

abbrev pvField (tt : ET) (t : Nat) (x : Operand) (i : Nat) : DM (Option V) := do
  let a ← opV x
  one (ofO (fieldV tt t i a))

abbrev pvIndex (tt : ET) (t : Nat) (x i : Operand) : DM (Option V) := do
  let a ← opV x
  let b ← opV i
  let (_, j) ← ofO (isV b)
  one (ofO (indexV tt t a j))

abbrev pvLookup (tt : ET) (t : Nat) (x i : Operand) (ok : Bool) : DM (Option V) := do
  let a ← opV x
  let b ← opV i
  one (lookupV tt t a b ok)

abbrev pvMapUpdate (tt : ET) (t : Nat) (m k v : Operand) : DM (Option V) := do
  let a ← opV m
  let b ← opV k
  let c ← opV v
  let _ ← mapUpdateV tt t a b c
  pure none

structure Cm where
  run : Nat → DM (Option V)

def copV (tt : ET) (o : Oper) : Cm :=
  match o.op with
  | .move x => ⟨fun _ => one (opV x)⟩
  | .assign x => ⟨fun _ => one (opV x)⟩
  | .pick c x y => ⟨fun _ => one (pickV c x y)⟩
  | .binOp op xt x y _ => ⟨fun _ => do
    let a ← opV x
    let b ← opV y
    one (ofO ((cb tt op xt).run a b))⟩
  | .unOp op _ x => ⟨fun _ => pvUnOp op x⟩
  | .convert s t x => ⟨fun _ => pvConvert tt s t x⟩
  | .extract x i => ⟨fun _ => pvExtract x i⟩
  | .nilCheck x => ⟨fun _ => pvNilCheck x⟩
  | .load t x => ⟨fun _ => pvLoad tt t x⟩
  | .store t x v => ⟨fun _ => pvStore tt t x v⟩
  | .fieldAddr t x i => ⟨fun _ => pvFieldAddr tt t x i⟩
  | .indexAddr t x i => ⟨fun _ => pvIndexAddr tt t x i⟩
  | .alloc t => ⟨fun n => one (allocV tt n t)⟩
  | .box _ x => ⟨fun n => pvBox n x⟩
  | .build t ps => ⟨fun _ => pvBuild tt t ps⟩
  | .buildSlice t len ps => ⟨fun n => pvBuildSlice tt n t len ps⟩
  | .makeSlice t l c => ⟨fun n => pvMakeSlice tt n t l c⟩
  | .makeFunc (.func f) ⟨[]⟩ caps => ⟨fun _ => pvMakeFunc f caps⟩
  | .makeMap _ none => ⟨fun n => one (makeMapV n)⟩
  | .makeMap t (some x) => ⟨fun n => pvMakeMap tt n t x⟩
  | .slice t x lo hi mx => ⟨fun _ => pvSlice tt t x lo hi mx⟩
  | .field t x i => ⟨fun _ => pvField tt t x i⟩
  | .index t x i => ⟨fun _ => pvIndex tt t x i⟩
  | .lookup t x i ok => ⟨fun _ => pvLookup tt t x i ok⟩
  | .mapUpdate t m k v => ⟨fun _ => pvMapUpdate tt t m k v⟩
  | .insert t m k v => ⟨fun _ => pvMapUpdate tt t m k v⟩
  | .call ⟨.builtin b, ⟨args⟩, ⟨tys⟩⟩ => ⟨fun n => callB tt n b args tys⟩
  | _ => ⟨fun _ => efail⟩


structure Cw where
  run : V → DM Unit
def copW (N : Nat) (dst : Option Nat) : Cw :=
  match dst with
  | none => ⟨fun _ => pure ()⟩
  | some k => match Nat.blt k N with
    | true => ⟨fun x => wrSl k x⟩
    | false => ⟨fun _ => efail⟩

def copP (m : DM (Option V)) (w : Cw) (nd : Bool) : DM Unit := do
  let r ← m
  match r with
  | some v => w.run v
  | none => match nd with | true => pure () | false => efail

structure Cg where
  run : Nat → DM Unit

def copG (tt : ET) (N : Nat) (ops : Array Oper) (o : Oper) : Cg :=
  match o.guard with
  | none => ⟨fun n => copP ((copV tt o).run n) (copW N o.dst) o.dst.isNone⟩
  | some (j, want) =>
    match (ops[j]?).bind (·.dst) with
    | some g => ⟨fun n => do
      let b ← rdS g
      match b with
      | .lit (.bool b) => if b = want then copP ((copV tt o).run n) (copW N o.dst) o.dst.isNone else (copW N o.dst).run .un
      | _ => efail⟩
    | none => ⟨fun _ => efail⟩


end D

/-- Where this leads on, the operation with logs does, and to the same. -/
def Ag {α : Type} (m : EM α) (c : DM α) : Prop := ∀ k s out, c k s = some out → ∃ r R U, m (view s) = some (r, R, U) ∧ okU s.n U = true ∧ k r (applyW U s) = some out

theorem Ag.bind {α β : Type} {m : EM α} {f : α → EM β} {c : DM α} {g : α → DM β} (h1 : Ag m c) (h2 : ∀ a, Ag (f a) (g a)) : Ag (m >>= f) (c >>= g) := by
  intro k s out e
  obtain ⟨a, R1, U1, q1, q2, q3⟩ := h1 (fun a => g a k) s out e
  obtain ⟨b, R2, U2, p1, p2, p3⟩ := h2 a k _ out q3
  rw [view_applyW] at p1
  rw [applyW_n] at p2
  refine ⟨b, R1 ++ R2, U1 ++ U2, ?_, ?_, by rw [applyW_append]; exact p3⟩
  · show EM.bind m f (view s) = _
    unfold EM.bind
    rw [q1]
    simp only [p1]
  · unfold okU at *
    rw [List.all_append, q2, p2]
    rfl
theorem Ag.pure {α : Type} (a : α) : Ag (Pure.pure a : EM α) (Pure.pure a : DM α) := fun _ _ _ e => ⟨a, [], [], rfl, rfl, e⟩
theorem Ag.fail {α : Type} : Ag (efail : EM α) (D.efail : DM α) := fun _ _ _ e => by simp [D.efail] at e
theorem Ag.rdX (k : Key) : Ag (rdX k) (D.rdX k) := fun _ s _ e => ⟨view s k, [k], [], rfl, rfl, e⟩
theorem Ag.wrX (k : Key) (x : X) : Ag (wrX k x) (D.wrX k x) := fun f s out e => by
  unfold D.wrX at e
  split at e
  · rename_i h
    exact ⟨(), [], [(k, x)], rfl, by simp [okU]; simpa using h, e⟩
  · cases e
theorem Ag.wrSl (t : Nat) (x : V) : Ag (Go.Ex.wrX (.s t) (.v x)) (D.wrSl t x) := fun f s out e => ⟨(), [], [(.s t, .v x)], rfl, by simp [okU, okK, okX], e⟩
theorem Ag.ofO {α : Type} (x : Option α) : Ag (ofO x) (D.ofO x) := fun f s out e => by
  unfold D.ofO at e
  cases x with
  | none => cases e
  | some a => exact ⟨a, [], [], rfl, rfl, e⟩
theorem Ag.ite {α : Type} {c : Prop} [Decidable c] {x y : EM α} {x' y' : DM α} (h1 : Ag x x') (h2 : Ag y y') : Ag (if c then x else y) (if c then x' else y') := by split <;> assumption


theorem Ag.rdS (t : Nat) : Ag (Go.Ex.rdS t) (D.rdS t) := by
  unfold Go.Ex.rdS D.rdS
  repeat' (first | exact Ag.pure _ | exact Ag.fail | exact Ag.ofO _ | exact Ag.rdX _ | exact Ag.wrX _ _ | assumption | refine Ag.ite ?_ ?_ | refine Ag.bind ?_ (fun _ => ?_) | (exfalso; solve_by_elim) | (exfalso; simp_all; done) | (split <;> (try injections) <;> (try subst_vars)))

theorem Ag.opV (x : Operand) : Ag (Go.Ex.opV x) (D.opV x) := by
  unfold Go.Ex.opV D.opV
  repeat' (first | exact Ag.pure _ | exact Ag.fail | exact Ag.ofO _ | exact Ag.rdX _ | exact Ag.wrX _ _ | assumption | exact Ag.rdS _ | refine Ag.ite ?_ ?_ | refine Ag.bind ?_ (fun _ => ?_) | (exfalso; solve_by_elim) | (exfalso; simp_all; done) | (split <;> (try injections) <;> (try subst_vars)))

theorem Ag.opVs : ∀ xs, Ag (Go.Ex.opVs xs) (D.opVs xs)
  | [] => Ag.pure _
  | x :: xs => Ag.bind (Ag.opV x) fun _ => Ag.bind (Ag.opVs xs) fun _ => Ag.pure _

theorem Ag.rdB (b : Nat) : Ag (Go.Ex.rdB b) (D.rdB b) := by
  unfold Go.Ex.rdB D.rdB
  repeat' (first | exact Ag.pure _ | exact Ag.fail | exact Ag.ofO _ | exact Ag.rdX _ | exact Ag.wrX _ _ | assumption | exact Ag.opVs _ | exact Ag.opV _ | exact Ag.rdS _ | refine Ag.ite ?_ ?_ | refine Ag.bind ?_ (fun _ => ?_) | (exfalso; solve_by_elim) | (exfalso; simp_all; done) | (split <;> (try injections) <;> (try subst_vars)))

theorem Ag.rdF (b : Nat) : Ag (Go.Ex.rdF b) (D.rdF b) := by
  unfold Go.Ex.rdF D.rdF
  repeat' (first | exact Ag.pure _ | exact Ag.fail | exact Ag.ofO _ | exact Ag.rdX _ | exact Ag.wrX _ _ | assumption | exact Ag.rdB _ | exact Ag.opVs _ | exact Ag.opV _ | exact Ag.rdS _ | refine Ag.ite ?_ ?_ | refine Ag.bind ?_ (fun _ => ?_) | (exfalso; solve_by_elim) | (exfalso; simp_all; done) | (split <;> (try injections) <;> (try subst_vars)))

theorem Ag.rdM (b : Nat) : Ag (Go.Ex.rdM b) (D.rdM b) := by
  unfold Go.Ex.rdM D.rdM
  repeat' (first | exact Ag.pure _ | exact Ag.fail | exact Ag.ofO _ | exact Ag.rdX _ | exact Ag.wrX _ _ | assumption | exact Ag.rdF _ | exact Ag.rdB _ | exact Ag.opVs _ | exact Ag.opV _ | exact Ag.rdS _ | refine Ag.ite ?_ ?_ | refine Ag.bind ?_ (fun _ => ?_) | (exfalso; solve_by_elim) | (exfalso; simp_all; done) | (split <;> (try injections) <;> (try subst_vars)))

theorem Ag.touch (b fam lo hi : Nat) : ∀ l, Ag (Go.Ex.touch b fam lo hi l) (D.touch b fam lo hi l)
  | [] => Ag.pure _
  | m :: l => by
    have ih := Ag.touch b fam lo hi l
    simp only [Go.Ex.touch, D.touch]
    repeat' (first | exact Ag.pure _ | exact Ag.fail | exact Ag.ofO _ | exact Ag.rdX _ | exact Ag.wrX _ _ | assumption | exact Ag.rdM _ | exact Ag.rdF _ | exact Ag.rdB _ | exact Ag.opVs _ | exact Ag.opV _ | exact Ag.rdS _ | refine Ag.ite ?_ ?_ | refine Ag.bind ?_ (fun _ => ?_) | (exfalso; solve_by_elim) | (exfalso; simp_all; done) | (split <;> (try injections) <;> (try subst_vars)))

theorem Ag.putB (b q : Nat) (xs : List V) : Ag (Go.Ex.putB b q xs) (D.putB b q xs) := by
  unfold Go.Ex.putB D.putB
  repeat' (first | exact Ag.pure _ | exact Ag.fail | exact Ag.ofO _ | exact Ag.rdX _ | exact Ag.wrX _ _ | assumption | exact Ag.touch _ _ _ _ _ | exact Ag.rdM _ | exact Ag.rdF _ | exact Ag.rdB _ | exact Ag.opVs _ | exact Ag.opV _ | exact Ag.rdS _ | refine Ag.ite ?_ ?_ | refine Ag.bind ?_ (fun _ => ?_) | (exfalso; solve_by_elim) | (exfalso; simp_all; done) | (split <;> (try injections) <;> (try subst_vars)))

theorem Ag.wrNew (n : Nat) (k : Blk) : Ag (Go.Ex.wrNew n k) (D.wrNew n k) := by
  unfold Go.Ex.wrNew D.wrNew
  repeat' (first | exact Ag.pure _ | exact Ag.fail | exact Ag.ofO _ | exact Ag.rdX _ | exact Ag.wrX _ _ | assumption | exact Ag.putB _ _ _ | exact Ag.touch _ _ _ _ _ | exact Ag.rdM _ | exact Ag.rdF _ | exact Ag.rdB _ | exact Ag.opVs _ | exact Ag.opV _ | exact Ag.rdS _ | refine Ag.ite ?_ ?_ | refine Ag.bind ?_ (fun _ => ?_) | (exfalso; solve_by_elim) | (exfalso; simp_all; done) | (split <;> (try injections) <;> (try subst_vars)))

theorem Ag.grow (n z m : Nat) (cs : List V) : Ag (Go.Ex.grow n z m cs) (D.grow n z m cs) := by
  unfold Go.Ex.grow D.grow
  repeat' (first | exact Ag.pure _ | exact Ag.fail | exact Ag.ofO _ | exact Ag.rdX _ | exact Ag.wrX _ _ | assumption | exact Ag.wrNew _ _ | exact Ag.putB _ _ _ | exact Ag.touch _ _ _ _ _ | exact Ag.rdM _ | exact Ag.rdF _ | exact Ag.rdB _ | exact Ag.opVs _ | exact Ag.opV _ | exact Ag.rdS _ | refine Ag.ite ?_ ?_ | refine Ag.bind ?_ (fun _ => ?_) | (exfalso; solve_by_elim) | (exfalso; simp_all; done) | (split <;> (try injections) <;> (try subst_vars)))

theorem Ag.loadV (tt : ET) (t : Nat) (x : V) : Ag (Go.Ex.loadV tt t x) (D.loadV tt t x) := by
  unfold Go.Ex.loadV D.loadV
  repeat' (first | exact Ag.pure _ | exact Ag.fail | exact Ag.ofO _ | exact Ag.rdX _ | exact Ag.wrX _ _ | assumption | exact Ag.grow _ _ _ _ | exact Ag.wrNew _ _ | exact Ag.putB _ _ _ | exact Ag.touch _ _ _ _ _ | exact Ag.rdM _ | exact Ag.rdF _ | exact Ag.rdB _ | exact Ag.opVs _ | exact Ag.opV _ | exact Ag.rdS _ | refine Ag.ite ?_ ?_ | refine Ag.bind ?_ (fun _ => ?_) | (exfalso; solve_by_elim) | (exfalso; simp_all; done) | (split <;> (try injections) <;> (try subst_vars)))

theorem Ag.storeV (tt : ET) (t : Nat) (x v : V) : Ag (Go.Ex.storeV tt t x v) (D.storeV tt t x v) := by
  unfold Go.Ex.storeV D.storeV
  repeat' (first | exact Ag.pure _ | exact Ag.fail | exact Ag.ofO _ | exact Ag.rdX _ | exact Ag.wrX _ _ | assumption | exact Ag.loadV _ _ _ | exact Ag.grow _ _ _ _ | exact Ag.wrNew _ _ | exact Ag.putB _ _ _ | exact Ag.touch _ _ _ _ _ | exact Ag.rdM _ | exact Ag.rdF _ | exact Ag.rdB _ | exact Ag.opVs _ | exact Ag.opV _ | exact Ag.rdS _ | refine Ag.ite ?_ ?_ | refine Ag.bind ?_ (fun _ => ?_) | (exfalso; solve_by_elim) | (exfalso; simp_all; done) | (split <;> (try injections) <;> (try subst_vars)))

theorem Ag.lenV (tt : ET) (t : Nat) (x : V) : Ag (Go.Ex.lenV tt t x) (D.lenV tt t x) := by
  unfold Go.Ex.lenV D.lenV
  refine Ag.bind (Ag.ofO _) fun i => ?_
  obtain ⟨kd, i1, i2, i3, i4⟩ := i
  dsimp only
  repeat' (first | exact Ag.pure _ | exact Ag.fail | exact Ag.ofO _ | exact Ag.rdX _ | exact Ag.wrX _ _ | assumption | exact Ag.storeV _ _ _ _ | exact Ag.loadV _ _ _ | exact Ag.grow _ _ _ _ | exact Ag.wrNew _ _ | exact Ag.putB _ _ _ | exact Ag.touch _ _ _ _ _ | exact Ag.rdM _ | exact Ag.rdF _ | exact Ag.rdB _ | exact Ag.opVs _ | exact Ag.opV _ | exact Ag.rdS _ | refine Ag.ite ?_ ?_ | refine Ag.bind ?_ (fun _ => ?_) | (exfalso; solve_by_elim) | (exfalso; simp_all; done) | (split <;> (try injections) <;> (try subst_vars)))

theorem Ag.allocV (tt : ET) (n t : Nat) : Ag (Go.Ex.allocV tt n t) (D.allocV tt n t) := by
  unfold Go.Ex.allocV D.allocV
  repeat' (first | exact Ag.pure _ | exact Ag.fail | exact Ag.ofO _ | exact Ag.rdX _ | exact Ag.wrX _ _ | assumption | exact Ag.lenV _ _ _ | exact Ag.storeV _ _ _ _ | exact Ag.loadV _ _ _ | exact Ag.grow _ _ _ _ | exact Ag.wrNew _ _ | exact Ag.putB _ _ _ | exact Ag.touch _ _ _ _ _ | exact Ag.rdM _ | exact Ag.rdF _ | exact Ag.rdB _ | exact Ag.opVs _ | exact Ag.opV _ | exact Ag.rdS _ | refine Ag.ite ?_ ?_ | refine Ag.bind ?_ (fun _ => ?_) | (exfalso; solve_by_elim) | (exfalso; simp_all; done) | (split <;> (try injections) <;> (try subst_vars)))

theorem Ag.boxV (n : Nat) (x : V) : Ag (Go.Ex.boxV n x) (D.boxV n x) := by
  unfold Go.Ex.boxV D.boxV
  repeat' (first | exact Ag.pure _ | exact Ag.fail | exact Ag.ofO _ | exact Ag.rdX _ | exact Ag.wrX _ _ | assumption | exact Ag.allocV _ _ _ | exact Ag.lenV _ _ _ | exact Ag.storeV _ _ _ _ | exact Ag.loadV _ _ _ | exact Ag.grow _ _ _ _ | exact Ag.wrNew _ _ | exact Ag.putB _ _ _ | exact Ag.touch _ _ _ _ _ | exact Ag.rdM _ | exact Ag.rdF _ | exact Ag.rdB _ | exact Ag.opVs _ | exact Ag.opV _ | exact Ag.rdS _ | refine Ag.ite ?_ ?_ | refine Ag.bind ?_ (fun _ => ?_) | (exfalso; solve_by_elim) | (exfalso; simp_all; done) | (split <;> (try injections) <;> (try subst_vars)))

theorem Ag.makeSliceV (tt : ET) (n t : Nat) (l c : Int) : Ag (Go.Ex.makeSliceV tt n t l c) (D.makeSliceV tt n t l c) := by
  unfold Go.Ex.makeSliceV D.makeSliceV
  repeat' (first | exact Ag.pure _ | exact Ag.fail | exact Ag.ofO _ | exact Ag.rdX _ | exact Ag.wrX _ _ | assumption | exact Ag.boxV _ _ | exact Ag.allocV _ _ _ | exact Ag.lenV _ _ _ | exact Ag.storeV _ _ _ _ | exact Ag.loadV _ _ _ | exact Ag.grow _ _ _ _ | exact Ag.wrNew _ _ | exact Ag.putB _ _ _ | exact Ag.touch _ _ _ _ _ | exact Ag.rdM _ | exact Ag.rdF _ | exact Ag.rdB _ | exact Ag.opVs _ | exact Ag.opV _ | exact Ag.rdS _ | refine Ag.ite ?_ ?_ | refine Ag.bind ?_ (fun _ => ?_) | (exfalso; solve_by_elim) | (exfalso; simp_all; done) | (split <;> (try injections) <;> (try subst_vars)))

theorem Ag.parts : ∀ ps, Ag (Go.Ex.parts ps) (D.parts ps)
  | [] => Ag.pure _
  | (_, x) :: ps => Ag.bind (Ag.opV x) fun _ => Ag.bind (Ag.parts ps) fun _ => Ag.pure _

theorem Ag.buildSliceV (tt : ET) (n t len : Nat) (ps : List (Nat × V)) : Ag (Go.Ex.buildSliceV tt n t len ps) (D.buildSliceV tt n t len ps) := by
  unfold Go.Ex.buildSliceV D.buildSliceV
  repeat' (first | exact Ag.pure _ | exact Ag.fail | exact Ag.ofO _ | exact Ag.rdX _ | exact Ag.wrX _ _ | assumption | exact Ag.parts _ | exact Ag.makeSliceV _ _ _ _ _ | exact Ag.boxV _ _ | exact Ag.allocV _ _ _ | exact Ag.lenV _ _ _ | exact Ag.storeV _ _ _ _ | exact Ag.loadV _ _ _ | exact Ag.grow _ _ _ _ | exact Ag.wrNew _ _ | exact Ag.putB _ _ _ | exact Ag.touch _ _ _ _ _ | exact Ag.rdM _ | exact Ag.rdF _ | exact Ag.rdB _ | exact Ag.opVs _ | exact Ag.opV _ | exact Ag.rdS _ | refine Ag.ite ?_ ?_ | refine Ag.bind ?_ (fun _ => ?_) | (exfalso; solve_by_elim) | (exfalso; simp_all; done) | (split <;> (try injections) <;> (try subst_vars)))

theorem Ag.elems (z : Nat) (x : V) : Ag (Go.Ex.elems z x) (D.elems z x) := by
  unfold Go.Ex.elems D.elems
  repeat' (first | exact Ag.pure _ | exact Ag.fail | exact Ag.ofO _ | exact Ag.rdX _ | exact Ag.wrX _ _ | assumption | exact Ag.buildSliceV _ _ _ _ _ | exact Ag.parts _ | exact Ag.makeSliceV _ _ _ _ _ | exact Ag.boxV _ _ | exact Ag.allocV _ _ _ | exact Ag.lenV _ _ _ | exact Ag.storeV _ _ _ _ | exact Ag.loadV _ _ _ | exact Ag.grow _ _ _ _ | exact Ag.wrNew _ _ | exact Ag.putB _ _ _ | exact Ag.touch _ _ _ _ _ | exact Ag.rdM _ | exact Ag.rdF _ | exact Ag.rdB _ | exact Ag.opVs _ | exact Ag.opV _ | exact Ag.rdS _ | refine Ag.ite ?_ ?_ | refine Ag.bind ?_ (fun _ => ?_) | (exfalso; solve_by_elim) | (exfalso; simp_all; done) | (split <;> (try injections) <;> (try subst_vars)))

theorem Ag.moveV (n q z l m : Nat) (k : Blk) (ys : List V) : Ag (Go.Ex.moveV n q z l m k ys) (D.moveV n q z l m k ys) := by
  unfold Go.Ex.moveV D.moveV
  repeat' (first | exact Ag.pure _ | exact Ag.fail | exact Ag.ofO _ | exact Ag.rdX _ | exact Ag.wrX _ _ | assumption | exact Ag.elems _ _ | exact Ag.buildSliceV _ _ _ _ _ | exact Ag.parts _ | exact Ag.makeSliceV _ _ _ _ _ | exact Ag.boxV _ _ | exact Ag.allocV _ _ _ | exact Ag.lenV _ _ _ | exact Ag.storeV _ _ _ _ | exact Ag.loadV _ _ _ | exact Ag.grow _ _ _ _ | exact Ag.wrNew _ _ | exact Ag.putB _ _ _ | exact Ag.touch _ _ _ _ _ | exact Ag.rdM _ | exact Ag.rdF _ | exact Ag.rdB _ | exact Ag.opVs _ | exact Ag.opV _ | exact Ag.rdS _ | refine Ag.ite ?_ ?_ | refine Ag.bind ?_ (fun _ => ?_) | (exfalso; solve_by_elim) | (exfalso; simp_all; done) | (split <;> (try injections) <;> (try subst_vars)))

theorem Ag.appendSl (n z b q l m : Nat) (c : Option Nat) (ys : List V) : Ag (Go.Ex.appendSl n z b q l m c ys) (D.appendSl n z b q l m c ys) := by
  unfold Go.Ex.appendSl D.appendSl
  repeat' (first | exact Ag.pure _ | exact Ag.fail | exact Ag.ofO _ | exact Ag.rdX _ | exact Ag.wrX _ _ | assumption | exact Ag.moveV _ _ _ _ _ _ _ | exact Ag.elems _ _ | exact Ag.buildSliceV _ _ _ _ _ | exact Ag.parts _ | exact Ag.makeSliceV _ _ _ _ _ | exact Ag.boxV _ _ | exact Ag.allocV _ _ _ | exact Ag.lenV _ _ _ | exact Ag.storeV _ _ _ _ | exact Ag.loadV _ _ _ | exact Ag.grow _ _ _ _ | exact Ag.wrNew _ _ | exact Ag.putB _ _ _ | exact Ag.touch _ _ _ _ _ | exact Ag.rdM _ | exact Ag.rdF _ | exact Ag.rdB _ | exact Ag.opVs _ | exact Ag.opV _ | exact Ag.rdS _ | refine Ag.ite ?_ ?_ | refine Ag.bind ?_ (fun _ => ?_) | (exfalso; solve_by_elim) | (exfalso; simp_all; done) | (split <;> (try injections) <;> (try subst_vars)))

theorem Ag.appendV (tt : ET) (n t : Nat) (s x : V) : Ag (Go.Ex.appendV tt n t s x) (D.appendV tt n t s x) := by
  unfold Go.Ex.appendV D.appendV
  repeat' (first | exact Ag.pure _ | exact Ag.fail | exact Ag.ofO _ | exact Ag.rdX _ | exact Ag.wrX _ _ | assumption | exact Ag.appendSl _ _ _ _ _ _ _ _ | exact Ag.moveV _ _ _ _ _ _ _ | exact Ag.elems _ _ | exact Ag.buildSliceV _ _ _ _ _ | exact Ag.parts _ | exact Ag.makeSliceV _ _ _ _ _ | exact Ag.boxV _ _ | exact Ag.allocV _ _ _ | exact Ag.lenV _ _ _ | exact Ag.storeV _ _ _ _ | exact Ag.loadV _ _ _ | exact Ag.grow _ _ _ _ | exact Ag.wrNew _ _ | exact Ag.putB _ _ _ | exact Ag.touch _ _ _ _ _ | exact Ag.rdM _ | exact Ag.rdF _ | exact Ag.rdB _ | exact Ag.opVs _ | exact Ag.opV _ | exact Ag.rdS _ | refine Ag.ite ?_ ?_ | refine Ag.bind ?_ (fun _ => ?_) | (exfalso; solve_by_elim) | (exfalso; simp_all; done) | (split <;> (try injections) <;> (try subst_vars)))

theorem Ag.opO (x : Option Operand) : Ag (Go.Ex.opO x) (D.opO x) := by
  unfold Go.Ex.opO D.opO
  repeat' (first | exact Ag.pure _ | exact Ag.fail | exact Ag.ofO _ | exact Ag.rdX _ | exact Ag.wrX _ _ | assumption | exact Ag.appendV _ _ _ _ _ | exact Ag.appendSl _ _ _ _ _ _ _ _ | exact Ag.moveV _ _ _ _ _ _ _ | exact Ag.elems _ _ | exact Ag.buildSliceV _ _ _ _ _ | exact Ag.parts _ | exact Ag.makeSliceV _ _ _ _ _ | exact Ag.boxV _ _ | exact Ag.allocV _ _ _ | exact Ag.lenV _ _ _ | exact Ag.storeV _ _ _ _ | exact Ag.loadV _ _ _ | exact Ag.grow _ _ _ _ | exact Ag.wrNew _ _ | exact Ag.putB _ _ _ | exact Ag.touch _ _ _ _ _ | exact Ag.rdM _ | exact Ag.rdF _ | exact Ag.rdB _ | exact Ag.opVs _ | exact Ag.opV _ | exact Ag.rdS _ | refine Ag.ite ?_ ?_ | refine Ag.bind ?_ (fun _ => ?_) | (exfalso; solve_by_elim) | (exfalso; simp_all; done) | (split <;> (try injections) <;> (try subst_vars)))

theorem Ag.entsV (x : V) : Ag (Go.Ex.entsV x) (D.entsV x) := by
  unfold Go.Ex.entsV D.entsV
  repeat' (first | exact Ag.pure _ | exact Ag.fail | exact Ag.ofO _ | exact Ag.rdX _ | exact Ag.wrX _ _ | assumption | exact Ag.opO _ | exact Ag.appendV _ _ _ _ _ | exact Ag.appendSl _ _ _ _ _ _ _ _ | exact Ag.moveV _ _ _ _ _ _ _ | exact Ag.elems _ _ | exact Ag.buildSliceV _ _ _ _ _ | exact Ag.parts _ | exact Ag.makeSliceV _ _ _ _ _ | exact Ag.boxV _ _ | exact Ag.allocV _ _ _ | exact Ag.lenV _ _ _ | exact Ag.storeV _ _ _ _ | exact Ag.loadV _ _ _ | exact Ag.grow _ _ _ _ | exact Ag.wrNew _ _ | exact Ag.putB _ _ _ | exact Ag.touch _ _ _ _ _ | exact Ag.rdM _ | exact Ag.rdF _ | exact Ag.rdB _ | exact Ag.opVs _ | exact Ag.opV _ | exact Ag.rdS _ | refine Ag.ite ?_ ?_ | refine Ag.bind ?_ (fun _ => ?_) | (exfalso; solve_by_elim) | (exfalso; simp_all; done) | (split <;> (try injections) <;> (try subst_vars)))

theorem Ag.lookupV (tt : ET) (t : Nat) (x i : V) (ok : Bool) : Ag (Go.Ex.lookupV tt t x i ok) (D.lookupV tt t x i ok) := by
  unfold Go.Ex.lookupV D.lookupV
  repeat' (first | exact Ag.pure _ | exact Ag.fail | exact Ag.ofO _ | exact Ag.rdX _ | exact Ag.wrX _ _ | assumption | exact Ag.entsV _ | exact Ag.opO _ | exact Ag.appendV _ _ _ _ _ | exact Ag.appendSl _ _ _ _ _ _ _ _ | exact Ag.moveV _ _ _ _ _ _ _ | exact Ag.elems _ _ | exact Ag.buildSliceV _ _ _ _ _ | exact Ag.parts _ | exact Ag.makeSliceV _ _ _ _ _ | exact Ag.boxV _ _ | exact Ag.allocV _ _ _ | exact Ag.lenV _ _ _ | exact Ag.storeV _ _ _ _ | exact Ag.loadV _ _ _ | exact Ag.grow _ _ _ _ | exact Ag.wrNew _ _ | exact Ag.putB _ _ _ | exact Ag.touch _ _ _ _ _ | exact Ag.rdM _ | exact Ag.rdF _ | exact Ag.rdB _ | exact Ag.opVs _ | exact Ag.opV _ | exact Ag.rdS _ | refine Ag.ite ?_ ?_ | refine Ag.bind ?_ (fun _ => ?_) | (exfalso; solve_by_elim) | (exfalso; simp_all; done) | (split <;> (try injections) <;> (try subst_vars)))

theorem Ag.mapUpdateV (tt : ET) (t : Nat) (x i v : V) : Ag (Go.Ex.mapUpdateV tt t x i v) (D.mapUpdateV tt t x i v) := by
  unfold Go.Ex.mapUpdateV D.mapUpdateV
  repeat' (first | exact Ag.pure _ | exact Ag.fail | exact Ag.ofO _ | exact Ag.rdX _ | exact Ag.wrX _ _ | assumption | exact Ag.lookupV _ _ _ _ _ | exact Ag.entsV _ | exact Ag.opO _ | exact Ag.appendV _ _ _ _ _ | exact Ag.appendSl _ _ _ _ _ _ _ _ | exact Ag.moveV _ _ _ _ _ _ _ | exact Ag.elems _ _ | exact Ag.buildSliceV _ _ _ _ _ | exact Ag.parts _ | exact Ag.makeSliceV _ _ _ _ _ | exact Ag.boxV _ _ | exact Ag.allocV _ _ _ | exact Ag.lenV _ _ _ | exact Ag.storeV _ _ _ _ | exact Ag.loadV _ _ _ | exact Ag.grow _ _ _ _ | exact Ag.wrNew _ _ | exact Ag.putB _ _ _ | exact Ag.touch _ _ _ _ _ | exact Ag.rdM _ | exact Ag.rdF _ | exact Ag.rdB _ | exact Ag.opVs _ | exact Ag.opV _ | exact Ag.rdS _ | refine Ag.ite ?_ ?_ | refine Ag.bind ?_ (fun _ => ?_) | (exfalso; solve_by_elim) | (exfalso; simp_all; done) | (split <;> (try injections) <;> (try subst_vars)))

theorem Ag.makeMapV (n : Nat) : Ag (Go.Ex.makeMapV n) (D.makeMapV n) := by
  unfold Go.Ex.makeMapV D.makeMapV
  repeat' (first | exact Ag.pure _ | exact Ag.fail | exact Ag.ofO _ | exact Ag.rdX _ | exact Ag.wrX _ _ | assumption | exact Ag.mapUpdateV _ _ _ _ _ | exact Ag.lookupV _ _ _ _ _ | exact Ag.entsV _ | exact Ag.opO _ | exact Ag.appendV _ _ _ _ _ | exact Ag.appendSl _ _ _ _ _ _ _ _ | exact Ag.moveV _ _ _ _ _ _ _ | exact Ag.elems _ _ | exact Ag.buildSliceV _ _ _ _ _ | exact Ag.parts _ | exact Ag.makeSliceV _ _ _ _ _ | exact Ag.boxV _ _ | exact Ag.allocV _ _ _ | exact Ag.lenV _ _ _ | exact Ag.storeV _ _ _ _ | exact Ag.loadV _ _ _ | exact Ag.grow _ _ _ _ | exact Ag.wrNew _ _ | exact Ag.putB _ _ _ | exact Ag.touch _ _ _ _ _ | exact Ag.rdM _ | exact Ag.rdF _ | exact Ag.rdB _ | exact Ag.opVs _ | exact Ag.opV _ | exact Ag.rdS _ | refine Ag.ite ?_ ?_ | refine Ag.bind ?_ (fun _ => ?_) | (exfalso; solve_by_elim) | (exfalso; simp_all; done) | (split <;> (try injections) <;> (try subst_vars)))

theorem Ag.one {m : EM V} {c : DM V} (h : Ag m c) : Ag (one m) (D.one c) := Ag.bind h fun _ => Ag.pure _

theorem Ag.pickV (c x y : Operand) : Ag (Go.Ex.pickV c x y) (D.pickV c x y) := by
  unfold Go.Ex.pickV D.pickV
  repeat' (first | exact Ag.pure _ | exact Ag.fail | exact Ag.ofO _ | exact Ag.rdX _ | exact Ag.wrX _ _ | assumption | refine Ag.one ?_ | exact Ag.makeMapV _ | exact Ag.mapUpdateV _ _ _ _ _ | exact Ag.lookupV _ _ _ _ _ | exact Ag.entsV _ | exact Ag.opO _ | exact Ag.appendV _ _ _ _ _ | exact Ag.appendSl _ _ _ _ _ _ _ _ | exact Ag.moveV _ _ _ _ _ _ _ | exact Ag.elems _ _ | exact Ag.buildSliceV _ _ _ _ _ | exact Ag.parts _ | exact Ag.makeSliceV _ _ _ _ _ | exact Ag.boxV _ _ | exact Ag.allocV _ _ _ | exact Ag.lenV _ _ _ | exact Ag.storeV _ _ _ _ | exact Ag.loadV _ _ _ | exact Ag.grow _ _ _ _ | exact Ag.wrNew _ _ | exact Ag.putB _ _ _ | exact Ag.touch _ _ _ _ _ | exact Ag.rdM _ | exact Ag.rdF _ | exact Ag.rdB _ | exact Ag.opVs _ | exact Ag.opV _ | exact Ag.rdS _ | refine Ag.ite ?_ ?_ | refine Ag.bind ?_ (fun _ => ?_) | (exfalso; solve_by_elim) | (exfalso; simp_all; done) | (split <;> (try injections) <;> (try subst_vars)))

theorem Ag.callB (tt : ET) (n : Nat) (b : Builtin) (args : List Operand) (tys : List Nat) : Ag (Go.Ex.callB tt n b args tys) (D.callB tt n b args tys) := by
  unfold Go.Ex.callB D.callB
  repeat' (first | exact Ag.pure _ | exact Ag.fail | exact Ag.ofO _ | exact Ag.rdX _ | exact Ag.wrX _ _ | assumption | exact Ag.pickV _ _ _ | refine Ag.one ?_ | exact Ag.makeMapV _ | exact Ag.mapUpdateV _ _ _ _ _ | exact Ag.lookupV _ _ _ _ _ | exact Ag.entsV _ | exact Ag.opO _ | exact Ag.appendV _ _ _ _ _ | exact Ag.appendSl _ _ _ _ _ _ _ _ | exact Ag.moveV _ _ _ _ _ _ _ | exact Ag.elems _ _ | exact Ag.buildSliceV _ _ _ _ _ | exact Ag.parts _ | exact Ag.makeSliceV _ _ _ _ _ | exact Ag.boxV _ _ | exact Ag.allocV _ _ _ | exact Ag.lenV _ _ _ | exact Ag.storeV _ _ _ _ | exact Ag.loadV _ _ _ | exact Ag.grow _ _ _ _ | exact Ag.wrNew _ _ | exact Ag.putB _ _ _ | exact Ag.touch _ _ _ _ _ | exact Ag.rdM _ | exact Ag.rdF _ | exact Ag.rdB _ | exact Ag.opVs _ | exact Ag.opV _ | exact Ag.rdS _ | refine Ag.ite ?_ ?_ | refine Ag.bind ?_ (fun _ => ?_) | (exfalso; solve_by_elim) | (exfalso; simp_all; done) | (split <;> (try injections) <;> (try subst_vars)))

theorem Ag.copV (tt : ET) (n : Nat) (o : Oper) : Ag ((Go.Ex.copV tt o).run n) ((D.copV tt o).run n) := by
  unfold Go.Ex.copV D.copV
  generalize o.op = op
  split <;> dsimp only <;> (repeat' (first | exact Ag.pure _ | exact Ag.fail | exact Ag.ofO _ | exact Ag.rdX _ | exact Ag.wrX _ _ | assumption | exact Ag.callB _ _ _ _ _ | exact Ag.pickV _ _ _ | refine Ag.one ?_ | exact Ag.makeMapV _ | exact Ag.mapUpdateV _ _ _ _ _ | exact Ag.lookupV _ _ _ _ _ | exact Ag.entsV _ | exact Ag.opO _ | exact Ag.appendV _ _ _ _ _ | exact Ag.appendSl _ _ _ _ _ _ _ _ | exact Ag.moveV _ _ _ _ _ _ _ | exact Ag.elems _ _ | exact Ag.buildSliceV _ _ _ _ _ | exact Ag.parts _ | exact Ag.makeSliceV _ _ _ _ _ | exact Ag.boxV _ _ | exact Ag.allocV _ _ _ | exact Ag.lenV _ _ _ | exact Ag.storeV _ _ _ _ | exact Ag.loadV _ _ _ | exact Ag.grow _ _ _ _ | exact Ag.wrNew _ _ | exact Ag.putB _ _ _ | exact Ag.touch _ _ _ _ _ | exact Ag.rdM _ | exact Ag.rdF _ | exact Ag.rdB _ | exact Ag.opVs _ | exact Ag.opV _ | exact Ag.rdS _ | refine Ag.ite ?_ ?_ | refine Ag.bind ?_ (fun _ => ?_) | (exfalso; solve_by_elim) | (exfalso; simp_all; done) | (split <;> (try injections) <;> (try subst_vars))))

theorem Ag.copW (N : Nat) (dst : Option Nat) (x : V) : Ag ((Go.Ex.copW N dst).run x) ((D.copW N dst).run x) := by
  unfold Go.Ex.copW D.copW
  cases dst with
  | none => exact Ag.pure _
  | some k =>
    simp only
    cases Nat.blt k N with
    | true => exact Ag.wrSl _ _
    | false => exact Ag.fail
theorem Ag.copP (tt : ET) (N n : Nat) (o : Oper) : Ag (Go.Ex.copP ((Go.Ex.copV tt o).run n) (Go.Ex.copW N o.dst) o.dst.isNone) (D.copP ((D.copV tt o).run n) (D.copW N o.dst) o.dst.isNone) := by
  refine Ag.bind (Ag.copV tt n o) fun r => ?_
  cases r with
  | some v => exact Ag.copW _ _ _
  | none =>
    simp only
    cases o.dst.isNone with
    | true => exact Ag.pure _
    | false => exact Ag.fail
theorem Ag.copG (tt : ET) (N n : Nat) (ops : Array Oper) (o : Oper) : Ag ((Go.Ex.copG tt N ops o).run n) ((D.copG tt N ops o).run n) := by
  unfold Go.Ex.copG D.copG
  cases o.guard with
  | none => exact Ag.copP tt N n o
  | some q =>
    obtain ⟨j, want⟩ := q
    simp only
    cases (ops[j]?).bind (·.dst) with
    | none => exact Ag.fail
    | some g =>
      have h1 := Ag.copP tt N n o
      have h2 := Ag.copW N o.dst
      refine Ag.bind (Ag.rdS _) fun b => ?_
      have h3 := h2 .un
      repeat' (first | exact Ag.pure _ | exact Ag.fail | exact Ag.ofO _ | exact Ag.rdX _ | exact Ag.wrX _ _ | assumption | exact Ag.callB _ _ _ _ _ | exact Ag.pickV _ _ _ | refine Ag.one ?_ | exact Ag.makeMapV _ | exact Ag.mapUpdateV _ _ _ _ _ | exact Ag.lookupV _ _ _ _ _ | exact Ag.entsV _ | exact Ag.opO _ | exact Ag.appendV _ _ _ _ _ | exact Ag.appendSl _ _ _ _ _ _ _ _ | exact Ag.moveV _ _ _ _ _ _ _ | exact Ag.elems _ _ | exact Ag.buildSliceV _ _ _ _ _ | exact Ag.parts _ | exact Ag.makeSliceV _ _ _ _ _ | exact Ag.boxV _ _ | exact Ag.allocV _ _ _ | exact Ag.lenV _ _ _ | exact Ag.storeV _ _ _ _ | exact Ag.loadV _ _ _ | exact Ag.grow _ _ _ _ | exact Ag.wrNew _ _ | exact Ag.putB _ _ _ | exact Ag.touch _ _ _ _ _ | exact Ag.rdM _ | exact Ag.rdF _ | exact Ag.rdB _ | exact Ag.opVs _ | exact Ag.opV _ | exact Ag.rdS _ | refine Ag.ite ?_ ?_ | refine Ag.bind ?_ (fun _ => ?_) | (exfalso; solve_by_elim) | (exfalso; simp_all; done) | (split <;> (try injections) <;> (try subst_vars)))

end
end Go.Ex

namespace Go.Ex

theorem Run.order {P : Program} {C : Ctx} {N : Nat} {ops : Array Oper} {os : List Oper} {s s2 : S} {l : List (Log × S × S)} (h : Run P C N ops os s l s2) :
    ∀ (i j : Nat) (L L' : Log) (t t1 u u1 : S), i < j → l[i]? = some (L, t, t1) → l[j]? = some (L', u, u1) → t1.n ≤ u.n := by
  induction h with
  | nil => intro i j L L' t t1 u u1 _ h; simp at h
  | @cons o os s s1 s2 L0 l h hv hn hi0 t ih =>
    intro i j L L' t' t1 u u1 hij h1 h2
    cases j with
    | zero => omega
    | succ j =>
      simp only [List.getElem?_cons_succ] at h2
      cases i with
      | zero =>
        simp only [List.getElem?_cons_zero, Option.some.injEq, Prod.mk.injEq] at h1
        obtain ⟨rfl, rfl, rfl⟩ := h1
        have hlt : j < l.length := (List.getElem?_eq_some_iff.1 h2).1
        have hlen := t.get.1
        obtain ⟨L2, t2, t3, g1, _, _, _, g5, _⟩ := t.get.2 j os[j] (List.getElem?_eq_getElem (by omega))
        rw [h2] at g1; cases g1
        exact g5
      | succ i =>
        simp only [List.getElem?_cons_succ] at h1
        exact ih i j L L' t' t1 u u1 (by omega) h1 h2

theorem draw_ok {rd : Option Nat} {m : Nat} {P : Program} {C : Ctx} {N : Nat} {ops : Array Oper} {Q : Exit → Act → World → Prop} {s s2 : S} {l : List (Log × S × S)} (hrun : Run P C N ops ops.toList s l s2) (hok : drawOk ops.toList (l.map (·.1)) = true)
    {ρ0 : Pl} {Ds : List Nat} (hfr : Fresh (view s) s.n) (hiv : ∀ (i : Nat) (L : Log) (t t1 : S), l[i]? = some (L, t, t1) → L.lo = t.n ∧ L.hi = t1.n) (hQ : ∀ ρ a w, Ext s.n s2.n ρ0 ρ → Sim C N ρ (view s2) a w Ds → Q .normal a w) :
    ∀ (fuel : Nat) (listed : Array Bool) (a : Act) (w : World) (ρ : Pl) (st : St), leftN ops.size listed ≤ fuel →
      (∀ j o, ops[j]? = some o → listed.getD j true = true → ∀ e ∈ o.after.toList, Region.binds .any e = true → listed.getD e.on true = true) →
      Sim C N ρ st a w Ds → Ext s.n s2.n ρ0 ρ →
      (∀ j L t t1, l[j]? = some (L, t, t1) → listed.getD j true = false → ∀ i, t.n ≤ i → i < t1.n → ρ i = none) →
      (∀ k, (∃ j L u u1, listed.getD j true = true ∧ l[j]? = some (L, u, u1) ∧ L.wB k = true ∧ st k = view u1 k ∧ ∀ j' L' u' u1', j < j' → listed.getD j' true = true → l[j']? = some (L', u', u1') → L'.wB k = false) ∨
        ((∀ j L u u1, listed.getD j true = true → l[j]? = some (L, u, u1) → L.wB k = false) ∧ st k = view s k)) →
      wpAnyIn (fen rd) m P .any ops Q fuel listed a w := by
  obtain ⟨hlen, hsteps⟩ := hrun.get
  have hlen' : l.length = ops.size := by simpa using hlen
  unfold drawOk at hok
  rw [Bool.and_eq_true] at hok
  obtain ⟨hedges, hpairs⟩ := hok
  have hpair : ∀ i j Li t t1 Lj u u1, i < j → l[i]? = some (Li, t, t1) → l[j]? = some (Lj, u, u1) → apart Li Lj = true ∨ ((ancsL ops.toList []).getD j 0).testBit i = true := by
    intro i j Li t t1 Lj u u1 hij h1 h2
    have m1 : (Li, i) ∈ (l.map (·.1)).zipIdx := by rw [List.mem_zipIdx_iff_getElem?]; simp [h1]
    have m2 : (Lj, j) ∈ (l.map (·.1)).zipIdx := by rw [List.mem_zipIdx_iff_getElem?]; simp [h2]
    have := List.all_eq_true.1 (List.all_eq_true.1 hpairs _ m2) _ m1
    simp only [Bool.or_eq_true] at this
    rcases this with (h | h) | h
    · have := Nat.le_of_ble_eq_true h; omega
    · exact .inr h
    · exact .inl h
  have hedge : ∀ j o, ops.toList[j]? = some o → ∀ e ∈ o.after.toList, Region.binds .any e = true → e.on < j := by
    intro j o hj e he hb
    unfold edgesOk at hedges
    have := List.all_eq_true.1 (List.all_eq_true.1 hedges (o, j) (by rw [List.mem_zipIdx_iff_getElem?]; exact hj)) e he
    simpa [hb] using this
  have hend : ∀ (listed : Array Bool) (a : Act) (w : World) (ρ : Pl) (st : St), (∀ j, j < ops.size → listed.getD j true = true) → Sim C N ρ st a w Ds → Ext s.n s2.n ρ0 ρ →
      (∀ k, (∃ j L u u1, listed.getD j true = true ∧ l[j]? = some (L, u, u1) ∧ L.wB k = true ∧ st k = view u1 k ∧ ∀ j' L' u' u1', j < j' → listed.getD j' true = true → l[j']? = some (L', u', u1') → L'.wB k = false) ∨
        ((∀ j L u u1, listed.getD j true = true → l[j]? = some (L, u, u1) → L.wB k = false) ∧ st k = view s k)) → Q .normal a w := by
    intro listed a w ρ st hall hs hx hinv
    refine hQ ρ a w hx ?_
    have hl : ∀ j L u u1, l[j]? = some (L, u, u1) → listed.getD j true = true := fun j L u u1 h => hall j (by rw [← hlen']; exact (List.getElem?_eq_some_iff.1 h).1)
    have : st = view s2 := by
      funext k
      rcases hinv k with ⟨j, L, u, u1, h1, h2, h3, h4, h5⟩ | ⟨h1, h2⟩
      · rcases hrun.end_key k with ⟨_, q2⟩ | ⟨j0, L0, v, v1, q2, q3, q4, q5⟩
        · have := q2 j L u u1 h2; rw [h3] at this; cases this
        · have e : j = j0 := by
            rcases Nat.lt_trichotomy j j0 with c | c | c
            · have := h5 j0 L0 v v1 c (hl _ _ _ _ q2) q2; rw [q3] at this; cases this
            · exact c
            · have := q5 j L u u1 c h2; rw [h3] at this; cases this
          subst e
          rw [h2] at q2; cases q2
          rw [h4, q4]
      · rcases hrun.end_key k with ⟨q1, _⟩ | ⟨j0, L0, v, v1, q2, q3, _⟩
        · rw [h2, q1]
        · have := h1 j0 L0 v v1 (hl _ _ _ _ q2) q2; rw [q3] at this; cases this
    rw [← this]; exact hs
  intro fuel
  induction fuel with
  | zero =>
    intro listed a w ρ st hfuel hcl hs hx hnone hinv
    have hall : ∀ j, j < ops.size → listed.getD j true = true := by
      intro j hj
      cases hh : listed.getD j true with
      | true => rfl
      | false =>
        exfalso
        have : 0 < leftN ops.size listed := List.length_pos_of_mem (List.mem_filter.2 ⟨List.mem_range.2 hj, by simp [hh]⟩)
        omega
    refine ⟨?_, hend listed a w ρ st hall hs hx hinv⟩
    unfold Region.ready
    rw [List.filter_eq_nil_iff]
    intro i hi
    have := hall i (List.mem_range.1 hi)
    simp [this]
  | succ fuel ih =>
    intro listed a w ρ st hfuel hcl hs hx hnone hinv
    refine ⟨?_, ?_⟩
    · intro hnil
      refine hend listed a w ρ st ?_ hs hx hinv
      -- nothing is ready: all are listed
      intro j hj
      cases hh : listed.getD j true with
      | true => rfl
      | false =>
        exfalso
        have key : ∀ q, q < ops.size → listed.getD q true = true := by
          intro q
          induction q using Nat.strongRecOn with
          | _ q ihq =>
            intro hq
            cases hh2 : listed.getD q true with
            | true => rfl
            | false =>
              exfalso
              have hm : q ∈ Region.ready .any ops listed := by
                unfold Region.ready
                rw [List.mem_filter]
                refine ⟨List.mem_range.2 hq, ?_⟩
                simp only [hh2, Bool.not_false, Bool.true_and]
                rw [Array.getElem?_eq_getElem hq]
                simp only [Option.map_some, Option.getD_some]
                rw [Array.all_eq_true']
                intro e he
                cases hb : Region.binds .any e with
                | false => rfl
                | true =>
                  have hlt := hedge q ops[q] (by simp [hq]) e (by simpa using he) hb
                  have := ihq e.on hlt (by omega)
                  have hsz : e.on < listed.size ∨ ¬ e.on < listed.size := by omega
                  simp only [Bool.not_true, Bool.false_or]
                  rcases hsz with h | h
                  · simp only [Array.getD_eq_getD_getElem?, Array.getElem?_eq_getElem h, Option.getD_some] at this ⊢; exact this
                  · exfalso
                    have h2 : q < listed.size := by
                      rcases Nat.lt_or_ge q listed.size with h2 | h2
                      · exact h2
                      · simp [Array.getD_eq_getD_getElem?, Array.getElem?_eq_none h2] at hh2
                    omega
              rw [hnil] at hm; cases hm
        rw [key j hj] at hh; cases hh
    · intro i hi
      unfold Region.ready at hi
      rw [List.mem_filter] at hi
      obtain ⟨hi1, hi2⟩ := hi
      have hisz := List.mem_range.1 hi1
      rw [Bool.and_eq_true] at hi2
      obtain ⟨hi2, hi3⟩ := hi2
      have hil : listed.getD i true = false := by simpa using hi2
      rw [Array.getElem?_eq_getElem hisz] at hi3
      simp only [Option.map_some, Option.getD_some] at hi3
      rw [Array.all_eq_true'] at hi3
      have hilist : i < listed.size := by
        rcases Nat.lt_or_ge i listed.size with h | h
        · exact h
        · simp [Array.getD_eq_getD_getElem?, Array.getElem?_eq_none h] at hil
      have hpre : ∀ e ∈ ops[i].after.toList, Region.binds .any e = true → listed.getD e.on true = true := by
        intro e he hb
        have := hi3 e (by simpa using he)
        rw [hb] at this
        simp only [Bool.not_true, Bool.false_or] at this
        have hlt := hedge i ops[i] (by simp [hisz]) e he hb
        have h : e.on < listed.size := by omega
        simp only [Array.getD_eq_getD_getElem?, Array.getElem?_eq_getElem h, Option.getD_some] at this ⊢; exact this
      obtain ⟨L, t, t1, g1, g2, g3, g4, g5, g6, g7⟩ := hsteps i ops[i] (by simp [hisz])
      have hget : ∀ j, (listed.setIfInBounds i true).getD j true = if j = i then true else listed.getD j true := by
        intro j
        simp only [Array.getD_eq_getD_getElem?, Array.getElem?_setIfInBounds]
        by_cases h : i = j
        · subst h; simp [hilist]
        · simp [h, Ne.symm h]
      have hcl' : ∀ j o, ops[j]? = some o → (listed.setIfInBounds i true).getD j true = true → ∀ e ∈ o.after.toList, Region.binds .any e = true → (listed.setIfInBounds i true).getD e.on true = true := by
        intro j o hj hl e he hb
        rw [hget] at hl ⊢
        by_cases h : j = i
        · subst h
          rw [Array.getElem?_eq_getElem hisz] at hj; cases hj
          split
          · rfl
          · exact hpre e he hb
        · rw [if_neg h] at hl
          split
          · rfl
          · exact hcl j o hj hl e he hb
      -- ancestors of i are listed; i is no ancestor of a listed one
      have hanc : ∀ j, ((ancsL ops.toList []).getD i 0).testBit j = true → j ≠ i → listed.getD j true = true := by
        intro j hb hne
        have := ancs_closed (ops := ops.toList) (L := fun q => (listed.setIfInBounds i true).getD q true) (fun q o hq hl e he hb => hcl' q o (by simpa using hq) hl e he hb) ops.toList [] [] rfl rfl (by simp) i j hb (by rw [hget]; simp)
        rw [hget, if_neg hne] at this
        exact this
      have hdes : ∀ j, ((ancsL ops.toList []).getD j 0).testBit i = true → listed.getD j true = false := by
        intro j hb
        cases hh : listed.getD j true with
        | false => rfl
        | true =>
          have := ancs_closed (ops := ops.toList) (L := fun q => listed.getD q true) (fun q o hq hl e he hb => hcl q o (by simpa using hq) hl e he hb) ops.toList [] [] rfl rfl (by simp) j i hb hh
          rw [hil] at this; cases this
      have ord : ∀ j L' u u1, j ≠ i → l[j]? = some (L', u, u1) → apart L' L = false ∨ apart L L' = false → (j < i ∧ listed.getD j true = true) ∨ (i < j ∧ listed.getD j true = false) := by
        intro j L' u u1 hne hj hap
        have sym : apart L' L = apart L L' := by unfold apart; rw [Bool.and_comm]
        have hap : apart L' L = false := by rcases hap with h | h; exact h; rw [sym]; exact h
        rcases Nat.lt_or_ge j i with c | c
        · rcases hpair j i L' u u1 L t t1 c hj g1 with h | h
          · rw [h] at hap; cases hap
          · exact .inl ⟨c, hanc j h hne⟩
        · rcases hpair i j L t t1 L' u u1 (by omega) g1 hj with h | h
          · rw [← sym, hap] at h; cases h
          · exact .inr ⟨by omega, hdes j h⟩
      have napw : ∀ {L1 L2 : Log} {k : Key}, L1.wB k = true → L2.w k ∨ L2.r k → apart L1 L2 = false := by
        intro L1 L2 k h1 h2
        cases hh : apart L1 L2 with
        | false => rfl
        | true =>
          unfold apart at hh
          rw [Bool.and_eq_true] at hh
          have := apart1_ok hh.1 (Log.wB_iff.1 h1)
          rcases h2 with h2 | h2
          · exact absurd h2 this.1
          · exact absurd h2 this.2
      -- what it reads is as in the text's order
      have hread : ∀ k, L.r k → st k = view t k := by
        intro k hk
        have wr : ∀ j L' u u1, j ≠ i → l[j]? = some (L', u, u1) → L'.wB k = true → (j < i ∧ listed.getD j true = true) ∨ (i < j ∧ listed.getD j true = false) :=
          fun j L' u u1 hne hj hw => ord j L' u u1 hne hj (.inl (napw hw (.inr hk)))
        rcases hrun.key k i L t t1 g1 with ⟨q1, q2⟩ | ⟨j0, L0, v, v1, q1, q2, q3, q4, q5⟩
        · rcases hinv k with ⟨j, L', u, u1, h1, h2, h3, h4, h5⟩ | ⟨h1, h2⟩
          · have hne : j ≠ i := by rintro rfl; rw [hil] at h1; cases h1
            rcases wr j L' u u1 hne h2 h3 with ⟨c, _⟩ | ⟨_, c⟩
            · have := q2 j L' u u1 c h2; rw [h3] at this; cases this
            · rw [h1] at c; cases c
          · rw [h2, q1]
        · have hj0 : listed.getD j0 true = true := by
            rcases wr j0 L0 v v1 (by omega) q2 q3 with ⟨_, c⟩ | ⟨c, _⟩
            · exact c
            · omega
          rcases hinv k with ⟨j, L', u, u1, h1, h2, h3, h4, h5⟩ | ⟨h1, h2⟩
          · have hne : j ≠ i := by rintro rfl; rw [hil] at h1; cases h1
            have hji : j < i := by
              rcases wr j L' u u1 hne h2 h3 with ⟨c, _⟩ | ⟨_, c⟩
              · exact c
              · rw [h1] at c; cases c
            have e : j = j0 := by
              rcases Nat.lt_trichotomy j j0 with c | c | c
              · have := h5 j0 L0 v v1 c hj0 q2; rw [q3] at this; cases this
              · exact c
              · have := q5 j L' u u1 c hji h2; rw [h3] at this; cases this
            subst e
            rw [h2] at q2; cases q2
            rw [h4, q4]
          · have := h1 j0 L0 v v1 hj0 q2; rw [q3] at this; cases this
      have hz : ∀ k i', k.id = some i' → t.n ≤ i' → i' < t1.n → st k = .z := by
        intro k i' hk h1 h2
        have hw : L.w k := .inr ⟨i', hk, by rw [(hiv i L t t1 g1).1]; exact h1, by rw [(hiv i L t t1 g1).2]; exact h2⟩
        rcases hinv k with ⟨j, L', u, u1, e1, e2, e3, e4, e5⟩ | ⟨e1, e2⟩
        · exfalso
          have hne : j ≠ i := by rintro rfl; rw [hil] at e1; cases e1
          rcases ord j L' u u1 hne e2 (.inl (napw e3 (.inl hw))) with ⟨c, _⟩ | ⟨_, c⟩
          · have o1 := hrun.order j i L' L u u1 t t1 c e2 g1
            obtain ⟨L2, u2, u3, f1, _, _, _, _, _, f7⟩ := hsteps j (ops[j]'(by rw [← hlen']; exact (List.getElem?_eq_some_iff.1 e2).1)) (by simp)
            rw [e2] at f1; cases f1
            have := f7 k i' hk (Log.wB_iff.1 e3)
            omega
          · rw [e1] at c; cases c
        · rw [e2]; exact hfr.key hk (by omega)
      have hgood := g2 st ρ a w Ds hs hread (hnone i L t t1 g1 hil) hz
      unfold wpOpIn
      rw [Array.getElem?_eq_getElem hisz]
      simp only
      refine hgood rd m _ _ ?_
      intro ρ' a' w' hext hs'
      refine ih _ a' w' ρ' _ ?_ hcl' hs' (hx.trans (hext.mono g5 g6)) ?_ ?_
      · have := leftN_set (n := ops.size) hisz hil; omega
      · intro j L' u u1 hj hlj i' h1 h2
        rw [hget] at hlj
        have hne : j ≠ i := by rintro rfl; simp at hlj
        rw [if_neg hne] at hlj
        have hold := hnone j L' u u1 hj hlj i' h1 h2
        rw [hext.2 i' ?_]
        · exact hold
        · rcases Nat.lt_or_ge j i with c | c
          · have := hrun.order j i L' L u u1 t t1 c hj g1; omega
          · have := hrun.order i j L L' t t1 u u1 (by omega) g1 hj; omega
      · intro k
        cases hw : L.wB k with
        | true =>
          refine .inl ⟨i, L, t, t1, by rw [hget]; simp, g1, hw, by simp, ?_⟩
          intro j' L' u' u1' hj' hl' hjj
          rw [hget, if_neg (by omega)] at hl'
          cases hw' : L'.wB k with
          | false => rfl
          | true =>
            rcases ord j' L' u' u1' (by omega) hjj (.inl (napw hw' (.inl (Log.wB_iff.1 hw)))) with ⟨c, _⟩ | ⟨_, c⟩
            · omega
            · rw [hl'] at c; cases c
        | false =>
          simp only [Bool.false_eq_true, if_false]
          rcases hinv k with ⟨j, L', u, u1, e1, e2, e3, e4, e5⟩ | ⟨e1, e2⟩
          · refine .inl ⟨j, L', u, u1, by rw [hget]; split <;> first | rfl | exact e1, e2, e3, e4, ?_⟩
            intro j' L'' u' u1' hj' hl' hjj
            rw [hget] at hl'
            by_cases h : j' = i
            · subst h; rw [g1] at hjj; cases hjj; exact hw
            · rw [if_neg h] at hl'; exact e5 j' L'' u' u1' hj' hl' hjj
          · refine .inr ⟨?_, e2⟩
            intro j L' u u1 hl' hjj
            rw [hget] at hl'
            by_cases h : j = i
            · subst h; rw [g1] at hjj; cases hjj; exact hw
            · rw [if_neg h] at hl'; exact e1 j L' u u1 hl' hjj

end Go.Ex
