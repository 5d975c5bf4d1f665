/- What one operation does to the abstract state: a function. Nothing is proved here. -/
import Derived.Test.YtdnenbcldibnoaaOwnA
import Derived.RangeFuncWrites
import Derived.RangeFuncCalls
import Derived.OrdersIn
import Derived.TacticsIn
namespace Go.Own

inductive TK where
  | int (k : IntKind)
  | bool
  | str
  | slice (e : Nat)
  | ptr (e : Nat)
  | struct (fs : List (Nat × Nat))
  | array (n e : Nat)
  | other

/-- What is known of a type: its kind (of a struct: each field's offset and size), its cells and bytes, its zero value, and whether its values are so many cells that are compared one by one as integers. -/
structure TI where
  kind : TK
  size : Nat
  bytes : Nat
  zero : Option A
  eqn : Bool

abbrev TT := Nat → Option TI
/-- What calls give back, by function and arguments; and which arguments are handed over for good (none: an empty list). -/
structure Ctr where
  run : Nat → List A → Option A
  gives : Nat → List Bool
  raw : Nat → Bool := fun _ => false
  lend : Nat → Option Nat := fun _ => none
  runL : Nat → List A → Option (A × A) := fun _ _ => none

/-- The arguments as the table takes them: with the marks for room behind the end, or without. -/
def Ctr.norm (ctr : Ctr) (k : Nat) (l : List A) : List A := if ctr.raw k = true then l else l.map A.loose

def opnd : Operand → SM T
  | .tmp t => do
    let e ← rdE t
    match e.t with
    | .own _ => pure (.als t [] e.er e.ec)
    | .gone => sfail
    | T => pure T
  | .const v => if v.oneCell' = true then pure (.d (.atom v)) else sfail
  | .func f => pure (.d (.fn f []))
  | .global _ => sfail

/-- The subtree that an alias names now. -/
def look (r : Nat) (p : List Step) (er ec : Nat) : SM A := do
  let e ← rdE r
  match e.t with
  | .own x => if e.er = er ∧ (p = [] ∨ e.ec = ec) then ofO (getP p x) else sfail
  | .d x => if e.er = er ∧ p = [] then pure x else sfail
  | _ => sfail

/-- The subtree at the place that a pointer names. -/
def lookP (r : Nat) (p : List Step) (er ec : Nat) : SM A := do
  let e ← rdE r
  match e.t with
  | .own x => if e.er = er ∧ e.ec = ec then ofO (getP p x) else sfail
  | _ => sfail

/-- Data, without taking it away. -/
def val : T → SM A
  | .d a => pure a
  | .als r p er ec => do
    let y ← look r p er ec
    if y.isD = true then pure y else sfail
  | _ => sfail

def nilFix (tt : TT) (t : Nat) : A → A
  | .atom (.slice none 0 0) =>
    match tt t with
    | some ⟨.slice e, _, _, _, _⟩ =>
      match tt e with
      | some i => .osl i.size true []
      | none => .atom (.slice none 0 0)
    | _ => .atom (.slice none 0 0)
  | a => a

/-- Taken away from where it lies, if it is the call's own. -/
def take : T → SM A
  | .d a => pure a
  | .als r p er ec => do
    let y ← look r p er ec
    if y.isD = true then pure y else do
      let e ← rdE r
      match e.t with
      | .own x =>
        if p = [] then do
          wrE r ⟨.gone, e.er + 1, e.ec + 1⟩
          pure y
        else do
          wrE r ⟨.own (setP p x (.dead y.size)), e.er, e.ec + 1⟩
          pure y
      | _ => sfail
  | _ => sfail

def takeC (tt : TT) (t : Nat) (x : T) : SM A := do
  let y ← take x
  pure (nilFix tt t y)

def mkT : A → T
  | .tup fs => .d (.tup fs)
  | a => if a.isD = true then .d a else .own a

def wrT (n : Fr) (dst : Option Nat) (x : T) : SM Unit :=
  match dst with
  | none => pure ()
  | some k => if n.ok k = true then do
      let e ← rdE k
      wrE k ⟨x, e.er + 1, e.ec + 1⟩
    else sfail

def intOp (op : BinOp) (k : IntKind) (a b : Int) : Option A :=
  match op with
  | .add => some (.atom (.int k (k.wrap (a + b))))
  | .sub => some (.atom (.int k (k.wrap (a - b))))
  | .mul => some (.atom (.int k (k.wrap (a * b))))
  | .quo => if b = 0 then none else some (.atom (.int k (k.wrap (a.tdiv b))))
  | .rem => if b = 0 then none else some (.atom (.int k (a.tmod b)))
  | .eql => some (.atom (.bool (a == b)))
  | .neq => some (.atom (.bool (a != b)))
  | .lss => some (.atom (.bool (decide (a < b))))
  | .leq => some (.atom (.bool (decide (a ≤ b))))
  | .gtr => some (.atom (.bool (decide (a > b))))
  | .geq => some (.atom (.bool (decide (a ≥ b))))
  | _ => none

/-- Cell by cell. -/
def eqCells : List A → List A → Option Bool
  | [], [] => some true
  | .atom (.int k a) :: as, .atom (.int k' b) :: bs => if k = k' then (eqCells as bs).map fun r => (a == b) && r else none
  | _, _ => none

def binA (tt : TT) (op : BinOp) (xt : Nat) : A → A → Option A
  | .atom (.int k a), .atom (.int k' b) => if k = k' then intOp op k a b else none
  | .atom (.bool a), .atom (.bool b) =>
    match tt xt with
    | some ⟨.bool, _, _, _, _⟩ =>
      match op with
      | .eql => some (.atom (.bool (a == b)))
      | .neq => some (.atom (.bool (!(a == b))))
      | _ => none
    | _ => none
  | .agg as, .agg bs =>
    match tt xt with
    | some i => if i.eqn = true ∧ as.length = i.size ∧ bs.length = i.size then
        match op with
        | .eql => (eqCells as bs).map fun r => .atom (.bool r)
        | .neq => (eqCells as bs).map fun r => .atom (.bool (!r))
        | _ => none
      else none
    | none => none
  | _, _ => none

def unA (op : UnOp) : A → Option A
  | .atom (.bool b) => match op with | .not => some (.atom (.bool (!b))) | _ => none
  | .atom (.int k a) => match op with | .neg => some (.atom (.int k (k.wrap (0 - a)))) | _ => none
  | _ => none

/-- A pointer: to data that is written no more, or to a place. -/
def ptrOf : T → SM (A ⊕ (Nat × List Step × Nat × Nat))
  | .d (.sptr y) => pure (.inl y)
  | .ptr r p er ec => pure (.inr (r, p, er, ec))
  | .als r p er ec => do
    let e ← rdE r
    let y ← look r p er ec
    match y with
    | .box _ => pure (.inr (r, p ++ [.deref], e.er, e.ec))
    | .sptr z => pure (.inl z)
    | _ => sfail
  | _ => sfail

def A.isAgg : A → Bool
  | .agg _ => true
  | _ => false

def TK.isAgg : TK → Bool
  | .struct _ | .array _ _ => true
  | _ => false

/-- A value of this type's form. -/
def fitsT (tt : TT) (t : Nat) (y : A) : Bool :=
  match tt t with
  | some i => i.kind.isAgg == y.isAgg && i.size == y.size && (i.kind.isAgg || i.size == 1)
  | none => false

def loadA (tt : TT) (n : Fr) (dst : Option Nat) (t : Nat) (x : T) : SM Unit := do
  let q ← ptrOf x
  match q with
  | .inl y => if fitsT tt t y = true ∧ y.isD = true then wrT n dst (.d y) else sfail
  | .inr (r, p, er, ec) => do
    let y ← lookP r p er ec
    if fitsT tt t y = true then
      (if y.isD = true then wrT n dst (.d y) else wrT n dst (.als r p er ec))
    else sfail

def storeA (tt : TT) (t : Nat) (x v : T) : SM Unit := do
  let q ← ptrOf x
  match q with
  | .inl _ => sfail
  | .inr (r, p, er, ec) => do
    let y ← takeC tt t v
    let e ← rdE r
    match e.t with
    | .own x0 =>
      if e.er = er ∧ e.ec = ec then
        match getP p x0 with
        | some y0 => if y.size = y0.size ∧ fitsT tt t y = true then wrE r ⟨.own (setP p x0 y), e.er, e.ec + 1⟩ else sfail
        | none => sfail
      else sfail
    | _ => sfail

/-- The field's place in cells is where the type has it. -/
def fieldOk (tt : TT) (t i : Nat) (fs : List A) : Bool :=
  match tt t with
  | some ⟨.struct offs, _, _, _, _⟩ =>
    match offs[i]? with
    | some (off, sz) => off == A.sizes (fs.take i) && sz != 0
    | none => false
  | _ => false

def fieldAddrA (tt : TT) (n : Fr) (dst : Option Nat) (t i : Nat) (x : T) : SM Unit := do
  let q ← ptrOf x
  match q with
  | .inl (.agg fs) =>
    match fs[i]? with
    | some y => if fieldOk tt t i fs = true then wrT n dst (.d (.sptr y)) else sfail
    | none => sfail
  | .inl _ => sfail
  | .inr (r, p, er, ec) => do
    let y ← lookP r p er ec
    match y with
    | .agg fs => if fieldOk tt t i fs = true ∧ i < fs.length then wrT n dst (.ptr r (p ++ [.fld i]) er ec) else sfail
    | _ => sfail

def elemSize (tt : TT) (t : Nat) : Option Nat :=
  match tt t with
  | some ⟨.slice e, _, _, _, _⟩ => (tt e).map (·.size)
  | _ => none

def indexAddrA (tt : TT) (n : Fr) (dst : Option Nat) (t : Nat) (x : T) (i : A) : SM Unit :=
  match i with
  | .atom (.int _ j) =>
    match x with
    | .d (.sl sz _ xs) =>
      if elemSize tt t = some sz ∧ 0 ≤ j then
        match xs[j.toNat]? with
        | some y => wrT n dst (.d (.sptr y))
        | none => sfail
      else sfail
    | .als r p er ec => do
      let e ← rdE r
      let y ← look r p er ec
      match y with
      | .osl sz _ es => if elemSize tt t = some sz ∧ 0 ≤ j ∧ j.toNat < es.length then wrT n dst (.ptr r (p ++ [.idx j.toNat]) e.er e.ec) else sfail
      | .sl sz _ xs =>
        if elemSize tt t = some sz ∧ 0 ≤ j then
          match xs[j.toNat]? with
          | some y => wrT n dst (.d (.sptr y))
          | none => sfail
        else sfail
      | _ => sfail
    | _ => sfail
  | _ => sfail

def lenOf : A → Option Nat
  | .sl _ _ xs => some xs.length
  | .osl _ _ es => some es.length
  | .atom (.slice none 0 0) => some 0
  | _ => none

def capOf : A → Option Nat
  | .sl _ true xs => some xs.length
  | .osl _ true es => some es.length
  | .atom (.slice none 0 0) => some 0
  | _ => none

def isSliceT (tt : TT) (t : Nat) : Bool :=
  match tt t with
  | some ⟨.slice _, _, _, _, _⟩ => true
  | _ => false

/-- What an alias or data is, to be looked at only. -/
def peek : T → SM A
  | .d a => pure a
  | .als r p er ec => look r p er ec
  | _ => sfail

/-- The most elements that an append or a make may come to. -/
def lim : Nat := 4294967296

def appendA (tt : TT) (n : Fr) (dst : Option Nat) (t : Nat) (s x : T) : SM Unit :=
  match tt t with
  | some ⟨.slice e, _, _, _, _⟩ =>
    match tt e with
    | some i => do
      let y ← peek x
      match y with
      | .sl sz _ ys | .osl sz _ ys =>
        if sz = i.size ∧ A.areD ys = true ∧ i.bytes ≤ 4096 ∧ 0 < i.size ∧ i.zero.isSome = true then
          let z ← takeC tt t s
          match z with
          | .osl sz' tg es => if sz' = i.size ∧ es.length + ys.length ≤ lim then wrT n dst (.own (.osl sz' (tg && ys.isEmpty) (es ++ ys))) else sfail
          | .sl sz' tg es => if sz' = i.size ∧ es.length + ys.length ≤ lim ∧ tg = true ∧ ys ≠ [] ∧ A.areD es = true then wrT n dst (.own (.osl sz' false (es ++ ys))) else sfail
          | _ => sfail
        else sfail
      | _ => sfail
    | none => sfail
  | _ => sfail

/-- As 'appendA', where the appended elements are the call's own and move. -/
def appendOwnA (tt : TT) (n : Fr) (dst : Option Nat) (t : Nat) (s x : Operand) : SM Unit :=
  match tt t with
  | some ⟨.slice e, _, _, _, _⟩ =>
    match tt e with
    | some i =>
      if i.bytes ≤ 4096 ∧ 0 < i.size ∧ i.zero.isSome = true then do
        let tx ← opnd x
        let y ← take tx
        let ts ← opnd s
        let z ← takeC tt t ts
        match y, z with
        | .osl sz _ ys, .osl sz' tg es => if sz = i.size ∧ sz' = i.size ∧ es.length + ys.length ≤ lim then wrT n dst (.own (.osl sz' (tg && ys.isEmpty) (es ++ ys))) else sfail
        | _, _ => sfail
      else sfail
    | none => sfail
  | _ => sfail

mutual
def A.flat : A → Bool
  | .atom (.slice _ _ _) => false
  | .atom _ => true
  | .agg fs | .tup fs => A.flats fs
  | _ => false
def A.flats : List A → Bool
  | [] => true
  | a :: as => a.flat && A.flats as
end

/-- The argument, its memory written no more from now on. -/
def shutT (tt : TT) (t : Nat) : T → SM A
  | .d (.tup _) => sfail
  | .d a => pure (nilFix tt t a).shut
  | .als r p er ec => do
    let y ← look r p er ec
    if y.isD = true then pure y else
      if y.live = true then do
        let e ← rdE r
        match e.t with
        | .own x =>
          if p = [] then do
            wrE r ⟨.d y.shut, e.er, e.ec + 1⟩
            pure y.shut
          else do
            wrE r ⟨.own (setP p x y.shut), e.er, e.ec + 1⟩
            pure y.shut
        | _ => sfail
      else sfail
  | _ => sfail

def shutArgs (tt : TT) : List (Operand × Nat) → SM (List A)
  | [] => pure []
  | (x, t) :: as => do
    let y ← opnd x
    let a ← shutT tt t y
    let bs ← shutArgs tt as
    pure (a :: bs)

def ghost {α : Type} (m : SM α) : SM α := fun st => match m st with | some (a, R, _) => some (a, R, []) | none => none

/-- Arguments: handed over, or written no more from now on. -/
def passArgs (tt : TT) : List (Bool × Operand × Nat) → SM (List A)
  | [] => pure []
  | (g, x, t) :: as => do
    let y ← opnd x
    let a ← (if g = true then takeC tt t y else shutT tt t y)
    let bs ← passArgs tt as
    pure (a :: bs)

/-- One cell, which is its value. -/
def oneA (y : A) : Bool := match y with | .osl _ _ _ => true | .box _ => true | _ => false

/-- A call that is lent its argument i: the tree behind the call takes the place of the tree ahead of it. -/
def lendA (tt : TT) (ctr : Ctr) (n : Fr) (dst : Option Nat) (k i : Nat) (caps : List A) (ops : List (Operand × Nat)) : SM Unit :=
  match ops[i]? with
  | some (x, _) => do
    let xs ← shutArgs tt (ops.take i)
    let zs ← shutArgs tt (ops.drop (i + 1))
    let tx ← opnd x
    match tx with
    | .als r p er ec => do
      let y ← look r p er ec
      let e ← rdE r
      match e.t with
      | .own x0 =>
        if oneA y = true then
          match ctr.runL k (ctr.norm k (xs ++ y :: zs ++ caps)) with
          | some (res, y') =>
            if oneA y' = true then do
              wrE r ⟨.own (setP p x0 y'), e.er, e.ec + 1⟩
              wrT n dst (mkT res)
            else sfail
          | none => sfail
        else sfail
      | _ => sfail
    | _ => sfail
  | none => sfail

def callA (tt : TT) (ctr : Ctr) (n : Fr) (dst : Option Nat) (f : A) (as : List (Operand × Nat)) : SM Unit :=
  match f with
  | .fn k caps =>
    match ctr.lend k with
    | some i => lendA tt ctr n dst k i caps as
    | none =>
    if (ctr.gives k).isEmpty = true then do
      let xs ← ghost (shutArgs tt as)
      match ctr.run k (ctr.norm k (xs ++ caps)) with
      | some r =>
        if r.flat = true then wrT n dst (.d r)
        else do
          let _ ← shutArgs tt as
          wrT n dst (mkT r)
      | none => sfail
    else if (ctr.gives k).length = as.length then do
      let xs ← passArgs tt ((ctr.gives k).zip as)
      match ctr.run k (ctr.norm k (xs ++ caps)) with
      | some r => wrT n dst (mkT r)
      | none => sfail
    else sfail
  | _ => sfail

/-- The parts of a literal, each taken; no place twice. -/
def takes : List (Operand × Nat) → TT → SM (List A)
  | [], _ => pure []
  | (x, t) :: ps, tt => do
    let y ← opnd x
    let a ← takeC tt t y
    let bs ← takes ps tt
    pure (a :: bs)

def setAt : List A → List (Nat × A) → List A
  | fs, [] => fs
  | fs, (i, a) :: ps => setAt (fs.set i a) ps

end Go.Own

namespace Go.Own

theorem applyU_append (us vs : List (Nat × Ent)) (st : St) : applyU (us ++ vs) st = applyU vs (applyU us st) := by
  induction us generalizing st with
  | nil => rfl
  | cons u us ih => simp [applyU, ih]

theorem bind_some {α β : Type} {m : SM α} {f : α → SM β} {st : St} {b : β} {R : List Nat} {U : List (Nat × Ent)} (h : (m >>= f) st = some (b, R, U)) :
    ∃ a R1 U1 R2 U2, m st = some (a, R1, U1) ∧ f a (applyU U1 st) = some (b, R2, U2) ∧ R = R1 ++ R2 ∧ U = U1 ++ U2 := by
  change SM.bind m f st = _ at h
  unfold SM.bind at h
  split at h
  · cases h
  · rename_i a R1 U1 h1
    split at h
    · cases h
    · rename_i b' R2 U2 h2
      simp only [Option.some.injEq, Prod.mk.injEq] at h
      obtain ⟨rfl, rfl, rfl⟩ := h
      exact ⟨a, R1, U1, R2, U2, h1, h2, rfl, rfl⟩

theorem pure_some {α : Type} {a b : α} {st : St} {R : List Nat} {U : List (Nat × Ent)} (h : (pure a : SM α) st = some (b, R, U)) : b = a ∧ R = [] ∧ U = [] := by
  change SM.pure a st = _ at h
  simp only [SM.pure, Option.some.injEq, Prod.mk.injEq] at h
  exact ⟨h.1.symm, h.2.1.symm, h.2.2.symm⟩

theorem rdE_some {k : Nat} {st : St} {e : Ent} {R : List Nat} {U : List (Nat × Ent)} (h : rdE k st = some (e, R, U)) : e = st k ∧ R = [k] ∧ U = [] := by
  simp only [rdE, Option.some.injEq, Prod.mk.injEq] at h
  exact ⟨h.1.symm, h.2.1.symm, h.2.2.symm⟩

theorem wrE_some {k : Nat} {e : Ent} {st : St} {u : Unit} {R : List Nat} {U : List (Nat × Ent)} (h : wrE k e st = some (u, R, U)) : R = [] ∧ U = [(k, e)] := by
  simp only [wrE, Option.some.injEq, Prod.mk.injEq] at h
  exact ⟨h.2.1.symm, h.2.2.symm⟩

theorem ofO_some {α : Type} {x : Option α} {a : α} {st : St} {R : List Nat} {U : List (Nat × Ent)} (h : ofO x st = some (a, R, U)) : x = some a ∧ R = [] ∧ U = [] := by
  unfold ofO at h
  split at h
  · simp only [Option.some.injEq, Prod.mk.injEq] at h
    exact ⟨by simp [*], h.2.1.symm, h.2.2.symm⟩
  · cases h

theorem sfail_some {α : Type} {a : α} {st : St} {R : List Nat} {U : List (Nat × Ent)} (h : (sfail : SM α) st = some (a, R, U)) : False := by
  simp [sfail] at h

theorem Sim.free {C : Ctx} {S : Still} {Fp : Nat → List Nat} {X : List Nat} {st : St} {a : Act} {w : World} (h : Sim C S Fp X st a w) (t k : Nat) (hk : k ∈ Fp t) :
    k < w.heap.size ∧ (∀ o, S k o = none) ∧ ∃ c ty, w.heap[k]? = some (.cells c ty (0, 0)) := by
  have q := h.ent t
  unfold EntOk at q
  cases htt : (st t).t with
  | own z => simp only [htt] at q; obtain ⟨cs, g1, _⟩ := q; exact g1.own k hk
  | gone => simp only [htt] at q; simp [q] at hk
  | d z => simp only [htt] at q; simp [q.2] at hk
  | als _ _ _ _ => simp only [htt] at q; simp [q.1] at hk
  | ptr _ _ _ _ => simp only [htt] at q; simp [q.1] at hk

/-- What an operand's value is. -/
def TOk (S : Still) (h : Array Obj) (st : St) (tv : Nat → Value) (x : T) (v : Value) : Prop :=
  match x with
  | .d y => RepV S y v
  | .als r p er ec => AlsOk h st tv r p er ec v
  | .ptr r p er ec => PtrOk h st tv r p er ec v
  | _ => False

theorem rep1_atom {S : Still} {v u : Value} : Rep1 S (.atom v) u ↔ u = v ∧ v.oneCell' = true := by
  constructor
  · rintro ⟨cs, h, rfl⟩
    simp only [Rep] at h
    obtain ⟨rfl, h⟩ := h
    exact ⟨rfl, h⟩
  · rintro ⟨rfl, h⟩
    exact ⟨[u], by simp [Rep, h], rfl⟩

theorem repV_atom {S : Still} {v u : Value} : RepV S (.atom v) u ↔ u = v ∧ v.oneCell' = true := by
  simp only [RepV]; exact rep1_atom

theorem opnd_ok {C : Ctx} {S : Still} {Fp : Nat → List Nat} {X : List Nat} {st : St} {a : Act} {w : World} (h : Sim C S Fp X st a w) {x : Operand} {y : T} {R : List Nat} {U : List (Nat × Ent)} (e : opnd x st = some (y, R, U)) :
    U = [] ∧ TOk S w.heap st (Act.tv a) y (a.eval x) := by
  cases x with
  | tmp t =>
    simp only [opnd] at e
    obtain ⟨en, R1, U1, R2, U2, h1, h2, rfl, rfl⟩ := bind_some e
    obtain ⟨rfl, rfl, rfl⟩ := rdE_some h1
    simp only [applyU] at h2
    have q := h.ent t
    unfold EntOk at q
    cases ht : (st t).t with
    | gone => simp only [ht] at h2; exact (sfail_some h2).elim
    | d z =>
      simp only [ht] at h2 q
      obtain ⟨rfl, rfl, rfl⟩ := pure_some h2
      exact ⟨rfl, q.1⟩
    | own z =>
      simp only [ht] at h2 q
      obtain ⟨rfl, rfl, rfl⟩ := pure_some h2
      refine ⟨rfl, Nat.le_refl _, Nat.le_refl _, ?_⟩
      simp only [ht]
      exact fun _ _ => .inl ⟨trivial, rfl⟩
    | als r p er ec =>
      simp only [ht] at h2 q
      obtain ⟨rfl, rfl, rfl⟩ := pure_some h2
      exact ⟨rfl, q.2⟩
    | ptr r p er ec =>
      simp only [ht] at h2 q
      obtain ⟨rfl, rfl, rfl⟩ := pure_some h2
      exact ⟨rfl, q.2⟩
  | const v =>
    simp only [opnd] at e
    split at e
    · obtain ⟨rfl, rfl, rfl⟩ := pure_some e
      exact ⟨rfl, repV_atom.2 ⟨rfl, ‹_›⟩⟩
    · exact (sfail_some e).elim
  | func f =>
    simp only [opnd] at e
    obtain ⟨rfl, rfl, rfl⟩ := pure_some e
    refine ⟨rfl, ?_⟩
    simp only [TOk, RepV]
    exact ⟨[.func (.func f) #[] #[]], by simp [Rep, Reps], rfl⟩
  | global g => simp only [opnd] at e; exact (sfail_some e).elim

/-- What 'look' gives: the root's tree has it there; or the root is data. -/
theorem look_some {st : St} {r : Nat} {p : List Step} {er ec : Nat} {y : A} {R : List Nat} {U : List (Nat × Ent)} (e : look r p er ec st = some (y, R, U)) :
    U = [] ∧ ((∃ x, (st r).t = .own x ∧ (st r).er = er ∧ (p = [] ∨ (st r).ec = ec) ∧ getP p x = some y) ∨ ((st r).t = .d y ∧ (st r).er = er ∧ p = [])) := by
  simp only [look] at e
  obtain ⟨en, R1, U1, R2, U2, h1, h2, rfl, rfl⟩ := bind_some e
  obtain ⟨rfl, rfl, rfl⟩ := rdE_some h1
  simp only [applyU] at h2
  cases ht : (st r).t with
  | own x =>
    simp only [ht] at h2
    split at h2
    · rename_i hc
      obtain ⟨g, rfl, rfl⟩ := ofO_some h2
      exact ⟨rfl, .inl ⟨x, rfl, hc.1, hc.2, g⟩⟩
    · exact (sfail_some h2).elim
  | d x =>
    simp only [ht] at h2
    split at h2
    · rename_i hc
      obtain ⟨rfl, rfl, rfl⟩ := pure_some h2
      exact ⟨rfl, .inr ⟨rfl, hc.1, hc.2⟩⟩
    · exact (sfail_some h2).elim
  | gone => simp only [ht] at h2; exact (sfail_some h2).elim
  | als _ _ _ _ => simp only [ht] at h2; exact (sfail_some h2).elim
  | ptr _ _ _ _ => simp only [ht] at h2; exact (sfail_some h2).elim

theorem valOf_sits {S : Still} {h : Array Obj} {y : A} {cs cs' : List Value} {F : List Nat} {b o : Nat} {arr : Array Value} {ty : TypeId} (hy : Conc S h y cs F) (hb : h[b]? = some (.cells arr ty (0, 0))) (hs : Sits arr o cs) (hl : cs'.length = y.size) (hs' : SitsH h b o cs') : cs' = cs := by
  apply List.ext_getElem?
  intro j
  by_cases hj : j < y.size
  · have h1 := hs' j cs'[j] (List.getElem?_eq_getElem (by omega))
    have hlen := hy.len
    have h2 := hs j cs[j] (List.getElem?_eq_getElem (by omega))
    simp only [cellAt, hb] at h1
    rw [h2] at h1
    rw [List.getElem?_eq_getElem (by omega), List.getElem?_eq_getElem (by omega)]
    exact h1.symm
  · have hlen := hy.len
    rw [List.getElem?_eq_none (by omega), List.getElem?_eq_none (by omega)]

/-- What an alias names: data, or a subtree of the root's with the value's own cells. -/
theorem look_ok {C : Ctx} {S : Still} {Fp : Nat → List Nat} {X : List Nat} {st : St} {a : Act} {w : World} (h : Sim C S Fp X st a w) {r : Nat} {p : List Step} {er ec : Nat} {v : Value} (ha : AlsOk w.heap st (Act.tv a) r p er ec v)
    {y : A} {R : List Nat} {U : List (Nat × Ent)} (e : look r p er ec st = some (y, R, U)) :
    U = [] ∧ ((∃ x cs F, (st r).t = .own x ∧ (st r).er = er ∧ (p = [] ∨ (st r).ec = ec) ∧ getP p x = some y ∧ Conc S w.heap y cs F ∧ v = valOf y cs ∧ (∀ k ∈ F, k ∈ Fp r) ∧ F.Nodup) ∨ ((st r).t = .d y ∧ (st r).er = er ∧ p = [] ∧ v = Act.tv a r ∧ RepV S y v)) := by
  obtain ⟨rfl, q⟩ := look_some e
  refine ⟨rfl, ?_⟩
  have hr := h.ent r
  unfold EntOk at hr
  obtain ⟨_, _, a3⟩ := ha
  rcases q with ⟨x, ht, e1, e2, e3⟩ | ⟨ht, e1, e2⟩
  · left
    simp only [ht] at hr a3
    obtain ⟨cs, c1, c2, c3⟩ := hr
    rcases a3 e1 e2 with ⟨rfl, rfl⟩ | ⟨o1, y', b, o, cs', g1, g2, g3, g4, g5⟩
    · simp only [getP, Option.some.injEq] at e3
      subst e3
      exact ⟨x, cs, Fp r, ht, e1, e2, rfl, c1, c3, fun _ h => h, c2⟩
    · rw [e3] at g1
      simp only [Option.some.injEq] at g1
      subst g1
      obtain ⟨b', o', arr, ty, csy, Fy, f1, f2, f3, f4, f5, f6, f7, f8, _⟩ := focusRoot p c1 c2 (by rintro rfl; simp [ownP] at o1) (by rintro i q rfl; simp [ownP] at o1) e3
      rw [c3, f1] at g2
      simp only [Option.some.injEq, Prod.mk.injEq] at g2
      obtain ⟨rfl, rfl⟩ := g2
      have := valOf_sits f4 f2 f3 g3 g4
      subst this
      exact ⟨x, cs', Fy, ht, e1, e2, e3, f4, g5, f7, f8⟩
  · right
    simp only [ht] at hr a3
    subst e2
    have := a3 e1 rfl
    subst this
    exact ⟨ht, e1, rfl, rfl, hr.1⟩

theorem val_ok {C : Ctx} {S : Still} {Fp : Nat → List Nat} {X : List Nat} {st : St} {a : Act} {w : World} (h : Sim C S Fp X st a w) {x : T} {v : Value} (hx : TOk S w.heap st (Act.tv a) x v) {y : A} {R : List Nat} {U : List (Nat × Ent)} (e : val x st = some (y, R, U)) :
    U = [] ∧ RepV S y v := by
  cases x with
  | d z => simp only [val] at e; obtain ⟨rfl, rfl, rfl⟩ := pure_some e; exact ⟨rfl, hx⟩
  | als r p er ec =>
    simp only [val] at e
    obtain ⟨z, R1, U1, R2, U2, h1, h2, rfl, rfl⟩ := bind_some e
    obtain ⟨rfl, q⟩ := look_ok h hx h1
    split at h2
    · rename_i hd
      obtain ⟨rfl, rfl, rfl⟩ := pure_some h2
      refine ⟨rfl, ?_⟩
      rcases q with ⟨x, cs, F, _, _, _, _, q5, q6, _⟩ | ⟨_, _, _, _, q5⟩
      · exact Rep1.repV ⟨cs, (q5.isD hd).1, q6⟩
      · exact q5
    · exact (sfail_some h2).elim
  | gone => simp only [val] at e; exact (sfail_some e).elim
  | own _ => simp only [val] at e; exact (sfail_some e).elim
  | ptr _ _ _ _ => simp only [val] at e; exact (sfail_some e).elim

/-- Data as a tree with no block of its own. -/
theorem RepV.conc {S : Still} {y : A} {v : Value} (h : Array Obj) (hr : RepV S y v) (hy : ∀ fs, y ≠ .tup fs) : ∃ cs, Conc S h y cs [] ∧ v = valOf y cs := by
  have : Rep1 S y v := by
    cases y <;> simp only [RepV] at hr <;> first | exact hr | exact absurd rfl (hy _)
  obtain ⟨cs, h1, h2⟩ := this
  exact ⟨cs, h1.conc h, h2⟩

/-- Taking: the tree is taken, the state no longer has it; no memory turns. -/
theorem take_ok {C : Ctx} {S : Still} {Fp : Nat → List Nat} {X : List Nat} {st : St} {a : Act} {w : World} (h : Sim C S Fp X st a w) {x : T} {v : Value} (hx : TOk S w.heap st (Act.tv a) x v) {y : A} {R : List Nat} {U : List (Nat × Ent)} (e : take x st = some (y, R, U)) :
    ∃ Fp' F, Sim C S Fp' (F ++ X) (applyU U st) a w ∧ ((RepV S y v ∧ F = []) ∨ ∃ cs, Conc S w.heap y cs F ∧ F.Nodup ∧ v = valOf y cs) := by
  cases x with
  | d z => simp only [take] at e; obtain ⟨rfl, rfl, rfl⟩ := pure_some e; exact ⟨Fp, [], h, .inl ⟨hx, rfl⟩⟩
  | als r p er ec =>
    simp only [take] at e
    obtain ⟨z, R1, U1, R2, U2, h1, h2, rfl, rfl⟩ := bind_some e
    obtain ⟨rfl, q⟩ := look_ok h hx h1
    simp only [applyU] at h2
    simp only [List.nil_append]
    by_cases hd : z.isD = true
    · rw [if_pos hd] at h2
      obtain ⟨rfl, rfl, rfl⟩ := pure_some h2
      refine ⟨Fp, [], h, .inl ⟨?_, rfl⟩⟩
      rcases q with ⟨x, cs, F, _, _, _, _, q5, q6, _⟩ | ⟨_, _, _, _, q5⟩
      · exact Rep1.repV ⟨cs, (q5.isD hd).1, q6⟩
      · exact q5
    · rw [if_neg hd] at h2
      obtain ⟨en, R3, U3, R4, U4, h3, h4, rfl, rfl⟩ := bind_some h2
      obtain ⟨rfl, rfl, rfl⟩ := rdE_some h3
      simp only [applyU] at h4
      rcases q with ⟨x, cs, F, q1, q2, q3, q4, q5, q6, q7, q8⟩ | ⟨q1, _⟩
      · simp only [q1] at h4
        have hr := h.ent r
        unfold EntOk at hr
        simp only [q1] at hr
        by_cases hp : p = []
        · rw [if_pos hp] at h4
          obtain ⟨u5, R5, U5, R6, U6, h5, h6, rfl, rfl⟩ := bind_some h4
          obtain ⟨rfl, rfl⟩ := wrE_some h5
          obtain ⟨rfl, rfl, rfl⟩ := pure_some h6
          subst hp
          simp only [getP, Option.some.injEq] at q4
          subst q4
          obtain ⟨cs', c1, c2, c3⟩ := hr
          have hv : v = Act.tv a r := by
            have := hx.2.2
            simp only [q1] at this
            rcases this q2 (.inl trivial) with ⟨_, hv⟩ | ⟨ho, _⟩
            · exact hv
            · simp [ownP] at ho
          refine ⟨updF Fp r [], Fp r, ?_, .inr ⟨cs', c1, c2, by rw [hv, c3]⟩⟩
          simp only [List.nil_append, List.append_nil, applyU]
          refine h.change r .gone _ _ [] h.below (fun _ _ _ h => h) h.still h.sbase (fun t k _ hk => ⟨rfl, (h.free t k hk).2.1⟩) rfl (.inl ⟨x, q1⟩) (Nat.le_succ _) (Nat.lt_succ_self _) (by simp) (by simp) ?_ ?_ (by simp) ?_
          · rw [List.nodup_append]
            refine ⟨c2, h.xn, ?_⟩
            rintro m hm m' hm' rfl
            exact h.xd r m hm' hm
          · intro t k ht hk
            rcases List.mem_append.1 hk with hk | hk
            · exact fun hk' => ht (h.disj t r k hk' hk)
            · exact h.xd t k hk
          · intro k hk
            rcases List.mem_append.1 hk with hk | hk
            · exact h.base r k hk
            · exact h.xb k hk
        · rw [if_neg hp] at h4
          obtain ⟨u5, R5, U5, R6, U6, h5, h6, rfl, rfl⟩ := bind_some h4
          obtain ⟨rfl, rfl⟩ := wrE_some h5
          obtain ⟨rfl, rfl, rfl⟩ := pure_some h6
          obtain ⟨cs', c1, c2, c3⟩ := hr
          have ho : ownP p = true := by
            have := hx.2.2
            simp only [q1] at this
            rcases this q2 q3 with ⟨hp', _⟩ | ⟨ho, _⟩
            · exact absurd hp' hp
            · exact ho
          have hx3 := hx.2.2
          simp only [q1] at hx3
          rcases hx3 q2 q3 with ⟨hp', _⟩ | ⟨_, y', b, o, csa, g1, g2, g3, g4, g5⟩
          · exact absurd hp' hp
          rw [q4] at g1
          simp only [Option.some.injEq] at g1
          subst g1
          obtain ⟨b', o', arr, ty, csy, Fy, f1, f2, f3, f4, f5, f6, f7, f8, f9⟩ := focusRoot p c1 c2 hp (by rintro i q rfl; simp [ownP] at ho) q4
          rw [c3, f1] at g2
          simp only [Option.some.injEq, Prod.mk.injEq] at g2
          obtain ⟨rfl, rfl⟩ := g2
          have hcs := valOf_sits f4 f2 f3 g3 g4
          subst hcs
          obtain ⟨F0', d1, d2, d3⟩ := f9 S w.heap (.dead y.size) csa [] (fun _ _ _ h => h) rfl (by simp only [Conc]; exact ⟨f4.len, f4.one, trivial⟩) (by simp) (fun k hk _ => (c1.own k hk).2.1) (fun _ _ _ _ => rfl) (by rw [over_same f3]; exact f2) (by simp)
          have hval : valOf (setP p x (.dead y.size)) cs' = valOf x cs' := by
            cases p with
            | nil => exact absurd rfl hp
            | cons s p' =>
              cases s with
              | fld _ => simp [ownP] at ho
              | deref => cases x <;> simp [setP, valOf]
              | idx _ => cases x <;> simp [setP, valOf]
          refine ⟨updF Fp r F0', Fy, ?_, .inr ⟨csa, f4, f8, g5⟩⟩
          simp only [List.nil_append, List.append_nil, applyU]
          refine h.change r (.own (setP p x (.dead y.size))) _ _ F0' h.below (fun _ _ _ h => h) h.still h.sbase (fun t k _ hk => ⟨rfl, (h.free t k hk).2.1⟩) ⟨⟨cs', d1, d2, by rw [hval]; exact c3⟩, x, q1⟩ (.inl ⟨x, q1⟩) (Nat.le_refl _) (Nat.lt_succ_self _) ?_ ?_ ?_ ?_ ?_ ?_
          · intro t k ht hk hk'
            rcases (d3 k).1 hk with hk | hk
            · exact ht (h.disj t r k hk' hk.1)
            · simp at hk
          · intro k hk
            rcases (d3 k).1 hk with hk | hk
            · exact h.base r k hk.1
            · simp at hk
          · rw [List.nodup_append]
            refine ⟨f8, h.xn, ?_⟩
            rintro m hm m' hm' rfl
            exact h.xd r m hm' (f7 m hm)
          · intro t k ht hk
            rcases List.mem_append.1 hk with hk | hk
            · exact fun hk' => ht (h.disj t r k hk' (f7 k hk))
            · exact h.xd t k hk
          · intro k hk hk'
            rcases (d3 k).1 hk' with hk' | hk'
            · rcases List.mem_append.1 hk with hk | hk
              · exact hk'.2 hk
              · exact h.xd r k hk hk'.1
            · simp at hk'
          · intro k hk
            rcases List.mem_append.1 hk with hk | hk
            · exact h.base r k (f7 k hk)
            · exact h.xb k hk
      · simp only [q1] at h4; exact (sfail_some h4).elim
  | gone => simp only [take] at e; exact (sfail_some e).elim
  | own _ => simp only [take] at e; exact (sfail_some e).elim
  | ptr _ _ _ _ => simp only [take] at e; exact (sfail_some e).elim

end Go.Own

namespace Go.Own

/-- A tree with its own blocks, or data, as the value v. -/
def Has (S : Still) (h : Array Obj) (y : A) (v : Value) (F : List Nat) : Prop := (RepV S y v ∧ F = []) ∨ ∃ cs, Conc S h y cs F ∧ F.Nodup ∧ v = valOf y cs

mutual
theorem Rep.isD {S : Still} : ∀ {a : A} {cs : List Value}, Rep S a cs → a.isD = true
  | .agg fs, _, r => by simp only [Rep] at r; simp only [A.isD]; exact Reps.areD r
  | .atom _, _, _ => rfl
  | .fn _ _, _, _ => rfl
  | .sl _ _ _, _, _ => rfl
  | .sptr _, _, _ => rfl
  | .tup _, _, r => by simp only [Rep] at r
  | .osl _ _ _, _, r => by simp only [Rep] at r
  | .box _, _, r => by simp only [Rep] at r
  | .dead _, _, r => by simp only [Rep] at r
theorem Reps.areD {S : Still} : ∀ {as : List A} {cs : List Value}, Reps S as cs → A.areD as = true
  | [], _, _ => rfl
  | a :: as, _, r => by
    simp only [Reps] at r
    obtain ⟨c1, c2, _, r1, r2⟩ := r
    simp only [A.areD, Rep.isD r1, Reps.areD r2, Bool.and_self]
end

def KindOk (P : Program) (t : Nat) : TK → Prop
  | .int k => P.underlying t = some (.int k)
  | .bool => P.underlying t = some .bool
  | .str => P.underlying t = some .string
  | .slice e => P.underlying t = some (.slice e)
  | .ptr e => P.underlying t = some (.pointer e)
  | .struct fs => ∃ fields, P.underlying t = some (.struct fields) ∧ fields.toList.map (fun f => (f.offset, P.cellsOf f.type)) = fs ∧ ∀ f ∈ fields.toList, ∃ i, P.info? f.type = some i
  | .array n e => P.underlying t = some (.array n e)
  | .other => ∃ d, P.underlying t = some d ∧ (match d with | .struct _ | .array _ _ => false | _ => true) = true

def eqVals : List Value → List Value → Option Bool
  | [], [] => some true
  | .int k a :: as, .int k' b :: bs => if k = k' then (eqVals as bs).map fun r => (a == b) && r else none
  | _, _ => none

structure EqOk (P : Program) (t n : Nat) : Prop where
  guard : P.eqGuardType P.depth t = false
  run : ∀ (vs us : List Value) (r : Bool) (w : World), vs.length = n → us.length = n → eqVals vs us = some r → (Op.equal t (.agg vs.toArray) (.agg us.toArray)).run P w = .ok r w

def ZeroOk (z : A) (v : Value) (n : Nat) : Prop := z.size = n ∧ ∀ S h, Conc S h z v.cells.toList []

structure TIok (P : Program) (t : Nat) (i : TI) : Prop where
  info : ∃ f, P.info? t = some f ∧ f.size = i.size ∧ f.bytes = i.bytes ∧ ∀ z, i.zero = some z → ∃ v, f.zero = some v ∧ ZeroOk z v i.size
  kind : KindOk P t i.kind
  eqn : i.eqn = true → EqOk P t i.size

def TTok (P : Program) (tt : TT) : Prop := ∀ t i, tt t = some i → TIok P t i

/-- No fence but for where the code stands: in a function's own activation, or in a round of a loop over an iterator. -/
def fen (r : Option Nat) : Fence := { Fence.wide with round := r }

theorem calls_fen {P : Program} {f : FuncId} {vs : Array Value} {w : World} {R : Ending → World → Prop} (h : Calls P f vs w R) (r : Option Nat) (m : Nat) : CallsIn (fen r) m P f vs w R := by
  have h0 : CallsIn Fence.wide m P f vs w R := callsIn_wide.2 h
  cases r with
  | none => exact h0
  | some l => exact h0.inRound l

/-- The operation leads from a state to this one, and on. -/
def Good (P : Program) (C : Ctx) (o : Oper) (a : Act) (w : World) (st' : St) : Prop :=
  ∀ (r : Option Nat) (m : Nat) (K : Act → World → Prop) (Q : Exit → Act → World → Prop), (∀ S Fp a' w', Sim C S Fp [] st' a' w' → K a' w') → o.wpIn (fen r) m P a w K Q

theorem run_semAt {P : Program} {o : Oper} {ρ : Operand → Value} {w w' : World} {x : Next} (h : (execOp ρ o).run P w = .ok x w') (hx : ∀ d, x ≠ .defer d) (r : Option Nat) : (o.semAt r ρ).run P w = .ok x w' := by
  rw [Oper.semAt_eq r ρ o ?_]
  · exact h
  · intro c hc
    simp only [execOp, hc, Sem.run_bind] at h
    cases hr : (resolve ρ c o.type).run P w with
    | ok d w2 =>
      simp only [hr, Result.andThen_ok, Sem.run_pure, Result.ok.injEq] at h
      exact hx _ h.1.symm
    | halt e w2 => simp [hr] at h

theorem good_value {P : Program} {C : Ctx} {o : Oper} {a : Act} {w w' : World} {st' : St} {v : Value} {S : Still} {Fp : Nat → List Nat} (h : (execOp a.eval o).run P w = .ok (.value v) w') (hs : Sim C S Fp [] st' (a.put o.dst v) w') : Good P C o a w st' := by
  intro r m K Q hK
  refine ⟨fun _ _ => trivial, ?_⟩
  rw [run_semAt h (by simp)]
  exact hK _ _ _ _ hs

theorem good_skip {P : Program} {C : Ctx} {o : Oper} {a : Act} {w w' : World} {st' : St} {S : Still} {Fp : Nat → List Nat} (h : (execOp a.eval o).run P w = .ok .skip w') (hd : o.dst = none) (hs : Sim C S Fp [] st' a w') : Good P C o a w st' := by
  intro r m K Q hK
  refine ⟨fun _ _ => trivial, ?_⟩
  rw [run_semAt h (by simp), Oper.uponIn_skip, hd]
  exact hK _ _ _ _ hs

theorem wrT_some {n : Fr} {dst : Option Nat} {x : T} {st : St} {u : Unit} {R : List Nat} {U : List (Nat × Ent)} (e : wrT n dst x st = some (u, R, U)) :
    (dst = none ∧ U = []) ∨ ∃ k, dst = some k ∧ n.ok k = true ∧ U = [(k, ⟨x, (st k).er + 1, (st k).ec + 1⟩)] := by
  unfold wrT at e
  cases dst with
  | none => obtain ⟨_, _, rfl⟩ := pure_some e; exact .inl ⟨rfl, rfl⟩
  | some k =>
    right
    simp only at e
    split at e
    · rename_i hk
      obtain ⟨en, R3, U3, R4, U4, h3, h4, rfl, rfl⟩ := bind_some e
      obtain ⟨rfl, rfl, rfl⟩ := rdE_some h3
      obtain ⟨rfl, rfl⟩ := wrE_some h4
      exact ⟨k, rfl, hk, by simp⟩
    · exact (sfail_some e).elim

section
variable {C : Ctx} {S : Still} {Fp : Nat → List Nat} {X : List Nat} {st : St} {a : Act} {w : World}

theorem Sim.dropX (h : Sim C S Fp X st a w) : Sim C S Fp [] st a w :=
  h.mem h.below (fun _ _ _ h => h) h.still h.sbase (fun t k hk => ⟨rfl, (h.free t k hk).2.1⟩) (by simp) (by simp) (by simp)

/-- Data, an alias or a pointer is written. -/
theorem wr_ok (h : Sim C S Fp X st a w) {dst : Option Nat} {x : T} {u : Unit} {R : List Nat} {U : List (Nat × Ent)} (e : wrT C.n dst x st = some (u, R, U)) {v : Value} (hx : TOk S w.heap st (Act.tv a) x v) :
    ∃ Fp', Sim C S Fp' [] (applyU U st) (a.put dst v) w := by
  rcases wrT_some e with ⟨rfl, rfl⟩ | ⟨k, rfl, hk, rfl⟩
  · exact ⟨Fp, h.dropX⟩
  · refine ⟨_, h.put hk x [] v ?_ (by simp) (by simp) (by simp) (by simp) (by simp) (by simp)⟩
    unfold EntOk
    cases x with
    | gone => exact hx.elim
    | own _ => exact hx.elim
    | d y => exact ⟨hx, rfl⟩
    | als r p er ec => exact ⟨rfl, AlsOk.put (Nat.lt_succ_self _) (Nat.lt_succ_self _) (fun t ht => by simp [ht]) hx⟩
    | ptr r p er ec => exact ⟨rfl, PtrOk.put (Nat.lt_succ_self _) (Nat.lt_succ_self _) (fun t ht => by simp [ht]) hx⟩

/-- A tree of the call's own is written. -/
theorem wr_own {F : List Nat} (h : Sim C S Fp (F ++ X) st a w) {dst : Option Nat} {y : A} {u : Unit} {R : List Nat} {U : List (Nat × Ent)} (e : wrT C.n dst (.own y) st = some (u, R, U)) {cs : List Value} (hc : Conc S w.heap y cs F) (hn : F.Nodup) :
    ∃ Fp', Sim C S Fp' [] (applyU U st) (a.put dst (valOf y cs)) w := by
  rcases wrT_some e with ⟨rfl, rfl⟩ | ⟨k, rfl, hk, rfl⟩
  · exact ⟨Fp, h.dropX⟩
  · exact ⟨_, h.put hk (.own y) F _ ⟨cs, hc, hn, rfl⟩ (fun t m _ hm => h.xd t m (by simp [hm])) (fun m hm => h.xb m (by simp [hm])) (by simp) (by simp) (by simp) (by simp)⟩

theorem Has.mkT {S : Still} {h : Array Obj} {y : A} {v : Value} {F : List Nat} (q : Has S h y v F) : (mkT y = .d y ∧ RepV S y v ∧ F = []) ∨ (mkT y = .own y ∧ ∃ cs, Conc S h y cs F ∧ F.Nodup ∧ v = valOf y cs) := by
  rcases q with ⟨q, rfl⟩ | ⟨cs, q1, q2, q3⟩
  · left
    refine ⟨?_, q, rfl⟩
    unfold Go.Own.mkT
    cases y <;> try rfl
    all_goals
      simp only [RepV] at q
      obtain ⟨cs, q, _⟩ := q
      simp [q.isD]
  · by_cases hd : y.isD = true
    · left
      obtain ⟨q4, rfl⟩ := q1.isD hd
      refine ⟨?_, Rep1.repV ⟨cs, q4, q3⟩, rfl⟩
      unfold Go.Own.mkT
      cases y <;> simp_all
    · right
      refine ⟨?_, cs, q1, q2, q3⟩
      unfold Go.Own.mkT
      cases y <;> first | (simp [Conc] at q1; done) | simp_all

theorem wr_has {F : List Nat} (h : Sim C S Fp (F ++ X) st a w) {dst : Option Nat} {y : A} {u : Unit} {R : List Nat} {U : List (Nat × Ent)} (e : wrT C.n dst (mkT y) st = some (u, R, U)) {v : Value} (hc : Has S w.heap y v F) :
    ∃ Fp', Sim C S Fp' [] (applyU U st) (a.put dst v) w := by
  rcases hc.mkT with ⟨e1, q, rfl⟩ | ⟨e1, cs, q1, q2, rfl⟩
  · rw [e1] at e
    exact wr_ok h e q
  · rw [e1] at e
    exact wr_own h e q1 q2

theorem nilFix_ok {S : Still} {h : Array Obj} {tt : TT} {t : Nat} {y : A} {v : Value} {F : List Nat} (q : Has S h y v F) : Has S h (nilFix tt t y) v F := by
  unfold nilFix
  split
  · split
    · split
      · rename_i i _
        right
        have hv : v = .slice none 0 0 ∧ F = [] := by
          rcases q with ⟨q, rfl⟩ | ⟨cs, q1, _, q3⟩
          · exact ⟨(repV_atom.1 q).1, rfl⟩
          · simp only [Conc, Rep] at q1
            obtain ⟨⟨rfl, _⟩, rfl⟩ := q1
            exact ⟨q3, rfl⟩
        obtain ⟨rfl, rfl⟩ := hv
        refine ⟨[.slice none 0 0], ?_, by simp, rfl⟩
        simp only [Conc]
        exact ⟨none, 0, rfl, fun _ => rfl, Nat.le_refl _, Nat.zero_le _, by simp, .inl (by simp)⟩
      · exact q
    · exact q
  · exact q

theorem takeC_ok (h : Sim C S Fp X st a w) {tt : TT} {t : Nat} {x : T} {v : Value} (hx : TOk S w.heap st (Act.tv a) x v) {y : A} {R : List Nat} {U : List (Nat × Ent)} (e : takeC tt t x st = some (y, R, U)) :
    ∃ Fp' F, Sim C S Fp' (F ++ X) (applyU U st) a w ∧ Has S w.heap y v F := by
  unfold takeC at e
  obtain ⟨z, R1, U1, R2, U2, h1, h2, rfl, rfl⟩ := bind_some e
  obtain ⟨rfl, rfl, rfl⟩ := pure_some h2
  obtain ⟨Fp', F, g1, g2⟩ := take_ok h hx h1
  exact ⟨Fp', F, by simpa using g1, nilFix_ok g2⟩

/-! ### Moves -/

def moveA (n : Fr) (dst : Option Nat) (x : Operand) : SM Unit := do
  let t ← opnd x
  wrT n dst t

theorem move_ok {P : Program} (h : Sim C S Fp [] st a w) {o : Oper} {x : Operand} (ho : o.op = .move x) {u : Unit} {R : List Nat} {U : List (Nat × Ent)} (e : moveA C.n o.dst x st = some (u, R, U)) : Good P C o a w (applyU U st) := by
  unfold moveA at e
  obtain ⟨y, R1, U1, R2, U2, h1, h2, rfl, rfl⟩ := bind_some e
  obtain ⟨rfl, hx⟩ := opnd_ok h h1
  obtain ⟨Fp', hs⟩ := wr_ok h h2 hx
  exact good_value (v := a.eval x) (by simp [execOp, ho]) hs

def assignA (tt : TT) (n : Fr) (dst : Option Nat) (t : Nat) (x : Operand) : SM Unit := do
  let y ← opnd x
  match y with
  | .ptr r p er ec => wrT n dst (.ptr r p er ec)
  | y => do
    let z ← takeC tt t y
    wrT n dst (mkT z)

theorem assign_ok {P : Program} (h : Sim C S Fp [] st a w) {tt : TT} {o : Oper} {x : Operand} (ho : o.op = .assign x) {u : Unit} {R : List Nat} {U : List (Nat × Ent)} (e : assignA tt C.n o.dst o.type x st = some (u, R, U)) : Good P C o a w (applyU U st) := by
  unfold assignA at e
  obtain ⟨y, R1, U1, R2, U2, h1, h2, rfl, rfl⟩ := bind_some e
  obtain ⟨rfl, hx⟩ := opnd_ok h h1
  have gen : ∀ (R2 : List Nat) (U2 : List (Nat × Ent)), (do let z ← takeC tt o.type y; wrT C.n o.dst (mkT z) : SM Unit) st = some (u, R2, U2) → Good P C o a w (applyU U2 st) := by
    intro R2 U2 h2
    obtain ⟨z, R3, U3, R4, U4, h3, h4, rfl, rfl⟩ := bind_some h2
    obtain ⟨Fp', F, g1, g2⟩ := takeC_ok h hx h3
    obtain ⟨Fp'', hs⟩ := wr_has g1 h4 g2
    rw [applyU_append]
    exact good_value (v := a.eval x) (by simp [execOp, ho]) hs
  cases y with
  | ptr r p er ec =>
    obtain ⟨Fp', hs⟩ := wr_ok h h2 hx
    exact good_value (v := a.eval x) (by simp [execOp, ho]) hs
  | d _ => exact gen _ _ h2
  | als _ _ _ _ => exact gen _ _ h2
  | gone => exact hx.elim
  | own _ => exact hx.elim

/-! ### Arithmetic and tests -/

def binOpA (tt : TT) (n : Fr) (dst : Option Nat) (op : BinOp) (xt : Nat) (x y : Operand) : SM Unit := do
  let tx ← opnd x
  let vx ← val tx
  let ty ← opnd y
  let vy ← val ty
  let r ← ofO (binA tt op xt vx vy)
  wrT n dst (.d r)

theorem repV_agg {S : Still} {fs : List A} {v : Value} (h : RepV S (.agg fs) v) : ∃ cs, v = .agg cs.toArray ∧ Reps S fs cs := by
  simp only [RepV] at h
  obtain ⟨cs, h1, h2⟩ := h
  simp only [Rep] at h1
  exact ⟨cs, h2, h1⟩

theorem eqCells_vals {S : Still} : ∀ {as bs : List A} {r : Bool} {cs ds : List Value}, eqCells as bs = some r → Reps S as cs → Reps S bs ds → eqVals cs ds = some r
  | [], [], r, cs, ds, h, h1, h2 => by simp only [Reps] at h1 h2; subst h1; subst h2; simpa [eqCells, eqVals] using h
  | .atom (.int k a) :: as, .atom (.int k' b) :: bs, r, cs, ds, h, h1, h2 => by
    simp only [Reps] at h1 h2
    obtain ⟨c1, c2, rfl, q1, q2⟩ := h1
    obtain ⟨d1, d2, rfl, p1, p2⟩ := h2
    simp only [Rep] at q1 p1
    obtain ⟨rfl, _⟩ := q1
    obtain ⟨rfl, _⟩ := p1
    simp only [eqCells] at h
    split at h
    · rename_i hk
      subst hk
      cases he : eqCells as bs with
      | none => simp [he] at h
      | some r' =>
        simp only [he, Option.map_some, Option.some.injEq] at h
        simp [eqVals, eqCells_vals he q2 p2, h]
    · cases h
  | [], _ :: _, _, _, _, h, _, _ => by simp [eqCells] at h
  | _ :: _, [], _, _, _, h, _, _ => by unfold eqCells at h; split at h <;> simp_all
  | a :: as, b :: bs, r, cs, ds, h, h1, h2 => by
    unfold eqCells at h
    split at h
    · simp_all
    · rename_i k x xs k' y ys e1 e2
      simp only [List.cons.injEq] at e1 e2
      obtain ⟨rfl, rfl⟩ := e1
      obtain ⟨rfl, rfl⟩ := e2
      simp only [Reps] at h1 h2
      obtain ⟨c1, c2, rfl, q1, q2⟩ := h1
      obtain ⟨d1, d2, rfl, p1, p2⟩ := h2
      simp only [Rep] at q1 p1
      obtain ⟨rfl, _⟩ := q1
      obtain ⟨rfl, _⟩ := p1
      split at h
      · rename_i hk
        subst hk
        cases he : eqCells as bs with
        | none => simp [he] at h
        | some r' =>
          simp only [he, Option.map_some, Option.some.injEq] at h
          simp [eqVals, eqCells_vals he q2 p2, h]
      · cases h
    · cases h

theorem run_intOp {P : Program} {op : BinOp} {k : IntKind} {x y : Int} {r : A} (e : intOp op k x y = some r) (xt : Nat) (p q : Operand) (w : World) :
    ∃ v, RepV S r v ∧ (do eqGuard op xt p q (.int k x) (.int k y); Go.binOp op xt (.int k x) (.int k y)).run P w = .ok v w := by
  cases op <;> simp only [intOp] at e
  all_goals first
    | (simp only [Option.some.injEq] at e; subst e
       refine ⟨_, repV_atom.2 ⟨rfl, rfl⟩, ?_⟩
       simp [eqGuard, Go.binOp, Op.intArith, Op.intCmp]; done)
    | (split at e
       · cases e
       · rename_i h0
         simp only [Option.some.injEq] at e; subst e
         refine ⟨_, repV_atom.2 ⟨rfl, rfl⟩, ?_⟩
         simp [eqGuard, Go.binOp, Op.intDiv, h0])
    | (cases e; done)

theorem run_equal_bool {P : Program} {xt : Nat} (hb : P.underlying xt = some .bool) (x y : Bool) (w : World) : (Op.equal xt (.bool x) (.bool y)).run P w = .ok (x == y) w := by
  have : ∀ d, (Op.equalIn (d + 1) xt (.bool x) (.bool y)).run P w = .ok (x == y) w := by
    intro d
    simp [Op.equalIn, run_underlying hb]
  exact this 9999

theorem run_bin_bool {P : Program} {xt : Nat} (hb : P.underlying xt = some .bool) (x y : Bool) (p q : Operand) (w : World) :
    (do eqGuard .eql xt p q (.bool x) (.bool y); Go.binOp .eql xt (.bool x) (.bool y)).run P w = .ok (.bool (x == y)) w ∧
    (do eqGuard .neq xt p q (.bool x) (.bool y); Go.binOp .neq xt (.bool x) (.bool y)).run P w = .ok (.bool (!(x == y))) w := by
  constructor
  · show (do (pure () : Sem Unit); (do pure (Value.bool (← Op.equal xt (.bool x) (.bool y))))).run P w = _
    simp only [Sem.run_bind, Sem.run_pure, Result.andThen_ok, run_equal_bool hb]
  · show (do (pure () : Sem Unit); (do pure (Value.bool (!(← Op.equal xt (.bool x) (.bool y)))))).run P w = _
    simp only [Sem.run_bind, Sem.run_pure, Result.andThen_ok, run_equal_bool hb]

theorem run_bin_agg {P : Program} {xt : Nat} {x y : Array Value} {r : Bool} {w : World} (hg : P.eqGuardType P.depth xt = false) (hr : (Op.equal xt (.agg x) (.agg y)).run P w = .ok r w) (p q : Operand) :
    (do eqGuard .eql xt p q (.agg x) (.agg y); Go.binOp .eql xt (.agg x) (.agg y)).run P w = .ok (.bool r) w ∧
    (do eqGuard .neq xt p q (.agg x) (.agg y); Go.binOp .neq xt (.agg x) (.agg y)).run P w = .ok (.bool (!r)) w := by
  have h1 : (eqGuard .eql xt p q (.agg x) (.agg y)).run P w = .ok () w := by
    show (do if !(← program).eqGuardType (← program).depth xt then pure () else _ : Sem Unit).run P w = _
    simp [program, Sem.run, hg]
  have h2 : (eqGuard .neq xt p q (.agg x) (.agg y)).run P w = .ok () w := by
    show (do if !(← program).eqGuardType (← program).depth xt then pure () else _ : Sem Unit).run P w = _
    simp [program, Sem.run, hg]
  constructor
  · show (do eqGuard .eql xt p q (.agg x) (.agg y); (do pure (Value.bool (← Op.equal xt (.agg x) (.agg y))))).run P w = _
    simp only [Sem.run_bind, Sem.run_pure, Result.andThen_ok, h1, hr]
  · show (do eqGuard .neq xt p q (.agg x) (.agg y); (do pure (Value.bool (!(← Op.equal xt (.agg x) (.agg y)))))).run P w = _
    simp only [Sem.run_bind, Sem.run_pure, Result.andThen_ok, h2, hr]

theorem binOp_ok {P : Program} {tt : TT} (hT : TTok P tt) (h : Sim C S Fp [] st a w) {o : Oper} {op : BinOp} {xt yt : Nat} {x y : Operand} (ho : o.op = .binOp op xt x y yt) {u : Unit} {R : List Nat} {U : List (Nat × Ent)}
    (e : binOpA tt C.n o.dst op xt x y st = some (u, R, U)) : Good P C o a w (applyU U st) := by
  unfold binOpA at e
  obtain ⟨tx, R1, U1, R2, U2, h1, e1, rfl, rfl⟩ := bind_some e
  obtain ⟨rfl, hx⟩ := opnd_ok h h1
  obtain ⟨vx, R3, U3, R4, U4, h3, e2, rfl, rfl⟩ := bind_some e1
  obtain ⟨rfl, qx⟩ := val_ok h hx h3
  obtain ⟨ty, R5, U5, R6, U6, h5, e3, rfl, rfl⟩ := bind_some e2
  obtain ⟨rfl, hy⟩ := opnd_ok h h5
  obtain ⟨vy, R7, U7, R8, U8, h7, e4, rfl, rfl⟩ := bind_some e3
  obtain ⟨rfl, qy⟩ := val_ok h hy h7
  obtain ⟨r, R9, U9, R10, U10, h9, e5, rfl, rfl⟩ := bind_some e4
  obtain ⟨hr, rfl, rfl⟩ := ofO_some h9
  simp only [applyU, List.nil_append] at e5 ⊢
  have fin : ∀ v, RepV S r v → (do eqGuard op xt x y (a.eval x) (a.eval y); Go.binOp op xt (a.eval x) (a.eval y)).run P w = .ok v w → Good P C o a w (applyU U10 st) := by
    intro v hv hrun
    obtain ⟨Fp', hs⟩ := wr_ok h e5 (x := .d r) hv
    refine good_value (v := v) ?_ hs
    simp only [execOp, ho, Sem.run_bind, Sem.run_pure] at hrun ⊢
    rw [hrun]
    rfl
  unfold binA at hr
  split at hr
  · -- integers
    obtain ⟨ex, _⟩ := repV_atom.1 qx
    obtain ⟨ey, _⟩ := repV_atom.1 qy
    split at hr
    · rename_i hk
      subst hk
      obtain ⟨v, hv, hrun⟩ := run_intOp (S := S) (P := P) hr xt x y w
      exact fin v hv (by rw [ex, ey]; exact hrun)
    · cases hr
  · -- bools
    obtain ⟨ex, _⟩ := repV_atom.1 qx
    obtain ⟨ey, _⟩ := repV_atom.1 qy
    split at hr
    · rename_i htt
      have hb : P.underlying xt = some .bool := (hT _ _ htt).kind
      split at hr
      · simp only [Option.some.injEq] at hr; subst hr
        refine fin _ (repV_atom.2 ⟨rfl, rfl⟩) ?_
        rw [ex, ey]
        exact (run_bin_bool hb _ _ x y w).1
      · simp only [Option.some.injEq] at hr; subst hr
        refine fin _ (repV_atom.2 ⟨rfl, rfl⟩) ?_
        rw [ex, ey]
        exact (run_bin_bool hb _ _ x y w).2
      · cases hr
    · cases hr
  · -- aggregates
    obtain ⟨cs, ex, rx⟩ := repV_agg qx
    obtain ⟨ds, ey, ry⟩ := repV_agg qy
    split at hr
    · rename_i i htt
      split at hr
      · rename_i hc
        obtain ⟨c1, c2, c3⟩ := hc
        have heq := (hT _ _ htt).eqn c1
        have len : ∀ {as bs : List A} {r : Bool} {cs : List Value}, eqCells as bs = some r → Reps S as cs → cs.length = as.length := by
          intro as
          induction as with
          | nil => intro bs r cs _ q; simp only [Reps] at q; simp [q]
          | cons a as ih =>
            intro bs r cs he q
            cases bs with
            | nil => unfold eqCells at he; split at he <;> simp_all
            | cons b bs =>
              unfold eqCells at he
              split at he
              · simp_all
              · rename_i k x xs k' y ys e1 e2
                simp only [List.cons.injEq] at e1 e2
                obtain ⟨rfl, rfl⟩ := e1
                obtain ⟨rfl, rfl⟩ := e2
                simp only [Reps] at q
                obtain ⟨d1, d2, rfl, p1, p2⟩ := q
                simp only [Rep] at p1
                obtain ⟨rfl, _⟩ := p1
                split at he
                · cases he' : eqCells as bs with
                  | none => simp [he'] at he
                  | some r' => simp [ih he' p2]
                · cases he
              · cases he
        have len' : ∀ {as bs : List A} {r : Bool} {cs ds : List Value}, eqCells as bs = some r → Reps S as cs → Reps S bs ds → bs.length = as.length ∧ ds.length = bs.length := by
          intro as
          induction as with
          | nil => intro bs r cs ds he q q'; cases bs with | nil => simp only [Reps] at q'; simp [q'] | cons b bs => simp [eqCells] at he
          | cons a as ih =>
            intro bs r cs ds he q q'
            cases bs with
            | nil => unfold eqCells at he; split at he <;> simp_all
            | cons b bs =>
              unfold eqCells at he
              split at he
              · simp_all
              · rename_i k x xs k' y ys e1 e2
                simp only [List.cons.injEq] at e1 e2
                obtain ⟨rfl, rfl⟩ := e1
                obtain ⟨rfl, rfl⟩ := e2
                simp only [Reps] at q q'
                obtain ⟨d1, d2, rfl, p1, p2⟩ := q
                obtain ⟨d3, d4, rfl, p3, p4⟩ := q'
                simp only [Rep] at p3
                obtain ⟨rfl, _⟩ := p3
                split at he
                · cases he' : eqCells as bs with
                  | none => simp [he'] at he
                  | some r' => have := ih he' p2 p4; simp [this]
                · cases he
              · cases he
        split at hr
        · obtain ⟨b, he, rfl⟩ := Option.map_eq_some_iff.1 hr
          · refine fin _ (repV_atom.2 ⟨rfl, rfl⟩) ?_
            rw [ex, ey]
            have := heq.run cs ds b w (by rw [len he rx, c2]) (by rw [(len' he rx ry).2, c3]) (eqCells_vals he rx ry)
            exact (run_bin_agg heq.guard this x y).1
        · obtain ⟨b, he, rfl⟩ := Option.map_eq_some_iff.1 hr
          · refine fin _ (repV_atom.2 ⟨rfl, rfl⟩) ?_
            rw [ex, ey]
            have := heq.run cs ds b w (by rw [len he rx, c2]) (by rw [(len' he rx ry).2, c3]) (eqCells_vals he rx ry)
            exact (run_bin_agg heq.guard this x y).2
        · cases hr
      · cases hr
    · cases hr
  · cases hr

end
end Go.Own

namespace Go.Own

theorem getP_append : ∀ (p q : List Step) (x : A), getP (p ++ q) x = (getP p x).bind (getP q)
  | [], q, x => by simp [getP]
  | s :: p, q, x => by
    cases s <;> cases x <;> simp only [List.cons_append, getP, Option.bind_none]
    · exact getP_append p q _
    · split <;> simp [getP_append p q]
    · split <;> simp [getP_append p q]

theorem locM_append (h : Array Obj) : ∀ (p q : List Step) (x : A) (b o : Nat) {b' o' : Nat} {y : A}, locM h p x b o = some (b', o') → getP p x = some y → locM h (p ++ q) x b o = locM h q y b' o'
  | [], q, x, b, o, b', o', y, h1, h2 => by
    simp only [locM, Option.some.injEq, Prod.mk.injEq] at h1
    simp only [getP, Option.some.injEq] at h2
    obtain ⟨rfl, rfl⟩ := h1
    subst h2
    rfl
  | s :: p, q, x, b, o, b', o', y, h1, h2 => by
    cases s <;> cases x <;> simp only [List.cons_append, locM, getP] at h1 h2 ⊢ <;> first | (cases h2; done) | skip
    · split at h1
      · exact locM_append h p q _ _ _ h1 h2
      · cases h1
    · split at h1
      · rename_i hf
        simp only [hf] at h2 ⊢
        exact locM_append h p q _ _ _ h1 h2
      · cases h1
    · rename_i i sz tg es
      cases hf : es[i]? with
      | none => simp [hf] at h2
      | some z =>
        simp only [hf] at h1 h2 ⊢
        cases hc : cellAt h b o with
        | none => simp [hc] at h1
        | some u =>
          simp only [hc] at h1 ⊢
          cases u <;> first | (simp at h1; done) | skip
          rename_i a _ _
          cases a with
          | none => simp at h1
          | some a => exact locM_append h p q _ _ _ h1 h2

theorem locRoot_append (h : Array Obj) (p q : List Step) (x : A) (v : Value) {b' o' : Nat} {y : A} (h1 : locRoot h p x v = some (b', o')) (h2 : getP p x = some y) : locRoot h (p ++ q) x v = locM h q y b' o' := by
  cases p with
  | nil => cases x <;> simp [locRoot] at h1
  | cons s p =>
    cases s <;> cases x <;> cases v <;> first | (simp [locRoot] at h1; done) | skip
    · rename_i a
      cases a with
      | none => simp [locRoot] at h1
      | some a =>
        simp only [List.cons_append, locRoot, getP] at h1 h2 ⊢
        exact locM_append h p q _ _ _ h1 h2
    · rename_i a _ _
      cases a with
      | none => simp [locRoot] at h1
      | some a =>
        simp only [List.cons_append, locRoot, getP] at h1 h2 ⊢
        split at h1
        · rename_i hf
          simp only [hf] at h2 ⊢
          exact locM_append h p q _ _ _ h1 h2
        · cases h1

theorem ownP_append {p q : List Step} (h : ownP p = true) : ownP (p ++ q) = true := by
  cases p with
  | nil => simp [ownP] at h
  | cons s p => cases s <;> simp_all [ownP]

theorem cell?_eq (w : World) (b o : Nat) : w.cell? ⟨b, o, none⟩ = cellAt w.heap b o := by
  simp only [World.cell?, cellAt]
  split <;> simp_all

theorem run_isAgg {P : Program} {t : Nat} {k : TK} (h : KindOk P t k) (w : World) : (Go.isAgg t).run P w = .ok k.isAgg w := by
  cases k with
  | struct fs => obtain ⟨f, h, _⟩ := h; simp [Go.isAgg, run_underlying h, TK.isAgg]
  | other =>
    obtain ⟨d, h, hd⟩ := h
    cases d <;> first | (simp at hd; done) | simp [Go.isAgg, run_underlying h, TK.isAgg]
  | _ => simp only [KindOk] at h; simp [Go.isAgg, run_underlying h, TK.isAgg]

theorem run_sizeOf {P : Program} {tt : TT} (hT : TTok P tt) {t : Nat} {i : TI} (h : tt t = some i) (w : World) : (Go.sizeOf t).run P w = .ok i.size w := by
  obtain ⟨f, h1, h2, _⟩ := (hT t i h).info
  simp [Go.sizeOf, typeInfo, h1, h2]

theorem run_loadVar {P : Program} {tt : TT} (hT : TTok P tt) {t : Nat} {y : A} (hf : fitsT tt t y = true) {w : World} {b o : Nat} {cs : List Value} (hl : cs.length = y.size) (hs : SitsH w.heap b o cs) :
    (loadVar t ⟨b, o, none⟩).run P w = .ok (valOf y cs) w := by
  unfold fitsT at hf
  split at hf
  · rename_i i hi
    simp only [Bool.and_eq_true, beq_iff_eq, Bool.or_eq_true] at hf
    obtain ⟨⟨h1, h2⟩, h3⟩ := hf
    have hk := run_isAgg (hT t i hi).kind w
    unfold loadVar
    simp only [Sem.run_bind, hk, Result.andThen_ok, Sem.run_ite]
    by_cases ha : i.kind.isAgg = true
    · rw [if_pos ha]
      have hc := run_loadCells_list (P := P) w ⟨b, o, none⟩ cs (fun j v hj => by rw [Addr.add_lit, cell?_eq]; exact hs j v hj)
      rw [h1] at ha
      cases y <;> simp [A.isAgg] at ha
      simp only [run_sizeOf hT hi, Result.andThen_ok, h2, ← hl, hc, Sem.run_pure, valOf]
    · rw [if_neg ha]
      have h4 : i.size = 1 := by simpa [ha] using h3
      have hlen : cs.length = 1 := by omega
      obtain ⟨c, rfl⟩ := List.length_eq_one_iff.1 hlen
      have := hs 0 c rfl
      simp only [Nat.add_zero] at this
      rw [run_load, cell?_eq, this]
      rw [h1] at ha
      cases y <;> simp_all [A.isAgg, valOf]
  · cases hf

section
variable {C : Ctx} {S : Still} {Fp : Nat → List Nat} {X : List Nat} {st : St} {a : Act} {w : World}

/-! ### One operand -/

def unOpA (n : Fr) (dst : Option Nat) (op : UnOp) (x : Operand) : SM Unit := do
  let t ← opnd x
  let y ← val t
  let r ← ofO (unA op y)
  wrT n dst (.d r)

theorem unOp_ok {P : Program} (h : Sim C S Fp [] st a w) {o : Oper} {op : UnOp} {xt : Nat} {x : Operand} (ho : o.op = .unOp op xt x) {u : Unit} {R : List Nat} {U : List (Nat × Ent)} (e : unOpA C.n o.dst op x st = some (u, R, U)) : Good P C o a w (applyU U st) := by
  unfold unOpA at e
  obtain ⟨t, R1, U1, R2, U2, h1, e1, rfl, rfl⟩ := bind_some e
  obtain ⟨rfl, hx⟩ := opnd_ok h h1
  obtain ⟨y, R3, U3, R4, U4, h3, e2, rfl, rfl⟩ := bind_some e1
  obtain ⟨rfl, qx⟩ := val_ok h hx h3
  obtain ⟨r, R9, U9, R10, U10, h9, e5, rfl, rfl⟩ := bind_some e2
  obtain ⟨hr, rfl, rfl⟩ := ofO_some h9
  simp only [applyU, List.nil_append] at e5 ⊢
  unfold unA at hr
  split at hr
  · obtain ⟨ex, _⟩ := repV_atom.1 qx
    split at hr
    · simp only [Option.some.injEq] at hr; subst hr
      obtain ⟨Fp', hs⟩ := wr_ok h e5 (x := .d _) (repV_atom.2 ⟨rfl, rfl⟩)
      exact good_value (by simp [execOp, ho, ex, Op.unary]) hs
    · cases hr
  · obtain ⟨ex, _⟩ := repV_atom.1 qx
    split at hr
    · simp only [Option.some.injEq] at hr; subst hr
      obtain ⟨Fp', hs⟩ := wr_ok h e5 (x := .d _) (repV_atom.2 ⟨rfl, rfl⟩)
      exact good_value (by simp [execOp, ho, ex, Op.unary, Op.intArith]) hs
    · cases hr
  · cases hr

def convA (tt : TT) (n : Fr) (dst : Option Nat) (s t : Nat) (x : Operand) : SM Unit := do
  let y ← opnd x
  let v ← val y
  match v with
  | .atom (.int _ m) =>
    match tt s with
    | some _ =>
      match tt t with
      | some ⟨.int k, _, _, _, _⟩ => wrT n dst (.d (.atom (.int k (k.wrap m))))
      | _ => sfail
    | none => sfail
  | _ => sfail

theorem kind_some {P : Program} {t : Nat} {k : TK} (h : KindOk P t k) : ∃ d, P.underlying t = some d := by
  cases k <;> simp only [KindOk] at h <;> first | exact ⟨_, h⟩ | (obtain ⟨_, h, _⟩ := h; exact ⟨_, h⟩)

theorem conv_ok {P : Program} {tt : TT} (hT : TTok P tt) (h : Sim C S Fp [] st a w) {o : Oper} {s t : Nat} {x : Operand} (ho : o.op = .convert s t x) {u : Unit} {R : List Nat} {U : List (Nat × Ent)} (e : convA tt C.n o.dst s t x st = some (u, R, U)) : Good P C o a w (applyU U st) := by
  unfold convA at e
  obtain ⟨y, R1, U1, R2, U2, h1, e1, rfl, rfl⟩ := bind_some e
  obtain ⟨rfl, hx⟩ := opnd_ok h h1
  obtain ⟨v, R3, U3, R4, U4, h3, e2, rfl, rfl⟩ := bind_some e1
  obtain ⟨rfl, qx⟩ := val_ok h hx h3
  simp only [applyU, List.nil_append] at e2 ⊢
  split at e2
  · obtain ⟨ex, _⟩ := repV_atom.1 qx
    cases hs : tt s with
    | none => simp only [hs] at e2; exact (sfail_some e2).elim
    | some i =>
      simp only [hs] at e2
      obtain ⟨d, hd⟩ := kind_some (hT _ _ hs).kind
      cases ht : tt t with
      | none => simp only [ht] at e2; exact (sfail_some e2).elim
      | some j =>
        obtain ⟨kd, sz, by', z, eq⟩ := j
        cases kd with
        | int k =>
          simp only [ht] at e2
          have hk : P.underlying t = some (.int k) := (hT _ _ ht).kind
          obtain ⟨Fp', hs⟩ := wr_ok h e2 (x := .d _) (repV_atom.2 ⟨rfl, rfl⟩)
          exact good_value (by simp [execOp, ho, ex, convert, run_underlying hd, run_underlying hk, Conv.intToInt]) hs
        | _ => simp only [ht] at e2; exact (sfail_some e2).elim
  · exact (sfail_some e2).elim

def pickA (n : Fr) (dst : Option Nat) (c x y : Operand) : SM Unit := do
  let tc ← opnd c
  let vc ← val tc
  match vc with
  | .atom (.bool true) => do
    let t ← opnd x
    wrT n dst t
  | .atom (.bool false) => do
    let t ← opnd y
    wrT n dst t
  | _ => sfail

theorem pick_ok {P : Program} (h : Sim C S Fp [] st a w) {o : Oper} {c x y : Operand} (ho : o.op = .pick c x y) {u : Unit} {R : List Nat} {U : List (Nat × Ent)} (e : pickA C.n o.dst c x y st = some (u, R, U)) : Good P C o a w (applyU U st) := by
  unfold pickA at e
  obtain ⟨tc, R1, U1, R2, U2, h1, e1, rfl, rfl⟩ := bind_some e
  obtain ⟨rfl, hx⟩ := opnd_ok h h1
  obtain ⟨vc, R3, U3, R4, U4, h3, e2, rfl, rfl⟩ := bind_some e1
  obtain ⟨rfl, qx⟩ := val_ok h hx h3
  simp only [applyU, List.nil_append] at e2 ⊢
  split at e2
  · obtain ⟨ex, _⟩ := repV_atom.1 qx
    obtain ⟨t, R5, U5, R6, U6, h5, e6, rfl, rfl⟩ := bind_some e2
    obtain ⟨rfl, hx⟩ := opnd_ok h h5
    obtain ⟨Fp', hs⟩ := wr_ok h e6 hx
    exact good_value (by simp [execOp, ho, ex, asBool]) hs
  · obtain ⟨ex, _⟩ := repV_atom.1 qx
    obtain ⟨t, R5, U5, R6, U6, h5, e6, rfl, rfl⟩ := bind_some e2
    obtain ⟨rfl, hx⟩ := opnd_ok h h5
    obtain ⟨Fp', hs⟩ := wr_ok h e6 hx
    exact good_value (by simp [execOp, ho, ex, asBool]) hs
  · exact (sfail_some e2).elim

def extractA (n : Fr) (dst : Option Nat) (x : Operand) (i : Nat) : SM Unit := do
  let t ← opnd x
  match t with
  | .d (.tup fs) => match fs[i]? with | some y => wrT n dst (.d y) | none => sfail
  | _ => sfail

theorem All2.get {α β : Type} {R : α → β → Prop} : ∀ {as : List α} {bs : List β} {i : Nat} {x : α}, All2 R as bs → as[i]? = some x → ∃ y, bs[i]? = some y ∧ R x y
  | [], _, i, x, _, e => by simp at e
  | a :: as, [], i, x, r, _ => r.elim
  | a :: as, b :: bs, 0, x, r, e => by simp at e; subst e; exact ⟨b, rfl, r.1⟩
  | a :: as, b :: bs, i + 1, x, r, e => by simp at e; obtain ⟨y, h1, h2⟩ := r.2.get e; exact ⟨y, by simpa using h1, h2⟩

theorem extract_ok {P : Program} (h : Sim C S Fp [] st a w) {o : Oper} {x : Operand} {i : Nat} (ho : o.op = .extract x i) {u : Unit} {R : List Nat} {U : List (Nat × Ent)} (e : extractA C.n o.dst x i st = some (u, R, U)) : Good P C o a w (applyU U st) := by
  unfold extractA at e
  obtain ⟨t, R1, U1, R2, U2, h1, e1, rfl, rfl⟩ := bind_some e
  obtain ⟨rfl, hx⟩ := opnd_ok h h1
  simp only [applyU, List.nil_append] at e1 ⊢
  split at e1
  · rename_i fs
    cases hy : fs[i]? with
    | none => simp only [hy] at e1; exact (sfail_some e1).elim
    | some y =>
      simp only [hy] at e1
      simp only [TOk, RepV] at hx
      obtain ⟨vs, ev, r⟩ := hx
      obtain ⟨v, hv, rv⟩ := r.get hy
      obtain ⟨Fp', hs⟩ := wr_ok h e1 (x := .d y) rv.repV
      exact good_value (v := v) (by simp [execOp, ho, ev, Instr.extract, hv]) hs
  · exact (sfail_some e1).elim

/-! ### Pointers -/

theorem als_deref (h : Sim C S Fp X st a w) {r : Nat} {p : List Step} {er ec : Nat} {v : Value} (ha : AlsOk w.heap st (Act.tv a) r p er ec v) {x y : A} (hr : (st r).t = .own x) (e1 : (st r).er = er) (e2 : p = [] ∨ (st r).ec = ec) (hg : getP p x = some (.box y)) :
    PtrOk w.heap st (Act.tv a) r (p ++ [.deref]) (st r).er (st r).ec v := by
  refine ⟨Nat.le_refl _, Nat.le_refl _, ?_⟩
  simp only [hr]
  intro _ _
  have hq := h.ent r
  unfold EntOk at hq
  simp only [hr] at hq
  obtain ⟨cs, c1, c2, c3⟩ := hq
  have a3 := ha.2.2
  simp only [hr] at a3
  rcases a3 e1 e2 with ⟨rfl, rfl⟩ | ⟨o1, y', b, o, cs', g1, g2, g3, g4, g5⟩
  · simp only [getP, Option.some.injEq] at hg
    subst hg
    simp only [Conc] at c1
    obtain ⟨b, ty, l, F', rfl, k1, k2, k3, k4⟩ := c1
    refine ⟨rfl, y, b, 0, rfl, ?_, by rw [c3]; rfl⟩
    rw [c3]
    rfl
  · rw [hg] at g1
    simp only [Option.some.injEq] at g1
    subst g1
    obtain ⟨b', o', arr, ty, csy, Fy, f1, f2, f3, f4, f5, f6, f7, f8, _⟩ := focusRoot p c1 c2 (by rintro rfl; simp [ownP] at o1) (by rintro i q rfl; simp [ownP] at o1) hg
    rw [c3, f1] at g2
    simp only [Option.some.injEq, Prod.mk.injEq] at g2
    obtain ⟨rfl, rfl⟩ := g2
    have hcs := valOf_sits f4 f2 f3 g3 g4
    subst hcs
    simp only [Conc] at f4
    obtain ⟨b1, ty1, l, F', rfl, k1, k2, k3, k4⟩ := f4
    refine ⟨ownP_append o1, y, b1, 0, by simp [getP_append, hg, getP], ?_, g5⟩
    have hc := g4 0 _ rfl
    simp only [Nat.add_zero] at hc
    rw [c3, locRoot_append w.heap p _ x _ f1 hg]
    simp only [locM, hc]

theorem als_idx (h : Sim C S Fp X st a w) {r : Nat} {p : List Step} {er ec : Nat} {v : Value} (ha : AlsOk w.heap st (Act.tv a) r p er ec v) {x : A} {sz : Nat} {t : Bool} {es : List A} (hr : (st r).t = .own x) (e1 : (st r).er = er) (e2 : p = [] ∨ (st r).ec = ec) (hg : getP p x = some (.osl sz t es)) {i : Nat} (hi : i < es.length) :
    ∃ b c, v = .slice (some ⟨b, 0, none⟩) es.length c ∧ PtrOk w.heap st (Act.tv a) r (p ++ [.idx i]) (st r).er (st r).ec (.pointer (some ⟨b, i * sz, none⟩)) := by
  have hq := h.ent r
  unfold EntOk at hq
  simp only [hr] at hq
  obtain ⟨cs, c1, c2, c3⟩ := hq
  have a3 := ha.2.2
  simp only [hr] at a3
  have hei : es[i]? = some es[i] := List.getElem?_eq_getElem hi
  rcases a3 e1 e2 with ⟨rfl, rfl⟩ | ⟨o1, y', b, o, cs', g1, g2, g3, g4, g5⟩
  · simp only [getP, Option.some.injEq] at hg
    subst hg
    simp only [Conc] at c1
    obtain ⟨pp, c, rfl, t1, t2, t3, t4, t5⟩ := c1
    rcases t5 with ⟨rfl, _⟩ | ⟨b1, arr1, ty1, l, F', rfl, k1, k2, k3, k4, _, k6⟩
    · simp at hi
    refine ⟨b1, c, by rw [c3]; rfl, Nat.le_refl _, Nat.le_refl _, ?_⟩
    simp only [hr]
    intro _ _
    refine ⟨rfl, es[i], b1, i * sz, by simp [getP, hei], ?_, rfl⟩
    rw [c3]
    simp [valOf, locRoot, hei, locM]
  · rw [hg] at g1
    simp only [Option.some.injEq] at g1
    subst g1
    obtain ⟨b', o', arr, ty, csy, Fy, f1, f2, f3, f4, f5, f6, f7, f8, _⟩ := focusRoot p c1 c2 (by rintro rfl; simp [ownP] at o1) (by rintro i q rfl; simp [ownP] at o1) hg
    rw [c3, f1] at g2
    simp only [Option.some.injEq, Prod.mk.injEq] at g2
    obtain ⟨rfl, rfl⟩ := g2
    have hcs := valOf_sits f4 f2 f3 g3 g4
    subst hcs
    simp only [Conc] at f4
    obtain ⟨pp, c, rfl, t1, t2, t3, t4, t5⟩ := f4
    rcases t5 with ⟨rfl, _⟩ | ⟨b1, arr1, ty1, l, F', rfl, k1, k2, k3, k4, _, k6⟩
    · simp at hi
    refine ⟨b1, c, g5, Nat.le_refl _, Nat.le_refl _, ?_⟩
    simp only [hr]
    intro _ _
    refine ⟨ownP_append o1, es[i], b1, i * sz, by simp [getP_append, hg, getP, hei], ?_, rfl⟩
    have hc := g4 0 _ rfl
    simp only [Nat.add_zero] at hc
    rw [c3, locRoot_append w.heap p _ x _ f1 hg]
    simp only [locM, hc, hei]

theorem ptr_fld {r : Nat} {p : List Step} {er ec : Nat} {v : Value} (hp : PtrOk w.heap st (Act.tv a) r p er ec v) {x : A} {fs : List A} (hr : (st r).t = .own x) (e1 : (st r).er = er) (e2 : (st r).ec = ec) (hg : getP p x = some (.agg fs)) {i : Nat} (hi : i < fs.length) :
    ∃ b o, v = .pointer (some ⟨b, o, none⟩) ∧ PtrOk w.heap st (Act.tv a) r (p ++ [.fld i]) (st r).er (st r).ec (.pointer (some ⟨b, o + A.sizes (fs.take i), none⟩)) := by
  have a3 := hp.2.2
  simp only [hr] at a3
  obtain ⟨o1, y', b, o, g1, g2, g3⟩ := a3 e1 e2
  rw [hg] at g1
  simp only [Option.some.injEq] at g1
  subst g1
  have hei : fs[i]? = some fs[i] := List.getElem?_eq_getElem hi
  refine ⟨b, o, g3, Nat.le_refl _, Nat.le_refl _, ?_⟩
  simp only [hr]
  intro _ _
  refine ⟨ownP_append o1, fs[i], b, o + A.sizes (fs.take i), by simp [getP_append, hg, getP, hei], ?_, rfl⟩
  rw [locRoot_append w.heap p _ x _ g2 hg]
  simp only [locM, hei]

theorem ptrOf_ok (h : Sim C S Fp X st a w) {x : T} {v : Value} (hx : TOk S w.heap st (Act.tv a) x v) {q : A ⊕ (Nat × List Step × Nat × Nat)} {R : List Nat} {U : List (Nat × Ent)} (e : ptrOf x st = some (q, R, U)) :
    U = [] ∧ match q with
      | .inl y => ∃ b o l, v = .pointer (some ⟨b, o, none⟩) ∧ Rep S y l ∧ Lies S b o l
      | .inr (r, p, er, ec) => PtrOk w.heap st (Act.tv a) r p er ec v := by
  unfold ptrOf at e
  split at e
  · obtain ⟨rfl, rfl, rfl⟩ := pure_some e
    refine ⟨rfl, ?_⟩
    simp only [TOk, RepV] at hx
    obtain ⟨cs, h1, h2⟩ := hx
    simp only [Rep] at h1
    obtain ⟨b, o, l, rfl, h3, h4⟩ := h1
    exact ⟨b, o, l, h2, h3, h4⟩
  · obtain ⟨rfl, rfl, rfl⟩ := pure_some e
    exact ⟨rfl, hx⟩
  · rename_i r p er ec
    obtain ⟨en, R1, U1, R2, U2, h1, e1, rfl, rfl⟩ := bind_some e
    obtain ⟨rfl, rfl, rfl⟩ := rdE_some h1
    obtain ⟨y, R3, U3, R4, U4, h3, e2, rfl, rfl⟩ := bind_some e1
    simp only [applyU, List.nil_append] at h3 e2 ⊢
    obtain ⟨rfl, q⟩ := look_ok h hx h3
    split at e2
    · rename_i z
      obtain ⟨rfl, rfl, rfl⟩ := pure_some e2
      refine ⟨rfl, ?_⟩
      rcases q with ⟨x, cs, F, q1, q2, q3, q4, q5, q6, _⟩ | ⟨q1, q2, q3, q4, q5⟩
      · exact als_deref h hx q1 q2 q3 q4
      · simp only [RepV] at q5
        obtain ⟨cs, q5, _⟩ := q5
        simp [Rep] at q5
    · rename_i z
      obtain ⟨rfl, rfl, rfl⟩ := pure_some e2
      refine ⟨rfl, ?_⟩
      have hv : ∃ cs, Rep S (.sptr z) cs ∧ v = valOf (.sptr z) cs := by
        rcases q with ⟨x, cs, F, q1, q2, q3, q4, q5, q6, _⟩ | ⟨q1, q2, q3, q4, q5⟩
        · exact ⟨cs, (q5.isD rfl).1, q6⟩
        · exact q5
      obtain ⟨cs, h1, h2⟩ := hv
      simp only [Rep] at h1
      obtain ⟨b, o, l, rfl, h3, h4⟩ := h1
      exact ⟨b, o, l, h2, h3, h4⟩
    · exact (sfail_some e2).elim
  · exact (sfail_some e).elim

/-- The place that a pointer names: its subtree, its cells, and what a write does. -/
theorem ptr_place (h : Sim C S Fp X st a w) {r : Nat} {p : List Step} {er ec : Nat} {v : Value} (hp : PtrOk w.heap st (Act.tv a) r p er ec v) {x : A} (hr : (st r).t = .own x) (e1 : (st r).er = er) (e2 : (st r).ec = ec) {y : A} (hg : getP p x = some y) :
    ∃ b o arr ty csy Fy cs, v = .pointer (some ⟨b, o, none⟩) ∧ ownP p = true ∧ w.heap[b]? = some (.cells arr ty (0, 0)) ∧ Sits arr o csy ∧ Conc S w.heap y csy Fy ∧ b ∉ Fy ∧ b ∈ Fp r ∧ (∀ k ∈ Fy, k ∈ Fp r) ∧ Fy.Nodup ∧ Conc S w.heap x cs (Fp r) ∧ Act.tv a r = valOf x cs ∧
      locRoot w.heap p x (Act.tv a r) = some (b, o) ∧
      ∀ (S' : Still) (h' : Array Obj) (z : A) (csz : List Value) (Fz : List Nat), (∀ b o v, S b o = some v → S' b o = some v) → csz.length = csy.length → Conc S' h' z csz Fz → Fz.Nodup →
        (∀ k ∈ Fp r, k ∉ Fy → ∀ o, S' k o = none) → (∀ k, k ∈ Fp r → k ∉ Fy → k ≠ b → h'[k]? = w.heap[k]?) → h'[b]? = some (.cells (over arr o csz) ty (0, 0)) →
        (∀ k ∈ Fz, k ∈ Fp r → k ∈ Fy) →
        ∃ F0', Conc S' h' (setP p x z) cs F0' ∧ F0'.Nodup ∧ (∀ k, k ∈ F0' ↔ (k ∈ Fp r ∧ k ∉ Fy) ∨ k ∈ Fz) := by
  have a3 := hp.2.2
  simp only [hr] at a3
  obtain ⟨o1, y', b, o, g1, g2, g3⟩ := a3 e1 e2
  have hq := h.ent r
  unfold EntOk at hq
  simp only [hr] at hq
  obtain ⟨cs, c1, c2, c3⟩ := hq
  obtain ⟨b', o', arr, ty, csy, Fy, f1, f2, f3, f4, f5, f6, f7, f8, f9⟩ := focusRoot p c1 c2 (by rintro rfl; simp [ownP] at o1) (by rintro i q rfl; simp [ownP] at o1) hg
  have g2' := g2
  rw [c3, f1] at g2
  simp only [Option.some.injEq, Prod.mk.injEq] at g2
  obtain ⟨rfl, rfl⟩ := g2
  exact ⟨b', o', arr, ty, csy, Fy, cs, g3, o1, f2, f3, f4, f5, f6, f7, f8, c1, c3, g2', f9⟩

theorem sitsH_of {h : Array Obj} {b o : Nat} {arr : Array Value} {ty : TypeId} {cs : List Value} (hb : h[b]? = some (.cells arr ty (0, 0))) (hs : Sits arr o cs) : SitsH h b o cs := by
  intro j u hj
  simp only [cellAt, hb]
  exact hs j u hj

theorem lookP_some {st : St} {r : Nat} {p : List Step} {er ec : Nat} {y : A} {R : List Nat} {U : List (Nat × Ent)} (e : lookP r p er ec st = some (y, R, U)) :
    U = [] ∧ ∃ x, (st r).t = .own x ∧ (st r).er = er ∧ (st r).ec = ec ∧ getP p x = some y := by
  simp only [lookP] at e
  obtain ⟨en, R1, U1, R2, U2, h1, h2, rfl, rfl⟩ := bind_some e
  obtain ⟨rfl, rfl, rfl⟩ := rdE_some h1
  simp only [applyU] at h2
  cases ht : (st r).t with
  | own x =>
    simp only [ht] at h2
    split at h2
    · rename_i hc
      obtain ⟨g, rfl, rfl⟩ := ofO_some h2
      exact ⟨rfl, x, rfl, hc.1, hc.2, g⟩
    · exact (sfail_some h2).elim
  | d x => simp only [ht] at h2; exact (sfail_some h2).elim
  | gone => simp only [ht] at h2; exact (sfail_some h2).elim
  | als _ _ _ _ => simp only [ht] at h2; exact (sfail_some h2).elim
  | ptr _ _ _ _ => simp only [ht] at h2; exact (sfail_some h2).elim

def loadO (tt : TT) (n : Fr) (dst : Option Nat) (t : Nat) (x : Operand) : SM Unit := do
  let y ← opnd x
  loadA tt n dst t y

theorem load_ok {P : Program} {tt : TT} (hT : TTok P tt) (h : Sim C S Fp [] st a w) {o : Oper} {t : Nat} {x : Operand} (ho : o.op = .load t x) {u : Unit} {R : List Nat} {U : List (Nat × Ent)} (e : loadO tt C.n o.dst t x st = some (u, R, U)) : Good P C o a w (applyU U st) := by
  unfold loadO loadA at e
  obtain ⟨y, R1, U1, R2, U2, h1, e1, rfl, rfl⟩ := bind_some e
  obtain ⟨rfl, hx⟩ := opnd_ok h h1
  obtain ⟨q, R3, U3, R4, U4, h3, e2, rfl, rfl⟩ := bind_some e1
  obtain ⟨rfl, hq⟩ := ptrOf_ok h hx h3
  simp only [applyU, List.nil_append] at e2 ⊢
  have fin : ∀ (b' o' : Nat) (z : A) (v : Value), a.eval x = .pointer (some ⟨b', o', none⟩) → (loadVar t ⟨b', o', none⟩).run P w = .ok v w → (execOp a.eval o).run P w = .ok (.value v) w := by
    intro b' o' z v ev hrun
    simp [execOp, ho, ev, Instr.loadAt, Instr.sureAddr, hrun]
  split at e2
  · rename_i z
    split at e2
    · rename_i hf
      obtain ⟨b, o', l, ev, r1, r2⟩ := hq
      have hld := run_loadVar hT hf.1 (w := w) (b := b) (o := o') r1.len (fun j u hj => h.still _ _ _ (r2 j u hj))
      obtain ⟨Fp', hs⟩ := wr_ok h e2 (x := .d z) (v := valOf z l) (Rep1.repV ⟨l, r1, rfl⟩)
      exact good_value (fin b o' z _ ev hld) hs
    · exact (sfail_some e2).elim
  · rename_i r p er ec
    obtain ⟨z, R7, U7, R8, U8, h7, e4, rfl, rfl⟩ := bind_some e2
    obtain ⟨rfl, x0, k1, k2, k3, k4⟩ := lookP_some h7
    simp only [applyU, List.nil_append] at e4 ⊢
    split at e4
    · rename_i hf
      obtain ⟨b, o', arr, ty, csy, Fy, cs, ev, o1, f2, f3, f4, f5, f6, f7, f8, f9, f10, f11, _⟩ := ptr_place h hq k1 k2 k3 k4
      have hld := run_loadVar hT hf (w := w) (b := b) (o := o') f4.len (sitsH_of f2 f3)
      split at e4
      · rename_i hd
        obtain ⟨Fp', hs⟩ := wr_ok h e4 (x := .d z) (v := valOf z csy) (Rep1.repV ⟨csy, (f4.isD hd).1, rfl⟩)
        exact good_value (fin b o' z _ ev hld) hs
      · obtain ⟨Fp', hs⟩ := wr_ok h e4 (x := .als r p er ec) (v := valOf z csy) ⟨by omega, by omega, by
          simp only [k1]
          exact fun _ _ => .inr ⟨o1, z, b, o', csy, k4, f11, f4.len, sitsH_of f2 f3, rfl⟩⟩
        exact good_value (fin b o' z _ ev hld) hs
    · exact (sfail_some e4).elim

end
end Go.Own
