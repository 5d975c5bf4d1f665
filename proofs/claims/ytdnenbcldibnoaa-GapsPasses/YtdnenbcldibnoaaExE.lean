/- One operation that calls no function: what it does, that this is right, and that it looks at what it names as read alone. -/
import Derived.Test.YtdnenbcldibnoaaExD
namespace Go.Ex
open Go.Own (A Still cellAt Rep Reps Lies)

def one (m : EM V) : EM (Option V) := do
  let v ← m
  pure (some v)

def pickV (c x y : Operand) : EM V := do
  let b ← opV c
  match b with
  | .lit (.bool true) => opV x
  | .lit (.bool false) => opV y
  | _ => efail

def callB (tt : ET) (n : Nat) (b : Builtin) (args : List Operand) (tys : List Nat) : EM (Option V) :=
  match b, args, tys with
  | .len, [x], [t] => do
    let v ← opV x
    one (lenV tt t v)
  | .cap, [x], [t] => do
    let v ← opV x
    one (ofO (capV tt t v))
  | .append, [s, x], [t, t'] => if t = t' then do
      let sv ← opV s
      let xv ← opV x
      one (appendV tt n t sv xv)
    else efail
  | .min, x :: xs, _ => do
    let v ← opV x
    let vs ← opVs xs
    one (ofO (minVs false v vs))
  | .max, x :: xs, _ => do
    let v ← opV x
    let vs ← opVs xs
    one (ofO (minVs true v vs))
  | _, _, _ => efail

abbrev pvBinOp (tt : ET) (op : BinOp) (xt : Nat) (x y : Operand) : EM (Option V) := do
  let a ← opV x
  let b ← opV y
  one (ofO (binV tt op xt a b))

abbrev pvUnOp (op : UnOp) (x : Operand) : EM (Option V) := do
  let a ← opV x
  one (ofO (unV op a))

abbrev pvConvert (tt : ET) (s t : Nat) (x : Operand) : EM (Option V) := do
  let a ← opV x
  one (ofO (convV tt s t a))

abbrev pvExtract (x : Operand) (i : Nat) : EM (Option V) := do
  let a ← opV x
  one (ofO (extractV a i))

abbrev pvNilCheck (x : Operand) : EM (Option V) := do
  let a ← opV x
  one (ofO (nilCheckV a))

abbrev pvLoad (tt : ET) (t : Nat) (x : Operand) : EM (Option V) := do
  let a ← opV x
  one (loadV tt t a)

abbrev pvStore (tt : ET) (t : Nat) (x v : Operand) : EM (Option V) := do
  let a ← opV x
  let b ← opV v
  let _ ← storeV tt t a b
  pure none

abbrev pvFieldAddr (tt : ET) (t : Nat) (x : Operand) (i : Nat) : EM (Option V) := do
  let a ← opV x
  one (ofO (fieldAddrV tt t i a))

abbrev pvIndexAddr (tt : ET) (t : Nat) (x i : Operand) : EM (Option V) := do
  let a ← opV x
  let b ← opV i
  let (_, j) ← ofO (isV b)
  one (ofO (indexAddrV tt t a j))

abbrev pvBox (n : Nat) (x : Operand) : EM (Option V) := do
  let a ← opV x
  one (boxV n a)

abbrev pvBuild (tt : ET) (t : Nat) (ps : Array (Nat × Operand)) : EM (Option V) := do
  let qs ← parts ps.toList
  one (ofO (buildV tt t qs))

abbrev pvBuildSlice (tt : ET) (n t len : Nat) (ps : Array (Nat × Operand)) : EM (Option V) := do
  let qs ← parts ps.toList
  one (buildSliceV tt n t len qs)

abbrev pvMakeSlice (tt : ET) (n t : Nat) (l c : Operand) : EM (Option V) := do
  let a ← opV l
  let b ← opV c
  let (_, x) ← ofO (isV a)
  let (_, y) ← ofO (isV b)
  one (makeSliceV tt n t x y)

abbrev pvMakeFunc (f : Nat) (caps : Array Operand) : EM (Option V) := do
  let vs ← opVs caps.toList
  pure (some (.fn f vs))

abbrev pvMakeMap (tt : ET) (n t : Nat) (x : Operand) : EM (Option V) := do
  let a ← opV x
  let _ ← ofO (isV a)
  let _ ← ofO (mapKE tt t)
  one (makeMapV n)

abbrev pvSlice (tt : ET) (t : Nat) (x : Operand) (lo hi mx : Option Operand) : EM (Option V) := do
  let a ← opV x
  let l ← opO lo
  let h ← opO hi
  let m ← opO mx
  one (ofO (sliceV tt t a l h m))

abbrev pvField (tt : ET) (t : Nat) (x : Operand) (i : Nat) : EM (Option V) := do
  let a ← opV x
  one (ofO (fieldV tt t i a))

abbrev pvIndex (tt : ET) (t : Nat) (x i : Operand) : EM (Option V) := do
  let a ← opV x
  let b ← opV i
  let (_, j) ← ofO (isV b)
  one (ofO (indexV tt t a j))

abbrev pvLookup (tt : ET) (t : Nat) (x i : Operand) (ok : Bool) : EM (Option V) := do
  let a ← opV x
  let b ← opV i
  one (lookupV tt t a b ok)

abbrev pvMapUpdate (tt : ET) (t : Nat) (m k v : Operand) : EM (Option V) := do
  let a ← opV m
  let b ← opV k
  let c ← opV v
  let _ ← mapUpdateV tt t a b c
  pure none

/-- The value of an operation that calls no function; none: it has none. -/
def primV (tt : ET) (n : Nat) (o : Oper) : EM (Option V) :=
  match o.op with
  | .move x => one (opV x)
  | .assign x => one (opV x)
  | .pick c x y => one (pickV c x y)
  | .binOp op xt x y _ => pvBinOp tt op xt x y
  | .unOp op _ x => pvUnOp op x
  | .convert s t x => pvConvert tt s t x
  | .extract x i => pvExtract x i
  | .nilCheck x => pvNilCheck x
  | .load t x => pvLoad tt t x
  | .store t x v => pvStore tt t x v
  | .fieldAddr t x i => pvFieldAddr tt t x i
  | .indexAddr t x i => pvIndexAddr tt t x i
  | .alloc t => one (allocV tt n t)
  | .box _ x => pvBox n x
  | .build t ps => pvBuild tt t ps
  | .buildSlice t len ps => pvBuildSlice tt n t len ps
  | .makeSlice t l c => pvMakeSlice tt n t l c
  | .makeFunc (.func f) ⟨[]⟩ caps => pvMakeFunc f caps
  | .makeMap _ none => one (makeMapV n)
  | .makeMap t (some x) => pvMakeMap tt n t x
  | .slice t x lo hi mx => pvSlice tt t x lo hi mx
  | .field t x i => pvField tt t x i
  | .index t x i => pvIndex tt t x i
  | .lookup t x i ok => pvLookup tt t x i ok
  | .mapUpdate t m k v => pvMapUpdate tt t m k v
  | .insert t m k v => pvMapUpdate tt t m k v
  | .call ⟨.builtin b, ⟨args⟩, ⟨tys⟩⟩ => callB tt n b args tys
  | _ => efail

/-- The same, the operation looked at once and for all: what is run. -/
structure Cm where
  run : Nat → EM (Option V)

def copV (tt : ET) (o : Oper) : Cm :=
  match o.op with
  | .move x => ⟨fun _ => one (opV x)⟩
  | .assign x => ⟨fun _ => one (opV x)⟩
  | .pick c x y => ⟨fun _ => one (pickV c x y)⟩
  | .binOp op xt x y _ => ⟨fun _ => do
    let a ← opV x
    let b ← opV y
    one (ofO ((cb tt op xt).run a b))⟩
  | .unOp op _ x => ⟨fun _ => pvUnOp op x⟩
  | .convert s t x => ⟨fun _ => pvConvert tt s t x⟩
  | .extract x i => ⟨fun _ => pvExtract x i⟩
  | .nilCheck x => ⟨fun _ => pvNilCheck x⟩
  | .load t x => ⟨fun _ => pvLoad tt t x⟩
  | .store t x v => ⟨fun _ => pvStore tt t x v⟩
  | .fieldAddr t x i => ⟨fun _ => pvFieldAddr tt t x i⟩
  | .indexAddr t x i => ⟨fun _ => pvIndexAddr tt t x i⟩
  | .alloc t => ⟨fun n => one (allocV tt n t)⟩
  | .box _ x => ⟨fun n => pvBox n x⟩
  | .build t ps => ⟨fun _ => pvBuild tt t ps⟩
  | .buildSlice t len ps => ⟨fun n => pvBuildSlice tt n t len ps⟩
  | .makeSlice t l c => ⟨fun n => pvMakeSlice tt n t l c⟩
  | .makeFunc (.func f) ⟨[]⟩ caps => ⟨fun _ => pvMakeFunc f caps⟩
  | .makeMap _ none => ⟨fun n => one (makeMapV n)⟩
  | .makeMap t (some x) => ⟨fun n => pvMakeMap tt n t x⟩
  | .slice t x lo hi mx => ⟨fun _ => pvSlice tt t x lo hi mx⟩
  | .field t x i => ⟨fun _ => pvField tt t x i⟩
  | .index t x i => ⟨fun _ => pvIndex tt t x i⟩
  | .lookup t x i ok => ⟨fun _ => pvLookup tt t x i ok⟩
  | .mapUpdate t m k v => ⟨fun _ => pvMapUpdate tt t m k v⟩
  | .insert t m k v => ⟨fun _ => pvMapUpdate tt t m k v⟩
  | .call ⟨.builtin b, ⟨args⟩, ⟨tys⟩⟩ => ⟨fun n => callB tt n b args tys⟩
  | _ => ⟨fun _ => efail⟩

theorem copV_run (tt : ET) (n : Nat) (o : Oper) : (copV tt o).run n = primV tt n o := by
  unfold copV primV
  split <;> first | rfl | (simp only [cb_run]; done) | skip

/-- Whether it may take an id for a block. -/
def allocs (o : Oper) : Bool :=
  match o.op with
  | .alloc _ | .box _ _ | .buildSlice _ _ _ | .makeSlice _ _ _ | .makeMap _ _ => true
  | .call ⟨.builtin .append, _, _⟩ => true
  | _ => false

/-- The next id. -/
def nx (o : Oper) (n : Nat) : Nat := if allocs o = true then n + 1 else n

def wrS (N : Nat) (dst : Option Nat) (x : V) : EM Unit :=
  match dst with
  | none => pure ()
  | some k => if k < N then wrX (.s k) (.v x) else efail

def stepP (tt : ET) (N n : Nat) (o : Oper) : EM Unit := do
  let r ← primV tt n o
  match r with
  | some v => wrS N o.dst v
  | none => if o.dst.isNone = true then pure () else efail

def stepG (tt : ET) (N n : Nat) (ops : Array Oper) (o : Oper) : EM Unit :=
  match o.guard with
  | none => stepP tt N n o
  | some (j, want) =>
    match (ops[j]?).bind (·.dst) with
    | some g => do
      let b ← rdS g
      match b with
      | .lit (.bool b) => if b = want then stepP tt N n o else wrS N o.dst .un
      | _ => efail
    | none => efail

structure Cw where
  run : V → EM Unit
def copW (N : Nat) (dst : Option Nat) : Cw :=
  match dst with
  | none => ⟨fun _ => pure ()⟩
  | some k => match Nat.blt k N with
    | true => ⟨fun x => wrX (.s k) (.v x)⟩
    | false => ⟨fun _ => efail⟩
theorem copW_run (N : Nat) (dst : Option Nat) (x : V) : (copW N dst).run x = wrS N dst x := by
  unfold copW wrS
  cases dst with
  | none => rfl
  | some k =>
    simp only
    cases h : Nat.blt k N with
    | true => rw [Nat.blt_eq] at h; simp [h]
    | false =>
      have : ¬ k < N := by rw [← Nat.blt_eq]; simp [h]
      simp [this]

def copP (m : EM (Option V)) (w : Cw) (nd : Bool) : EM Unit := do
  let r ← m
  match r with
  | some v => w.run v
  | none => match nd with | true => pure () | false => efail

structure Cg where
  run : Nat → EM Unit

def copG (tt : ET) (N : Nat) (ops : Array Oper) (o : Oper) : Cg :=
  match o.guard with
  | none => ⟨fun n => copP ((copV tt o).run n) (copW N o.dst) o.dst.isNone⟩
  | some (j, want) =>
    match (ops[j]?).bind (·.dst) with
    | some g => ⟨fun n => do
      let b ← rdS g
      match b with
      | .lit (.bool b) => if b = want then copP ((copV tt o).run n) (copW N o.dst) o.dst.isNone else (copW N o.dst).run .un
      | _ => efail⟩
    | none => ⟨fun _ => efail⟩

theorem copP_run (tt : ET) (N n : Nat) (o : Oper) : copP ((copV tt o).run n) (copW N o.dst) o.dst.isNone = stepP tt N n o := by
  unfold copP stepP
  rw [copV_run]
  congr 1
  funext r
  cases r with
  | none => cases o.dst.isNone <;> simp
  | some v => exact copW_run N o.dst v

theorem copG_run (tt : ET) (N n : Nat) (ops : Array Oper) (o : Oper) : (copG tt N ops o).run n = stepG tt N n ops o := by
  unfold copG stepG
  cases o.guard with
  | none => exact copP_run tt N n o
  | some q =>
    obtain ⟨j, want⟩ := q
    simp only
    cases (ops[j]?).bind (·.dst) with
    | none => rfl
    | some g => simp only [copP_run, copW_run]

/-! ### It is right -/

/-- No fence but for where the code stands: in a function's own activation, or in a round of a loop over an iterator. -/
def fen (r : Option Nat) : Fence := { Fence.wide with round := r }

theorem calls_fen {P : Program} {f : FuncId} {vs : Array Value} {w : World} {R : Ending → World → Prop} (h : Calls P f vs w R) (r : Option Nat) (m : Nat) : CallsIn (fen r) m P f vs w R := by
  have h0 : CallsIn Fence.wide m P f vs w R := callsIn_wide.2 h
  cases r with
  | none => exact h0
  | some l => exact h0.inRound l

theorem run_semAt {P : Program} {o : Oper} {ρ : Operand → Value} {w w' : World} {x : Next} (h : (execOp ρ o).run P w = .ok x w') (hx : ∀ d, x ≠ .defer d) (r : Option Nat) : (o.semAt r ρ).run P w = .ok x w' := by
  rw [Oper.semAt_eq r ρ o ?_]
  · exact h
  · intro c hc
    simp only [execOp, hc, Sem.run_bind] at h
    cases hr : (resolve ρ c o.type).run P w with
    | ok d w2 =>
      simp only [hr, Result.andThen_ok, Sem.run_pure, Result.ok.injEq] at h
      exact hx _ h.1.symm
    | halt e w2 => simp [hr] at h

/-- The operation leads to this state, and on. -/
def Good (P : Program) (C : Ctx) (N lo hi : Nat) (o : Oper) (ρ : Pl) (a : Act) (w : World) (Ds : List Nat) (st' : St) : Prop :=
  ∀ (r : Option Nat) (m : Nat) (K : Act → World → Prop) (Q : Exit → Act → World → Prop), (∀ ρ' a' w', Ext lo hi ρ ρ' → Sim C N ρ' st' a' w' Ds → K a' w') → o.wpIn (fen r) m P a w K Q

section
variable {P : Program} {tt : ET} {C : Ctx} {N n : Nat} {ρ : Pl} {st : St} {a : Act} {w : World} {Ds : List Nat} {o : Oper}

/-- What 'primV' says: a value, or none. -/
def PRes (P : Program) (C : Ctx) (N n : Nat) (o : Oper) (ρ : Pl) (a : Act) (w : World) (Ds : List Nat) (r : Option V) (st' : St) : Prop :=
  match r with
  | some v => Res P C N n (nx o n) o ρ a w Ds v st'
  | none => ∃ w', (execOp a.eval o).run P w = .ok .skip w' ∧ Sim C N ρ st' a w' Ds

theorem one_some {m : EM V} {r : Option V} {R : List Key} {U : Ups} (e : one m st = some (r, R, U)) : ∃ v, m st = some (v, R, U) ∧ r = some v := by
  unfold one at e
  obtain ⟨v, R1, U1, R2, U2, h1, h2, rfl, rfl⟩ := bind_some e
  obtain ⟨rfl, rfl, rfl⟩ := pure_some h2
  exact ⟨v, by simpa using h1, rfl⟩

theorem isV_ok {S : Still} {b : V} {k : IntKind} {j : Int} (e : isV b = some (k, j)) {u : Value} (h : VR S ρ b u) : u = .int k j := by
  unfold isV at e
  split at e
  · cases e; simpa only [VR] using h
  · cases e

theorem callB_ok (hT : ETok P tt) (h : Sim C N ρ st a w Ds) (hn : allocs o = true → ρ n = none) {b : Builtin} {args : List Operand} {tys : List Nat} {r : Option V} {R : List Key} {U : Ups} (e : callB tt n b args tys st = some (r, R, U)) (ho : o.op = .call ⟨.builtin b, ⟨args⟩, ⟨tys⟩⟩) :
    PRes P C N n o ρ a w Ds r (applyU U st) := by
  unfold callB at e
  split at e
  · rename_i x t
    obtain ⟨v, R1, U1, R2, U2, h1, h2, rfl, rfl⟩ := bind_some e
    obtain ⟨rfl, q1⟩ := opV_ok h h1
    obtain ⟨z, h3, rfl⟩ := one_some h2
    simp only [applyU, List.nil_append] at h3 ⊢
    obtain ⟨rfl, vu, d1, d2⟩ := len_ok (ty := o.type) hT h h3 q1
    exact Res.here h (by simp [execOp, ho, resolve, invoke, builtin, d1]) d2
  · rename_i x t
    obtain ⟨v, R1, U1, R2, U2, h1, h2, rfl, rfl⟩ := bind_some e
    obtain ⟨rfl, q1⟩ := opV_ok h h1
    obtain ⟨z, h3, rfl⟩ := one_some h2
    obtain ⟨h4, rfl, rfl⟩ := ofO_some h3
    obtain ⟨vu, d1, d2⟩ := cap_ok (ty := o.type) hT h4 q1 w
    exact Res.here h (by simp [execOp, ho, resolve, invoke, builtin, d1]) d2
  · rename_i s x t t'
    split at e
    · rename_i htt
      subst htt
      obtain ⟨v, R1, U1, R2, U2, h1, h2, rfl, rfl⟩ := bind_some e
      obtain ⟨rfl, q1⟩ := opV_ok h h1
      obtain ⟨v2, R3, U3, R4, U4, h3, h4, rfl, rfl⟩ := bind_some h2
      obtain ⟨rfl, q2⟩ := opV_ok h h3
      obtain ⟨z, h5, rfl⟩ := one_some h4
      simp only [applyU, List.nil_append] at h5 ⊢
      show Res P C N n (nx o n) _ _ _ _ _ _ _; rw [show nx o n = n + 1 from by simp [nx, allocs, ho]]; exact append_ok hT h (hn (by simp [allocs, ho])) h5 q1 q2 ho
    · exact (efail_some e).elim
  · rename_i ty x xs
    obtain ⟨v, R1, U1, R2, U2, h1, h2, rfl, rfl⟩ := bind_some e
    obtain ⟨rfl, q1⟩ := opV_ok h h1
    obtain ⟨vs, R3, U3, R4, U4, h3, h4, rfl, rfl⟩ := bind_some h2
    obtain ⟨rfl, q2⟩ := opVs_ok h h3
    obtain ⟨z, h5, rfl⟩ := one_some h4
    obtain ⟨h6, rfl, rfl⟩ := ofO_some h5
    obtain ⟨vu, d1, d2⟩ := minVs_ok (P := P) false w h6 q1 q2
    refine Res.here h ?_ d2
    have hb : ∀ ta, (Builtin.min_ ta o.type (a.eval x :: xs.map a.eval).toArray).run P w = .ok vu w := by
      intro ta; simpa [Builtin.min_] using d1
    simp [execOp, ho, resolve, invoke, builtin, hb]
  · rename_i ty x xs
    obtain ⟨v, R1, U1, R2, U2, h1, h2, rfl, rfl⟩ := bind_some e
    obtain ⟨rfl, q1⟩ := opV_ok h h1
    obtain ⟨vs, R3, U3, R4, U4, h3, h4, rfl, rfl⟩ := bind_some h2
    obtain ⟨rfl, q2⟩ := opVs_ok h h3
    obtain ⟨z, h5, rfl⟩ := one_some h4
    obtain ⟨h6, rfl, rfl⟩ := ofO_some h5
    obtain ⟨vu, d1, d2⟩ := minVs_ok (P := P) true w h6 q1 q2
    refine Res.here h ?_ d2
    have hb : ∀ ta, (Builtin.max_ ta o.type (a.eval x :: xs.map a.eval).toArray).run P w = .ok vu w := by
      intro ta; simpa [Builtin.max_] using d1
    simp [execOp, ho, resolve, invoke, builtin, hb]
  · exact (efail_some e).elim

theorem primV_ok (hT : ETok P tt) (h : Sim C N ρ st a w Ds) (hn : allocs o = true → ρ n = none) {r : Option V} {R : List Key} {U : Ups} (e : primV tt n o st = some (r, R, U)) : PRes P C N n o ρ a w Ds r (applyU U st) := by
  unfold primV at e
  generalize ho : o.op = op at e
  split at e
  · rename_i x
    obtain ⟨z, h3, rfl⟩ := one_some e
    obtain ⟨rfl, q⟩ := opV_ok h h3
    exact Res.here h (by simp [execOp, ho]) q
  · rename_i x
    obtain ⟨z, h3, rfl⟩ := one_some e
    obtain ⟨rfl, q⟩ := opV_ok h h3
    exact Res.here h (by simp [execOp, ho]) q
  · rename_i c x y
    obtain ⟨z, h3, rfl⟩ := one_some e
    unfold pickV at h3
    obtain ⟨b, R1, U1, R2, U2, h1, h2, rfl, rfl⟩ := bind_some h3
    obtain ⟨rfl, q⟩ := opV_ok h h1
    simp only [applyU, List.nil_append] at h2 ⊢
    split at h2
    · obtain ⟨rfl, q2⟩ := opV_ok h h2
      simp only [VR] at q
      exact Res.here h (by simp [execOp, ho, asBool, q]) q2
    · obtain ⟨rfl, q2⟩ := opV_ok h h2
      simp only [VR] at q
      exact Res.here h (by simp [execOp, ho, asBool, q]) q2
    · exact (efail_some h2).elim
  · rename_i op xt x y yt
    obtain ⟨v, R1, U1, R2, U2, h1, h2, rfl, rfl⟩ := bind_some e
    obtain ⟨rfl, q1⟩ := opV_ok h h1
    obtain ⟨v2, R3, U3, R4, U4, h3, h4, rfl, rfl⟩ := bind_some h2
    obtain ⟨rfl, q2⟩ := opV_ok h h3
    obtain ⟨z, h5, rfl⟩ := one_some h4
    obtain ⟨h6, rfl, rfl⟩ := ofO_some h5
    obtain ⟨vu, d1, d2⟩ := binV_ok hT h6 q1 q2 x y w
    refine Res.here h ?_ d1
    simp only [execOp, ho, Sem.run_bind, Sem.run_pure] at d2 ⊢
    rw [d2]; rfl
  · rename_i op xt x
    obtain ⟨v, R1, U1, R2, U2, h1, h2, rfl, rfl⟩ := bind_some e
    obtain ⟨rfl, q1⟩ := opV_ok h h1
    obtain ⟨z, h5, rfl⟩ := one_some h2
    obtain ⟨h6, rfl, rfl⟩ := ofO_some h5
    obtain ⟨vu, d1, d2⟩ := unV_ok (P := P) h6 q1 w
    exact Res.here h (by simp [execOp, ho, d2]) d1
  · rename_i s t x
    obtain ⟨v, R1, U1, R2, U2, h1, h2, rfl, rfl⟩ := bind_some e
    obtain ⟨rfl, q1⟩ := opV_ok h h1
    obtain ⟨z, h5, rfl⟩ := one_some h2
    obtain ⟨h6, rfl, rfl⟩ := ofO_some h5
    obtain ⟨vu, d1, d2⟩ := convV_ok hT h6 q1 w
    exact Res.here h (by simp [execOp, ho, d2]) d1
  · rename_i x i
    obtain ⟨v, R1, U1, R2, U2, h1, h2, rfl, rfl⟩ := bind_some e
    obtain ⟨rfl, q1⟩ := opV_ok h h1
    obtain ⟨z, h5, rfl⟩ := one_some h2
    obtain ⟨h6, rfl, rfl⟩ := ofO_some h5
    obtain ⟨vu, d1, d2⟩ := extract_ok (P := P) h6 q1 w
    exact Res.here h (by simp [execOp, ho, d1]) d2
  · rename_i x
    obtain ⟨v, R1, U1, R2, U2, h1, h2, rfl, rfl⟩ := bind_some e
    obtain ⟨rfl, q1⟩ := opV_ok h h1
    obtain ⟨z, h5, rfl⟩ := one_some h2
    obtain ⟨h6, rfl, rfl⟩ := ofO_some h5
    obtain ⟨d1, d2⟩ := nilCheck_ok (P := P) h6 q1 ho w
    exact Res.here h d1 d2
  · rename_i t x
    obtain ⟨v, R1, U1, R2, U2, h1, h2, rfl, rfl⟩ := bind_some e
    obtain ⟨rfl, q1⟩ := opV_ok h h1
    obtain ⟨z, h5, rfl⟩ := one_some h2
    simp only [applyU, List.nil_append] at h5 ⊢
    obtain ⟨rfl, vu, d1, d2⟩ := load_ok hT h h5 q1
    exact Res.here h (by simp [execOp, ho, d1]) d2
  · rename_i t x y
    obtain ⟨v, R1, U1, R2, U2, h1, h2, rfl, rfl⟩ := bind_some e
    obtain ⟨rfl, q1⟩ := opV_ok h h1
    obtain ⟨v2, R3, U3, R4, U4, h3, h4, rfl, rfl⟩ := bind_some h2
    obtain ⟨rfl, q2⟩ := opV_ok h h3
    obtain ⟨u5, R5, U5, R6, U6, h5, h6, rfl, rfl⟩ := bind_some h4
    obtain ⟨rfl, rfl, rfl⟩ := pure_some h6
    simp only [applyU, List.nil_append, List.append_nil] at h5 ⊢
    obtain ⟨w', d1, d2⟩ := store_ok hT h h5 q1 q2
    exact ⟨w', by simp [execOp, ho, d1], d2⟩
  · rename_i t x i
    obtain ⟨v, R1, U1, R2, U2, h1, h2, rfl, rfl⟩ := bind_some e
    obtain ⟨rfl, q1⟩ := opV_ok h h1
    obtain ⟨z, h5, rfl⟩ := one_some h2
    obtain ⟨h6, rfl, rfl⟩ := ofO_some h5
    obtain ⟨vu, d1, d2⟩ := fieldAddr_ok hT h6 q1 w
    exact Res.here h (by simp [execOp, ho, d1]) d2
  · rename_i t x i
    obtain ⟨v, R1, U1, R2, U2, h1, h2, rfl, rfl⟩ := bind_some e
    obtain ⟨rfl, q1⟩ := opV_ok h h1
    obtain ⟨v2, R3, U3, R4, U4, h3, h4, rfl, rfl⟩ := bind_some h2
    obtain ⟨rfl, q2⟩ := opV_ok h h3
    obtain ⟨⟨k, j⟩, R5, U5, R6, U6, h5, h6, rfl, rfl⟩ := bind_some h4
    obtain ⟨h7, rfl, rfl⟩ := ofO_some h5
    obtain ⟨z, h8, rfl⟩ := one_some h6
    obtain ⟨h9, rfl, rfl⟩ := ofO_some h8
    have hi := isV_ok h7 q2
    obtain ⟨vu, d1, d2⟩ := indexAddr_ok (k := k) hT h9 q1 w
    exact Res.here h (by simp [execOp, ho, hi, d1]) d2
  · rename_i t
    obtain ⟨z, h3, rfl⟩ := one_some e
    show Res P C N n (nx o n) _ _ _ _ _ _ _; rw [show nx o n = n + 1 from by simp [nx, allocs, ho]]; exact alloc_ok hT h (hn (by simp [allocs, ho])) h3 ho
  · rename_i t x
    obtain ⟨v, R1, U1, R2, U2, h1, h2, rfl, rfl⟩ := bind_some e
    obtain ⟨rfl, q1⟩ := opV_ok h h1
    obtain ⟨z, h5, rfl⟩ := one_some h2
    simp only [applyU, List.nil_append] at h5 ⊢
    show Res P C N n (nx o n) _ _ _ _ _ _ _; rw [show nx o n = n + 1 from by simp [nx, allocs, ho]]; exact box_ok h (hn (by simp [allocs, ho])) h5 q1 ho
  · rename_i t ps
    obtain ⟨qs, R1, U1, R2, U2, h1, h2, rfl, rfl⟩ := bind_some e
    obtain ⟨z, h5, rfl⟩ := one_some h2
    obtain ⟨h6, rfl, rfl⟩ := ofO_some h5
    obtain ⟨rfl, q⟩ := build_ok hT h h1 h6 ho
    exact q
  · rename_i t len ps
    obtain ⟨qs, R1, U1, R2, U2, h1, h2, rfl, rfl⟩ := bind_some e
    obtain ⟨z, h5, rfl⟩ := one_some h2
    obtain ⟨rfl, _, _⟩ := parts_ok h h1
    simp only [applyU, List.nil_append] at h5 ⊢
    show Res P C N n (nx o n) _ _ _ _ _ _ _; rw [show nx o n = n + 1 from by simp [nx, allocs, ho]]; exact (buildSlice_ok hT h (hn (by simp [allocs, ho])) h1 h5 ho).2
  · rename_i t l c
    obtain ⟨v, R1, U1, R2, U2, h1, h2, rfl, rfl⟩ := bind_some e
    obtain ⟨rfl, q1⟩ := opV_ok h h1
    obtain ⟨v2, R3, U3, R4, U4, h3, h4, rfl, rfl⟩ := bind_some h2
    obtain ⟨rfl, q2⟩ := opV_ok h h3
    obtain ⟨⟨k, j⟩, R5, U5, R6, U6, h5, h6, rfl, rfl⟩ := bind_some h4
    obtain ⟨h7, rfl, rfl⟩ := ofO_some h5
    obtain ⟨⟨k2, j2⟩, R7, U7, R8, U8, h8, h9, rfl, rfl⟩ := bind_some h6
    obtain ⟨h10, rfl, rfl⟩ := ofO_some h8
    obtain ⟨z, h11, rfl⟩ := one_some h9
    simp only [applyU, List.nil_append] at h11 ⊢
    show Res P C N n (nx o n) _ _ _ _ _ _ _; rw [show nx o n = n + 1 from by simp [nx, allocs, ho]]; exact makeSlice_ok hT h (hn (by simp [allocs, ho])) h11 (isV_ok h7 q1) (isV_ok h10 q2) ho
  · rename_i f caps
    obtain ⟨vs, R1, U1, R2, U2, h1, h2, rfl, rfl⟩ := bind_some e
    obtain ⟨rfl, q1⟩ := opVs_ok h h1
    obtain ⟨rfl, rfl, rfl⟩ := pure_some h2
    refine Res.here h (cv := .func (.func f) #[] (caps.map a.eval)) (by simp [execOp, ho, Instr.makeFunc]) ?_
    simp only [VR]
    exact ⟨_, q1, by rw [← Array.toList_map, Array.toArray_toList]⟩
  · rename_i t
    obtain ⟨z, h3, rfl⟩ := one_some e
    show Res P C N n (nx o n) _ _ _ _ _ _ _; rw [show nx o n = n + 1 from by simp [nx, allocs, ho]]; exact makeMap_ok h (hn (by simp [allocs, ho])) h3 (.inl rfl) ho
  · rename_i t x
    obtain ⟨v, R1, U1, R2, U2, h1, h2, rfl, rfl⟩ := bind_some e
    obtain ⟨rfl, q1⟩ := opV_ok h h1
    obtain ⟨⟨k, j⟩, R3, U3, R4, U4, h3, h4, rfl, rfl⟩ := bind_some h2
    obtain ⟨h5, rfl, rfl⟩ := ofO_some h3
    obtain ⟨⟨kt, et⟩, R5, U5, R6, U6, h6, h7, rfl, rfl⟩ := bind_some h4
    obtain ⟨h8, rfl, rfl⟩ := ofO_some h6
    obtain ⟨z, h9, rfl⟩ := one_some h7
    simp only [applyU, List.nil_append] at h9 ⊢
    show Res P C N n (nx o n) _ _ _ _ _ _ _; rw [show nx o n = n + 1 from by simp [nx, allocs, ho]]; exact makeMap_ok h (hn (by simp [allocs, ho])) h9 (.inr ⟨⟨kt, et, mapKE_some hT h8⟩, x, k, j, rfl, isV_ok h5 q1⟩) ho
  · rename_i t x lo hi mx
    obtain ⟨v, R1, U1, R2, U2, h1, h2, rfl, rfl⟩ := bind_some e
    obtain ⟨rfl, q1⟩ := opV_ok h h1
    obtain ⟨v2, R3, U3, R4, U4, h3, h4, rfl, rfl⟩ := bind_some h2
    obtain ⟨rfl, q2⟩ := opO_ok h h3
    obtain ⟨v3, R5, U5, R6, U6, h5, h6, rfl, rfl⟩ := bind_some h4
    obtain ⟨rfl, q3⟩ := opO_ok h h5
    obtain ⟨v4, R7, U7, R8, U8, h7, h8, rfl, rfl⟩ := bind_some h6
    obtain ⟨rfl, q4⟩ := opO_ok h h7
    obtain ⟨z, h9, rfl⟩ := one_some h8
    obtain ⟨h10, rfl, rfl⟩ := ofO_some h9
    obtain ⟨vu, d1, d2⟩ := slice_ok hT h10 q1 q2 q3 q4 w
    exact Res.here h (by simp [execOp, ho, d1]) d2
  · rename_i t x i
    obtain ⟨v, R1, U1, R2, U2, h1, h2, rfl, rfl⟩ := bind_some e
    obtain ⟨rfl, q1⟩ := opV_ok h h1
    obtain ⟨z, h5, rfl⟩ := one_some h2
    obtain ⟨h6, rfl, rfl⟩ := ofO_some h5
    obtain ⟨vu, d1, d2⟩ := field_ok hT h6 q1 w
    exact Res.here h (by simp [execOp, ho, d1]) d2
  · rename_i t x i
    obtain ⟨v, R1, U1, R2, U2, h1, h2, rfl, rfl⟩ := bind_some e
    obtain ⟨rfl, q1⟩ := opV_ok h h1
    obtain ⟨v2, R3, U3, R4, U4, h3, h4, rfl, rfl⟩ := bind_some h2
    obtain ⟨rfl, q2⟩ := opV_ok h h3
    obtain ⟨⟨k, j⟩, R5, U5, R6, U6, h5, h6, rfl, rfl⟩ := bind_some h4
    obtain ⟨h7, rfl, rfl⟩ := ofO_some h5
    obtain ⟨z, h8, rfl⟩ := one_some h6
    obtain ⟨h9, rfl, rfl⟩ := ofO_some h8
    have hi := isV_ok h7 q2
    obtain ⟨vu, d1, d2⟩ := index_ok (k := k) hT h9 q1 w
    exact Res.here h (by simp [execOp, ho, hi, d1]) d2
  · rename_i t x i ok
    obtain ⟨v, R1, U1, R2, U2, h1, h2, rfl, rfl⟩ := bind_some e
    obtain ⟨rfl, q1⟩ := opV_ok h h1
    obtain ⟨v2, R3, U3, R4, U4, h3, h4, rfl, rfl⟩ := bind_some h2
    obtain ⟨rfl, q2⟩ := opV_ok h h3
    obtain ⟨z, h5, rfl⟩ := one_some h4
    simp only [applyU, List.nil_append] at h5 ⊢
    obtain ⟨rfl, vu, d1, d2⟩ := lookup_ok hT h h5 q1 q2
    exact Res.here h (by simp [execOp, ho, d1]) d2
  · rename_i t m k v
    obtain ⟨v1, R1, U1, R2, U2, h1, h2, rfl, rfl⟩ := bind_some e
    obtain ⟨rfl, q1⟩ := opV_ok h h1
    obtain ⟨v2, R3, U3, R4, U4, h3, h4, rfl, rfl⟩ := bind_some h2
    obtain ⟨rfl, q2⟩ := opV_ok h h3
    obtain ⟨v3, R5, U5, R6, U6, h5, h6, rfl, rfl⟩ := bind_some h4
    obtain ⟨rfl, q3⟩ := opV_ok h h5
    obtain ⟨u7, R7, U7, R8, U8, h7, h8, rfl, rfl⟩ := bind_some h6
    obtain ⟨rfl, rfl, rfl⟩ := pure_some h8
    simp only [applyU, List.nil_append, List.append_nil] at h7 ⊢
    obtain ⟨w', d1, d2⟩ := mapUpdate_ok hT h h7 q1 q2 q3
    exact ⟨w', by simp [execOp, ho, d1], d2⟩
  · rename_i t m k v
    obtain ⟨v1, R1, U1, R2, U2, h1, h2, rfl, rfl⟩ := bind_some e
    obtain ⟨rfl, q1⟩ := opV_ok h h1
    obtain ⟨v2, R3, U3, R4, U4, h3, h4, rfl, rfl⟩ := bind_some h2
    obtain ⟨rfl, q2⟩ := opV_ok h h3
    obtain ⟨v3, R5, U5, R6, U6, h5, h6, rfl, rfl⟩ := bind_some h4
    obtain ⟨rfl, q3⟩ := opV_ok h h5
    obtain ⟨u7, R7, U7, R8, U8, h7, h8, rfl, rfl⟩ := bind_some h6
    obtain ⟨rfl, rfl, rfl⟩ := pure_some h8
    simp only [applyU, List.nil_append, List.append_nil] at h7 ⊢
    obtain ⟨w', d1, d2⟩ := mapUpdate_ok hT h h7 q1 q2 q3
    exact ⟨w', by simp [execOp, ho, d1], d2⟩
  · rename_i b args tys
    exact callB_ok hT h hn e ho
  · exact (efail_some e).elim

theorem wrS_ok (h : Sim C N ρ st a w Ds) {dst : Option Nat} {x : V} {u : Unit} {R : List Key} {U : Ups} (e : wrS N dst x st = some (u, R, U)) {v : Value} (hx : VR C.S ρ x v) : Sim C N ρ (applyU U st) (a.put dst v) w Ds := by
  unfold wrS at e
  cases dst with
  | none => obtain ⟨_, _, rfl⟩ := pure_some e; exact h
  | some k =>
    simp only at e
    split at e
    · rename_i hk
      obtain ⟨rfl, rfl⟩ := wrX_some e
      exact h.put hk hx
    · exact (efail_some e).elim

theorem stepP_ok (hT : ETok P tt) (h : Sim C N ρ st a w Ds) (hn : allocs o = true → ρ n = none) {u : Unit} {R : List Key} {U : Ups} (e : stepP tt N n o st = some (u, R, U)) : Good P C N n (nx o n) o ρ a w Ds (applyU U st) := by
  unfold stepP at e
  obtain ⟨r, R1, U1, R2, U2, h1, h2, rfl, rfl⟩ := bind_some e
  have hp := primV_ok hT h hn h1
  rw [applyU_append]
  cases r with
  | some v =>
    simp only at h2
    obtain ⟨ρ', w', cv, d1, d2, d3, d4⟩ := hp
    intro r m K Q hK
    refine ⟨fun _ _ => trivial, ?_⟩
    rw [run_semAt d1 (by simp)]
    exact hK ρ' _ _ d2 (wrS_ok d3 h2 d4)
  | none =>
    simp only at h2
    split at h2
    · rename_i hd
      obtain ⟨_, _, rfl⟩ := pure_some h2
      obtain ⟨w', d1, d2⟩ := hp
      intro r m K Q hK
      refine ⟨fun _ _ => trivial, ?_⟩
      rw [run_semAt d1 (by simp), Oper.uponIn_skip, Option.isNone_iff_eq_none.1 hd]
      exact hK ρ _ _ (Ext.refl _ _ _) d2
    · exact (efail_some h2).elim

/-- The operation comes up: it is carried out, or passed over. -/
def GoodG (P : Program) (C : Ctx) (N lo hi : Nat) (ops : Array Oper) (o : Oper) (ρ : Pl) (a : Act) (w : World) (Ds : List Nat) (st' : St) : Prop :=
  ∀ (r : Option Nat) (m : Nat) (K : Act → World → Prop) (Q : Exit → Act → World → Prop), (∀ ρ' a' w', Ext lo hi ρ ρ' → Sim C N ρ' st' a' w' Ds → K a' w') →
    if Region.wanted o (yielded ops a.tmps) then o.wpIn (fen r) m P a w K Q else (∀ f, o.about P w a.eval = some f → (fen r).fn f) ∧ K (a.put o.dst undef) w

/-- A guard: whether the operation is wanted. -/
theorem guard_ok {ops : Array Oper} {j g : Nat} {want b : Bool} (hg : o.guard = some (j, want)) (hd : (ops[j]?).bind (·.dst) = some g) (hb : VR C.S ρ (.lit (.bool b)) (Act.tv a g)) : Region.wanted o (yielded ops a.tmps) = (b == want) := by
  simp only [VR] at hb
  have hy : yielded ops a.tmps j = some b := by
    unfold yielded
    rw [hd]
    simp only [Option.bind_some]
    have : a.tmps[g]? = some (.bool b) := by
      unfold Act.tv at hb
      rw [Array.getD_eq_getD_getElem?] at hb
      cases hx : a.tmps[g]? with
      | none => rw [hx] at hb; simp [undef] at hb
      | some u => rw [hx] at hb; simp at hb; rw [hb]
    rw [this]
  simp only [Region.wanted, hg, hy]
  cases b <;> cases want <;> rfl

theorem stepG_ok (hT : ETok P tt) (h : Sim C N ρ st a w Ds) (hn : allocs o = true → ρ n = none) {ops : Array Oper} {u : Unit} {R : List Key} {U : Ups} (e : stepG tt N n ops o st = some (u, R, U)) : GoodG P C N n (nx o n) ops o ρ a w Ds (applyU U st) := by
  unfold stepG at e
  cases hg : o.guard with
  | none =>
    simp only [hg] at e
    intro rd m K Q hK
    simp only [Region.wanted, hg, if_true]
    exact stepP_ok hT h hn e rd m K Q hK
  | some q =>
    obtain ⟨j, want⟩ := q
    simp only [hg] at e
    cases hd : (ops[j]?).bind (·.dst) with
    | none => simp only [hd] at e; exact (efail_some e).elim
    | some g =>
      simp only [hd] at e
      obtain ⟨b, R1, U1, R2, U2, h1, e1, rfl, rfl⟩ := bind_some e
      obtain ⟨rfl, hb⟩ := rdS_ok h h1
      simp only [applyU, List.nil_append] at e1 ⊢
      split at e1
      · rename_i b
        have hw := guard_ok hg hd hb
        intro rd m K Q hK
        rw [hw]
        split at e1
        · rename_i hbw
          rw [if_pos (by simp [hbw])]
          exact stepP_ok hT h hn e1 rd m K Q hK
        · rename_i hbw
          rw [if_neg (by simp [hbw])]
          exact ⟨fun _ _ => trivial, hK ρ _ _ (Ext.refl _ _ _) (wrS_ok h e1 (by simp only [VR]))⟩
      · exact (efail_some e1).elim

end

/-! ### It looks at what it names as read alone -/

def LocE {α : Type} (m : EM α) : Prop := ∀ st st' a R U, m st = some (a, R, U) → (∀ k ∈ R, st' k = st k) → m st' = some (a, R, U)

theorem applyU_congr (us : Ups) {st st' : St} {k : Key} (h : st' k = st k) : applyU us st' k = applyU us st k := by
  induction us generalizing st st' with
  | nil => exact h
  | cons u us ih =>
    simp only [applyU]
    refine ih ?_
    unfold upd
    split
    · rfl
    · exact h

theorem LocE.bind {α β : Type} {m : EM α} {f : α → EM β} (h1 : LocE m) (h2 : ∀ a, LocE (f a)) : LocE (m >>= f) := by
  intro st st' b R U e hR
  obtain ⟨a, R1, U1, R2, U2, q1, q2, rfl, rfl⟩ := bind_some e
  have k1 := h1 st st' a R1 U1 q1 (fun k hk => hR k (by simp [hk]))
  have k2 := h2 a _ (applyU U1 st') b R2 U2 q2 (fun k hk => applyU_congr U1 (hR k (by simp [hk])))
  show EM.bind m f st' = _
  unfold EM.bind
  rw [k1]
  simp only [k2]

theorem LocE.pure {α : Type} (a : α) : LocE (Pure.pure a : EM α) := by
  intro st st' b R U e _
  obtain ⟨rfl, rfl, rfl⟩ := pure_some e
  rfl
theorem LocE.fail {α : Type} : LocE (efail : EM α) := by
  intro st st' b R U e _
  exact (efail_some e).elim
theorem LocE.rdX (k : Key) : LocE (rdX k) := by
  intro st st' b R U e h
  obtain ⟨rfl, rfl, rfl⟩ := rdX_some e
  simp [Go.Ex.rdX, h k (by simp)]
theorem LocE.wrX (k : Key) (x : X) : LocE (wrX k x) := by
  intro st st' b R U e _
  obtain ⟨rfl, rfl⟩ := wrX_some e
  rfl
theorem LocE.ofO {α : Type} (x : Option α) : LocE (ofO x) := by
  intro st st' b R U e _
  obtain ⟨h, rfl, rfl⟩ := ofO_some e
  simp [Go.Ex.ofO, h]
theorem LocE.ite {α : Type} {c : Prop} [Decidable c] {x y : EM α} (h1 : LocE x) (h2 : LocE y) : LocE (if c then x else y) := by split <;> assumption

theorem LocE.rdS (t : Nat) : LocE (rdS t) := LocE.bind (LocE.rdX _) fun _ => LocE.pure _
theorem LocE.opV (x : Operand) : LocE (opV x) := by
  cases x <;> simp only [Go.Ex.opV]
  · exact LocE.rdS _
  · exact LocE.pure _
  · exact LocE.fail
  · exact LocE.pure _
theorem LocE.opVs : ∀ xs, LocE (opVs xs)
  | [] => LocE.pure _
  | x :: xs => LocE.bind (LocE.opV x) fun _ => LocE.bind (LocE.opVs xs) fun _ => LocE.pure _
theorem LocE.rdB (b : Nat) : LocE (rdB b) := by
  refine LocE.bind (LocE.rdX _) fun x => ?_
  split <;> first | exact LocE.pure _ | exact LocE.fail
theorem LocE.rdF (b : Nat) : LocE (rdF b) := by
  refine LocE.bind (LocE.rdX _) fun x => ?_
  split <;> first | exact LocE.pure _ | exact LocE.fail
theorem LocE.rdM (b : Nat) : LocE (rdM b) := by
  refine LocE.bind (LocE.rdX _) fun x => ?_
  split <;> first | exact LocE.pure _ | exact LocE.fail
theorem LocE.touch (b fam lo hi : Nat) : ∀ l, LocE (touch b fam lo hi l)
  | [] => LocE.pure _
  | m :: l => by
    simp only [Go.Ex.touch]
    refine LocE.ite (LocE.touch b fam lo hi l) (LocE.bind (LocE.rdX _) fun x => ?_)
    split
    · exact LocE.ite (LocE.bind (LocE.wrX _ _) fun _ => LocE.touch b fam lo hi l) (LocE.touch b fam lo hi l)
    · exact LocE.touch b fam lo hi l
theorem LocE.putB (b q : Nat) (xs : List V) : LocE (putB b q xs) := LocE.bind (LocE.rdB b) fun _ => LocE.ite (LocE.bind (LocE.rdF _) fun _ => LocE.bind (LocE.touch _ _ _ _ _) fun _ => LocE.wrX _ _) LocE.fail
theorem LocE.wrNew (n : Nat) (k : Blk) : LocE (wrNew n k) := LocE.bind (LocE.wrX _ _) fun _ => LocE.wrX _ _
theorem LocE.grow (n z m : Nat) (cs : List V) : LocE (grow n z m cs) := LocE.bind (LocE.wrNew _ _) fun _ => LocE.pure _
theorem LocE.loadV (tt : ET) (t : Nat) (x : V) : LocE (loadV tt t x) := by
  refine LocE.bind (LocE.ofO _) fun i => ?_
  split
  · exact LocE.bind (LocE.rdB _) fun _ => LocE.ite (LocE.ofO _) LocE.fail
  · exact LocE.bind (LocE.ofO _) fun _ => LocE.ite (LocE.ofO _) LocE.fail
  · exact LocE.fail
theorem LocE.storeV (tt : ET) (t : Nat) (x v : V) : LocE (storeV tt t x v) := by
  refine LocE.bind (LocE.ofO _) fun i => ?_
  split
  · exact LocE.ite (LocE.putB _ _ _) LocE.fail
  · exact LocE.fail
theorem LocE.lenV (tt : ET) (t : Nat) (x : V) : LocE (lenV tt t x) := by
  refine LocE.bind (LocE.ofO _) fun i => ?_
  split <;> first | exact LocE.pure _ | exact LocE.fail | exact LocE.bind (LocE.rdM _) fun _ => LocE.pure _
theorem LocE.allocV (tt : ET) (n t : Nat) : LocE (allocV tt n t) := LocE.bind (LocE.ofO _) fun _ => LocE.bind (LocE.ofO _) fun _ => LocE.bind (LocE.wrNew _ _) fun _ => LocE.pure _
theorem LocE.boxV (n : Nat) (x : V) : LocE (boxV n x) := LocE.ite (LocE.bind (LocE.wrNew _ _) fun _ => LocE.pure _) LocE.fail
theorem LocE.makeSliceV (tt : ET) (n t : Nat) (l c : Int) : LocE (makeSliceV tt n t l c) := LocE.bind (LocE.ofO _) fun _ => LocE.bind (LocE.ofO _) fun _ => LocE.ite (LocE.bind (LocE.wrNew _ _) fun _ => LocE.pure _) LocE.fail
theorem LocE.parts : ∀ ps, LocE (parts ps)
  | [] => LocE.pure _
  | (_, x) :: ps => LocE.bind (LocE.opV x) fun _ => LocE.bind (LocE.parts ps) fun _ => LocE.pure _
theorem LocE.buildSliceV (tt : ET) (n t len : Nat) (ps : List (Nat × V)) : LocE (buildSliceV tt n t len ps) :=
  LocE.bind (LocE.ofO _) fun _ => LocE.bind (LocE.ofO _) fun _ => LocE.ite (LocE.bind (LocE.ofO _) fun _ => LocE.bind (LocE.wrNew _ _) fun _ => LocE.pure _) LocE.fail
theorem LocE.elems (z : Nat) (x : V) : LocE (elems z x) := by
  unfold Go.Ex.elems
  split
  · exact LocE.pure _
  · exact LocE.bind (LocE.rdB _) fun _ => LocE.ite (LocE.pure _) LocE.fail
  · exact LocE.bind (LocE.ofO _) fun _ => LocE.ite (LocE.pure _) LocE.fail
  · exact LocE.fail
theorem LocE.moveV (n q z l m : Nat) (k : Blk) (ys : List V) : LocE (moveV n q z l m k ys) :=
  LocE.bind (LocE.ite (LocE.rdF _) LocE.fail) fun _ => LocE.bind (LocE.ite (LocE.pure _) LocE.fail) fun _ => LocE.bind (LocE.wrX _ _) fun _ => LocE.bind (LocE.wrX _ _) fun _ => LocE.bind (LocE.touch _ _ _ _ _) fun _ => LocE.bind (LocE.wrX _ _) fun _ => LocE.pure _
theorem LocE.appendSl (n z b q l m : Nat) (c : Option Nat) (ys : List V) : LocE (appendSl n z b q l m c ys) :=
  LocE.bind (LocE.rdB _) fun _ => LocE.ite (LocE.bind (LocE.putB _ _ _) fun _ => LocE.pure _) (LocE.ite (LocE.grow _ _ _ _) (LocE.ite (LocE.moveV _ _ _ _ _ _ _) LocE.fail))
theorem LocE.appendV (tt : ET) (n t : Nat) (s x : V) : LocE (appendV tt n t s x) := by
  refine LocE.bind (LocE.ofO _) fun q => ?_
  obtain ⟨e, i⟩ := q
  refine LocE.ite (LocE.bind (LocE.elems _ _) fun q => ?_) LocE.fail
  obtain ⟨m, ys⟩ := q
  dsimp only
  split
  · exact LocE.ite (LocE.pure _) (LocE.ite (LocE.grow _ _ _ _) LocE.fail)
  · exact LocE.bind (LocE.ofO _) fun _ => LocE.ite (LocE.grow _ _ _ _) LocE.fail
  · exact LocE.ite (LocE.pure _) (LocE.ite (LocE.appendSl _ _ _ _ _ _ _ _) LocE.fail)
  · exact LocE.fail
theorem LocE.opO (x : Option Operand) : LocE (opO x) := by
  cases x
  · exact LocE.pure _
  · exact LocE.bind (LocE.opV _) fun _ => LocE.pure _
theorem LocE.entsV (x : V) : LocE (entsV x) := by
  unfold Go.Ex.entsV
  split
  · exact LocE.pure _
  · exact LocE.rdM _
  · exact LocE.fail
theorem LocE.lookupV (tt : ET) (t : Nat) (x i : V) (ok : Bool) : LocE (lookupV tt t x i ok) := by
  refine LocE.bind (LocE.ofO _) fun ⟨_, _⟩ => LocE.bind (LocE.ofO _) fun k => LocE.bind (LocE.entsV _) fun es => LocE.ite (LocE.bind (LocE.ofO _) fun r => ?_) LocE.fail
  split
  · exact LocE.pure _
  · exact LocE.bind (LocE.ofO _) fun _ => LocE.pure _
theorem LocE.mapUpdateV (tt : ET) (t : Nat) (x i v : V) : LocE (mapUpdateV tt t x i v) := by
  refine LocE.bind (LocE.ofO _) fun ⟨_, _⟩ => LocE.bind (LocE.ofO _) fun k => ?_
  split
  · refine LocE.bind (LocE.rdM _) fun es => LocE.ite (LocE.bind (LocE.ofO _) fun r => ?_) LocE.fail
    split <;> exact LocE.wrX _ _
  · exact LocE.fail
theorem LocE.makeMapV (n : Nat) : LocE (makeMapV n) := LocE.bind (LocE.wrX _ _) fun _ => LocE.pure _
theorem LocE.one {m : EM V} (h : LocE m) : LocE (one m) := LocE.bind h fun _ => LocE.pure _
theorem LocE.pickV (c x y : Operand) : LocE (pickV c x y) := by
  refine LocE.bind (LocE.opV _) fun b => ?_
  split <;> first | exact LocE.opV _ | exact LocE.fail
theorem LocE.callB (tt : ET) (n : Nat) (b : Builtin) (args : List Operand) (tys : List Nat) : LocE (callB tt n b args tys) := by
  unfold Go.Ex.callB
  split
  · exact LocE.bind (LocE.opV _) fun _ => (LocE.lenV _ _ _).one
  · exact LocE.bind (LocE.opV _) fun _ => (LocE.ofO _).one
  · exact LocE.ite (LocE.bind (LocE.opV _) fun _ => LocE.bind (LocE.opV _) fun _ => (LocE.appendV _ _ _ _ _).one) LocE.fail
  · exact LocE.bind (LocE.opV _) fun _ => LocE.bind (LocE.opVs _) fun _ => (LocE.ofO _).one
  · exact LocE.bind (LocE.opV _) fun _ => LocE.bind (LocE.opVs _) fun _ => (LocE.ofO _).one
  · exact LocE.fail
theorem LocE.primV (tt : ET) (n : Nat) (o : Oper) : LocE (primV tt n o) := by
  unfold Go.Ex.primV
  split
  · exact (LocE.opV _).one
  · exact (LocE.opV _).one
  · exact (LocE.pickV _ _ _).one
  · exact LocE.bind (LocE.opV _) fun _ => LocE.bind (LocE.opV _) fun _ => (LocE.ofO _).one
  · exact LocE.bind (LocE.opV _) fun _ => (LocE.ofO _).one
  · exact LocE.bind (LocE.opV _) fun _ => (LocE.ofO _).one
  · exact LocE.bind (LocE.opV _) fun _ => (LocE.ofO _).one
  · exact LocE.bind (LocE.opV _) fun _ => (LocE.ofO _).one
  · exact LocE.bind (LocE.opV _) fun _ => (LocE.loadV _ _ _).one
  · exact LocE.bind (LocE.opV _) fun _ => LocE.bind (LocE.opV _) fun _ => LocE.bind (LocE.storeV _ _ _ _) fun _ => LocE.pure _
  · exact LocE.bind (LocE.opV _) fun _ => (LocE.ofO _).one
  · exact LocE.bind (LocE.opV _) fun _ => LocE.bind (LocE.opV _) fun _ => LocE.bind (LocE.ofO _) fun _ => (LocE.ofO _).one
  · exact (LocE.allocV _ _ _).one
  · exact LocE.bind (LocE.opV _) fun _ => (LocE.boxV _ _).one
  · exact LocE.bind (LocE.parts _) fun _ => (LocE.ofO _).one
  · exact LocE.bind (LocE.parts _) fun _ => (LocE.buildSliceV _ _ _ _ _).one
  · exact LocE.bind (LocE.opV _) fun _ => LocE.bind (LocE.opV _) fun _ => LocE.bind (LocE.ofO _) fun _ => LocE.bind (LocE.ofO _) fun _ => (LocE.makeSliceV _ _ _ _ _).one
  · exact LocE.bind (LocE.opVs _) fun _ => LocE.pure _
  · exact (LocE.makeMapV _).one
  · exact LocE.bind (LocE.opV _) fun _ => LocE.bind (LocE.ofO _) fun _ => LocE.bind (LocE.ofO _) fun _ => (LocE.makeMapV _).one
  · exact LocE.bind (LocE.opV _) fun _ => LocE.bind (LocE.opO _) fun _ => LocE.bind (LocE.opO _) fun _ => LocE.bind (LocE.opO _) fun _ => (LocE.ofO _).one
  · exact LocE.bind (LocE.opV _) fun _ => (LocE.ofO _).one
  · exact LocE.bind (LocE.opV _) fun _ => LocE.bind (LocE.opV _) fun _ => LocE.bind (LocE.ofO _) fun _ => (LocE.ofO _).one
  · exact LocE.bind (LocE.opV _) fun _ => LocE.bind (LocE.opV _) fun _ => (LocE.lookupV _ _ _ _ _).one
  · exact LocE.bind (LocE.opV _) fun _ => LocE.bind (LocE.opV _) fun _ => LocE.bind (LocE.opV _) fun _ => LocE.bind (LocE.mapUpdateV _ _ _ _ _) fun _ => LocE.pure _
  · exact LocE.bind (LocE.opV _) fun _ => LocE.bind (LocE.opV _) fun _ => LocE.bind (LocE.opV _) fun _ => LocE.bind (LocE.mapUpdateV _ _ _ _ _) fun _ => LocE.pure _
  · exact LocE.callB _ _ _ _ _
  · exact LocE.fail
theorem LocE.wrS (N : Nat) (dst : Option Nat) (x : V) : LocE (wrS N dst x) := by
  unfold Go.Ex.wrS
  split
  · exact LocE.pure _
  · exact LocE.ite (LocE.wrX _ _) LocE.fail
theorem LocE.stepP (tt : ET) (N n : Nat) (o : Oper) : LocE (stepP tt N n o) := by
  refine LocE.bind (LocE.primV _ _ _) fun r => ?_
  split
  · exact LocE.wrS _ _ _
  · exact LocE.ite (LocE.pure _) LocE.fail
theorem LocE.stepG (tt : ET) (N n : Nat) (ops : Array Oper) (o : Oper) : LocE (stepG tt N n ops o) := by
  unfold Go.Ex.stepG
  split
  · exact LocE.stepP _ _ _ _
  · split
    · refine LocE.bind (LocE.rdS _) fun b => ?_
      split
      · exact LocE.ite (LocE.stepP _ _ _ _) (LocE.wrS _ _ _)
      · exact LocE.fail
    · exact LocE.fail

end Go.Ex

namespace Go.Ex

inductive Tr where
  | nil
  | node (v : X) (l r : Tr)

def Tr.get0 : Tr → Nat → X
  | .nil, _ => .z
  | .node v _ _, 0 => v
  | .node _ l r, k + 1 => match k % 2 with
    | 0 => l.get0 (k / 2)
    | _ => r.get0 (k / 2)

def Tr.set0 : Nat → Tr → Nat → X → Tr
  | 0, t, _, _ => t
  | _ + 1, .nil, 0, x => .node x .nil .nil
  | f + 1, .nil, k + 1, x => match k % 2 with
    | 0 => .node .z (Tr.set0 f .nil (k / 2) x) .nil
    | _ => .node .z .nil (Tr.set0 f .nil (k / 2) x)
  | _ + 1, .node _ l r, 0, x => .node x l r
  | f + 1, .node v l r, k + 1, x => match k % 2 with
    | 0 => .node v (Tr.set0 f l (k / 2) x) r
    | _ => .node v l (Tr.set0 f r (k / 2) x)

theorem Tr.get0_nil (k : Nat) : Tr.get0 .nil k = .z := by cases k <;> rfl

theorem Tr.get0_set : ∀ (f : Nat) (t : Tr) (k : Nat) (x : X) (j : Nat), k < f → Tr.get0 (Tr.set0 f t k x) j = if j = k then x else Tr.get0 t j
  | 0, _, _, _, _, h => by omega
  | f + 1, .nil, 0, x, j, _ => by
    cases j with
    | zero => rfl
    | succ j =>
      simp only [Tr.set0, Tr.get0]
      split <;> simp
  | f + 1, .nil, k + 1, x, j, h => by
    have hk : k / 2 < f := by omega
    cases j with
    | zero =>
      simp only [Tr.set0]
      split <;> simp [Tr.get0]
    | succ j =>
      simp only [Tr.set0, Tr.get0_nil]
      have ih := Tr.get0_set f .nil (k / 2) x (j / 2) hk
      rw [Tr.get0_nil] at ih
      rcases Nat.mod_two_eq_zero_or_one k with hk2 | hk2 <;> rcases Nat.mod_two_eq_zero_or_one j with hj2 | hj2 <;> simp only [hk2, Tr.get0, hj2]
      · rw [ih]
        by_cases e : j = k
        · subst e; simp
        · rw [if_neg (by omega), if_neg (by omega)]
      · rw [if_neg (by omega)]
      · rw [if_neg (by omega)]
      · rw [ih]
        by_cases e : j = k
        · subst e; simp
        · rw [if_neg (by omega), if_neg (by omega)]
  | f + 1, .node v l r, 0, x, j, _ => by
    cases j with
    | zero => rfl
    | succ j => simp only [Tr.set0, Tr.get0]; simp
  | f + 1, .node v l r, k + 1, x, j, h => by
    have hk : k / 2 < f := by omega
    cases j with
    | zero =>
      simp only [Tr.set0]
      split <;> simp [Tr.get0]
    | succ j =>
      simp only [Tr.set0]
      have ih1 := Tr.get0_set f l (k / 2) x (j / 2) hk
      have ih2 := Tr.get0_set f r (k / 2) x (j / 2) hk
      rcases Nat.mod_two_eq_zero_or_one k with hk2 | hk2 <;> rcases Nat.mod_two_eq_zero_or_one j with hj2 | hj2 <;> simp only [hk2, Tr.get0, hj2]
      · rw [ih1]
        by_cases e : j = k
        · subst e; simp
        · rw [if_neg (by omega), if_neg (by omega)]
      · rw [if_neg (by omega)]
      · rw [if_neg (by omega)]
      · rw [ih2]
        by_cases e : j = k
        · subst e; simp
        · rw [if_neg (by omega), if_neg (by omega)]

/-- The same by the recursors themselves: these are what is run. -/
noncomputable def Tr.get (t : Tr) : Nat → X :=
  Tr.rec (motive := fun _ => Nat → X) (fun _ => .z) (fun v _ _ gl gr k => Nat.rec (motive := fun _ => X) v (fun k _ => Bool.rec (motive := fun _ => X) (gl (Nat.div k 2)) (gr (Nat.div k 2)) (Nat.beq (Nat.mod k 2) 1)) k) t
noncomputable def Tr.set (f : Nat) : Tr → Nat → X → Tr :=
  Nat.rec (motive := fun _ => Tr → Nat → X → Tr) (fun t _ _ => t) (fun _ ih t k x =>
    Tr.rec (motive := fun _ => Tr)
      (Nat.rec (motive := fun _ => Tr) (.node x .nil .nil) (fun k _ => Bool.rec (motive := fun _ => Tr) (.node .z (ih .nil (Nat.div k 2) x) .nil) (.node .z .nil (ih .nil (Nat.div k 2) x)) (Nat.beq (Nat.mod k 2) 1)) k)
      (fun v l r _ _ => Nat.rec (motive := fun _ => Tr) (.node x l r) (fun k _ => Bool.rec (motive := fun _ => Tr) (.node v (ih l (Nat.div k 2) x) r) (.node v l (ih r (Nat.div k 2) x)) (Nat.beq (Nat.mod k 2) 1)) k) t) f
noncomputable def Tr.put (t : Tr) (k : Nat) (x : X) : Tr := Tr.set (Nat.succ k) t k x

theorem Tr.get_eq : ∀ (t : Tr) (k : Nat), t.get k = t.get0 k
  | .nil, k => by cases k <;> rfl
  | .node v l r, 0 => rfl
  | .node v l r, k + 1 => by
    show (Bool.rec (l.get (Nat.div k 2)) (r.get (Nat.div k 2)) (Nat.beq (Nat.mod k 2) 1) : X) = Tr.get0 (.node v l r) (k + 1)
    have e1 := Tr.get_eq l (Nat.div k 2)
    have e2 := Tr.get_eq r (Nat.div k 2)
    rw [e1, e2]
    have h0 : Nat.mod k 2 = k % 2 := rfl
    rcases Nat.mod_two_eq_zero_or_one k with h | h
    · simp only [Tr.get0, h, h0]; rfl
    · simp only [Tr.get0, h, h0]; rfl

theorem Tr.set_eq : ∀ (f : Nat) (t : Tr) (k : Nat) (x : X), Tr.set f t k x = Tr.set0 f t k x
  | 0, t, k, x => rfl
  | f + 1, .nil, 0, x => rfl
  | f + 1, .nil, k + 1, x => by
    show (Bool.rec (Tr.node .z (Tr.set f .nil (Nat.div k 2) x) .nil) (Tr.node .z .nil (Tr.set f .nil (Nat.div k 2) x)) (Nat.beq (Nat.mod k 2) 1) : Tr) = Tr.set0 (f + 1) .nil (k + 1) x
    rw [Tr.set_eq f .nil (Nat.div k 2) x]
    have h0 : Nat.mod k 2 = k % 2 := rfl
    rcases Nat.mod_two_eq_zero_or_one k with h | h
    · simp only [Tr.set0, h, h0]; rfl
    · simp only [Tr.set0, h, h0]; rfl
  | f + 1, .node v l r, 0, x => rfl
  | f + 1, .node v l r, k + 1, x => by
    show (Bool.rec (Tr.node v (Tr.set f l (Nat.div k 2) x) r) (Tr.node v l (Tr.set f r (Nat.div k 2) x)) (Nat.beq (Nat.mod k 2) 1) : Tr) = Tr.set0 (f + 1) (.node v l r) (k + 1) x
    rw [Tr.set_eq f l (Nat.div k 2) x, Tr.set_eq f r (Nat.div k 2) x]
    have h0 : Nat.mod k 2 = k % 2 := rfl
    rcases Nat.mod_two_eq_zero_or_one k with h | h
    · simp only [Tr.set0, h, h0]; rfl
    · simp only [Tr.set0, h, h0]; rfl

theorem Tr.get_nil (k : Nat) : Tr.get .nil k = .z := by rw [Tr.get_eq]; exact Tr.get0_nil k
theorem Tr.get_put (t : Tr) (k : Nat) (x : X) (j : Nat) : (t.put k x).get j = if j = k then x else t.get j := by
  unfold Tr.put
  rw [Tr.get_eq, Tr.set_eq, Tr.get_eq]
  exact Tr.get0_set _ _ _ _ _ (Nat.lt_succ_self _)

/-- Slots, blocks, families; the next id; what has been written. -/
structure S where
  fr : Tr
  hb : Tr
  hf : Tr
  n : Nat
  ws : List Key

noncomputable def view (s : S) : St
  | .s t => s.fr.get t
  | .b i => s.hb.get i
  | .f i => s.hf.get i

noncomputable def put1 (s : S) : Key → X → S
  | .s t, x => { s with fr := s.fr.put t x }
  | .b i, x => { s with hb := s.hb.put i x }
  | .f i, x => { s with hf := s.hf.put i x }

theorem view_put1 (s : S) (k : Key) (x : X) : view (put1 s k x) = upd (view s) k x := by
  funext j
  cases k <;> cases j <;> simp [put1, view, upd, Tr.get_put]

noncomputable def applyT : Ups → S → S
  | [], s => s
  | u :: us, s => applyT us (put1 s u.1 u.2)

theorem view_applyT : ∀ (us : Ups) (s : S), view (applyT us s) = applyU us (view s)
  | [], _ => rfl
  | u :: us, s => by simp only [applyT, applyU]; rw [view_applyT us, view_put1]

/-- The id of a block's key. -/
def Key.id : Key → Option Nat
  | .s _ => none
  | .b i => some i
  | .f i => some i

def okK (n : Nat) (k : Key) : Bool :=
  match k with
  | .s _ => true
  | .b i => Nat.blt i n
  | .f i => Nat.blt i n

theorem okK_lt {n : Nat} {k : Key} (h : okK n k = true) : ∀ i, k.id = some i → i < n := by
  intro i hi
  cases k <;> simp only [Key.id, Option.some.injEq] at hi
  · cases hi
  · subst hi; simpa [okK, Nat.blt_eq] using h
  · subst hi; simpa [okK, Nat.blt_eq] using h

/-- No id from n on is in use. -/
def Fresh (st : St) (n : Nat) : Prop := (∀ i, n ≤ i → st (.b i) = .z ∧ st (.f i) = .z) ∧ ∀ f l, st (.f f) = .m l → l.top ≤ n

theorem Fresh.key {st : St} {n : Nat} (h : Fresh st n) {k : Key} {i : Nat} (hk : k.id = some i) (hi : n ≤ i) : st k = .z := by
  cases k <;> simp only [Key.id, Option.some.injEq] at hk
  · cases hk
  · subst hk; exact (h.1 _ hi).1
  · subst hk; exact (h.1 _ hi).2

def okX (n : Nat) (x : X) : Bool :=
  match x with
  | .m f => Nat.ble f.top n
  | _ => true

def okU (n : Nat) (us : Ups) : Bool := us.all fun u => okK n u.1 && okX n u.2

theorem applyU_ne {us : Ups} {k : Key} (h : ∀ u ∈ us, u.1 ≠ k) : ∀ {st : St}, applyU us st k = st k := by
  induction us with
  | nil => intro st; rfl
  | cons u us ih =>
    intro st
    simp only [applyU]
    rw [ih (fun v hv => h v (by simp [hv])), upd_ne _ _ (Ne.symm (h u (by simp)))]

theorem applyU_in {us : Ups} {k : Key} (h : ∃ u ∈ us, u.1 = k) : ∀ {st st' : St}, applyU us st k = applyU us st' k := by
  induction us with
  | nil => obtain ⟨_, h, _⟩ := h; cases h
  | cons u us ih =>
    intro st st'
    simp only [applyU]
    by_cases h2 : ∃ v ∈ us, v.1 = k
    · exact ih h2
    · have h3 : ∀ v ∈ us, v.1 ≠ k := fun v hv e => h2 ⟨v, hv, e⟩
      rw [applyU_ne h3, applyU_ne h3]
      obtain ⟨v, hv, e⟩ := h
      rcases List.mem_cons.1 hv with rfl | hv
      · rw [← e, upd_same, upd_same]
      · exact absurd e (h3 v hv)

theorem applyU_val {us : Ups} {k : Key} {st : St} : applyU us st k = st k ∨ ∃ u ∈ us, u.1 = k ∧ applyU us st k = u.2 := by
  induction us generalizing st with
  | nil => exact .inl rfl
  | cons u us ih =>
    simp only [applyU]
    rcases ih (st := upd st u.1 u.2) with h | ⟨v, h1, h2, h3⟩
    · by_cases e : k = u.1
      · subst e; rw [upd_same] at h; exact .inr ⟨u, by simp, rfl, h⟩
      · rw [upd_ne _ _ e] at h; exact .inl h
    · exact .inr ⟨v, by simp [h1], h2, h3⟩

theorem okU_mem {n : Nat} {us : Ups} (h : okU n us = true) {u : Key × X} (hu : u ∈ us) : okK n u.1 = true ∧ okX n u.2 = true := by
  have := List.all_eq_true.1 h u hu
  rwa [Bool.and_eq_true] at this

theorem Fresh.apply {st : St} {n n' : Nat} {us : Ups} (h : Fresh st n) (hn : n ≤ n') (hu : okU n' us = true) : Fresh (applyU us st) n' := by
  refine ⟨fun i hi => ?_, ?_⟩
  · have go : ∀ k : Key, k.id = some i → applyU us st k = .z := by
      intro k hk
      rw [applyU_ne]
      · exact h.key hk (by omega)
      · rintro u hu' rfl
        have := okK_lt (okU_mem hu hu').1 i hk
        omega
    exact ⟨go _ rfl, go _ rfl⟩
  · intro f l hl
    rcases applyU_val (us := us) (k := .f f) (st := st) with e | ⟨u, h1, h2, h3⟩
    · rw [e] at hl; exact Nat.le_trans (h.2 f l hl) hn
    · rw [h3] at hl
      have := (okU_mem hu h1).2
      rw [hl] at this
      exact Nat.le_of_ble_eq_true this

/-! ### Logs -/

/-- What an operation reads and writes: keys; of a call besides all ids below a bound; and the ids that it has made. -/
structure Log where
  rk : List Key
  wk : List Key
  rb : Nat
  lo : Nat
  hi : Nat

def Log.r (l : Log) (k : Key) : Prop := k ∈ l.rk ∨ ∃ i, k.id = some i ∧ i < l.rb
def Log.w (l : Log) (k : Key) : Prop := k ∈ l.wk ∨ ∃ i, k.id = some i ∧ l.lo ≤ i ∧ i < l.hi

instance (k j : Key) : Decidable (k = j) := inferInstance

def Key.beq : Key → Key → Bool
  | .s x, .s y => Nat.beq x y
  | .b x, .b y => Nat.beq x y
  | .f x, .f y => Nat.beq x y
  | _, _ => false
theorem Key.beq_iff {a b : Key} : a.beq b = true ↔ a = b := by
  cases a <;> cases b <;> simp [Key.beq]

def hasK (l : List Key) (k : Key) : Bool := l.any fun j => j.beq k
theorem hasK_mem {l : List Key} {k : Key} : hasK l k = true ↔ k ∈ l := by
  simp only [hasK, List.any_eq_true, Key.beq_iff]
  constructor
  · rintro ⟨j, h, rfl⟩; exact h
  · intro h; exact ⟨k, h, rfl⟩

def Log.rB (l : Log) (k : Key) : Bool := hasK l.rk k || (match k.id with | some i => Nat.blt i l.rb | none => false)
def Log.wB (l : Log) (k : Key) : Bool := hasK l.wk k || (match k.id with | some i => Nat.ble l.lo i && Nat.blt i l.hi | none => false)

theorem Log.rB_iff {l : Log} {k : Key} : l.rB k = true ↔ l.r k := by
  unfold Log.rB Log.r
  rw [Bool.or_eq_true, hasK_mem]
  cases h : k.id <;> simp [Nat.blt_eq]
theorem Log.wB_iff {l : Log} {k : Key} : l.wB k = true ↔ l.w k := by
  unfold Log.wB Log.w
  rw [Bool.or_eq_true, hasK_mem]
  cases h : k.id <;> simp [Nat.blt_eq]

/-- Nothing that the one writes is written or read by the other. -/
def apart1 (a b : Log) : Bool := a.wk.all (fun k => !b.wB k && !b.rB k) && (Nat.ble a.hi a.lo || (Nat.ble b.rb a.lo && (Nat.ble b.hi a.lo || Nat.ble a.hi b.lo || Nat.ble b.hi b.lo) && b.wk.all (fun k => !a.wB k) && b.rk.all (fun k => !a.wB k)))
def apart (a b : Log) : Bool := apart1 a b && apart1 b a

theorem apart1_ok {a b : Log} (h : apart1 a b = true) {k : Key} (hk : a.w k) : ¬ b.w k ∧ ¬ b.r k := by
  unfold apart1 at h
  rw [Bool.and_eq_true, Bool.or_eq_true] at h
  obtain ⟨h1, h2⟩ := h
  rcases hk with hk | ⟨i, hi, h3, h4⟩
  · have := List.all_eq_true.1 h1 k hk
    simp only [Bool.and_eq_true, Bool.not_eq_true'] at this
    exact ⟨fun q => by rw [Log.wB_iff.2 q] at this; exact absurd this.1 (by simp), fun q => by rw [Log.rB_iff.2 q] at this; exact absurd this.2 (by simp)⟩
  · rcases h2 with h2 | h2
    · have := Nat.le_of_ble_eq_true h2; omega
    · simp only [Bool.and_eq_true, Bool.or_eq_true] at h2
      obtain ⟨⟨⟨g1, g2⟩, g3⟩, g4⟩ := h2
      have g1 := Nat.le_of_ble_eq_true g1
      have haw : a.w k := .inr ⟨i, hi, h3, h4⟩
      constructor
      · rintro (q | ⟨j, hj, q1, q2⟩)
        · have := List.all_eq_true.1 g3 k q
          rw [Log.wB_iff.2 haw] at this; simp at this
        · rw [hi] at hj; cases hj
          rcases g2 with (g2 | g2) | g2
          · have := Nat.le_of_ble_eq_true g2; omega
          · have := Nat.le_of_ble_eq_true g2; omega
          · have := Nat.le_of_ble_eq_true g2; omega
      · rintro (q | ⟨j, hj, q1⟩)
        · have := List.all_eq_true.1 g4 k q
          rw [Log.wB_iff.2 haw] at this; simp at this
        · rw [hi] at hj; cases hj
          omega

/-! ### Ancestors -/

def ancOf (acc : List Nat) (o : Oper) : Nat := o.after.toList.foldl (fun s e => if Region.binds .any e = true then s ||| 2 ^ e.on ||| acc.getD e.on 0 else s) 0
def ancsL : List Oper → List Nat → List Nat
  | [], acc => acc
  | o :: os, acc => ancsL os (acc ++ [ancOf acc o])

def edgesOk (ops : List Oper) : Bool := ops.zipIdx.all fun p => p.1.after.toList.all fun e => !Region.binds .any e || e.on < p.2

def drawOk (ops : List Oper) (logs : List Log) : Bool :=
  edgesOk ops && (logs.zipIdx.all fun b => logs.zipIdx.all fun a => Nat.ble b.2 a.2 || ((ancsL ops []).getD b.2 0).testBit a.2 || apart a.1 b.1)

theorem ancOf_bit {acc : List Nat} {o : Oper} {i : Nat} (h : (ancOf acc o).testBit i = true) : ∃ e ∈ o.after.toList, Region.binds .any e = true ∧ (e.on = i ∨ (acc.getD e.on 0).testBit i = true) := by
  have gen : ∀ (l : List Edge) (s : Nat), (l.foldl (fun s e => if Region.binds .any e = true then s ||| 2 ^ e.on ||| acc.getD e.on 0 else s) s).testBit i = true → s.testBit i = true ∨ ∃ e ∈ l, Region.binds .any e = true ∧ (e.on = i ∨ (acc.getD e.on 0).testBit i = true) := by
    intro l
    induction l with
    | nil => intro s h; exact .inl h
    | cons e l ih =>
      intro s h
      simp only [List.foldl_cons] at h
      rcases ih _ h with h | ⟨e', h1, h2⟩
      · split at h
        · rename_i hb
          rw [Nat.testBit_or, Nat.testBit_or, Nat.testBit_two_pow] at h
          simp only [Bool.or_eq_true, decide_eq_true_eq] at h
          rcases h with (h | h) | h
          · exact .inl h
          · exact .inr ⟨e, by simp, hb, .inl h⟩
          · exact .inr ⟨e, by simp, hb, .inr h⟩
        · exact .inl h
      · exact .inr ⟨e', by simp [h1], h2⟩
  rcases gen _ 0 h with h | h
  · simp at h
  · exact h

/-- A set that is closed under the edges is closed under ancestors. -/
theorem ancs_closed {ops : List Oper} {L : Nat → Bool} (hcl : ∀ j o, ops[j]? = some o → L j = true → ∀ e ∈ o.after.toList, Region.binds .any e = true → L e.on = true) :
    ∀ (l : List Oper) (acc : List Nat) (done : List Oper), ops = done ++ l → acc.length = done.length →
      (∀ j i, (acc.getD j 0).testBit i = true → L j = true → L i = true) → ∀ j i, ((ancsL l acc).getD j 0).testBit i = true → L j = true → L i = true
  | [], acc, done, _, _, h => by simpa [ancsL] using h
  | o :: os, acc, done, e, hl, h => by
    simp only [ancsL]
    refine ancs_closed hcl os (acc ++ [ancOf acc o]) (done ++ [o]) (by simp [e]) (by simp [hl]) ?_
    intro j i hb hL
    rw [List.getD_eq_getElem?_getD] at hb
    by_cases hj : j < acc.length
    · rw [List.getElem?_append_left hj, ← List.getD_eq_getElem?_getD] at hb
      exact h j i hb hL
    · by_cases hj2 : j = acc.length
      · subst hj2
        rw [List.getElem?_append_right (by omega)] at hb
        simp only [Nat.sub_self, List.getElem?_cons_zero, Option.getD_some] at hb
        obtain ⟨ed, h1, h2, h3⟩ := ancOf_bit hb
        have hLe := hcl acc.length o (by rw [e, hl, List.getElem?_append_right (by omega)]; simp) hL ed h1 h2
        rcases h3 with h3 | h3
        · rw [← h3]; exact hLe
        · exact h _ _ h3 hLe
      · rw [List.getElem?_eq_none (by simp; omega)] at hb
        simp at hb

/-! ### Every order -/

/-- What an operation is known to do, found by carrying it out at a state of the text's order: wherever what it reads is the same, it leads on, and what it writes is the same. -/
def OpOk (P : Program) (C : Ctx) (N : Nat) (ops : Array Oper) (o : Oper) (s s' : S) (L : Log) : Prop :=
  ∀ (st : St) (ρ : Pl) (a : Act) (w : World) (Ds : List Nat), Sim C N ρ st a w Ds → (∀ k, L.r k → st k = view s k) → (∀ i, s.n ≤ i → i < s'.n → ρ i = none) → (∀ k i, k.id = some i → s.n ≤ i → i < s'.n → st k = .z) →
    GoodG P C N s.n s'.n ops o ρ a w Ds (fun k => if L.wB k = true then view s' k else st k)

/-- The text's order: states and logs. -/
inductive Run (P : Program) (C : Ctx) (N : Nat) (ops : Array Oper) : List Oper → S → List (Log × S × S) → S → Prop
  | nil (s : S) : Run P C N ops [] s [] s
  | cons {o : Oper} {os : List Oper} {s s1 s2 : S} {L : Log} {l : List (Log × S × S)} (h : OpOk P C N ops o s s1 L) (hv : ∀ k, L.wB k = false → view s1 k = view s k) (hn : s.n ≤ s1.n) (hi : ∀ k i, k.id = some i → L.w k → i < s1.n) (t : Run P C N ops os s1 l s2) : Run P C N ops (o :: os) s ((L, s, s1) :: l) s2

theorem Run.mono {P : Program} {C : Ctx} {N : Nat} {ops : Array Oper} {os : List Oper} {s s2 : S} {l : List (Log × S × S)} (h : Run P C N ops os s l s2) : s.n ≤ s2.n := by
  induction h with
  | nil => exact Nat.le_refl _
  | cons _ _ hn _ _ ih => exact Nat.le_trans hn ih

theorem Run.get {P : Program} {C : Ctx} {N : Nat} {ops : Array Oper} {os : List Oper} {s s2 : S} {l : List (Log × S × S)} (h : Run P C N ops os s l s2) :
    l.length = os.length ∧ ∀ (i : Nat) (o : Oper), os[i]? = some o → ∃ L t t1, l[i]? = some (L, t, t1) ∧ OpOk P C N ops o t t1 L ∧ (∀ k, L.wB k = false → view t1 k = view t k) ∧ t.n ≤ t1.n ∧ s.n ≤ t.n ∧ t1.n ≤ s2.n ∧ (∀ k i, k.id = some i → L.w k → i < t1.n) := by
  induction h with
  | nil => exact ⟨rfl, fun i o h => by simp at h⟩
  | @cons o os s s1 s2 L l h hv hn hi t ih =>
    refine ⟨by simp [ih.1], fun i o' ho => ?_⟩
    cases i with
    | zero =>
      simp only [List.getElem?_cons_zero, Option.some.injEq] at ho
      subst ho
      exact ⟨L, s, s1, rfl, h, hv, hn, Nat.le_refl _, t.mono, hi⟩
    | succ i =>
      simp only [List.getElem?_cons_succ] at ho ⊢
      obtain ⟨L', t', t1, g1, g2, g3, g4, g5, g6, g7⟩ := ih.2 i o' ho
      exact ⟨L', t', t1, g1, g2, g3, g4, by omega, g6, g7⟩

/-- What the text's order has made of a key. -/
theorem Run.key {P : Program} {C : Ctx} {N : Nat} {ops : Array Oper} {os : List Oper} {s s2 : S} {l : List (Log × S × S)} (h : Run P C N ops os s l s2) (k : Key) :
    ∀ (i : Nat) (L : Log) (t t1 : S), l[i]? = some (L, t, t1) →
      (view t k = view s k ∧ ∀ j L' u u1, j < i → l[j]? = some (L', u, u1) → L'.wB k = false) ∨
      (∃ j L' u u1, j < i ∧ l[j]? = some (L', u, u1) ∧ L'.wB k = true ∧ view t k = view u1 k ∧ ∀ j' L'' u' u1', j < j' → j' < i → l[j']? = some (L'', u', u1') → L''.wB k = false) := by
  induction h with
  | nil => intro i L t t1 hi; simp at hi
  | @cons o os s s1 s2 L0 l h hv hn hi0 t ih =>
    intro i L t' t1 hi
    cases i with
    | zero =>
      simp only [List.getElem?_cons_zero, Option.some.injEq, Prod.mk.injEq] at hi
      obtain ⟨rfl, rfl, rfl⟩ := hi
      exact .inl ⟨rfl, fun j _ _ _ hj => by omega⟩
    | succ i =>
      simp only [List.getElem?_cons_succ] at hi
      rcases ih i L t' t1 hi with ⟨q1, q2⟩ | ⟨j, L', u, u1, q1, q2, q3, q4, q5⟩
      · cases hw : L0.wB k with
        | false =>
          refine .inl ⟨by rw [q1, hv k hw], ?_⟩
          intro j L' u u1 hj hl
          cases j with
          | zero =>
            simp only [List.getElem?_cons_zero, Option.some.injEq, Prod.mk.injEq] at hl
            obtain ⟨rfl, _⟩ := hl
            exact hw
          | succ j => simp only [List.getElem?_cons_succ] at hl; exact q2 j L' u u1 (by omega) hl
        | true =>
          refine .inr ⟨0, L0, s, s1, by omega, rfl, hw, q1, ?_⟩
          intro j' L'' u' u1' h1 h2 hl
          cases j' with
          | zero => omega
          | succ j' => simp only [List.getElem?_cons_succ] at hl; exact q2 j' L'' u' u1' (by omega) hl
      · refine .inr ⟨j + 1, L', u, u1, by omega, by simpa using q2, q3, q4, ?_⟩
        intro j' L'' u' u1' h1 h2 hl
        cases j' with
        | zero => omega
        | succ j' => simp only [List.getElem?_cons_succ] at hl; exact q5 j' L'' u' u1' (by omega) (by omega) hl

theorem Run.end_key {P : Program} {C : Ctx} {N : Nat} {ops : Array Oper} {os : List Oper} {s s2 : S} {l : List (Log × S × S)} (h : Run P C N ops os s l s2) (k : Key) :
      (view s2 k = view s k ∧ ∀ (j : Nat) (L' : Log) (u u1 : S), l[j]? = some (L', u, u1) → L'.wB k = false) ∨
      (∃ (j : Nat) (L' : Log) (u u1 : S), l[j]? = some (L', u, u1) ∧ L'.wB k = true ∧ view s2 k = view u1 k ∧ ∀ (j' : Nat) (L'' : Log) (u' u1' : S), j < j' → l[j']? = some (L'', u', u1') → L''.wB k = false) := by
  induction h with
  | nil => exact .inl ⟨rfl, fun j _ _ _ hj => by simp at hj⟩
  | @cons o os s s1 s2 L0 l h hv hn hi0 t ih =>
    rcases ih with ⟨q1, q2⟩ | ⟨j, L', u, u1, q2, q3, q4, q5⟩
    · cases hw : L0.wB k with
      | false =>
        refine .inl ⟨by rw [q1, hv k hw], ?_⟩
        intro j L' u u1 hl
        cases j with
        | zero =>
          simp only [List.getElem?_cons_zero, Option.some.injEq, Prod.mk.injEq] at hl
          obtain ⟨rfl, _⟩ := hl
          exact hw
        | succ j => simp only [List.getElem?_cons_succ] at hl; exact q2 j L' u u1 hl
      | true =>
        refine .inr ⟨0, L0, s, s1, rfl, hw, q1, ?_⟩
        intro j' L'' u' u1' h1 hl
        cases j' with
        | zero => omega
        | succ j' => simp only [List.getElem?_cons_succ] at hl; exact q2 j' L'' u' u1' hl
    · refine .inr ⟨j + 1, L', u, u1, by simpa using q2, q3, q4, ?_⟩
      intro j' L'' u' u1' h1 hl
      cases j' with
      | zero => omega
      | succ j' => simp only [List.getElem?_cons_succ] at hl; exact q5 j' L'' u' u1' (by omega) hl

/-- How many are still to come. -/
def leftN (n : Nat) (listed : Array Bool) : Nat := ((List.range n).filter fun i => !listed.getD i true).length

theorem leftN_set {n : Nat} {listed : Array Bool} {i : Nat} (hi : i < n) (hl : listed.getD i true = false) : leftN n (listed.setIfInBounds i true) < leftN n listed := by
  unfold leftN
  have hsize : i < listed.size := by
    rcases Nat.lt_or_ge i listed.size with h | h
    · exact h
    · simp [Array.getD_eq_getD_getElem?, Array.getElem?_eq_none h] at hl
  have hget : ∀ j, (listed.setIfInBounds i true).getD j true = if j = i then true else listed.getD j true := by
    intro j
    simp only [Array.getD_eq_getD_getElem?, Array.getElem?_setIfInBounds]
    by_cases h : i = j
    · subst h; simp [hsize]
    · simp [h, Ne.symm h]
  have h1 : ((List.range n).filter fun j => !(listed.setIfInBounds i true).getD j true) = ((List.range n).filter fun j => !listed.getD j true).filter (fun j => j != i) := by
    rw [List.filter_filter]
    congr 1
    funext j
    rw [hget]
    by_cases h : j = i
    · simp [h]
    · simp [h]
  rw [h1]
  have hm : i ∈ (List.range n).filter fun j => !listed.getD j true := by
    rw [List.mem_filter]
    exact ⟨List.mem_range.2 hi, by simp [hl]⟩
  have := List.length_filter_lt_length_iff_exists (p := fun j => j != i) (l := (List.range n).filter fun j => !listed.getD j true)
  exact this.2 ⟨i, hm, by simp⟩

end Go.Ex
