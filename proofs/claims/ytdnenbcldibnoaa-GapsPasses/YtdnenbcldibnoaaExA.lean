/- Values that name memory blocks of their own, and what concrete values and worlds they stand for. No program in sight. -/
import Derived.Test.YtdnenbcldibnoaaOwnA
import Derived.RangeFuncRecord
namespace Go.Ex
open Go.Own (A Still cellAt Rep Lies)

/-- Data: 'lit' is a concrete value; 'ptr', 'sl', 'mp', 'yl' name blocks (of a slice: block, offset in cells, cells of an element, length, capacity or none: up to the block's end, which is not known); 'tr' is data in memory that is written no more; 'un' is not known. -/
inductive V where
  | lit (v : Value)
  | fn (f : Nat) (caps : List V)
  | yl (l : Nat)
  | ptr (b o : Nat)
  | sl (b o z n : Nat) (c : Option Nat)
  | mp (b : Nat)
  | ifc (t : Nat) (v : V)
  | agg (xs : List V)
  | tup (xs : List V)
  | tr (a : A)
  | un

/-- Where a block lies: the concrete block, the offset in it, and its size. -/
structure Loc where
  B : Nat
  O : Nat
  Z : Nat

abbrev Pl := Nat → Option Loc

mutual
def VR (S : Still) (ρ : Pl) : V → Value → Prop
  | .lit v, u => u = v
  | .fn f caps, u => ∃ vs, VRs S ρ caps vs ∧ u = .func (.func f) #[] vs.toArray
  | .yl l, u => ∃ p, ρ l = some p ∧ u = .func (.yield p.B) #[] #[]
  | .ptr b o, u => ∃ p, ρ b = some p ∧ u = .pointer (some ⟨p.B, p.O + o, none⟩)
  | .sl b o z n c, u => ∃ p o' c', ρ b = some p ∧ u = .slice (some ⟨p.B, o', none⟩) n c' ∧ n ≤ c' ∧ (c' ≠ 0 → o' = p.O + o) ∧ (match c with | some k => c' = k | none => p.O + o + c' * z = p.Z)
  | .mp b, u => ∃ p, ρ b = some p ∧ u = .map (some p.B)
  | .ifc t x, u => ∃ v, VR S ρ x v ∧ u = .iface t v
  | .agg xs, u => ∃ vs, VRs S ρ xs vs ∧ u = .agg vs.toArray
  | .tup xs, u => ∃ vs, VRs S ρ xs vs ∧ u = .tuple vs.toArray
  | .tr a, u => Rep S a [u]
  | .un, _ => True
def VRs (S : Still) (ρ : Pl) : List V → List Value → Prop
  | [], vs => vs = []
  | x :: xs, vs => ∃ v us, vs = v :: us ∧ VR S ρ x v ∧ VRs S ρ xs us
end

def oneV : V → Bool
  | .lit v => v.oneCell'
  | .agg _ | .tup _ | .un => false
  | _ => true

def Pl.le (ρ ρ' : Pl) : Prop := ∀ i p, ρ i = some p → ρ' i = some p
theorem Pl.le_refl (ρ : Pl) : Pl.le ρ ρ := fun _ _ h => h
theorem Pl.le_trans {ρ ρ' ρ'' : Pl} (h : Pl.le ρ ρ') (h' : Pl.le ρ' ρ'') : Pl.le ρ ρ'' := fun i p q => h' i p (h i p q)

mutual
theorem VR.mono {S : Still} {ρ ρ' : Pl} (h : Pl.le ρ ρ') : ∀ {x : V} {v : Value}, VR S ρ x v → VR S ρ' x v
  | .lit _, _, r => by simpa only [VR] using r
  | .fn _ caps, _, r => by simp only [VR] at r ⊢; obtain ⟨vs, h1, h2⟩ := r; exact ⟨vs, VRs.mono h h1, h2⟩
  | .yl _, _, r => by simp only [VR] at r ⊢; obtain ⟨p, h1, h2⟩ := r; exact ⟨p, h _ _ h1, h2⟩
  | .ptr _ _, _, r => by simp only [VR] at r ⊢; obtain ⟨p, h1, h2⟩ := r; exact ⟨p, h _ _ h1, h2⟩
  | .sl _ _ _ _ _, _, r => by simp only [VR] at r ⊢; obtain ⟨p, o', c', h1, h2⟩ := r; exact ⟨p, o', c', h _ _ h1, h2⟩
  | .mp _, _, r => by simp only [VR] at r ⊢; obtain ⟨p, h1, h2⟩ := r; exact ⟨p, h _ _ h1, h2⟩
  | .ifc _ x, _, r => by simp only [VR] at r ⊢; obtain ⟨v, h1, h2⟩ := r; exact ⟨v, VR.mono h h1, h2⟩
  | .agg xs, _, r => by simp only [VR] at r ⊢; obtain ⟨vs, h1, h2⟩ := r; exact ⟨vs, VRs.mono h h1, h2⟩
  | .tup xs, _, r => by simp only [VR] at r ⊢; obtain ⟨vs, h1, h2⟩ := r; exact ⟨vs, VRs.mono h h1, h2⟩
  | .tr _, _, r => by simpa only [VR] using r
  | .un, _, _ => by simp only [VR]
theorem VRs.mono {S : Still} {ρ ρ' : Pl} (h : Pl.le ρ ρ') : ∀ {xs : List V} {vs : List Value}, VRs S ρ xs vs → VRs S ρ' xs vs
  | [], _, r => by simpa only [VRs] using r
  | x :: xs, _, r => by
    simp only [VRs] at r ⊢
    obtain ⟨v, us, h1, h2, h3⟩ := r
    exact ⟨v, us, h1, VR.mono h h2, VRs.mono h h3⟩
end

section
variable {S : Still} {ρ : Pl}

theorem VR.one {x : V} {v : Value} (h : oneV x = true) (r : VR S ρ x v) : v.oneCell' = true := by
  cases x <;> simp only [oneV, Bool.false_eq_true] at h <;> simp only [VR] at r
  · subst r; exact h
  · obtain ⟨_, _, rfl⟩ := r; rfl
  · obtain ⟨_, _, rfl⟩ := r; rfl
  · obtain ⟨_, _, rfl⟩ := r; rfl
  · obtain ⟨_, _, _, _, rfl, _⟩ := r; rfl
  · obtain ⟨_, _, rfl⟩ := r; rfl
  · obtain ⟨_, _, rfl⟩ := r; rfl
  · exact r.one v (by simp)

theorem VRs.len : ∀ {xs : List V} {vs : List Value}, VRs S ρ xs vs → vs.length = xs.length
  | [], _, r => by simp only [VRs] at r; simp [r]
  | _ :: xs, _, r => by
    simp only [VRs] at r
    obtain ⟨v, us, rfl, _, h⟩ := r
    simp [VRs.len h]

theorem VRs.get : ∀ {xs : List V} {vs : List Value} {i : Nat} {x : V}, VRs S ρ xs vs → xs[i]? = some x → ∃ v, vs[i]? = some v ∧ VR S ρ x v
  | [], _, _, _, _, e => by simp at e
  | y :: xs, _, 0, x, r, e => by
    simp only [VRs] at r
    obtain ⟨v, us, rfl, h1, _⟩ := r
    simp only [List.getElem?_cons_zero, Option.some.injEq] at e ⊢
    subst e
    exact ⟨v, rfl, h1⟩
  | y :: xs, _, i + 1, x, r, e => by
    simp only [VRs] at r
    obtain ⟨v, us, rfl, _, h2⟩ := r
    simp only [List.getElem?_cons_succ] at e ⊢
    exact VRs.get h2 e

theorem VRs.of_get : ∀ {xs : List V} {vs : List Value}, vs.length = xs.length → (∀ (i : Nat) (x : V), xs[i]? = some x → ∃ v, vs[i]? = some v ∧ VR S ρ x v) → VRs S ρ xs vs
  | [], vs, hl, _ => by
    simp only [VRs]
    exact List.length_eq_zero_iff.1 hl
  | x :: xs, [], hl, _ => by simp at hl
  | x :: xs, v :: vs, hl, h => by
    simp only [VRs]
    refine ⟨v, vs, rfl, ?_, VRs.of_get (by simpa using hl) fun i y hy => ?_⟩
    · obtain ⟨u, h1, h2⟩ := h 0 x rfl
      simp only [List.getElem?_cons_zero, Option.some.injEq] at h1
      exact h1 ▸ h2
    · obtain ⟨u, h1, h2⟩ := h (i + 1) y (by simpa using hy)
      exact ⟨u, by simpa using h1, h2⟩

theorem VRs.append {xs ys : List V} {vs us : List Value} (h1 : VRs S ρ xs vs) (h2 : VRs S ρ ys us) : VRs S ρ (xs ++ ys) (vs ++ us) := by
  induction xs generalizing vs with
  | nil => simp only [VRs] at h1; subst h1; exact h2
  | cons x xs ih =>
    simp only [VRs] at h1
    obtain ⟨v, ws, rfl, q1, q2⟩ := h1
    simp only [List.cons_append, VRs]
    exact ⟨v, ws ++ us, rfl, q1, ih q2⟩

theorem VRs.lits : ∀ (vs : List Value), VRs S ρ (vs.map .lit) vs
  | [] => by simp [VRs]
  | v :: vs => by simp only [List.map_cons, VRs]; exact ⟨v, vs, rfl, by simp [VR], VRs.lits vs⟩

theorem VRs.take {xs : List V} {vs : List Value} (h : VRs S ρ xs vs) (n : Nat) : VRs S ρ (xs.take n) (vs.take n) := by
  refine VRs.of_get (by simp [h.len]) fun i x hx => ?_
  rw [List.getElem?_take] at hx ⊢
  split at hx
  · rename_i hi; rw [if_pos hi]; exact h.get hx
  · cases hx
theorem VRs.drop {xs : List V} {vs : List Value} (h : VRs S ρ xs vs) (n : Nat) : VRs S ρ (xs.drop n) (vs.drop n) := by
  refine VRs.of_get (by simp [h.len]) fun i x hx => ?_
  rw [List.getElem?_drop] at hx ⊢
  exact h.get hx

end

/-! ### States -/

inductive Key where
  | s (t : Nat)
  | b (i : Nat)
  | f (i : Nat)
  deriving DecidableEq

/-- A block of cells: what is known of them from its begin on; whether these are all that it has; its family (blocks that may share memory) and its place in it. -/
structure Blk where
  cells : List V
  ex : Bool
  fam : Nat
  foff : Nat

/-- A loop over an iterator that is under way: the frame at its begin. -/
structure Lp where
  fr : List V
  params : List Nat
  assign : Code
  body : Code
  ready : Bool
  pend : Option Code

/-- The blocks of a family, and a bound of their ids. -/
structure Fam where
  top : Nat
  l : List Nat

def Fam.has (f : Fam) (b : Nat) : Prop := b ∈ f.l ∧ b < f.top

inductive X where
  | z
  | v (x : V)
  | k (k : Blk)
  | mp (es : List (Value × V))
  | lp (r : Lp)
  | m (f : Fam)

def X.mem : X → Bool
  | .k _ | .mp _ | .lp _ => true
  | _ => false
def X.val : X → V
  | .v x => x
  | _ => .un

abbrev St := Key → X
def upd (st : St) (k : Key) (x : X) : St := fun j => if j = k then x else st j
theorem upd_same (st : St) (k : Key) (x : X) : upd st k x k = x := by simp [upd]
theorem upd_ne (st : St) {k j : Key} (x : X) (h : j ≠ k) : upd st k x j = st j := by simp [upd, h]

abbrev Ups := List (Key × X)
def applyU : Ups → St → St
  | [], st => st
  | u :: us, st => applyU us (upd st u.1 u.2)

def EM (α : Type) := St → Option (α × List Key × Ups)
def EM.bind {α β : Type} (m : EM α) (f : α → EM β) : EM β := fun st =>
  match m st with
  | none => none
  | some (a, R, U) =>
    match f a (applyU U st) with
    | none => none
    | some (b, R', U') => some (b, R ++ R', U ++ U')
def EM.pure {α : Type} (a : α) : EM α := fun _ => some (a, [], [])
instance : Monad EM := { pure := EM.pure, bind := EM.bind }
def efail {α : Type} : EM α := fun _ => none
def rdX (k : Key) : EM X := fun st => some (st k, [k], [])
def wrX (k : Key) (x : X) : EM Unit := fun _ => some ((), [], [(k, x)])
def ofO {α : Type} (x : Option α) : EM α := fun _ => match x with | some a => some (a, [], []) | none => none

theorem applyU_append (us vs : Ups) (st : St) : applyU (us ++ vs) st = applyU vs (applyU us st) := by
  induction us generalizing st with
  | nil => rfl
  | cons u us ih => simp [applyU, ih]

theorem bind_some {α β : Type} {m : EM α} {f : α → EM β} {st : St} {b : β} {R : List Key} {U : Ups} (h : (m >>= f) st = some (b, R, U)) :
    ∃ a R1 U1 R2 U2, m st = some (a, R1, U1) ∧ f a (applyU U1 st) = some (b, R2, U2) ∧ R = R1 ++ R2 ∧ U = U1 ++ U2 := by
  change EM.bind m f st = _ at h
  unfold EM.bind at h
  split at h
  · cases h
  · rename_i a R1 U1 h1
    split at h
    · cases h
    · rename_i b' R2 U2 h2
      simp only [Option.some.injEq, Prod.mk.injEq] at h
      obtain ⟨rfl, rfl, rfl⟩ := h
      exact ⟨a, R1, U1, R2, U2, h1, h2, rfl, rfl⟩

theorem pure_some {α : Type} {a b : α} {st : St} {R : List Key} {U : Ups} (h : (pure a : EM α) st = some (b, R, U)) : b = a ∧ R = [] ∧ U = [] := by
  change EM.pure a st = _ at h
  simp only [EM.pure, Option.some.injEq, Prod.mk.injEq] at h
  exact ⟨h.1.symm, h.2.1.symm, h.2.2.symm⟩

theorem rdX_some {k : Key} {st : St} {x : X} {R : List Key} {U : Ups} (h : rdX k st = some (x, R, U)) : x = st k ∧ R = [k] ∧ U = [] := by
  simp only [rdX, Option.some.injEq, Prod.mk.injEq] at h
  exact ⟨h.1.symm, h.2.1.symm, h.2.2.symm⟩

theorem wrX_some {k : Key} {x : X} {st : St} {u : Unit} {R : List Key} {U : Ups} (h : wrX k x st = some (u, R, U)) : R = [] ∧ U = [(k, x)] := by
  simp only [wrX, Option.some.injEq, Prod.mk.injEq] at h
  exact ⟨h.2.1.symm, h.2.2.symm⟩

theorem ofO_some {α : Type} {x : Option α} {a : α} {st : St} {R : List Key} {U : Ups} (h : ofO x st = some (a, R, U)) : x = some a ∧ R = [] ∧ U = [] := by
  unfold ofO at h
  split at h
  · simp only [Option.some.injEq, Prod.mk.injEq] at h
    exact ⟨by simp [*], h.2.1.symm, h.2.2.symm⟩
  · cases h

theorem efail_some {α : Type} {a : α} {st : St} {R : List Key} {U : Ups} (h : (efail : EM α) st = some (a, R, U)) : False := by
  simp [efail] at h

/-! ### What a state stands for -/

/-- World and still cells at the call's begin; and the blocks that the call may turn. -/
structure Ctx where
  w0 : World
  S : Still
  M : Nat → Prop

structure Kept (M : Nat → Prop) (w w' : World) : Prop where
  os : w'.os = w.os
  tape : w'.tape = w.tape
  output : w'.output = w.output
  size : w.heap.size ≤ w'.heap.size
  block : ∀ k, ¬ M k → w'.heap[k]? = w.heap[k]?

theorem Kept.refl (M : Nat → Prop) (w : World) : Kept M w w := ⟨rfl, rfl, rfl, Nat.le_refl _, fun _ _ => rfl⟩
theorem Kept.trans {M : Nat → Prop} {a b c : World} (h : Kept M a b) (k : Kept M b c) : Kept M a c :=
  ⟨k.os.trans h.os, k.tape.trans h.tape, k.output.trans h.output, Nat.le_trans h.size k.size, fun i hi => (k.block i hi).trans (h.block i hi)⟩
theorem Kept.mono {M M' : Nat → Prop} {w w' : World} (h : Kept M w w') (hM : ∀ k, M k → M' k) : Kept M' w w' := ⟨h.os, h.tape, h.output, h.size, fun k hk => h.block k fun q => hk (hM k q)⟩
theorem Kept.drew {M : Nat → Prop} {a w : World} (h : Kept M a w) : Kept M a w.drew := ⟨h.os, h.tape, h.output, h.size, h.block⟩
theorem Kept.alloc {M : Nat → Prop} {a w : World} (h : Kept M a w) (hM : M w.heap.size) (o : Obj) : Kept M a (w.alloc o) :=
  h.trans ⟨rfl, rfl, rfl, by simp, fun k hk => by
    show (w.heap.push o)[k]? = _
    rw [Array.getElem?_push, if_neg (by rintro rfl; exact hk hM)]⟩

def CellOk (S : Still) (ρ : Pl) (x : V) (v : Value) : Prop := VR S ρ x v ∧ v.oneCell' = true

def BlkOk (S : Still) (ρ : Pl) (h : Array Obj) (k : Blk) (p : Loc) : Prop :=
  ∃ arr ty, h[p.B]? = some (.cells arr ty (0, 0)) ∧ p.Z = arr.size ∧ p.O + k.cells.length ≤ arr.size ∧ (k.ex = true → p.O + k.cells.length = p.Z) ∧ ∀ i x, k.cells[i]? = some x → ∃ v, arr[p.O + i]? = some v ∧ CellOk S ρ x v

def MapOk (S : Still) (ρ : Pl) (h : Array Obj) (es : List (Value × V)) (p : Loc) : Prop :=
  ∃ ents clock, h[p.B]? = some (.map ents clock) ∧ ents.toList.map (·.key) = es.map (·.1) ∧ VRs S ρ (es.map (·.2)) (ents.toList.map (·.val))

def LpOk (S : Still) (ρ : Pl) (h : Array Obj) (r : Lp) (p : Loc) : Prop :=
  ∃ q : Loop, h[p.B]? = some (.loop q) ∧ VRs S ρ r.fr q.tmps.toList ∧ q.params.toList = r.params ∧ q.assign = r.assign ∧ q.body = r.body ∧ q.pending = r.pend ∧ q.state = (if r.ready = true then .ready else .done)

def XOk (S : Still) (ρ : Pl) (h : Array Obj) (x : X) (p : Loc) : Prop :=
  match x with
  | .k k => BlkOk S ρ h k p
  | .mp es => MapOk S ρ h es p
  | .lp r => LpOk S ρ h r p
  | _ => True

/-- The memory is as the state says. -/
structure HSim (C : Ctx) (ρ : Pl) (st : St) (w : World) : Prop where
  ent : ∀ b, (st (.b b)).mem = true → ∃ p, ρ b = some p ∧ XOk C.S ρ w.heap (st (.b b)) p
  dis : ∀ b b' p p', b ≠ b' → (st (.b b)).mem = true → (st (.b b')).mem = true → ρ b = some p → ρ b' = some p' → p.B = p'.B →
    ∃ k k', st (.b b) = .k k ∧ st (.b b') = .k k' ∧ k.fam = k'.fam ∧ p.O + k'.foff = p'.O + k.foff
  fam : ∀ b k, st (.b b) = .k k → ((∃ p, ρ k.fam = some p) ∧ k.fam ≤ b) ∧ ∃ l, st (.f k.fam) = .m l ∧ l.has b
  base : ∀ b p, (st (.b b)).mem = true → ρ b = some p → C.M p.B
  lt : ∀ b p, ρ b = some p → p.B < w.heap.size
  still : ∀ B o v, C.S B o = some v → cellAt w.heap B o = some v
  sfree : ∀ B o v, C.S B o = some v → ¬ C.M B
  kept : Kept C.M C.w0 w
  mine : ∀ B, C.w0.heap.size ≤ B → C.M B

def Act.tv (a : Act) (t : Nat) : Value := a.tmps.getD t undef

/-- The mark that a loop over an iterator leaves. -/
def mark (D : Nat) : Deferred := { target := .collected D, args := #[] }

/-- The frame is as the state says. -/
structure FSim (C : Ctx) (N : Nat) (ρ : Pl) (st : St) (a : Act) (w : World) (Ds : List Nat) : Prop where
  size : a.tmps.size = N
  slot : ∀ t, VR C.S ρ (st (.s t)).val (Act.tv a t)
  defers : a.defers = Ds.map mark
  dn : Ds.Nodup
  dm : ∀ D ∈ Ds, C.M D ∧ w.heap[D]? = some (.deferred (some []))
  dx : ∀ D ∈ Ds, ∀ b p, (st (.b b)).mem = true → ρ b = some p → p.B ≠ D

structure Sim (C : Ctx) (N : Nat) (ρ : Pl) (st : St) (a : Act) (w : World) (Ds : List Nat) : Prop where
  h : HSim C ρ st w
  f : FSim C N ρ st a w Ds

theorem XOk.mem_world {S : Still} {ρ : Pl} {h h' : Array Obj} {x : X} {p : Loc} (hh : h'[p.B]? = h[p.B]?) (r : XOk S ρ h x p) : XOk S ρ h' x p := by
  cases x <;> simp only [XOk, BlkOk, MapOk, LpOk] at r ⊢ <;> first | trivial | (rw [hh]; exact r)

theorem XOk.mono {S : Still} {ρ ρ' : Pl} (hp : Pl.le ρ ρ') {h : Array Obj} {x : X} {p : Loc} (r : XOk S ρ h x p) : XOk S ρ' h x p := by
  cases x with
  | k k =>
    simp only [XOk, BlkOk] at r ⊢
    obtain ⟨arr, ty, h1, h2, h3, h4, h5⟩ := r
    exact ⟨arr, ty, h1, h2, h3, h4, fun i x hx => let ⟨v, q1, q2⟩ := h5 i x hx; ⟨v, q1, q2.1.mono hp, q2.2⟩⟩
  | mp es =>
    simp only [XOk, MapOk] at r ⊢
    obtain ⟨e, c, h1, h2, h3⟩ := r
    exact ⟨e, c, h1, h2, h3.mono hp⟩
  | lp q =>
    simp only [XOk, LpOk] at r ⊢
    obtain ⟨q, h1, h2, h3⟩ := r
    exact ⟨q, h1, h2.mono hp, h3⟩
  | _ => trivial

end Go.Ex

namespace Go.Ex
open Go.Own (A Still cellAt Rep Lies)

/-- The array with these cells from o on. -/
def over (arr : Array Value) (o : Nat) (l : List Value) : Array Value := arr.mapIdx fun k v => (if o ≤ k then l[k - o]? else none).getD v
theorem over_get (arr : Array Value) (o : Nat) (l : List Value) (k : Nat) : (over arr o l)[k]? = arr[k]?.map fun v => (if o ≤ k then l[k - o]? else none).getD v := by
  simp [over, Array.getElem?_mapIdx]
@[simp] theorem over_size (arr : Array Value) (o : Nat) (l : List Value) : (over arr o l).size = arr.size := by simp [over]
theorem over_in {arr : Array Value} {o : Nat} {l : List Value} (h : o + l.length ≤ arr.size) {j : Nat} {v : Value} (hj : l[j]? = some v) : (over arr o l)[o + j]? = some v := by
  have hlt := (List.getElem?_eq_some_iff.1 hj).1
  rw [over_get, Array.getElem?_eq_getElem (by omega)]
  simp [show o + j - o = j from by omega, hj]
theorem over_out {arr : Array Value} {o : Nat} {l : List Value} {k : Nat} (h : k < o ∨ o + l.length ≤ k) : (over arr o l)[k]? = arr[k]? := by
  rw [over_get]
  by_cases ho : o ≤ k
  · have : l[k - o]? = none := List.getElem?_eq_none (by omega)
    simp [ho, this]
  · simp [ho]
theorem setRow_take_over {arr : Array Value} {o : Nat} {cs : List Value} (h : o + cs.length ≤ arr.size) : (arr.toList.take o ++ cs ++ arr.toList.drop (o + cs.length)).toArray = over arr o cs := by
  apply Array.ext_getElem?
  intro k
  rw [List.getElem?_toArray]
  have hl : (arr.toList.take o).length = o := by simp; omega
  by_cases h1 : k < o
  · rw [over_out (.inl h1), List.append_assoc, List.getElem?_append_left (by omega), List.getElem?_take, if_pos h1]
    simp
  · by_cases h2 : k < o + cs.length
    · have hj : cs[k - o]? = some cs[k - o] := List.getElem?_eq_getElem (by omega)
      have := over_in h hj
      rw [show o + (k - o) = k from by omega] at this
      rw [this, List.getElem?_append_left (by simp; omega), List.getElem?_append_right (by omega), hl, hj]
    · rw [over_out (.inr (by omega)), List.getElem?_append_right (by simp; omega)]
      simp only [List.length_append, hl, List.getElem?_drop]
      rw [show o + cs.length + (k - (o + cs.length)) = k from by omega]
      simp

def setP (ρ : Pl) (n : Nat) (p : Loc) : Pl := fun i => if i = n then some p else ρ i
theorem setP_same (ρ : Pl) (n : Nat) (p : Loc) : setP ρ n p n = some p := by simp [setP]
theorem setP_ne (ρ : Pl) {n i : Nat} (p : Loc) (h : i ≠ n) : setP ρ n p i = ρ i := by simp [setP, h]
theorem setP_le {ρ : Pl} {n : Nat} (p : Loc) (h : ρ n = none) : Pl.le ρ (setP ρ n p) := fun i q hi => by
  by_cases e : i = n
  · subst e; rw [h] at hi; cases hi
  · rw [setP_ne _ _ e]; exact hi

/-- Nothing but places of ids from lo up to hi is new. -/
def Ext (lo hi : Nat) (ρ ρ' : Pl) : Prop := Pl.le ρ ρ' ∧ ∀ i, (i < lo ∨ hi ≤ i) → ρ' i = ρ i
theorem Ext.refl (lo hi : Nat) (ρ : Pl) : Ext lo hi ρ ρ := ⟨Pl.le_refl ρ, fun _ _ => rfl⟩
theorem Ext.trans {lo hi : Nat} {ρ ρ' ρ'' : Pl} (h : Ext lo hi ρ ρ') (h' : Ext lo hi ρ' ρ'') : Ext lo hi ρ ρ'' := ⟨Pl.le_trans h.1 h'.1, fun i hi => (h'.2 i hi).trans (h.2 i hi)⟩
theorem Ext.mono {lo hi lo' hi' : Nat} {ρ ρ' : Pl} (h : Ext lo hi ρ ρ') (h1 : lo' ≤ lo) (h2 : hi ≤ hi') : Ext lo' hi' ρ ρ' := ⟨h.1, fun i hi => h.2 i (by omega)⟩
theorem Ext.set {ρ : Pl} {n hi : Nat} (p : Loc) (h : ρ n = none) (hn : n < hi) : Ext n hi ρ (setP ρ n p) := ⟨setP_le p h, fun i hi => setP_ne _ _ (by omega)⟩

theorem hao (w : World) (o : Obj) (k : Nat) (h : k < w.heap.size) : (w.alloc o).heap[k]? = w.heap[k]? := Go.RowKit.Below.heap_alloc w o k h

theorem cell_alloc {w : World} {B o : Nat} {v : Value} (h : cellAt w.heap B o = some v) (x : Obj) : cellAt (w.alloc x).heap B o = some v := by
  unfold cellAt at h ⊢
  have : B < w.heap.size := by
    rcases Nat.lt_or_ge B w.heap.size with h1 | h1
    · exact h1
    · rw [Array.getElem?_eq_none h1] at h; cases h
  rw [hao w x B this]; exact h

theorem HSim.congr {C : Ctx} {ρ : Pl} {st st' : St} {w : World} (h : HSim C ρ st w) (hb : ∀ i, st' (.b i) = st (.b i)) (hf : ∀ i, st' (.f i) = st (.f i)) : HSim C ρ st' w where
  ent := fun b q => by rw [hb] at q ⊢; exact h.ent b q
  dis := fun b b' p p' h1 h2 h3 => by rw [hb] at h2 ⊢; rw [hb] at h3 ⊢; exact h.dis b b' p p' h1 h2 h3
  fam := fun b k q => by rw [hb] at q; rw [hf]; exact h.fam b k q
  base := fun b p q => by rw [hb] at q; exact h.base b p q
  lt := h.lt
  still := h.still
  sfree := h.sfree
  kept := h.kept
  mine := h.mine

theorem HSim.drew {C : Ctx} {ρ : Pl} {st : St} {w : World} (h : HSim C ρ st w) : HSim C ρ st w.drew :=
  ⟨h.ent, h.dis, h.fam, h.base, h.lt, h.still, h.sfree, h.kept.drew, h.mine⟩

theorem Sim.drew {C : Ctx} {N : Nat} {ρ : Pl} {st : St} {a : Act} {w : World} {Ds : List Nat} (h : Sim C N ρ st a w Ds) : Sim C N ρ st a w.drew Ds :=
  ⟨h.h.drew, ⟨h.f.size, h.f.slot, h.f.defers, h.f.dn, h.f.dm, h.f.dx⟩⟩

theorem Act.tv_put (a : Act) (k : Nat) (v : Value) (hk : k < a.tmps.size) (t : Nat) : Act.tv (a.put (some k) v) t = if t = k then v else Act.tv a t := by
  simp only [Act.tv, Go.Act.put, Array.getD_eq_getD_getElem?, Array.getElem?_setIfInBounds]
  by_cases h : t = k
  · subst h; simp [hk]
  · simp [h, Ne.symm h]

/-- A slot is written. -/
theorem Sim.put {C : Ctx} {N : Nat} {ρ : Pl} {st : St} {a : Act} {w : World} {Ds : List Nat} (h : Sim C N ρ st a w Ds) {k : Nat} (hk : k < N) {x : V} {v : Value} (hx : VR C.S ρ x v) : Sim C N ρ (upd st (.s k) (.v x)) (a.put (some k) v) w Ds where
  h := h.h.congr (fun i => upd_ne _ _ (by simp)) (fun i => upd_ne _ _ (by simp))
  f := {
    size := by simp [Go.Act.put, h.f.size]
    slot := fun t => by
      rw [Act.tv_put a k v (h.f.size ▸ hk)]
      by_cases e : t = k
      · subst e; rw [upd_same, if_pos rfl]; exact hx
      · rw [upd_ne _ _ (by simpa using e), if_neg e]; exact h.f.slot t
    defers := h.f.defers
    dn := h.f.dn
    dm := h.f.dm
    dx := fun D hD b p q => by rw [upd_ne _ _ (by simp)] at q; exact h.f.dx D hD b p q }

/-- The frame, where the memory turns. -/
theorem FSim.step {C : Ctx} {N : Nat} {ρ ρ' : Pl} {st st' : St} {a : Act} {w w' : World} {Ds : List Nat} (h : FSim C N ρ st a w Ds) (hp : Pl.le ρ ρ') (hs : ∀ t, st' (.s t) = st (.s t))
    (hw : ∀ D ∈ Ds, w'.heap[D]? = w.heap[D]?) (hx : ∀ D ∈ Ds, ∀ b p, (st' (.b b)).mem = true → ρ' b = some p → p.B ≠ D) : FSim C N ρ' st' a w' Ds where
  size := h.size
  slot := fun t => by rw [hs]; exact (h.slot t).mono hp
  defers := h.defers
  dn := h.dn
  dm := fun D hD => ⟨(h.dm D hD).1, by rw [hw D hD]; exact (h.dm D hD).2⟩
  dx := hx

theorem FSim.lt {C : Ctx} {N : Nat} {ρ : Pl} {st : St} {a : Act} {w : World} {Ds : List Nat} (h : FSim C N ρ st a w Ds) {D : Nat} (hD : D ∈ Ds) : D < w.heap.size := (Array.getElem?_eq_some_iff.1 (h.dm D hD).2).1

/-- A new block. -/
theorem HSim.new {C : Ctx} {ρ : Pl} {st : St} {w : World} (h : HSim C ρ st w) {n : Nat} (hn : ρ n = none) (o : Obj) (x : X) (Z : Nat) (hx : XOk C.S (setP ρ n ⟨w.heap.size, 0, Z⟩) (w.alloc o).heap x ⟨w.heap.size, 0, Z⟩)
    {st' : St} (hb : ∀ i, st' (.b i) = if i = n then x else st (.b i)) (hf : ∀ b k, st (.b b) = .k k → ∃ l, st' (.f k.fam) = .m l ∧ l.has b)
    (hfx : ∀ k, x = .k k → ((∃ p, setP ρ n ⟨w.heap.size, 0, Z⟩ k.fam = some p) ∧ k.fam ≤ n) ∧ ∃ l, st' (.f k.fam) = .m l ∧ l.has n) : HSim C (setP ρ n ⟨w.heap.size, 0, Z⟩) st' (w.alloc o) := by
  have hle := setP_le (ρ := ρ) (⟨w.heap.size, 0, Z⟩ : Loc) hn
  have old : ∀ b p, b ≠ n → setP ρ n ⟨w.heap.size, 0, Z⟩ b = some p → ρ b = some p ∧ p.B < w.heap.size := by
    intro b p hbn hp
    rw [setP_ne _ _ hbn] at hp
    exact ⟨hp, h.lt b p hp⟩
  refine ⟨?_, ?_, ?_, ?_, ?_, fun B o' v hB => cell_alloc (h.still B o' v hB) o, h.sfree, h.kept.alloc (h.mine _ h.kept.size) o, h.mine⟩
  · intro b q
    rw [hb] at q ⊢
    by_cases e : b = n
    · subst e
      simp only [if_true] at q ⊢
      exact ⟨_, setP_same _ _ _, hx⟩
    · simp only [e, if_false] at q ⊢
      obtain ⟨p, h1, h2⟩ := h.ent b q
      exact ⟨p, hle _ _ h1, (h2.mono hle).mem_world (hao w o _ (h.lt b p h1))⟩
  · intro b b' p p' hbb h1 h2 h3 h4 h5
    rw [hb] at h1 ⊢
    rw [hb] at h2 ⊢
    by_cases e : b = n
    · subst e
      rw [setP_same] at h3
      cases h3
      have := old b' p' (Ne.symm hbb) h4
      simp only at h5
      omega
    · by_cases e' : b' = n
      · subst e'
        rw [setP_same] at h4
        cases h4
        have := old b p hbb h3
        simp only at h5
        omega
      · simp only [e, e', if_false] at h1 h2 ⊢
        exact h.dis b b' p p' hbb h1 h2 (old b p e h3).1 (old b' p' e' h4).1 h5
  · intro b k q
    rw [hb] at q
    by_cases e : b = n
    · subst e
      simp only [if_true] at q
      exact hfx k q
    · simp only [e, if_false] at q
      obtain ⟨⟨⟨p, h1⟩, h2⟩, _⟩ := h.fam b k q
      exact ⟨⟨⟨p, hle _ _ h1⟩, h2⟩, hf b k q⟩
  · intro b p q hp
    rw [hb] at q
    by_cases e : b = n
    · subst e
      rw [setP_same] at hp
      cases hp
      exact h.mine _ h.kept.size
    · simp only [e, if_false] at q
      exact h.base b p q (old b p e hp).1
  · intro b p hp
    by_cases e : b = n
    · subst e
      rw [setP_same] at hp
      cases hp
      simp
    · have := (old b p e hp).2
      simp; omega

theorem Sim.new {C : Ctx} {N : Nat} {ρ : Pl} {st : St} {a : Act} {w : World} {Ds : List Nat} (h : Sim C N ρ st a w Ds) {n : Nat} (hn : ρ n = none) (o : Obj) (x : X) (Z : Nat) (hx : XOk C.S (setP ρ n ⟨w.heap.size, 0, Z⟩) (w.alloc o).heap x ⟨w.heap.size, 0, Z⟩)
    {st' : St} (hb : ∀ i, st' (.b i) = if i = n then x else st (.b i)) (hs : ∀ t, st' (.s t) = st (.s t)) (hf : ∀ b k, st (.b b) = .k k → ∃ l, st' (.f k.fam) = .m l ∧ l.has b)
    (hfx : ∀ k, x = .k k → ((∃ p, setP ρ n ⟨w.heap.size, 0, Z⟩ k.fam = some p) ∧ k.fam ≤ n) ∧ ∃ l, st' (.f k.fam) = .m l ∧ l.has n) : Sim C N (setP ρ n ⟨w.heap.size, 0, Z⟩) st' a (w.alloc o) Ds := by
  refine ⟨h.h.new hn o x Z hx hb hf hfx, h.f.step (setP_le _ hn) hs (fun D hD => hao w o D (h.f.lt hD)) ?_⟩
  intro D hD b p q hp
  have hlt := h.f.lt hD
  rw [hb] at q
  by_cases e : b = n
  · subst e
    rw [setP_same] at hp
    cases hp
    show w.heap.size ≠ D
    omega
  · simp only [e, if_false] at q
    rw [setP_ne _ _ e] at hp
    exact h.f.dx D hD b p q hp

/-- A block of cells of which less is known. -/
def Wk (k k' : Blk) : Prop := k'.fam = k.fam ∧ k'.foff = k.foff ∧ k'.ex = k.ex ∧ k'.cells.length = k.cells.length ∧ ∀ (i : Nat) (x : V), k'.cells[i]? = some x → x = V.un ∨ k.cells[i]? = some x
theorem Wk.refl (k : Blk) : Wk k k := ⟨rfl, rfl, rfl, rfl, fun _ _ h => .inr h⟩
theorem Wk.trans {k k' k'' : Blk} (h : Wk k k') (h' : Wk k' k'') : Wk k k'' :=
  ⟨h'.1.trans h.1, h'.2.1.trans h.2.1, h'.2.2.1.trans h.2.2.1, h'.2.2.2.1.trans h.2.2.2.1, fun i x hx => (h'.2.2.2.2 i x hx).elim .inl (fun q => h.2.2.2.2 i x q)⟩

/-- The state knows less of cells; all else is the same. -/
structure Weak (st st' : St) : Prop where
  s : ∀ t, st' (.s t) = st (.s t)
  f : ∀ i, st' (.f i) = st (.f i)
  b : ∀ i, st' (.b i) = st (.b i) ∨ ∃ k k', st (.b i) = .k k ∧ st' (.b i) = .k k' ∧ Wk k k'

theorem Weak.refl (st : St) : Weak st st := ⟨fun _ => rfl, fun _ => rfl, fun _ => .inl rfl⟩
theorem Weak.trans {a b c : St} (h : Weak a b) (h' : Weak b c) : Weak a c where
  s := fun t => (h'.s t).trans (h.s t)
  f := fun t => (h'.f t).trans (h.f t)
  b := fun i => by
    rcases h'.b i with e | ⟨k, k', e1, e2, e3⟩
    · rw [e]; exact h.b i
    · rcases h.b i with d | ⟨j, j', d1, d2, d3⟩
      · exact .inr ⟨k, k', by rw [← d]; exact e1, e2, e3⟩
      · rw [d2] at e1; cases e1
        exact .inr ⟨j, k', d1, e2, d3.trans e3⟩
theorem Weak.mem {st st' : St} (h : Weak st st') (i : Nat) : (st' (.b i)).mem = (st (.b i)).mem := by
  rcases h.b i with e | ⟨k, k', e1, e2, _⟩
  · rw [e]
  · rw [e1, e2]; rfl
theorem Weak.blk {st st' : St} (h : Weak st st') {i : Nat} {k' : Blk} (e : st' (.b i) = .k k') : ∃ k, st (.b i) = .k k ∧ Wk k k' := by
  rcases h.b i with d | ⟨k, k2, e1, e2, e3⟩
  · exact ⟨k', by rw [← d]; exact e, Wk.refl _⟩
  · rw [e2] at e; cases e; exact ⟨k, e1, e3⟩

theorem HSim.weak {C : Ctx} {ρ : Pl} {st st' : St} {w : World} (h : HSim C ρ st w) (hw : Weak st st') : HSim C ρ st' w where
  ent := fun b q => by
    rw [hw.mem] at q
    obtain ⟨p, h1, h2⟩ := h.ent b q
    refine ⟨p, h1, ?_⟩
    rcases hw.b b with e | ⟨k, k', e1, e2, e3⟩
    · rw [e]; exact h2
    · rw [e1] at h2
      rw [e2]
      obtain ⟨arr, ty, q1, q2, q3, q4, q5⟩ := h2
      obtain ⟨f1, f2, f3, f4, f5⟩ := e3
      refine ⟨arr, ty, q1, q2, by omega, ?_, ?_⟩
      · intro hx; rw [f4]; exact q4 (f3 ▸ hx)
      · intro i x hx
        have hlt : i < k.cells.length := by rw [← f4]; exact (List.getElem?_eq_some_iff.1 hx).1
        obtain ⟨v, g1, g2⟩ := q5 i _ (List.getElem?_eq_getElem hlt)
        rcases f5 i x hx with rfl | hx
        · exact ⟨v, g1, by simp [VR], g2.2⟩
        · exact q5 i x hx
  dis := fun b b' p p' h1 h2 h3 h4 h5 h6 => by
    rw [hw.mem] at h2 h3
    obtain ⟨k, k', q1, q2, q3, q4⟩ := h.dis b b' p p' h1 h2 h3 h4 h5 h6
    have get : ∀ i k, st (.b i) = .k k → ∃ k', st' (.b i) = .k k' ∧ k'.fam = k.fam ∧ k'.foff = k.foff := by
      intro i k hk
      rcases hw.b i with e | ⟨j, j', e1, e2, e3⟩
      · exact ⟨k, by rw [e]; exact hk, rfl, rfl⟩
      · rw [hk] at e1; cases e1; exact ⟨j', e2, e3.1, e3.2.1⟩
    obtain ⟨j, g1, g2, g3⟩ := get b k q1
    obtain ⟨j', g4, g5, g6⟩ := get b' k' q2
    exact ⟨j, j', g1, g4, by rw [g2, g5, q3], by rw [g3, g6, q4]⟩
  fam := fun b k q => by
    obtain ⟨k0, h1, h2⟩ := hw.blk q
    rw [h2.1, hw.f]
    exact h.fam b k0 h1
  base := fun b p q => by rw [hw.mem] at q; exact h.base b p q
  lt := h.lt
  still := h.still
  sfree := h.sfree
  kept := h.kept
  mine := h.mine

theorem Sim.weak {C : Ctx} {N : Nat} {ρ : Pl} {st st' : St} {a : Act} {w : World} {Ds : List Nat} (h : Sim C N ρ st a w Ds) (hw : Weak st st') : Sim C N ρ st' a w Ds :=
  ⟨h.h.weak hw, h.f.step (Pl.le_refl _) hw.s (fun _ _ => rfl) (fun D hD b p q => by rw [hw.mem] at q; exact h.f.dx D hD b p q)⟩

/-- No other block of the family knows a cell there. -/
def Clean (st : St) (b fam lo hi : Nat) : Prop := ∀ m k, m ≠ b → st (.b m) = .k k → k.fam = fam → ∀ (i : Nat) (x : V), k.cells[i]? = some x → lo ≤ k.foff + i → k.foff + i < hi → x = V.un

def putL (l : List V) (o : Nat) (xs : List V) : List V := l.take o ++ xs ++ l.drop (o + xs.length)

theorem putL_get {l : List V} {o : Nat} {xs : List V} (ho : o ≤ l.length) (i : Nat) : (putL l o xs)[i]? = if i < o then l[i]? else if i < o + xs.length then xs[i - o]? else l[i]? := by
  unfold putL
  have hl : (l.take o).length = o := by simp; omega
  by_cases h1 : i < o
  · rw [if_pos h1, List.append_assoc, List.getElem?_append_left (by omega), List.getElem?_take, if_pos h1]
  · rw [if_neg h1]
    by_cases h2 : i < o + xs.length
    · rw [if_pos h2, List.getElem?_append_left (by simp; omega), List.getElem?_append_right (by omega), hl]
    · rw [if_neg h2, List.getElem?_append_right (by simp; omega)]
      simp only [List.length_append, hl, List.getElem?_drop]
      rw [show o + xs.length + (i - (o + xs.length)) = i from by omega]

theorem putL_length {l : List V} {o : Nat} {xs : List V} (ho : o ≤ l.length) : (putL l o xs).length = max l.length (o + xs.length) := by
  unfold putL
  simp only [List.length_append, List.length_take, List.length_drop]
  omega

theorem setRow_heap (w : World) (g : Nat) (cur cs : Array Value) (t : TypeId) (fz : Nat × Nat) (hg : w.heap[g]? = some (.cells cur t fz)) : (w.setRow g cs).heap[g]? = some (.cells cs t fz) := by
  unfold World.setRow
  simp [Array.getElem?_modify, hg]
theorem setRow_other (w : World) (g k : Nat) (cs : Array Value) (h : k ≠ g) : (w.setRow g cs).heap[k]? = w.heap[k]? := by
  unfold World.setRow
  simp [Array.getElem?_modify, Ne.symm h]
theorem setRow_size (w : World) (g : Nat) (cs : Array Value) : (w.setRow g cs).heap.size = w.heap.size := by
  unfold World.setRow
  simp

/-- Cells of a block are written; the block may be known further than before. -/
theorem Sim.store {C : Ctx} {N : Nat} {ρ : Pl} {st : St} {a : Act} {w : World} {Ds : List Nat} (h : Sim C N ρ st a w Ds) {b : Nat} {k : Blk} {p : Loc} (hk : st (.b b) = .k k) (hp : ρ b = some p) {arr : Array Value} {ty : TypeId} (harr : w.heap[p.B]? = some (.cells arr ty (0, 0)))
    {o : Nat} {xs : List V} {cs : List Value} (ho : o ≤ k.cells.length) (hfit : p.O + o + cs.length ≤ arr.size) (hex : k.ex = true → o + xs.length ≤ k.cells.length) (hr : VRs C.S ρ xs cs) (h1 : ∀ u ∈ cs, u.oneCell' = true) (hc : Clean st b k.fam (k.foff + o) (k.foff + o + xs.length)) :
    Sim C N ρ (upd st (.b b) (.k { k with cells := putL k.cells o xs })) a (w.setRow p.B (over arr (p.O + o) cs)) Ds := by
  have hlen := hr.len
  have hmem : (st (.b b)).mem = true := by rw [hk]; rfl
  have hmem' : ∀ i, ((upd st (.b b) (.k { k with cells := putL k.cells o xs })) (.b i)).mem = (st (.b i)).mem := by
    intro i
    by_cases e : i = b
    · subst e; rw [upd_same, hk]; rfl
    · rw [upd_ne _ _ (by simpa using e)]
  have hM := h.h.base b p hmem hp
  have hB : (w.setRow p.B (over arr (p.O + o) cs)).heap[p.B]? = some (.cells (over arr (p.O + o) cs) ty (0, 0)) := setRow_heap w p.B arr _ ty (0, 0) harr
  have hoth : ∀ B, B ≠ p.B → (w.setRow p.B (over arr (p.O + o) cs)).heap[B]? = w.heap[B]? := fun B hB => setRow_other w p.B B _ hB
  refine ⟨⟨?_, ?_, ?_, ?_, ?_, ?_, h.h.sfree, ?_, h.h.mine⟩, ?_⟩
  · intro i q
    rw [hmem'] at q
    by_cases e : i = b
    · subst e
      refine ⟨p, hp, ?_⟩
      rw [upd_same]
      obtain ⟨p', q1, q2⟩ := h.h.ent i q
      rw [hp] at q1; cases q1
      rw [hk] at q2
      obtain ⟨arr', ty', g1, g2, g3, g4, g5⟩ := q2
      rw [harr] at g1
      cases g1
      refine ⟨_, _, hB, by simpa using g2, ?_, ?_, ?_⟩
      · simp only [over_size, putL_length ho]; omega
      · intro hx
        have h2 := g4 hx
        have h3 := hex hx
        simp only [putL_length ho]
        omega
      · intro j x hx
        rw [putL_get ho] at hx
        by_cases c1 : j < o
        · rw [if_pos c1] at hx
          obtain ⟨v, f1, f2⟩ := g5 j x hx
          exact ⟨v, by rw [over_out (.inl (by omega))]; exact f1, f2⟩
        · rw [if_neg c1] at hx
          by_cases c2 : j < o + xs.length
          · rw [if_pos c2] at hx
            obtain ⟨v, f1, f2⟩ := hr.get hx
            refine ⟨v, ?_, f2, h1 v (List.mem_of_getElem? f1)⟩
            have := over_in (arr := arr) (o := p.O + o) (l := cs) (by omega) f1
            rw [show p.O + o + (j - o) = p.O + j from by omega] at this
            exact this
          · rw [if_neg c2] at hx
            obtain ⟨v, f1, f2⟩ := g5 j x hx
            exact ⟨v, by rw [over_out (.inr (by omega))]; exact f1, f2⟩
    · obtain ⟨p', q1, q2⟩ := h.h.ent i q
      refine ⟨p', q1, ?_⟩
      rw [upd_ne _ _ (by simpa using e)]
      by_cases hBB : p'.B = p.B
      · obtain ⟨ki, kb, d1, d2, d3, d4⟩ := h.h.dis i b p' p e q hmem q1 hp hBB
        rw [hk] at d2; cases d2
        rw [d1] at q2 ⊢
        obtain ⟨arr', ty', g1, g2, g3, g4, g5⟩ := q2
        rw [hBB, harr] at g1
        cases g1
        refine ⟨over arr (p.O + o) cs, ty, by rw [hBB]; exact hB, by simpa using g2, by simpa using g3, g4, ?_⟩
        intro j x hx
        obtain ⟨v, f1, f2⟩ := g5 j x hx
        by_cases c : p'.O + j < p.O + o ∨ p.O + o + cs.length ≤ p'.O + j
        · exact ⟨v, by rw [over_out c]; exact f1, f2⟩
        · have hun := hc i ki e d1 d3 j x hx (by omega) (by omega)
          subst hun
          have hj : cs[p'.O + j - (p.O + o)]? = some cs[p'.O + j - (p.O + o)] := List.getElem?_eq_getElem (by omega)
          refine ⟨cs[p'.O + j - (p.O + o)], ?_, by simp [VR], h1 _ (List.mem_of_getElem? hj)⟩
          have := over_in (arr := arr) (o := p.O + o) (l := cs) (by omega) hj
          rw [show p.O + o + (p'.O + j - (p.O + o)) = p'.O + j from by omega] at this
          exact this
      · exact q2.mem_world (hoth _ hBB)
  · intro i i' q q' g1 g2 g3 g4 g5 g6
    rw [hmem'] at g2 g3
    obtain ⟨k1, k2, f1, f2, f3, f4⟩ := h.h.dis i i' q q' g1 g2 g3 g4 g5 g6
    have get : ∀ i k', st (.b i) = .k k' → ∃ k'', upd st (.b b) (.k { k with cells := putL k.cells o xs }) (.b i) = .k k'' ∧ k''.fam = k'.fam ∧ k''.foff = k'.foff := by
      intro i k' hk'
      by_cases e : i = b
      · subst e; rw [hk] at hk'; cases hk'; exact ⟨_, upd_same _ _ _, rfl, rfl⟩
      · exact ⟨k', by rw [upd_ne _ _ (by simpa using e)]; exact hk', rfl, rfl⟩
    obtain ⟨j1, e1, e2, e3⟩ := get i k1 f1
    obtain ⟨j2, e4, e5, e6⟩ := get i' k2 f2
    exact ⟨j1, j2, e1, e4, by rw [e2, e5, f3], by rw [e3, e6, f4]⟩
  · intro i k' q
    rw [upd_ne _ _ (by simp)]
    by_cases e : i = b
    · subst e
      rw [upd_same] at q; cases q
      exact h.h.fam i k hk
    · rw [upd_ne _ _ (by simpa using e)] at q
      exact h.h.fam i k' q
  · intro i q g1
    rw [hmem'] at g1
    exact h.h.base i q g1
  · intro i q g
    rw [setRow_size]
    exact h.h.lt i q g
  · intro B o' v hS
    have hne : B ≠ p.B := by rintro rfl; exact h.h.sfree _ _ _ hS hM
    have := h.h.still B o' v hS
    unfold cellAt at this ⊢
    rw [hoth B hne]; exact this
  · exact h.h.kept.trans ⟨rfl, rfl, rfl, by rw [setRow_size]; exact Nat.le_refl _, fun B hB => hoth B (by rintro rfl; exact hB hM)⟩
  · refine h.f.step (Pl.le_refl _) (fun t => upd_ne _ _ (by simp)) ?_ ?_
    · intro D hD
      exact hoth D (by have := h.f.dx D hD b p hmem hp; exact Ne.symm this)
    · intro D hD i q g
      rw [hmem'] at g
      exact h.f.dx D hD i q g

/-- A second name for the end of a block. -/
theorem Sim.alias {C : Ctx} {N : Nat} {ρ : Pl} {st : St} {a : Act} {w : World} {Ds : List Nat} (h : Sim C N ρ st a w Ds) {b n : Nat} {k : Blk} {p : Loc} (hn : ρ n = none) (hk : st (.b b) = .k k) (hp : ρ b = some p) {l : Fam} (hl : st (.f k.fam) = .m l) (hfn : k.fam ≤ n) (hln : l.top ≤ n + 1)
    (o m : Nat) (hm : o + m ≤ k.cells.length) :
    Sim C N (setP ρ n ⟨p.B, p.O + o, p.Z⟩) (upd (upd st (.b n) (.k ⟨(k.cells.drop o).take m, false, k.fam, k.foff + o⟩)) (.f k.fam) (.m ⟨n + 1, n :: l.l⟩)) a w Ds := by
  have hle := setP_le (ρ := ρ) (⟨p.B, p.O + o, p.Z⟩ : Loc) hn
  have hmem : (st (.b b)).mem = true := by rw [hk]; rfl
  obtain ⟨p', q1, q2⟩ := h.h.ent b hmem
  rw [hp] at q1; cases q1
  rw [hk] at q2
  obtain ⟨arr, ty, g1, g2, g3, g4, g5⟩ := q2
  have hbn : b ≠ n := by rintro rfl; rw [hn] at hp; cases hp
  have hb : ∀ i, (upd (upd st (.b n) (.k ⟨(k.cells.drop o).take m, false, k.fam, k.foff + o⟩)) (.f k.fam) (.m ⟨n + 1, n :: l.l⟩)) (.b i) = if i = n then .k ⟨(k.cells.drop o).take m, false, k.fam, k.foff + o⟩ else st (.b i) := by
    intro i
    rw [upd_ne _ _ (by simp)]
    by_cases e : i = n
    · subst e; simp [upd_same]
    · rw [upd_ne _ _ (by simpa using e)]; simp [e]
  have old : ∀ i q, i ≠ n → setP ρ n ⟨p.B, p.O + o, p.Z⟩ i = some q → ρ i = some q := by
    intro i q e hq
    rwa [setP_ne _ _ e] at hq
  refine ⟨⟨?_, ?_, ?_, ?_, ?_, h.h.still, h.h.sfree, h.h.kept, h.h.mine⟩, ?_⟩
  · intro i q
    rw [hb] at q ⊢
    by_cases e : i = n
    · subst e
      simp only [if_true] at q ⊢
      refine ⟨_, setP_same _ _ _, arr, ty, g1, g2, ?_, by simp, ?_⟩
      · show p.O + o + _ ≤ _
        simp only [List.length_take, List.length_drop]; omega
      · intro j x hx
        simp only [List.getElem?_take, List.getElem?_drop] at hx
        split at hx
        · obtain ⟨v, f1, f2⟩ := g5 (o + j) x hx
          refine ⟨v, ?_, f2.1.mono hle, f2.2⟩
          show arr[p.O + o + j]? = _
          rw [Nat.add_assoc]; exact f1
        · cases hx
    · simp only [e, if_false] at q ⊢
      obtain ⟨pi, f1, f2⟩ := h.h.ent i q
      exact ⟨pi, hle _ _ f1, f2.mono hle⟩
  · intro i i' q q' c1 c2 c3 c4 c5 c6
    rw [hb] at c2 ⊢
    rw [hb] at c3 ⊢
    have side : ∀ j qj, j ≠ n → (st (.b j)).mem = true → ρ j = some qj → qj.B = p.B → ∃ kj, st (.b j) = .k kj ∧ kj.fam = k.fam ∧ qj.O + k.foff = p.O + kj.foff := by
      intro j qj e hj hq hB
      by_cases ejb : j = b
      · subst ejb
        rw [hp] at hq; cases hq
        exact ⟨k, hk, rfl, rfl⟩
      · obtain ⟨k1, k2, d1, d2, d3, d4⟩ := h.h.dis j b qj p ejb hj hmem hq hp hB
        rw [hk] at d2; cases d2
        exact ⟨k1, d1, d3, d4⟩
    by_cases e : i = n
    · subst e
      have e' : i' ≠ i := Ne.symm c1
      simp only [if_true, e', if_false] at c2 c3 ⊢
      rw [setP_same] at c4; cases c4
      have hq' := old i' q' e' c5
      obtain ⟨kj, d1, d2, d3⟩ := side i' q' e' c3 hq' c6.symm
      exact ⟨_, kj, rfl, d1, d2.symm, by simp only; omega⟩
    · by_cases e' : i' = n
      · subst e'
        simp only [if_true, e, if_false] at c2 c3 ⊢
        rw [setP_same] at c5; cases c5
        have hq := old i q e c4
        obtain ⟨kj, d1, d2, d3⟩ := side i q e c2 hq c6
        exact ⟨kj, _, d1, rfl, d2, by simp only; omega⟩
      · simp only [e, e', if_false] at c2 c3 ⊢
        exact h.h.dis i i' q q' c1 c2 c3 (old i q e c4) (old i' q' e' c5) c6
  · intro i ki q
    rw [hb] at q
    by_cases e : i = n
    · subst e
      simp only [if_true, X.k.injEq] at q
      subst q
      obtain ⟨⟨⟨pf, f1⟩, _⟩, _⟩ := h.h.fam b k hk
      exact ⟨⟨⟨pf, hle _ _ f1⟩, hfn⟩, _, upd_same _ _ _, by simp [Fam.has]⟩
    · simp only [e, if_false] at q
      obtain ⟨⟨⟨pf, f1⟩, f0⟩, li, f2, f3⟩ := h.h.fam i ki q
      refine ⟨⟨⟨pf, hle _ _ f1⟩, f0⟩, ?_⟩
      by_cases ef : ki.fam = k.fam
      · rw [ef] at f2 ⊢
        rw [hl] at f2; cases f2
        exact ⟨_, upd_same _ _ _, by simp [f3.1], by have := f3.2; show i < n + 1; omega⟩
      · exact ⟨li, by rw [upd_ne _ _ (by simpa using ef), upd_ne _ _ (by simp)]; exact f2, f3⟩
  · intro i q c1 c2
    rw [hb] at c1
    by_cases e : i = n
    · subst e
      rw [setP_same] at c2; cases c2
      exact h.h.base b p hmem hp
    · simp only [e, if_false] at c1
      exact h.h.base i q c1 (old i q e c2)
  · intro i q c
    by_cases e : i = n
    · subst e
      rw [setP_same] at c; cases c
      exact h.h.lt b p hp
    · exact h.h.lt i q (old i q e c)
  · refine h.f.step hle (fun t => by rw [upd_ne _ _ (by simp), upd_ne _ _ (by simp)]) (fun _ _ => rfl) ?_
    intro D hD i q c1 c2
    rw [hb] at c1
    by_cases e : i = n
    · subst e
      rw [setP_same] at c2; cases c2
      exact h.f.dx D hD b p hmem hp
    · simp only [e, if_false] at c1
      exact h.f.dx D hD i q c1 (old i q e c2)

end Go.Ex
